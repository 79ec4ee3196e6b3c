/- Printed by a program: what the functions compute, and the proofs of their contracts. -/
import Derived.Test.YtdkmclmdemngfaaChecked
import Derived.Test.YtdkmclmdemngfaaSxGY
import Derived.Test.YtdkmclmdemngfaaGTypes
namespace Go.Proofs.Ytdkmclmdemngfaa
open Go.SX Go
set_option linter.unusedVariables false
set_option linter.unusedSimpArgs false
set_option maxRecDepth 100000

def law1_number (p1 : Int) : Option GValue :=
    some (GValue.mk (2 : Int) p1 (0 : Int) ByteArray.empty [])


theorem c_law1_number (p1 : Int) (r : GValue) (h : law1_number p1 = some r) : PC Try.prog 22 [vi p1] (.ag [ci r.kind, ci r.n, ci r.scale, cst r.s, cl eValue r.items]) := by
  unfold law1_number at h
  refine PC.of (n := 5) (fn := Try.f22) (c := cd Try.f22 []) (by kernel_rfl) (by kernel_rfl) (by kernel_rfl) (Nat.le_of_ble_eq_true rfl) ?_
  refine XW.seq (x := cd Try.f22 [0]) (y := cd Try.f22 [1]) (by kernel_rfl) fun K1 hK1 => ?_
  refine XW.reg (by kernel_rfl) ?_
  refine XO.go [2] 1 [0,2] [] [(0, vi p1), (2, .one (.pt 0 0 0 0))] [.box [ci (0 : Int), ci (0 : Int), ci (0 : Int), cst ByteArray.empty, .pv (.s (.slice none 0 0))]] [] (by kernel_rfl) trivial ?_
  refine XO.done (by kernel_rfl) ?_
  refine hK1 _ _ ?_
  refine XW.seq (x := cd Try.f22 [1,0]) (y := cd Try.f22 [1,1]) (by kernel_rfl) fun K2 hK2 => ?_
  refine XW.reg (by kernel_rfl) ?_
  refine XO.go [2] 3 [2] [] [(2, .one (.pt 0 0 0 0))] [.box [ci (2 : Int), ci p1, ci (0 : Int), cst ByteArray.empty, .pv (.s (.slice none 0 0))]] [] (by kernel_rfl) trivial ?_
  refine XO.done (by kernel_rfl) ?_
  refine hK2 _ _ ?_
  refine XW.ret (by kernel_rfl) ?_
  obtain rfl := Option.some.inj h
  exact FinP.fin (.inr rfl) [] [.ag [ci (2 : Int), ci p1, ci (0 : Int), cst ByteArray.empty, .pv (.s (.slice none 0 0))]] [] (by kernel_rfl) trivial (.ag (.cons (.rfl _ rfl) (.cons (.rfl _ rfl) (.cons (.rfl _ rfl) (.cons (.rfl _ rfl) (.cons (.nl) .nil))))))

def cmp_isNaN_int (p1 : Int) : Option Bool :=
    some (p1 != p1)


theorem c_cmp_isNaN_int (p1 : Int) (r : Bool) (h : cmp_isNaN_int p1 = some r) : PC Try.prog 82 [vi p1] (vb r) := by
  unfold cmp_isNaN_int at h
  refine PC.of (n := 6) (fn := Try.f82) (c := cd Try.f82 []) (by kernel_rfl) (by kernel_rfl) (by kernel_rfl) (Nat.le_of_ble_eq_true rfl) ?_
  refine XW.seq (x := cd Try.f82 [0]) (y := cd Try.f82 [1]) (by kernel_rfl) fun K1 hK1 => ?_
  refine XW.reg (by kernel_rfl) ?_
  refine XO.go [] 1 [0] [] [(0, vi p1)] [] [] (by kernel_rfl) trivial ?_
  refine XO.done (by kernel_rfl) ?_
  refine hK1 _ _ ?_
  refine XW.seq (x := cd Try.f82 [1,0]) (y := cd Try.f82 [1,1]) (by kernel_rfl) fun K2 hK2 => ?_
  refine XW.reg (by kernel_rfl) ?_
  refine XO.go [] 4 [2] [] [(2, vb (p1 != p1))] [] [] (by kernel_rfl) trivial ?_
  refine XO.done (by kernel_rfl) ?_
  refine hK2 _ _ ?_
  refine XW.ret (by kernel_rfl) ?_
  obtain rfl := Option.some.inj h
  exact FinP.fin (.inr rfl) [] [vb (p1 != p1)] [] (by kernel_rfl) trivial (.one (.rfl _ rfl))

def cmp_Compare_int (p1 : Int) (p2 : Int) : Option Int :=
    bnd (cmp_isNaN_int p1) fun r1 =>
    bnd (cmp_isNaN_int p2) fun r2 =>
    ift r1
      (ift r2
         (some (0 : Int))
         (some (-1 : Int)))
      (ift r2
         (some (1 : Int))
         (ift (decide (p1 < p2))
            (some (-1 : Int))
            (ift (decide (p2 < p1))
               (some (1 : Int))
               (some (0 : Int)))))


theorem c_cmp_Compare_int (p1 : Int) (p2 : Int) (r : Int) (h : cmp_Compare_int p1 p2 = some r) : PC Try.prog 49 [vi p1, vi p2] (vi r) := by
  unfold cmp_Compare_int at h
  refine PC.of (n := 20) (fn := Try.f49) (c := cd Try.f49 []) (by kernel_rfl) (by kernel_rfl) (by kernel_rfl) (Nat.le_of_ble_eq_true rfl) ?_
  refine XW.seq (x := cd Try.f49 [0]) (y := cd Try.f49 [1]) (by kernel_rfl) fun K1 hK1 => ?_
  refine XW.reg (by kernel_rfl) ?_
  refine XO.go [] 1 [0,1] [] [(0, vi p1), (1, vi p2)] [] [] (by kernel_rfl) trivial ?_
  refine XO.done (by kernel_rfl) ?_
  refine hK1 _ _ ?_
  refine XW.seq (x := cd Try.f49 [1,0]) (y := cd Try.f49 [1,1]) (by kernel_rfl) fun K2 hK2 => ?_
  obtain ⟨r1, c3, h⟩ := bnd_some h
  refine XW.reg (by kernel_rfl) ?_
  refine XO.go [] 1 [0,1,7] [] [(0, vi p1), (1, vi p2), (7, vi p1)] [] [] (by kernel_rfl) trivial ?_
  refine XO.cal 82 [vi p1] (vb r1) [(8, vb r1), (0, vi p1), (1, vi p2), (7, vi p1)] (by kernel_rfl) (c_cmp_isNaN_int _ _ c3) rfl rfl (by kernel_rfl) ?_
  refine XO.go [] 1 [0,1,5] [] [(0, vi p1), (1, vi p2), (5, vb r1)] [] [] (by kernel_rfl) trivial ?_
  refine XO.done (by kernel_rfl) ?_
  refine hK2 _ _ ?_
  refine XW.seq (x := cd Try.f49 [1,1,0]) (y := cd Try.f49 [1,1,1]) (by kernel_rfl) fun K4 hK4 => ?_
  obtain ⟨r2, c5, h⟩ := bnd_some h
  refine XW.reg (by kernel_rfl) ?_
  refine XO.go [] 1 [0,1,5,9] [] [(0, vi p1), (1, vi p2), (5, vb r1), (9, vi p2)] [] [] (by kernel_rfl) trivial ?_
  refine XO.cal 82 [vi p2] (vb r2) [(10, vb r2), (0, vi p1), (1, vi p2), (5, vb r1), (9, vi p2)] (by kernel_rfl) (c_cmp_isNaN_int _ _ c5) rfl rfl (by kernel_rfl) ?_
  refine XO.go [] 1 [0,1,5,6] [] [(0, vi p1), (1, vi p2), (5, vb r1), (6, vb r2)] [] [] (by kernel_rfl) trivial ?_
  refine XO.done (by kernel_rfl) ?_
  refine hK4 _ _ ?_
  refine XW.seq (x := cd Try.f49 [1,1,1,0]) (y := cd Try.f49 [1,1,1,1]) (by kernel_rfl) fun K6 hK6 => ?_
  refine XW.seq (x := cd Try.f49 [1,1,1,0,0]) (y := cd Try.f49 [1,1,1,0,1]) (by kernel_rfl) fun K7 hK7 => ?_
  refine XW.reg (by kernel_rfl) ?_
  refine XO.go [] 1 [0,1,6,11] [] [(0, vi p1), (1, vi p2), (6, vb r2), (11, vb r1)] [] [] (by kernel_rfl) trivial ?_
  refine XO.done (by kernel_rfl) ?_
  refine hK7 _ _ ?_
  refine XW.cond (x := .tmp 11) (a := cd Try.f49 [1,1,1,0,1,0]) (b := cd Try.f49 [1,1,1,0,1,1]) (t := r1) (by kernel_rfl) (by kernel_rfl) (fun b8 => ?_) (fun b8 => ?_)
  · have h := ift_t b8 h
    refine XW.seq (x := cd Try.f49 [1,1,1,0,1,0,0]) (y := cd Try.f49 [1,1,1,0,1,0,1]) (by kernel_rfl) fun K9 hK9 => ?_
    refine XW.seq (x := cd Try.f49 [1,1,1,0,1,0,0,0]) (y := cd Try.f49 [1,1,1,0,1,0,0,1]) (by kernel_rfl) fun K10 hK10 => ?_
    refine XW.reg (by kernel_rfl) ?_
    refine XO.go [] 1 [12] [] [(12, vb r2)] [] [] (by kernel_rfl) trivial ?_
    refine XO.done (by kernel_rfl) ?_
    refine hK10 _ _ ?_
    refine XW.cond (x := .tmp 12) (a := cd Try.f49 [1,1,1,0,1,0,0,1,0]) (b := cd Try.f49 [1,1,1,0,1,0,0,1,1]) (t := r2) (by kernel_rfl) (by kernel_rfl) (fun b11 => ?_) (fun b11 => ?_)
    · have h := ift_t b11 h
      refine XW.seq (x := cd Try.f49 [1,1,1,0,1,0,0,1,0,0]) (y := cd Try.f49 [1,1,1,0,1,0,0,1,0,1]) (by kernel_rfl) fun K12 hK12 => ?_
      refine XW.reg (by kernel_rfl) ?_
      refine XO.go [] 1 [4] [] [(4, vi (0 : Int))] [] [] (by kernel_rfl) trivial ?_
      refine XO.done (by kernel_rfl) ?_
      refine hK12 _ _ ?_
      refine XW.ret (by kernel_rfl) ?_
      obtain rfl := Option.some.inj h
      exact FinP.fin (.inr rfl) [] [vi (0 : Int)] [] (by kernel_rfl) trivial (.one (.rfl _ rfl))
    · have h := ift_f b11 h
      refine XW.skip (by kernel_rfl) ?_
      refine hK9 _ _ ?_
      refine XW.seq (x := cd Try.f49 [1,1,1,0,1,0,1,0]) (y := cd Try.f49 [1,1,1,0,1,0,1,1]) (by kernel_rfl) fun K13 hK13 => ?_
      refine XW.reg (by kernel_rfl) ?_
      refine XO.go [] 1 [4] [] [(4, vi (-1 : Int))] [] [] (by kernel_rfl) trivial ?_
      refine XO.done (by kernel_rfl) ?_
      refine hK13 _ _ ?_
      refine XW.ret (by kernel_rfl) ?_
      obtain rfl := Option.some.inj h
      exact FinP.fin (.inr rfl) [] [vi (-1 : Int)] [] (by kernel_rfl) trivial (.one (.rfl _ rfl))
  · have h := ift_f b8 h
    refine XW.skip (by kernel_rfl) ?_
    refine hK6 _ _ ?_
    refine XW.seq (x := cd Try.f49 [1,1,1,1,0]) (y := cd Try.f49 [1,1,1,1,1]) (by kernel_rfl) fun K14 hK14 => ?_
    refine XW.seq (x := cd Try.f49 [1,1,1,1,0,0]) (y := cd Try.f49 [1,1,1,1,0,1]) (by kernel_rfl) fun K15 hK15 => ?_
    refine XW.reg (by kernel_rfl) ?_
    refine XO.go [] 1 [0,1,13] [] [(0, vi p1), (1, vi p2), (13, vb r2)] [] [] (by kernel_rfl) trivial ?_
    refine XO.done (by kernel_rfl) ?_
    refine hK15 _ _ ?_
    refine XW.cond (x := .tmp 13) (a := cd Try.f49 [1,1,1,1,0,1,0]) (b := cd Try.f49 [1,1,1,1,0,1,1]) (t := r2) (by kernel_rfl) (by kernel_rfl) (fun b16 => ?_) (fun b16 => ?_)
    · have h := ift_t b16 h
      refine XW.seq (x := cd Try.f49 [1,1,1,1,0,1,0,0]) (y := cd Try.f49 [1,1,1,1,0,1,0,1]) (by kernel_rfl) fun K17 hK17 => ?_
      refine XW.reg (by kernel_rfl) ?_
      refine XO.go [] 1 [4] [] [(4, vi (1 : Int))] [] [] (by kernel_rfl) trivial ?_
      refine XO.done (by kernel_rfl) ?_
      refine hK17 _ _ ?_
      refine XW.ret (by kernel_rfl) ?_
      obtain rfl := Option.some.inj h
      exact FinP.fin (.inr rfl) [] [vi (1 : Int)] [] (by kernel_rfl) trivial (.one (.rfl _ rfl))
    · have h := ift_f b16 h
      refine XW.skip (by kernel_rfl) ?_
      refine hK14 _ _ ?_
      refine XW.seq (x := cd Try.f49 [1,1,1,1,1,0]) (y := cd Try.f49 [1,1,1,1,1,1]) (by kernel_rfl) fun K18 hK18 => ?_
      refine XW.seq (x := cd Try.f49 [1,1,1,1,1,0,0]) (y := cd Try.f49 [1,1,1,1,1,0,1]) (by kernel_rfl) fun K19 hK19 => ?_
      refine XW.reg (by kernel_rfl) ?_
      refine XO.go [] 3 [0,1,16] [] [(0, vi p1), (1, vi p2), (16, vb (decide (p1 < p2)))] [] [] (by kernel_rfl) trivial ?_
      refine XO.done (by kernel_rfl) ?_
      refine hK19 _ _ ?_
      refine XW.cond (x := .tmp 16) (a := cd Try.f49 [1,1,1,1,1,0,1,0]) (b := cd Try.f49 [1,1,1,1,1,0,1,1]) (t := (decide (p1 < p2))) (by kernel_rfl) (by kernel_rfl) (fun b20 => ?_) (fun b20 => ?_)
      · have h := ift_t b20 h
        refine XW.seq (x := cd Try.f49 [1,1,1,1,1,0,1,0,0]) (y := cd Try.f49 [1,1,1,1,1,0,1,0,1]) (by kernel_rfl) fun K21 hK21 => ?_
        refine XW.reg (by kernel_rfl) ?_
        refine XO.go [] 1 [4] [] [(4, vi (-1 : Int))] [] [] (by kernel_rfl) trivial ?_
        refine XO.done (by kernel_rfl) ?_
        refine hK21 _ _ ?_
        refine XW.ret (by kernel_rfl) ?_
        obtain rfl := Option.some.inj h
        exact FinP.fin (.inr rfl) [] [vi (-1 : Int)] [] (by kernel_rfl) trivial (.one (.rfl _ rfl))
      · have h := ift_f b20 h
        refine XW.skip (by kernel_rfl) ?_
        refine hK18 _ _ ?_
        refine XW.seq (x := cd Try.f49 [1,1,1,1,1,1,0]) (y := cd Try.f49 [1,1,1,1,1,1,1]) (by kernel_rfl) fun K22 hK22 => ?_
        refine XW.seq (x := cd Try.f49 [1,1,1,1,1,1,0,0]) (y := cd Try.f49 [1,1,1,1,1,1,0,1]) (by kernel_rfl) fun K23 hK23 => ?_
        refine XW.reg (by kernel_rfl) ?_
        refine XO.go [] 3 [19] [] [(19, vb (decide (p2 < p1)))] [] [] (by kernel_rfl) trivial ?_
        refine XO.done (by kernel_rfl) ?_
        refine hK23 _ _ ?_
        refine XW.cond (x := .tmp 19) (a := cd Try.f49 [1,1,1,1,1,1,0,1,0]) (b := cd Try.f49 [1,1,1,1,1,1,0,1,1]) (t := (decide (p2 < p1))) (by kernel_rfl) (by kernel_rfl) (fun b24 => ?_) (fun b24 => ?_)
        · have h := ift_t b24 h
          refine XW.seq (x := cd Try.f49 [1,1,1,1,1,1,0,1,0,0]) (y := cd Try.f49 [1,1,1,1,1,1,0,1,0,1]) (by kernel_rfl) fun K25 hK25 => ?_
          refine XW.reg (by kernel_rfl) ?_
          refine XO.go [] 1 [4] [] [(4, vi (1 : Int))] [] [] (by kernel_rfl) trivial ?_
          refine XO.done (by kernel_rfl) ?_
          refine hK25 _ _ ?_
          refine XW.ret (by kernel_rfl) ?_
          obtain rfl := Option.some.inj h
          exact FinP.fin (.inr rfl) [] [vi (1 : Int)] [] (by kernel_rfl) trivial (.one (.rfl _ rfl))
        · have h := ift_f b24 h
          refine XW.skip (by kernel_rfl) ?_
          refine hK22 _ _ ?_
          refine XW.seq (x := cd Try.f49 [1,1,1,1,1,1,1,0]) (y := cd Try.f49 [1,1,1,1,1,1,1,1]) (by kernel_rfl) fun K26 hK26 => ?_
          refine XW.reg (by kernel_rfl) ?_
          refine XO.go [] 1 [4] [] [(4, vi (0 : Int))] [] [] (by kernel_rfl) trivial ?_
          refine XO.done (by kernel_rfl) ?_
          refine hK26 _ _ ?_
          refine XW.ret (by kernel_rfl) ?_
          obtain rfl := Option.some.inj h
          exact FinP.fin (.inr rfl) [] [vi (0 : Int)] [] (by kernel_rfl) trivial (.one (.rfl _ rfl))

def value_within_j1 (x1 : Bool) : Option Bool :=
    some x1

def value_within (p1 : Int) (p2 : Int) (p3 : Int) : Option Bool :=
    ift (decide (p2 ≤ p1))
      (value_within_j1 (decide (p1 ≤ p3)))
      (value_within_j1 false)


theorem c_value_within (p1 : Int) (p2 : Int) (p3 : Int) (r : Bool) (h : value_within p1 p2 p3 = some r) : PC Try.prog 42 [vi p1, vi p2, vi p3] (vb r) := by
  unfold value_within at h
  refine PC.of (n := 15) (fn := Try.f42) (c := cd Try.f42 []) (by kernel_rfl) (by kernel_rfl) (by kernel_rfl) (Nat.le_of_ble_eq_true rfl) ?_
  refine XW.seq (x := cd Try.f42 [0]) (y := cd Try.f42 [1]) (by kernel_rfl) fun K1 hK1 => ?_
  refine XW.reg (by kernel_rfl) ?_
  refine XO.go [] 1 [0,1,2] [] [(0, vi p1), (1, vi p2), (2, vi p3)] [] [] (by kernel_rfl) trivial ?_
  refine XO.done (by kernel_rfl) ?_
  refine hK1 _ _ ?_
  refine XW.seq (x := cd Try.f42 [1,0]) (y := cd Try.f42 [1,1]) (by kernel_rfl) fun K2 hK2 => ?_
  have hJ1 : ∀ (x1 : Bool), value_within_j1 x1 = some r → ∀ fr1 st1, Sub 15 0 [] fr1 st1 [(6, vb x1)] [] → K2 fr1 st1 := by
    intro x1 h fr1 st1 hS
    unfold value_within_j1 at h
    refine hK2 _ _ (XW.sub hS ?_)
    refine XW.ret (by kernel_rfl) ?_
    obtain rfl := Option.some.inj h
    exact FinP.fin (.inr rfl) [] [vb x1] [] (by kernel_rfl) trivial (.one (.rfl _ rfl))
  rcases Bool.eq_false_or_eq_true (decide (p2 ≤ p1)) with b3 | b3
  · have h := ift_t b3 h
    refine XW.reg (by kernel_rfl) ?_
    refine XO.go [] 4 [0,2,10] [] [(0, vi p1), (2, vi p3), (10, vb (decide (p2 ≤ p1)))] [] [] (by kernel_rfl) trivial ?_
    refine XO.setb 10 true (B := (decide (p2 ≤ p1))) rfl b3 ?_
    refine XO.go [] 5 [6] [] [(6, vb (decide (p1 ≤ p3)))] [] [] (by kernel_rfl) trivial ?_
    refine XO.done (by kernel_rfl) ?_
    exact hJ1 (decide (p1 ≤ p3)) h _ _ (Sub.pick [6] (by kernel_rfl))
  · have h := ift_f b3 h
    refine XW.reg (by kernel_rfl) ?_
    refine XO.go [] 4 [0,2,10] [] [(0, vi p1), (2, vi p3), (10, vb (decide (p2 ≤ p1)))] [] [] (by kernel_rfl) trivial ?_
    refine XO.setb 10 false (B := (decide (p2 ≤ p1))) rfl b3 ?_
    refine XO.go [] 5 [6] [] [(6, vb false)] [] [] (by kernel_rfl) trivial ?_
    refine XO.done (by kernel_rfl) ?_
    exact hJ1 false h _ _ (Sub.pick [6] (by kernel_rfl))

def value_whole (p1 : Int) : Option GWide :=
    ift (decide (p1 < (0 : Int)))
      (some (GWide.mk true ((IntKind.u64.wrap (0 - (IntKind.u64.wrap p1))), (0 : Int), (0 : Int), (0 : Int))))
      (some (GWide.mk false ((IntKind.u64.wrap p1), (0 : Int), (0 : Int), (0 : Int))))


theorem c_value_whole (p1 : Int) (r : GWide) (h : value_whole p1 = some r) : PC Try.prog 83 [vi p1] (.ag [cb r.neg, ck .u64 r.size.1, ck .u64 r.size.2.1, ck .u64 r.size.2.2.1, ck .u64 r.size.2.2.2]) := by
  unfold value_whole at h
  refine PC.of (n := 14) (fn := Try.f83) (c := cd Try.f83 []) (by kernel_rfl) (by kernel_rfl) (by kernel_rfl) (Nat.le_of_ble_eq_true rfl) ?_
  refine XW.seq (x := cd Try.f83 [0]) (y := cd Try.f83 [1]) (by kernel_rfl) fun K1 hK1 => ?_
  refine XW.reg (by kernel_rfl) ?_
  refine XO.go [2] 1 [0,2] [] [(0, vi p1), (2, .one (.pt 0 0 0 0))] [.box [cb false, ck .u64 (0 : Int), ck .u64 (0 : Int), ck .u64 (0 : Int), ck .u64 (0 : Int)]] [] (by kernel_rfl) trivial ?_
  refine XO.done (by kernel_rfl) ?_
  refine hK1 _ _ ?_
  refine XW.seq (x := cd Try.f83 [1,0]) (y := cd Try.f83 [1,1]) (by kernel_rfl) fun K2 hK2 => ?_
  refine XW.seq (x := cd Try.f83 [1,0,0]) (y := cd Try.f83 [1,0,1]) (by kernel_rfl) fun K3 hK3 => ?_
  refine XW.reg (by kernel_rfl) ?_
  refine XO.go [2] 2 [0,2,4] [] [(0, vi p1), (2, .one (.pt 0 0 0 0)), (4, vb (decide (p1 < (0 : Int))))] [.box [cb false, ck .u64 (0 : Int), ck .u64 (0 : Int), ck .u64 (0 : Int), ck .u64 (0 : Int)]] [] (by kernel_rfl) trivial ?_
  refine XO.done (by kernel_rfl) ?_
  refine hK3 _ _ ?_
  refine XW.cond (x := .tmp 4) (a := cd Try.f83 [1,0,1,0]) (b := cd Try.f83 [1,0,1,1]) (t := (decide (p1 < (0 : Int)))) (by kernel_rfl) (by kernel_rfl) (fun b4 => ?_) (fun b4 => ?_)
  · have h := ift_t b4 h
    refine XW.seq (x := cd Try.f83 [1,0,1,0,0]) (y := cd Try.f83 [1,0,1,0,1]) (by kernel_rfl) fun K5 hK5 => ?_
    refine XW.reg (by kernel_rfl) ?_
    refine XO.go [2] 6 [2] [] [(2, .one (.pt 0 0 0 0))] [.box [cb true, ck .u64 (IntKind.u64.wrap (0 - (IntKind.u64.wrap p1))), ck .u64 (0 : Int), ck .u64 (0 : Int), ck .u64 (0 : Int)]] [] (by kernel_rfl) trivial ?_
    refine XO.done (by kernel_rfl) ?_
    refine hK5 _ _ ?_
    refine XW.ret (by kernel_rfl) ?_
    obtain rfl := Option.some.inj h
    exact FinP.fin (.inr rfl) [] [.ag [cb true, ck .u64 (IntKind.u64.wrap (0 - (IntKind.u64.wrap p1))), ck .u64 (0 : Int), ck .u64 (0 : Int), ck .u64 (0 : Int)]] [] (by kernel_rfl) trivial (.ag (.cons (.rfl _ rfl) (.cons (.rfl _ rfl) (.cons (.rfl _ rfl) (.cons (.rfl _ rfl) (.cons (.rfl _ rfl) .nil))))))
  · have h := ift_f b4 h
    refine XW.skip (by kernel_rfl) ?_
    refine hK2 _ _ ?_
    refine XW.seq (x := cd Try.f83 [1,1,0]) (y := cd Try.f83 [1,1,1]) (by kernel_rfl) fun K6 hK6 => ?_
    refine XW.reg (by kernel_rfl) ?_
    refine XO.go [2] 5 [2] [] [(2, .one (.pt 0 0 0 0))] [.box [cb false, ck .u64 (IntKind.u64.wrap p1), ck .u64 (0 : Int), ck .u64 (0 : Int), ck .u64 (0 : Int)]] [] (by kernel_rfl) trivial ?_
    refine XO.done (by kernel_rfl) ?_
    refine hK6 _ _ ?_
    refine XW.ret (by kernel_rfl) ?_
    obtain rfl := Option.some.inj h
    exact FinP.fin (.inr rfl) [] [.ag [cb false, ck .u64 (IntKind.u64.wrap p1), ck .u64 (0 : Int), ck .u64 (0 : Int), ck .u64 (0 : Int)]] [] (by kernel_rfl) trivial (.ag (.cons (.rfl _ rfl) (.cons (.rfl _ rfl) (.cons (.rfl _ rfl) (.cons (.rfl _ rfl) (.cons (.rfl _ rfl) .nil))))))

def math_bits_Mul64 (p1 : Int) (p2 : Int) : Option (Int × Int) :=
    bnd (some (IntKind.u64.wrap (BitVec.ofInt (IntKind.u64).bits p1 &&& BitVec.ofInt (IntKind.u64).bits (4294967295 : Int)).toNat)) fun y1 =>
    bnd (some (IntKind.u64.wrap (BitVec.ofInt (IntKind.u64).bits p2 &&& BitVec.ofInt (IntKind.u64).bits (4294967295 : Int)).toNat)) fun y2 =>
    bnd (some (IntKind.u64.wrap ((p1.fdiv (2 ^ (min (32 : Int).toNat (IntKind.u64).bits))) * y2))) fun y3 =>
    bnd (some ((IntKind.u64.wrap (y1 * y2)).fdiv (2 ^ (min (32 : Int).toNat (IntKind.u64).bits)))) fun y4 =>
    bnd (some (IntKind.u64.wrap (BitVec.ofInt (IntKind.u64).bits (IntKind.u64.wrap (y3 + y4)) &&& BitVec.ofInt (IntKind.u64).bits (4294967295 : Int)).toNat)) fun y5 =>
    bnd (some ((IntKind.u64.wrap (y3 + y4)).fdiv (2 ^ (min (32 : Int).toNat (IntKind.u64).bits)))) fun y6 =>
    bnd (some (IntKind.u64.wrap (y1 * (p2.fdiv (2 ^ (min (32 : Int).toNat (IntKind.u64).bits)))))) fun y7 =>
    bnd (some (IntKind.u64.wrap ((p1.fdiv (2 ^ (min (32 : Int).toNat (IntKind.u64).bits))) * (p2.fdiv (2 ^ (min (32 : Int).toNat (IntKind.u64).bits)))))) fun y8 =>
    bnd (some ((IntKind.u64.wrap (y5 + y7)).fdiv (2 ^ (min (32 : Int).toNat (IntKind.u64).bits)))) fun y9 =>
    some ((IntKind.u64.wrap ((IntKind.u64.wrap (y8 + y6)) + y9)), (IntKind.u64.wrap (p1 * p2)))


theorem c_math_bits_Mul64 (p1 : Int) (p2 : Int) (r : (Int × Int)) (h : math_bits_Mul64 p1 p2 = some r) : PC Try.prog 111 [vk .u64 p1, vk .u64 p2] (.tp [vk .u64 r.1, vk .u64 r.2]) := by
  unfold math_bits_Mul64 at h
  refine PC.of (n := 51) (fn := Try.f111) (c := cd Try.f111 []) (by kernel_rfl) (by kernel_rfl) (by kernel_rfl) (Nat.le_of_ble_eq_true rfl) ?_
  refine XW.seq (x := cd Try.f111 [0]) (y := cd Try.f111 [1]) (by kernel_rfl) fun K1 hK1 => ?_
  refine XW.reg (by kernel_rfl) ?_
  refine XO.go [] 2 [0,1] [] [(0, vk .u64 p1), (1, vk .u64 p2)] [] [] (by kernel_rfl) trivial ?_
  refine XO.done (by kernel_rfl) ?_
  refine hK1 _ _ ?_
  refine XW.seq (x := cd Try.f111 [1,0]) (y := cd Try.f111 [1,1]) (by kernel_rfl) fun K2 hK2 => ?_
  obtain ⟨y1, y3, h⟩ := bnd_some h
  refine XW.reg (by kernel_rfl) ?_
  refine XO.go [] 2 [0,1,15] [] [(0, vk .u64 p1), (1, vk .u64 p2), (15, vk .u64 (IntKind.u64.wrap (BitVec.ofInt (IntKind.u64).bits p1 &&& BitVec.ofInt (IntKind.u64).bits (4294967295 : Int)).toNat))] [] [] (by kernel_rfl) trivial ?_
  rw [show (IntKind.u64.wrap (BitVec.ofInt (IntKind.u64).bits p1 &&& BitVec.ofInt (IntKind.u64).bits (4294967295 : Int)).toNat) = y1 from Option.some.inj y3]
  refine XO.go [] 1 [0,1,6] [] [(0, vk .u64 p1), (1, vk .u64 p2), (6, vk .u64 y1)] [] [] (by kernel_rfl) trivial ?_
  refine XO.done (by kernel_rfl) ?_
  refine hK2 _ _ ?_
  refine XW.seq (x := cd Try.f111 [1,1,0]) (y := cd Try.f111 [1,1,1]) (by kernel_rfl) fun K4 hK4 => ?_
  refine XW.reg (by kernel_rfl) ?_
  refine XO.go [] 3 [0,1,6,7] [] [(0, vk .u64 p1), (1, vk .u64 p2), (6, vk .u64 y1), (7, vk .u64 (p1.fdiv (2 ^ (min (32 : Int).toNat (IntKind.u64).bits))))] [] [0 ≤ (32 : Int)] (by kernel_rfl) (⟨by decide, trivial⟩) ?_
  refine XO.done (by kernel_rfl) ?_
  refine hK4 _ _ ?_
  refine XW.seq (x := cd Try.f111 [1,1,1,0]) (y := cd Try.f111 [1,1,1,1]) (by kernel_rfl) fun K5 hK5 => ?_
  obtain ⟨y2, y6, h⟩ := bnd_some h
  refine XW.reg (by kernel_rfl) ?_
  refine XO.go [] 2 [0,1,6,7,19] [] [(0, vk .u64 p1), (1, vk .u64 p2), (6, vk .u64 y1), (7, vk .u64 (p1.fdiv (2 ^ (min (32 : Int).toNat (IntKind.u64).bits)))), (19, vk .u64 (IntKind.u64.wrap (BitVec.ofInt (IntKind.u64).bits p2 &&& BitVec.ofInt (IntKind.u64).bits (4294967295 : Int)).toNat))] [] [] (by kernel_rfl) trivial ?_
  rw [show (IntKind.u64.wrap (BitVec.ofInt (IntKind.u64).bits p2 &&& BitVec.ofInt (IntKind.u64).bits (4294967295 : Int)).toNat) = y2 from Option.some.inj y6]
  refine XO.go [] 1 [0,1,6,7,8] [] [(0, vk .u64 p1), (1, vk .u64 p2), (6, vk .u64 y1), (7, vk .u64 (p1.fdiv (2 ^ (min (32 : Int).toNat (IntKind.u64).bits)))), (8, vk .u64 y2)] [] [] (by kernel_rfl) trivial ?_
  refine XO.done (by kernel_rfl) ?_
  refine hK5 _ _ ?_
  refine XW.seq (x := cd Try.f111 [1,1,1,1,0]) (y := cd Try.f111 [1,1,1,1,1]) (by kernel_rfl) fun K7 hK7 => ?_
  refine XW.reg (by kernel_rfl) ?_
  refine XO.go [] 3 [0,1,6,7,8,9] [] [(0, vk .u64 p1), (1, vk .u64 p2), (6, vk .u64 y1), (7, vk .u64 (p1.fdiv (2 ^ (min (32 : Int).toNat (IntKind.u64).bits)))), (8, vk .u64 y2), (9, vk .u64 (p2.fdiv (2 ^ (min (32 : Int).toNat (IntKind.u64).bits))))] [] [0 ≤ (32 : Int)] (by kernel_rfl) (⟨by decide, trivial⟩) ?_
  refine XO.done (by kernel_rfl) ?_
  refine hK7 _ _ ?_
  refine XW.seq (x := cd Try.f111 [1,1,1,1,1,0]) (y := cd Try.f111 [1,1,1,1,1,1]) (by kernel_rfl) fun K8 hK8 => ?_
  refine XW.reg (by kernel_rfl) ?_
  refine XO.go [] 4 [0,1,6,7,8,9,10] [] [(0, vk .u64 p1), (1, vk .u64 p2), (6, vk .u64 y1), (7, vk .u64 (p1.fdiv (2 ^ (min (32 : Int).toNat (IntKind.u64).bits)))), (8, vk .u64 y2), (9, vk .u64 (p2.fdiv (2 ^ (min (32 : Int).toNat (IntKind.u64).bits)))), (10, vk .u64 (IntKind.u64.wrap (y1 * y2)))] [] [] (by kernel_rfl) trivial ?_
  refine XO.done (by kernel_rfl) ?_
  refine hK8 _ _ ?_
  refine XW.seq (x := cd Try.f111 [1,1,1,1,1,1,0]) (y := cd Try.f111 [1,1,1,1,1,1,1]) (by kernel_rfl) fun K9 hK9 => ?_
  obtain ⟨y3, y10, h⟩ := bnd_some h
  obtain ⟨y4, y11, h⟩ := bnd_some h
  refine XW.reg (by kernel_rfl) ?_
  refine XO.go [] 3 [0,1,6,7,9,10,27] [] [(0, vk .u64 p1), (1, vk .u64 p2), (6, vk .u64 y1), (7, vk .u64 (p1.fdiv (2 ^ (min (32 : Int).toNat (IntKind.u64).bits)))), (9, vk .u64 (p2.fdiv (2 ^ (min (32 : Int).toNat (IntKind.u64).bits)))), (10, vk .u64 (IntKind.u64.wrap (y1 * y2))), (27, vk .u64 (IntKind.u64.wrap ((p1.fdiv (2 ^ (min (32 : Int).toNat (IntKind.u64).bits))) * y2)))] [] [] (by kernel_rfl) trivial ?_
  rw [show (IntKind.u64.wrap ((p1.fdiv (2 ^ (min (32 : Int).toNat (IntKind.u64).bits))) * y2)) = y3 from Option.some.inj y10]
  refine XO.go [] 2 [0,1,6,7,9,27,29] [] [(0, vk .u64 p1), (1, vk .u64 p2), (6, vk .u64 y1), (7, vk .u64 (p1.fdiv (2 ^ (min (32 : Int).toNat (IntKind.u64).bits)))), (9, vk .u64 (p2.fdiv (2 ^ (min (32 : Int).toNat (IntKind.u64).bits)))), (27, vk .u64 y3), (29, vk .u64 ((IntKind.u64.wrap (y1 * y2)).fdiv (2 ^ (min (32 : Int).toNat (IntKind.u64).bits))))] [] [0 ≤ (32 : Int)] (by kernel_rfl) (⟨by decide, trivial⟩) ?_
  rw [show ((IntKind.u64.wrap (y1 * y2)).fdiv (2 ^ (min (32 : Int).toNat (IntKind.u64).bits))) = y4 from Option.some.inj y11]
  refine XO.go [] 2 [0,1,6,7,9,11] [] [(0, vk .u64 p1), (1, vk .u64 p2), (6, vk .u64 y1), (7, vk .u64 (p1.fdiv (2 ^ (min (32 : Int).toNat (IntKind.u64).bits)))), (9, vk .u64 (p2.fdiv (2 ^ (min (32 : Int).toNat (IntKind.u64).bits)))), (11, vk .u64 (IntKind.u64.wrap (y3 + y4)))] [] [] (by kernel_rfl) trivial ?_
  refine XO.done (by kernel_rfl) ?_
  refine hK9 _ _ ?_
  refine XW.seq (x := cd Try.f111 [1,1,1,1,1,1,1,0]) (y := cd Try.f111 [1,1,1,1,1,1,1,1]) (by kernel_rfl) fun K12 hK12 => ?_
  obtain ⟨y5, y13, h⟩ := bnd_some h
  refine XW.reg (by kernel_rfl) ?_
  refine XO.go [] 2 [0,1,6,7,9,11,32] [] [(0, vk .u64 p1), (1, vk .u64 p2), (6, vk .u64 y1), (7, vk .u64 (p1.fdiv (2 ^ (min (32 : Int).toNat (IntKind.u64).bits)))), (9, vk .u64 (p2.fdiv (2 ^ (min (32 : Int).toNat (IntKind.u64).bits)))), (11, vk .u64 (IntKind.u64.wrap (y3 + y4))), (32, vk .u64 (IntKind.u64.wrap (BitVec.ofInt (IntKind.u64).bits (IntKind.u64.wrap (y3 + y4)) &&& BitVec.ofInt (IntKind.u64).bits (4294967295 : Int)).toNat))] [] [] (by kernel_rfl) trivial ?_
  rw [show (IntKind.u64.wrap (BitVec.ofInt (IntKind.u64).bits (IntKind.u64.wrap (y3 + y4)) &&& BitVec.ofInt (IntKind.u64).bits (4294967295 : Int)).toNat) = y5 from Option.some.inj y13]
  refine XO.go [] 1 [0,1,6,7,9,11,12] [] [(0, vk .u64 p1), (1, vk .u64 p2), (6, vk .u64 y1), (7, vk .u64 (p1.fdiv (2 ^ (min (32 : Int).toNat (IntKind.u64).bits)))), (9, vk .u64 (p2.fdiv (2 ^ (min (32 : Int).toNat (IntKind.u64).bits)))), (11, vk .u64 (IntKind.u64.wrap (y3 + y4))), (12, vk .u64 y5)] [] [] (by kernel_rfl) trivial ?_
  refine XO.done (by kernel_rfl) ?_
  refine hK12 _ _ ?_
  refine XW.seq (x := cd Try.f111 [1,1,1,1,1,1,1,1,0]) (y := cd Try.f111 [1,1,1,1,1,1,1,1,1]) (by kernel_rfl) fun K14 hK14 => ?_
  obtain ⟨y6, y15, h⟩ := bnd_some h
  refine XW.reg (by kernel_rfl) ?_
  refine XO.go [] 2 [0,1,6,7,9,12,34] [] [(0, vk .u64 p1), (1, vk .u64 p2), (6, vk .u64 y1), (7, vk .u64 (p1.fdiv (2 ^ (min (32 : Int).toNat (IntKind.u64).bits)))), (9, vk .u64 (p2.fdiv (2 ^ (min (32 : Int).toNat (IntKind.u64).bits)))), (12, vk .u64 y5), (34, vk .u64 ((IntKind.u64.wrap (y3 + y4)).fdiv (2 ^ (min (32 : Int).toNat (IntKind.u64).bits))))] [] [0 ≤ (32 : Int)] (by kernel_rfl) (⟨by decide, trivial⟩) ?_
  rw [show ((IntKind.u64.wrap (y3 + y4)).fdiv (2 ^ (min (32 : Int).toNat (IntKind.u64).bits))) = y6 from Option.some.inj y15]
  refine XO.go [] 1 [0,1,6,7,9,12,13] [] [(0, vk .u64 p1), (1, vk .u64 p2), (6, vk .u64 y1), (7, vk .u64 (p1.fdiv (2 ^ (min (32 : Int).toNat (IntKind.u64).bits)))), (9, vk .u64 (p2.fdiv (2 ^ (min (32 : Int).toNat (IntKind.u64).bits)))), (12, vk .u64 y5), (13, vk .u64 y6)] [] [] (by kernel_rfl) trivial ?_
  refine XO.done (by kernel_rfl) ?_
  refine hK14 _ _ ?_
  refine XW.seq (x := cd Try.f111 [1,1,1,1,1,1,1,1,1,0]) (y := cd Try.f111 [1,1,1,1,1,1,1,1,1,1]) (by kernel_rfl) fun K16 hK16 => ?_
  obtain ⟨y7, y17, h⟩ := bnd_some h
  refine XW.reg (by kernel_rfl) ?_
  refine XO.go [] 4 [0,1,7,9,13,35,38] [] [(0, vk .u64 p1), (1, vk .u64 p2), (7, vk .u64 (p1.fdiv (2 ^ (min (32 : Int).toNat (IntKind.u64).bits)))), (9, vk .u64 (p2.fdiv (2 ^ (min (32 : Int).toNat (IntKind.u64).bits)))), (13, vk .u64 y6), (35, vk .u64 y5), (38, vk .u64 (IntKind.u64.wrap (y1 * (p2.fdiv (2 ^ (min (32 : Int).toNat (IntKind.u64).bits))))))] [] [] (by kernel_rfl) trivial ?_
  rw [show (IntKind.u64.wrap (y1 * (p2.fdiv (2 ^ (min (32 : Int).toNat (IntKind.u64).bits))))) = y7 from Option.some.inj y17]
  refine XO.go [] 2 [0,1,7,9,12,13] [] [(0, vk .u64 p1), (1, vk .u64 p2), (7, vk .u64 (p1.fdiv (2 ^ (min (32 : Int).toNat (IntKind.u64).bits)))), (9, vk .u64 (p2.fdiv (2 ^ (min (32 : Int).toNat (IntKind.u64).bits)))), (12, vk .u64 (IntKind.u64.wrap (y5 + y7))), (13, vk .u64 y6)] [] [] (by kernel_rfl) trivial ?_
  refine XO.done (by kernel_rfl) ?_
  refine hK16 _ _ ?_
  refine XW.seq (x := cd Try.f111 [1,1,1,1,1,1,1,1,1,1,0]) (y := cd Try.f111 [1,1,1,1,1,1,1,1,1,1,1]) (by kernel_rfl) fun K18 hK18 => ?_
  obtain ⟨y8, y19, h⟩ := bnd_some h
  obtain ⟨y9, y20, h⟩ := bnd_some h
  refine XW.reg (by kernel_rfl) ?_
  refine XO.go [] 3 [0,1,12,13,42] [] [(0, vk .u64 p1), (1, vk .u64 p2), (12, vk .u64 (IntKind.u64.wrap (y5 + y7))), (13, vk .u64 y6), (42, vk .u64 (IntKind.u64.wrap ((p1.fdiv (2 ^ (min (32 : Int).toNat (IntKind.u64).bits))) * (p2.fdiv (2 ^ (min (32 : Int).toNat (IntKind.u64).bits))))))] [] [] (by kernel_rfl) trivial ?_
  rw [show (IntKind.u64.wrap ((p1.fdiv (2 ^ (min (32 : Int).toNat (IntKind.u64).bits))) * (p2.fdiv (2 ^ (min (32 : Int).toNat (IntKind.u64).bits))))) = y8 from Option.some.inj y19]
  refine XO.go [] 4 [0,1,44,46] [] [(0, vk .u64 p1), (1, vk .u64 p2), (44, vk .u64 (IntKind.u64.wrap (y8 + y6))), (46, vk .u64 ((IntKind.u64.wrap (y5 + y7)).fdiv (2 ^ (min (32 : Int).toNat (IntKind.u64).bits))))] [] [0 ≤ (32 : Int)] (by kernel_rfl) (⟨by decide, trivial⟩) ?_
  rw [show ((IntKind.u64.wrap (y5 + y7)).fdiv (2 ^ (min (32 : Int).toNat (IntKind.u64).bits))) = y9 from Option.some.inj y20]
  refine XO.go [] 2 [0,1,4] [] [(0, vk .u64 p1), (1, vk .u64 p2), (4, vk .u64 (IntKind.u64.wrap ((IntKind.u64.wrap (y8 + y6)) + y9)))] [] [] (by kernel_rfl) trivial ?_
  refine XO.done (by kernel_rfl) ?_
  refine hK18 _ _ ?_
  refine XW.seq (x := cd Try.f111 [1,1,1,1,1,1,1,1,1,1,1,0]) (y := cd Try.f111 [1,1,1,1,1,1,1,1,1,1,1,1]) (by kernel_rfl) fun K21 hK21 => ?_
  refine XW.reg (by kernel_rfl) ?_
  refine XO.go [] 4 [4,5] [] [(4, vk .u64 (IntKind.u64.wrap ((IntKind.u64.wrap (y8 + y6)) + y9))), (5, vk .u64 (IntKind.u64.wrap (p1 * p2)))] [] [] (by kernel_rfl) trivial ?_
  refine XO.done (by kernel_rfl) ?_
  refine hK21 _ _ ?_
  refine XW.ret (by kernel_rfl) ?_
  obtain rfl := Option.some.inj h
  exact FinP.fin (.inr rfl) [] [vk .u64 (IntKind.u64.wrap ((IntKind.u64.wrap (y8 + y6)) + y9)), vk .u64 (IntKind.u64.wrap (p1 * p2))] [] (by kernel_rfl) trivial (.tpc (.one (.rfl _ rfl)) (.tpc (.one (.rfl _ rfl)) (.tp0)))

def value_wide_times (p1 : GWide) (p2 : Int) : Option GWide :=
    bnd (math_bits_Mul64 p1.size.1 p2) fun r1 =>
    grd (0 ≤ r1.2 ∧ 0 ≤ (0 : Int) ∧ 0 ≤ (0 : Int) ∧ (0 : Int) ≤ 1) <|
    bnd (some (IntKind.u64.wrap (r1.1 + ((r1.2 + (0 : Int) + (0 : Int)) / 18446744073709551616)))) fun y1 =>
    bnd (math_bits_Mul64 p1.size.2.1 p2) fun r2 =>
    grd (0 ≤ r2.2 ∧ 0 ≤ y1 ∧ 0 ≤ (0 : Int) ∧ (0 : Int) ≤ 1) <|
    bnd (some (IntKind.u64.wrap (r2.1 + ((r2.2 + y1 + (0 : Int)) / 18446744073709551616)))) fun y2 =>
    bnd (math_bits_Mul64 p1.size.2.2.1 p2) fun r3 =>
    grd (0 ≤ r3.2 ∧ 0 ≤ y2 ∧ 0 ≤ (0 : Int) ∧ (0 : Int) ≤ 1) <|
    bnd (some (IntKind.u64.wrap (r3.1 + ((r3.2 + y2 + (0 : Int)) / 18446744073709551616)))) fun y3 =>
    bnd (math_bits_Mul64 p1.size.2.2.2 p2) fun r4 =>
    grd (0 ≤ r4.2 ∧ 0 ≤ y3 ∧ 0 ≤ (0 : Int) ∧ (0 : Int) ≤ 1) <|
    bnd (some (IntKind.u64.wrap (r4.1 + ((r4.2 + y3 + (0 : Int)) / 18446744073709551616)))) fun y4 =>
    some (GWide.mk p1.neg (((r1.2 + (0 : Int) + (0 : Int)) % 18446744073709551616), ((r2.2 + y1 + (0 : Int)) % 18446744073709551616), ((r3.2 + y2 + (0 : Int)) % 18446744073709551616), ((r4.2 + y3 + (0 : Int)) % 18446744073709551616)))


theorem c_value_wide_times (p1 : GWide) (p2 : Int) (r : GWide) (h : value_wide_times p1 p2 = some r) : PC Try.prog 99 [.ag [cb p1.neg, ck .u64 p1.size.1, ck .u64 p1.size.2.1, ck .u64 p1.size.2.2.1, ck .u64 p1.size.2.2.2], vk .u64 p2] (.ag [cb r.neg, ck .u64 r.size.1, ck .u64 r.size.2.1, ck .u64 r.size.2.2.1, ck .u64 r.size.2.2.2]) := by
  unfold value_wide_times at h
  refine PC.of (n := 37) (fn := Try.f99) (c := cd Try.f99 []) (by kernel_rfl) (by kernel_rfl) (by kernel_rfl) (Nat.le_of_ble_eq_true rfl) ?_
  refine XW.seq (x := cd Try.f99 [0]) (y := cd Try.f99 [1]) (by kernel_rfl) fun K1 hK1 => ?_
  refine XW.reg (by kernel_rfl) ?_
  refine XO.go [2, 4] 2 [1,2,4] [] [(1, vk .u64 p2), (2, .one (.pt 0 0 0 0)), (4, .one (.pt 1 0 0 0))] [.box [cb p1.neg, ck .u64 p1.size.1, ck .u64 p1.size.2.1, ck .u64 p1.size.2.2.1, ck .u64 p1.size.2.2.2], .box [cb false, ck .u64 (0 : Int), ck .u64 (0 : Int), ck .u64 (0 : Int), ck .u64 (0 : Int)]] [] (by kernel_rfl) trivial ?_
  refine XO.done (by kernel_rfl) ?_
  refine hK1 _ _ ?_
  refine XW.seq (x := cd Try.f99 [1,0]) (y := cd Try.f99 [1,1]) (by kernel_rfl) fun K2 hK2 => ?_
  refine XW.reg (by kernel_rfl) ?_
  refine XO.go [2, 4] 1 [1,2,4,5] [] [(1, vk .u64 p2), (2, .one (.pt 0 0 0 0)), (4, .one (.pt 1 0 0 0)), (5, vk .u64 (0 : Int))] [.box [cb p1.neg, ck .u64 p1.size.1, ck .u64 p1.size.2.1, ck .u64 p1.size.2.2.1, ck .u64 p1.size.2.2.2], .box [cb false, ck .u64 (0 : Int), ck .u64 (0 : Int), ck .u64 (0 : Int), ck .u64 (0 : Int)]] [] (by kernel_rfl) trivial ?_
  refine XO.done (by kernel_rfl) ?_
  refine hK2 _ _ ?_
  refine XW.seq (x := cd Try.f99 [1,1,0]) (y := cd Try.f99 [1,1,1]) (by kernel_rfl) fun K3 hK3 => ?_
  refine XW.seq (x := cd Try.f99 [1,1,0,0]) (y := cd Try.f99 [1,1,0,1]) (by kernel_rfl) fun K4 hK4 => ?_
  refine XW.reg (by kernel_rfl) ?_
  refine XO.go [2, 4] 3 [1,2,4,5,12,13] [] [(1, vk .u64 p2), (2, .one (.pt 0 0 0 0)), (4, .one (.pt 1 0 0 0)), (5, vk .u64 (0 : Int)), (12, .ag [ck .u64 p1.size.1, ck .u64 p1.size.2.1, ck .u64 p1.size.2.2.1, ck .u64 p1.size.2.2.2]), (13, vi (0 : Int))] [.box [cb p1.neg, ck .u64 p1.size.1, ck .u64 p1.size.2.1, ck .u64 p1.size.2.2.1, ck .u64 p1.size.2.2.2], .box [cb false, ck .u64 (0 : Int), ck .u64 (0 : Int), ck .u64 (0 : Int), ck .u64 (0 : Int)]] [] (by kernel_rfl) trivial ?_
  refine XO.done (by kernel_rfl) ?_
  refine hK4 _ _ ?_
  refine XW.block (id := 0) (x := cd Try.f99 [1,1,0,1,0]) (by kernel_rfl) ?_
  refine XW.rounds' 5 (x := cd Try.f99 [1,1,0,1,0,0]) (by kernel_rfl) fun Q1 hQ1 => ?_
  refine XR.one ?_
  refine XW.seq (x := cd Try.f99 [1,1,0,1,0,0,0]) (y := cd Try.f99 [1,1,0,1,0,0,1]) (by kernel_rfl) fun K5 hK5 => ?_
  refine XW.reg (by kernel_rfl) ?_
  refine XO.go [2, 4] 1 [1,2,4,5,12,13,14] [] [(1, vk .u64 p2), (2, .one (.pt 0 0 0 0)), (4, .one (.pt 1 0 0 0)), (5, vk .u64 (0 : Int)), (12, .ag [ck .u64 p1.size.1, ck .u64 p1.size.2.1, ck .u64 p1.size.2.2.1, ck .u64 p1.size.2.2.2]), (13, vi (0 : Int)), (14, vb true)] [.box [cb p1.neg, ck .u64 p1.size.1, ck .u64 p1.size.2.1, ck .u64 p1.size.2.2.1, ck .u64 p1.size.2.2.2], .box [cb false, ck .u64 (0 : Int), ck .u64 (0 : Int), ck .u64 (0 : Int), ck .u64 (0 : Int)]] [] (by kernel_rfl) trivial ?_
  refine XO.done (by kernel_rfl) ?_
  refine hK5 _ _ ?_
  refine XW.seq (x := cd Try.f99 [1,1,0,1,0,0,1,0]) (y := cd Try.f99 [1,1,0,1,0,0,1,1]) (by kernel_rfl) fun K6 hK6 => ?_
  refine XW.cond (x := .tmp 14) (a := cd Try.f99 [1,1,0,1,0,0,1,0,0]) (b := cd Try.f99 [1,1,0,1,0,0,1,0,1]) (t := true) (by kernel_rfl) (by kernel_rfl) (fun _ => ?_) (fun hx => by cases hx)
  refine XW.skip (by kernel_rfl) ?_
  refine hK6 _ _ ?_
  refine XW.seq (x := cd Try.f99 [1,1,0,1,0,0,1,1,0]) (y := cd Try.f99 [1,1,0,1,0,0,1,1,1]) (by kernel_rfl) fun K7 hK7 => ?_
  refine XW.block (id := 1) (x := cd Try.f99 [1,1,0,1,0,0,1,1,0,0]) (by kernel_rfl) ?_
  refine XW.seq (x := cd Try.f99 [1,1,0,1,0,0,1,1,0,0,0]) (y := cd Try.f99 [1,1,0,1,0,0,1,1,0,0,1]) (by kernel_rfl) fun K8 hK8 => ?_
  refine XW.reg (by kernel_rfl) ?_
  refine XO.go [2, 4] 4 [1,2,4,5,6,7,12,13] [] [(1, vk .u64 p2), (2, .one (.pt 0 0 0 0)), (4, .one (.pt 1 0 0 0)), (5, vk .u64 (0 : Int)), (6, vi (0 : Int)), (7, vk .u64 p1.size.1), (12, .ag [ck .u64 p1.size.1, ck .u64 p1.size.2.1, ck .u64 p1.size.2.2.1, ck .u64 p1.size.2.2.2]), (13, vi (0 : Int))] [.box [cb p1.neg, ck .u64 p1.size.1, ck .u64 p1.size.2.1, ck .u64 p1.size.2.2.1, ck .u64 p1.size.2.2.2], .box [cb false, ck .u64 (0 : Int), ck .u64 (0 : Int), ck .u64 (0 : Int), ck .u64 (0 : Int)]] [0 ≤ (0 : Int) ∧ (0 : Int) < 4] (by kernel_rfl) (⟨by decide, trivial⟩) ?_
  refine XO.done (by kernel_rfl) ?_
  refine hK8 _ _ ?_
  refine XW.seq (x := cd Try.f99 [1,1,0,1,0,0,1,1,0,0,1,0]) (y := cd Try.f99 [1,1,0,1,0,0,1,1,0,0,1,1]) (by kernel_rfl) fun K9 hK9 => ?_
  obtain ⟨r1, c10, h⟩ := bnd_some h
  refine XW.reg (by kernel_rfl) ?_
  refine XO.go [2, 4] 2 [1,2,4,5,6,12,13,18,19] [] [(1, vk .u64 p2), (2, .one (.pt 0 0 0 0)), (4, .one (.pt 1 0 0 0)), (5, vk .u64 (0 : Int)), (6, vi (0 : Int)), (12, .ag [ck .u64 p1.size.1, ck .u64 p1.size.2.1, ck .u64 p1.size.2.2.1, ck .u64 p1.size.2.2.2]), (13, vi (0 : Int)), (18, vk .u64 p1.size.1), (19, vk .u64 p2)] [.box [cb p1.neg, ck .u64 p1.size.1, ck .u64 p1.size.2.1, ck .u64 p1.size.2.2.1, ck .u64 p1.size.2.2.2], .box [cb false, ck .u64 (0 : Int), ck .u64 (0 : Int), ck .u64 (0 : Int), ck .u64 (0 : Int)]] [] (by kernel_rfl) trivial ?_
  refine XO.cal 111 [vk .u64 p1.size.1, vk .u64 p2] (.tp [vk .u64 r1.1, vk .u64 r1.2]) [(20, .tp [vk .u64 r1.1, vk .u64 r1.2]), (1, vk .u64 p2), (2, .one (.pt 0 0 0 0)), (4, .one (.pt 1 0 0 0)), (5, vk .u64 (0 : Int)), (6, vi (0 : Int)), (12, .ag [ck .u64 p1.size.1, ck .u64 p1.size.2.1, ck .u64 p1.size.2.2.1, ck .u64 p1.size.2.2.2]), (13, vi (0 : Int)), (18, vk .u64 p1.size.1), (19, vk .u64 p2)] (by kernel_rfl) (c_math_bits_Mul64 _ _ _ c10) rfl rfl (by kernel_rfl) ?_
  refine XO.go [2, 4] 5 [1,2,4,5,6,8,9,12,13] [] [(1, vk .u64 p2), (2, .one (.pt 0 0 0 0)), (4, .one (.pt 1 0 0 0)), (5, vk .u64 (0 : Int)), (6, vi (0 : Int)), (8, vk .u64 r1.1), (9, vk .u64 r1.2), (12, .ag [ck .u64 p1.size.1, ck .u64 p1.size.2.1, ck .u64 p1.size.2.2.1, ck .u64 p1.size.2.2.2]), (13, vi (0 : Int))] [.box [cb p1.neg, ck .u64 p1.size.1, ck .u64 p1.size.2.1, ck .u64 p1.size.2.2.1, ck .u64 p1.size.2.2.2], .box [cb false, ck .u64 (0 : Int), ck .u64 (0 : Int), ck .u64 (0 : Int), ck .u64 (0 : Int)]] [] (by kernel_rfl) trivial ?_
  refine XO.done (by kernel_rfl) ?_
  refine hK9 _ _ ?_
  refine XW.seq (x := cd Try.f99 [1,1,0,1,0,0,1,1,0,0,1,1,0]) (y := cd Try.f99 [1,1,0,1,0,0,1,1,0,0,1,1,1]) (by kernel_rfl) fun K11 hK11 => ?_
  refine XW.reg (by kernel_rfl) ?_
  refine XO.go [2, 4] 1 [1,2,4,5,6,8,9,12,13] [] [(1, vk .u64 p2), (2, .one (.pt 0 0 0 0)), (4, .one (.pt 1 0 0 0)), (5, vk .u64 (0 : Int)), (6, vi (0 : Int)), (8, vk .u64 r1.1), (9, vk .u64 r1.2), (12, .ag [ck .u64 p1.size.1, ck .u64 p1.size.2.1, ck .u64 p1.size.2.2.1, ck .u64 p1.size.2.2.2]), (13, vi (0 : Int))] [.box [cb p1.neg, ck .u64 p1.size.1, ck .u64 p1.size.2.1, ck .u64 p1.size.2.2.1, ck .u64 p1.size.2.2.2], .box [cb false, ck .u64 (0 : Int), ck .u64 (0 : Int), ck .u64 (0 : Int), ck .u64 (0 : Int)]] [] (by kernel_rfl) trivial ?_
  refine XO.done (by kernel_rfl) ?_
  refine hK11 _ _ ?_
  refine XW.seq (x := cd Try.f99 [1,1,0,1,0,0,1,1,0,0,1,1,1,0]) (y := cd Try.f99 [1,1,0,1,0,0,1,1,0,0,1,1,1,1]) (by kernel_rfl) fun K12 hK12 => ?_
  obtain ⟨g13, h⟩ := grd_some h
  refine XW.reg (by kernel_rfl) ?_
  refine XO.go [2, 4] 3 [1,2,4,8,12,13,24,25,26] [] [(1, vk .u64 p2), (2, .one (.pt 0 0 0 0)), (4, .one (.pt 1 0 0 0)), (8, vk .u64 r1.1), (12, .ag [ck .u64 p1.size.1, ck .u64 p1.size.2.1, ck .u64 p1.size.2.2.1, ck .u64 p1.size.2.2.2]), (13, vi (0 : Int)), (24, vi (0 : Int)), (25, vk .u64 r1.2), (26, vk .u64 (0 : Int))] [.box [cb p1.neg, ck .u64 p1.size.1, ck .u64 p1.size.2.1, ck .u64 p1.size.2.2.1, ck .u64 p1.size.2.2.2], .box [cb false, ck .u64 (0 : Int), ck .u64 (0 : Int), ck .u64 (0 : Int), ck .u64 (0 : Int)]] [] (by kernel_rfl) trivial ?_
  refine XO.ext 112 [.int .u64 r1.2, .int .u64 (0 : Int), .int .u64 (0 : Int)] [.int .u64 ((r1.2 + (0 : Int) + (0 : Int)) % 18446744073709551616), .int .u64 ((r1.2 + (0 : Int) + (0 : Int)) / 18446744073709551616)] [(27, .tp [vk .u64 ((r1.2 + (0 : Int) + (0 : Int)) % 18446744073709551616), vk .u64 ((r1.2 + (0 : Int) + (0 : Int)) / 18446744073709551616)]), (1, vk .u64 p2), (2, .one (.pt 0 0 0 0)), (4, .one (.pt 1 0 0 0)), (8, vk .u64 r1.1), (12, .ag [ck .u64 p1.size.1, ck .u64 p1.size.2.1, ck .u64 p1.size.2.2.1, ck .u64 p1.size.2.2.2]), (13, vi (0 : Int)), (24, vi (0 : Int)), (25, vk .u64 r1.2), (26, vk .u64 (0 : Int))] (by kernel_rfl) (ext_Add64 (fn := Try.f112) (by kernel_rfl) (by kernel_rfl) (by kernel_rfl) (by kernel_rfl) (by kernel_rfl) g13.1 g13.2.1 g13.2.2.1 g13.2.2.2) rfl (by kernel_rfl) ?_
  refine XO.go [2, 4] 7 [1,2,4,8,10,12,13] [] [(1, vk .u64 p2), (2, .one (.pt 0 0 0 0)), (4, .one (.pt 1 0 0 0)), (8, vk .u64 r1.1), (10, vk .u64 ((r1.2 + (0 : Int) + (0 : Int)) / 18446744073709551616)), (12, .ag [ck .u64 p1.size.1, ck .u64 p1.size.2.1, ck .u64 p1.size.2.2.1, ck .u64 p1.size.2.2.2]), (13, vi (0 : Int))] [.box [cb p1.neg, ck .u64 ((r1.2 + (0 : Int) + (0 : Int)) % 18446744073709551616), ck .u64 p1.size.2.1, ck .u64 p1.size.2.2.1, ck .u64 p1.size.2.2.2], .box [cb false, ck .u64 (0 : Int), ck .u64 (0 : Int), ck .u64 (0 : Int), ck .u64 (0 : Int)]] [0 ≤ (0 : Int) ∧ (0 : Int) < 4] (by kernel_rfl) (⟨by decide, trivial⟩) ?_
  refine XO.done (by kernel_rfl) ?_
  refine hK12 _ _ ?_
  obtain ⟨y1, y14, h⟩ := bnd_some h
  refine XW.reg (by kernel_rfl) ?_
  refine XO.go [2, 4] 3 [1,2,4,12,13,34] [] [(1, vk .u64 p2), (2, .one (.pt 0 0 0 0)), (4, .one (.pt 1 0 0 0)), (12, .ag [ck .u64 p1.size.1, ck .u64 p1.size.2.1, ck .u64 p1.size.2.2.1, ck .u64 p1.size.2.2.2]), (13, vi (0 : Int)), (34, vk .u64 (IntKind.u64.wrap (r1.1 + ((r1.2 + (0 : Int) + (0 : Int)) / 18446744073709551616))))] [.box [cb p1.neg, ck .u64 ((r1.2 + (0 : Int) + (0 : Int)) % 18446744073709551616), ck .u64 p1.size.2.1, ck .u64 p1.size.2.2.1, ck .u64 p1.size.2.2.2], .box [cb false, ck .u64 (0 : Int), ck .u64 (0 : Int), ck .u64 (0 : Int), ck .u64 (0 : Int)]] [] (by kernel_rfl) trivial ?_
  rw [show (IntKind.u64.wrap (r1.1 + ((r1.2 + (0 : Int) + (0 : Int)) / 18446744073709551616))) = y1 from Option.some.inj y14]
  refine XO.go [2, 4] 1 [1,2,4,5,12,13] [] [(1, vk .u64 p2), (2, .one (.pt 0 0 0 0)), (4, .one (.pt 1 0 0 0)), (5, vk .u64 y1), (12, .ag [ck .u64 p1.size.1, ck .u64 p1.size.2.1, ck .u64 p1.size.2.2.1, ck .u64 p1.size.2.2.2]), (13, vi (0 : Int))] [.box [cb p1.neg, ck .u64 ((r1.2 + (0 : Int) + (0 : Int)) % 18446744073709551616), ck .u64 p1.size.2.1, ck .u64 p1.size.2.2.1, ck .u64 p1.size.2.2.2], .box [cb false, ck .u64 (0 : Int), ck .u64 (0 : Int), ck .u64 (0 : Int), ck .u64 (0 : Int)]] [] (by kernel_rfl) trivial ?_
  refine XO.done (by kernel_rfl) ?_
  refine hK7 _ _ ?_
  refine XW.reg (by kernel_rfl) ?_
  refine XO.go [2, 4] 2 [1,2,4,5,12,13] [] [(1, vk .u64 p2), (2, .one (.pt 0 0 0 0)), (4, .one (.pt 1 0 0 0)), (5, vk .u64 y1), (12, .ag [ck .u64 p1.size.1, ck .u64 p1.size.2.1, ck .u64 p1.size.2.2.1, ck .u64 p1.size.2.2.2]), (13, vi (1 : Int))] [.box [cb p1.neg, ck .u64 ((r1.2 + (0 : Int) + (0 : Int)) % 18446744073709551616), ck .u64 p1.size.2.1, ck .u64 p1.size.2.2.1, ck .u64 p1.size.2.2.2], .box [cb false, ck .u64 (0 : Int), ck .u64 (0 : Int), ck .u64 (0 : Int), ck .u64 (0 : Int)]] [] (by kernel_rfl) trivial ?_
  refine XO.done (by kernel_rfl) ?_
  refine XR.one ?_
  refine XW.seq (x := cd Try.f99 [1,1,0,1,0,0,0]) (y := cd Try.f99 [1,1,0,1,0,0,1]) (by kernel_rfl) fun K15 hK15 => ?_
  refine XW.reg (by kernel_rfl) ?_
  refine XO.go [2, 4] 1 [1,2,4,5,12,13,14] [] [(1, vk .u64 p2), (2, .one (.pt 0 0 0 0)), (4, .one (.pt 1 0 0 0)), (5, vk .u64 y1), (12, .ag [ck .u64 p1.size.1, ck .u64 p1.size.2.1, ck .u64 p1.size.2.2.1, ck .u64 p1.size.2.2.2]), (13, vi (1 : Int)), (14, vb true)] [.box [cb p1.neg, ck .u64 ((r1.2 + (0 : Int) + (0 : Int)) % 18446744073709551616), ck .u64 p1.size.2.1, ck .u64 p1.size.2.2.1, ck .u64 p1.size.2.2.2], .box [cb false, ck .u64 (0 : Int), ck .u64 (0 : Int), ck .u64 (0 : Int), ck .u64 (0 : Int)]] [] (by kernel_rfl) trivial ?_
  refine XO.done (by kernel_rfl) ?_
  refine hK15 _ _ ?_
  refine XW.seq (x := cd Try.f99 [1,1,0,1,0,0,1,0]) (y := cd Try.f99 [1,1,0,1,0,0,1,1]) (by kernel_rfl) fun K16 hK16 => ?_
  refine XW.cond (x := .tmp 14) (a := cd Try.f99 [1,1,0,1,0,0,1,0,0]) (b := cd Try.f99 [1,1,0,1,0,0,1,0,1]) (t := true) (by kernel_rfl) (by kernel_rfl) (fun _ => ?_) (fun hx => by cases hx)
  refine XW.skip (by kernel_rfl) ?_
  refine hK16 _ _ ?_
  refine XW.seq (x := cd Try.f99 [1,1,0,1,0,0,1,1,0]) (y := cd Try.f99 [1,1,0,1,0,0,1,1,1]) (by kernel_rfl) fun K17 hK17 => ?_
  refine XW.block (id := 1) (x := cd Try.f99 [1,1,0,1,0,0,1,1,0,0]) (by kernel_rfl) ?_
  refine XW.seq (x := cd Try.f99 [1,1,0,1,0,0,1,1,0,0,0]) (y := cd Try.f99 [1,1,0,1,0,0,1,1,0,0,1]) (by kernel_rfl) fun K18 hK18 => ?_
  refine XW.reg (by kernel_rfl) ?_
  refine XO.go [2, 4] 4 [1,2,4,5,6,7,12,13] [] [(1, vk .u64 p2), (2, .one (.pt 0 0 0 0)), (4, .one (.pt 1 0 0 0)), (5, vk .u64 y1), (6, vi (1 : Int)), (7, vk .u64 p1.size.2.1), (12, .ag [ck .u64 p1.size.1, ck .u64 p1.size.2.1, ck .u64 p1.size.2.2.1, ck .u64 p1.size.2.2.2]), (13, vi (1 : Int))] [.box [cb p1.neg, ck .u64 ((r1.2 + (0 : Int) + (0 : Int)) % 18446744073709551616), ck .u64 p1.size.2.1, ck .u64 p1.size.2.2.1, ck .u64 p1.size.2.2.2], .box [cb false, ck .u64 (0 : Int), ck .u64 (0 : Int), ck .u64 (0 : Int), ck .u64 (0 : Int)]] [0 ≤ (1 : Int) ∧ (1 : Int) < 4] (by kernel_rfl) (⟨by decide, trivial⟩) ?_
  refine XO.done (by kernel_rfl) ?_
  refine hK18 _ _ ?_
  refine XW.seq (x := cd Try.f99 [1,1,0,1,0,0,1,1,0,0,1,0]) (y := cd Try.f99 [1,1,0,1,0,0,1,1,0,0,1,1]) (by kernel_rfl) fun K19 hK19 => ?_
  obtain ⟨r2, c20, h⟩ := bnd_some h
  refine XW.reg (by kernel_rfl) ?_
  refine XO.go [2, 4] 2 [1,2,4,5,6,12,13,18,19] [] [(1, vk .u64 p2), (2, .one (.pt 0 0 0 0)), (4, .one (.pt 1 0 0 0)), (5, vk .u64 y1), (6, vi (1 : Int)), (12, .ag [ck .u64 p1.size.1, ck .u64 p1.size.2.1, ck .u64 p1.size.2.2.1, ck .u64 p1.size.2.2.2]), (13, vi (1 : Int)), (18, vk .u64 p1.size.2.1), (19, vk .u64 p2)] [.box [cb p1.neg, ck .u64 ((r1.2 + (0 : Int) + (0 : Int)) % 18446744073709551616), ck .u64 p1.size.2.1, ck .u64 p1.size.2.2.1, ck .u64 p1.size.2.2.2], .box [cb false, ck .u64 (0 : Int), ck .u64 (0 : Int), ck .u64 (0 : Int), ck .u64 (0 : Int)]] [] (by kernel_rfl) trivial ?_
  refine XO.cal 111 [vk .u64 p1.size.2.1, vk .u64 p2] (.tp [vk .u64 r2.1, vk .u64 r2.2]) [(20, .tp [vk .u64 r2.1, vk .u64 r2.2]), (1, vk .u64 p2), (2, .one (.pt 0 0 0 0)), (4, .one (.pt 1 0 0 0)), (5, vk .u64 y1), (6, vi (1 : Int)), (12, .ag [ck .u64 p1.size.1, ck .u64 p1.size.2.1, ck .u64 p1.size.2.2.1, ck .u64 p1.size.2.2.2]), (13, vi (1 : Int)), (18, vk .u64 p1.size.2.1), (19, vk .u64 p2)] (by kernel_rfl) (c_math_bits_Mul64 _ _ _ c20) rfl rfl (by kernel_rfl) ?_
  refine XO.go [2, 4] 5 [1,2,4,5,6,8,9,12,13] [] [(1, vk .u64 p2), (2, .one (.pt 0 0 0 0)), (4, .one (.pt 1 0 0 0)), (5, vk .u64 y1), (6, vi (1 : Int)), (8, vk .u64 r2.1), (9, vk .u64 r2.2), (12, .ag [ck .u64 p1.size.1, ck .u64 p1.size.2.1, ck .u64 p1.size.2.2.1, ck .u64 p1.size.2.2.2]), (13, vi (1 : Int))] [.box [cb p1.neg, ck .u64 ((r1.2 + (0 : Int) + (0 : Int)) % 18446744073709551616), ck .u64 p1.size.2.1, ck .u64 p1.size.2.2.1, ck .u64 p1.size.2.2.2], .box [cb false, ck .u64 (0 : Int), ck .u64 (0 : Int), ck .u64 (0 : Int), ck .u64 (0 : Int)]] [] (by kernel_rfl) trivial ?_
  refine XO.done (by kernel_rfl) ?_
  refine hK19 _ _ ?_
  refine XW.seq (x := cd Try.f99 [1,1,0,1,0,0,1,1,0,0,1,1,0]) (y := cd Try.f99 [1,1,0,1,0,0,1,1,0,0,1,1,1]) (by kernel_rfl) fun K21 hK21 => ?_
  refine XW.reg (by kernel_rfl) ?_
  refine XO.go [2, 4] 1 [1,2,4,5,6,8,9,12,13] [] [(1, vk .u64 p2), (2, .one (.pt 0 0 0 0)), (4, .one (.pt 1 0 0 0)), (5, vk .u64 y1), (6, vi (1 : Int)), (8, vk .u64 r2.1), (9, vk .u64 r2.2), (12, .ag [ck .u64 p1.size.1, ck .u64 p1.size.2.1, ck .u64 p1.size.2.2.1, ck .u64 p1.size.2.2.2]), (13, vi (1 : Int))] [.box [cb p1.neg, ck .u64 ((r1.2 + (0 : Int) + (0 : Int)) % 18446744073709551616), ck .u64 p1.size.2.1, ck .u64 p1.size.2.2.1, ck .u64 p1.size.2.2.2], .box [cb false, ck .u64 (0 : Int), ck .u64 (0 : Int), ck .u64 (0 : Int), ck .u64 (0 : Int)]] [] (by kernel_rfl) trivial ?_
  refine XO.done (by kernel_rfl) ?_
  refine hK21 _ _ ?_
  refine XW.seq (x := cd Try.f99 [1,1,0,1,0,0,1,1,0,0,1,1,1,0]) (y := cd Try.f99 [1,1,0,1,0,0,1,1,0,0,1,1,1,1]) (by kernel_rfl) fun K22 hK22 => ?_
  obtain ⟨g23, h⟩ := grd_some h
  refine XW.reg (by kernel_rfl) ?_
  refine XO.go [2, 4] 3 [1,2,4,8,12,13,24,25,26] [] [(1, vk .u64 p2), (2, .one (.pt 0 0 0 0)), (4, .one (.pt 1 0 0 0)), (8, vk .u64 r2.1), (12, .ag [ck .u64 p1.size.1, ck .u64 p1.size.2.1, ck .u64 p1.size.2.2.1, ck .u64 p1.size.2.2.2]), (13, vi (1 : Int)), (24, vi (1 : Int)), (25, vk .u64 r2.2), (26, vk .u64 y1)] [.box [cb p1.neg, ck .u64 ((r1.2 + (0 : Int) + (0 : Int)) % 18446744073709551616), ck .u64 p1.size.2.1, ck .u64 p1.size.2.2.1, ck .u64 p1.size.2.2.2], .box [cb false, ck .u64 (0 : Int), ck .u64 (0 : Int), ck .u64 (0 : Int), ck .u64 (0 : Int)]] [] (by kernel_rfl) trivial ?_
  refine XO.ext 112 [.int .u64 r2.2, .int .u64 y1, .int .u64 (0 : Int)] [.int .u64 ((r2.2 + y1 + (0 : Int)) % 18446744073709551616), .int .u64 ((r2.2 + y1 + (0 : Int)) / 18446744073709551616)] [(27, .tp [vk .u64 ((r2.2 + y1 + (0 : Int)) % 18446744073709551616), vk .u64 ((r2.2 + y1 + (0 : Int)) / 18446744073709551616)]), (1, vk .u64 p2), (2, .one (.pt 0 0 0 0)), (4, .one (.pt 1 0 0 0)), (8, vk .u64 r2.1), (12, .ag [ck .u64 p1.size.1, ck .u64 p1.size.2.1, ck .u64 p1.size.2.2.1, ck .u64 p1.size.2.2.2]), (13, vi (1 : Int)), (24, vi (1 : Int)), (25, vk .u64 r2.2), (26, vk .u64 y1)] (by kernel_rfl) (ext_Add64 (fn := Try.f112) (by kernel_rfl) (by kernel_rfl) (by kernel_rfl) (by kernel_rfl) (by kernel_rfl) g23.1 g23.2.1 g23.2.2.1 g23.2.2.2) rfl (by kernel_rfl) ?_
  refine XO.go [2, 4] 7 [1,2,4,8,10,12,13] [] [(1, vk .u64 p2), (2, .one (.pt 0 0 0 0)), (4, .one (.pt 1 0 0 0)), (8, vk .u64 r2.1), (10, vk .u64 ((r2.2 + y1 + (0 : Int)) / 18446744073709551616)), (12, .ag [ck .u64 p1.size.1, ck .u64 p1.size.2.1, ck .u64 p1.size.2.2.1, ck .u64 p1.size.2.2.2]), (13, vi (1 : Int))] [.box [cb p1.neg, ck .u64 ((r1.2 + (0 : Int) + (0 : Int)) % 18446744073709551616), ck .u64 ((r2.2 + y1 + (0 : Int)) % 18446744073709551616), ck .u64 p1.size.2.2.1, ck .u64 p1.size.2.2.2], .box [cb false, ck .u64 (0 : Int), ck .u64 (0 : Int), ck .u64 (0 : Int), ck .u64 (0 : Int)]] [0 ≤ (1 : Int) ∧ (1 : Int) < 4] (by kernel_rfl) (⟨by decide, trivial⟩) ?_
  refine XO.done (by kernel_rfl) ?_
  refine hK22 _ _ ?_
  obtain ⟨y2, y24, h⟩ := bnd_some h
  refine XW.reg (by kernel_rfl) ?_
  refine XO.go [2, 4] 3 [1,2,4,12,13,34] [] [(1, vk .u64 p2), (2, .one (.pt 0 0 0 0)), (4, .one (.pt 1 0 0 0)), (12, .ag [ck .u64 p1.size.1, ck .u64 p1.size.2.1, ck .u64 p1.size.2.2.1, ck .u64 p1.size.2.2.2]), (13, vi (1 : Int)), (34, vk .u64 (IntKind.u64.wrap (r2.1 + ((r2.2 + y1 + (0 : Int)) / 18446744073709551616))))] [.box [cb p1.neg, ck .u64 ((r1.2 + (0 : Int) + (0 : Int)) % 18446744073709551616), ck .u64 ((r2.2 + y1 + (0 : Int)) % 18446744073709551616), ck .u64 p1.size.2.2.1, ck .u64 p1.size.2.2.2], .box [cb false, ck .u64 (0 : Int), ck .u64 (0 : Int), ck .u64 (0 : Int), ck .u64 (0 : Int)]] [] (by kernel_rfl) trivial ?_
  rw [show (IntKind.u64.wrap (r2.1 + ((r2.2 + y1 + (0 : Int)) / 18446744073709551616))) = y2 from Option.some.inj y24]
  refine XO.go [2, 4] 1 [1,2,4,5,12,13] [] [(1, vk .u64 p2), (2, .one (.pt 0 0 0 0)), (4, .one (.pt 1 0 0 0)), (5, vk .u64 y2), (12, .ag [ck .u64 p1.size.1, ck .u64 p1.size.2.1, ck .u64 p1.size.2.2.1, ck .u64 p1.size.2.2.2]), (13, vi (1 : Int))] [.box [cb p1.neg, ck .u64 ((r1.2 + (0 : Int) + (0 : Int)) % 18446744073709551616), ck .u64 ((r2.2 + y1 + (0 : Int)) % 18446744073709551616), ck .u64 p1.size.2.2.1, ck .u64 p1.size.2.2.2], .box [cb false, ck .u64 (0 : Int), ck .u64 (0 : Int), ck .u64 (0 : Int), ck .u64 (0 : Int)]] [] (by kernel_rfl) trivial ?_
  refine XO.done (by kernel_rfl) ?_
  refine hK17 _ _ ?_
  refine XW.reg (by kernel_rfl) ?_
  refine XO.go [2, 4] 2 [1,2,4,5,12,13] [] [(1, vk .u64 p2), (2, .one (.pt 0 0 0 0)), (4, .one (.pt 1 0 0 0)), (5, vk .u64 y2), (12, .ag [ck .u64 p1.size.1, ck .u64 p1.size.2.1, ck .u64 p1.size.2.2.1, ck .u64 p1.size.2.2.2]), (13, vi (2 : Int))] [.box [cb p1.neg, ck .u64 ((r1.2 + (0 : Int) + (0 : Int)) % 18446744073709551616), ck .u64 ((r2.2 + y1 + (0 : Int)) % 18446744073709551616), ck .u64 p1.size.2.2.1, ck .u64 p1.size.2.2.2], .box [cb false, ck .u64 (0 : Int), ck .u64 (0 : Int), ck .u64 (0 : Int), ck .u64 (0 : Int)]] [] (by kernel_rfl) trivial ?_
  refine XO.done (by kernel_rfl) ?_
  refine XR.one ?_
  refine XW.seq (x := cd Try.f99 [1,1,0,1,0,0,0]) (y := cd Try.f99 [1,1,0,1,0,0,1]) (by kernel_rfl) fun K25 hK25 => ?_
  refine XW.reg (by kernel_rfl) ?_
  refine XO.go [2, 4] 1 [1,2,4,5,12,13,14] [] [(1, vk .u64 p2), (2, .one (.pt 0 0 0 0)), (4, .one (.pt 1 0 0 0)), (5, vk .u64 y2), (12, .ag [ck .u64 p1.size.1, ck .u64 p1.size.2.1, ck .u64 p1.size.2.2.1, ck .u64 p1.size.2.2.2]), (13, vi (2 : Int)), (14, vb true)] [.box [cb p1.neg, ck .u64 ((r1.2 + (0 : Int) + (0 : Int)) % 18446744073709551616), ck .u64 ((r2.2 + y1 + (0 : Int)) % 18446744073709551616), ck .u64 p1.size.2.2.1, ck .u64 p1.size.2.2.2], .box [cb false, ck .u64 (0 : Int), ck .u64 (0 : Int), ck .u64 (0 : Int), ck .u64 (0 : Int)]] [] (by kernel_rfl) trivial ?_
  refine XO.done (by kernel_rfl) ?_
  refine hK25 _ _ ?_
  refine XW.seq (x := cd Try.f99 [1,1,0,1,0,0,1,0]) (y := cd Try.f99 [1,1,0,1,0,0,1,1]) (by kernel_rfl) fun K26 hK26 => ?_
  refine XW.cond (x := .tmp 14) (a := cd Try.f99 [1,1,0,1,0,0,1,0,0]) (b := cd Try.f99 [1,1,0,1,0,0,1,0,1]) (t := true) (by kernel_rfl) (by kernel_rfl) (fun _ => ?_) (fun hx => by cases hx)
  refine XW.skip (by kernel_rfl) ?_
  refine hK26 _ _ ?_
  refine XW.seq (x := cd Try.f99 [1,1,0,1,0,0,1,1,0]) (y := cd Try.f99 [1,1,0,1,0,0,1,1,1]) (by kernel_rfl) fun K27 hK27 => ?_
  refine XW.block (id := 1) (x := cd Try.f99 [1,1,0,1,0,0,1,1,0,0]) (by kernel_rfl) ?_
  refine XW.seq (x := cd Try.f99 [1,1,0,1,0,0,1,1,0,0,0]) (y := cd Try.f99 [1,1,0,1,0,0,1,1,0,0,1]) (by kernel_rfl) fun K28 hK28 => ?_
  refine XW.reg (by kernel_rfl) ?_
  refine XO.go [2, 4] 4 [1,2,4,5,6,7,12,13] [] [(1, vk .u64 p2), (2, .one (.pt 0 0 0 0)), (4, .one (.pt 1 0 0 0)), (5, vk .u64 y2), (6, vi (2 : Int)), (7, vk .u64 p1.size.2.2.1), (12, .ag [ck .u64 p1.size.1, ck .u64 p1.size.2.1, ck .u64 p1.size.2.2.1, ck .u64 p1.size.2.2.2]), (13, vi (2 : Int))] [.box [cb p1.neg, ck .u64 ((r1.2 + (0 : Int) + (0 : Int)) % 18446744073709551616), ck .u64 ((r2.2 + y1 + (0 : Int)) % 18446744073709551616), ck .u64 p1.size.2.2.1, ck .u64 p1.size.2.2.2], .box [cb false, ck .u64 (0 : Int), ck .u64 (0 : Int), ck .u64 (0 : Int), ck .u64 (0 : Int)]] [0 ≤ (2 : Int) ∧ (2 : Int) < 4] (by kernel_rfl) (⟨by decide, trivial⟩) ?_
  refine XO.done (by kernel_rfl) ?_
  refine hK28 _ _ ?_
  refine XW.seq (x := cd Try.f99 [1,1,0,1,0,0,1,1,0,0,1,0]) (y := cd Try.f99 [1,1,0,1,0,0,1,1,0,0,1,1]) (by kernel_rfl) fun K29 hK29 => ?_
  obtain ⟨r3, c30, h⟩ := bnd_some h
  refine XW.reg (by kernel_rfl) ?_
  refine XO.go [2, 4] 2 [1,2,4,5,6,12,13,18,19] [] [(1, vk .u64 p2), (2, .one (.pt 0 0 0 0)), (4, .one (.pt 1 0 0 0)), (5, vk .u64 y2), (6, vi (2 : Int)), (12, .ag [ck .u64 p1.size.1, ck .u64 p1.size.2.1, ck .u64 p1.size.2.2.1, ck .u64 p1.size.2.2.2]), (13, vi (2 : Int)), (18, vk .u64 p1.size.2.2.1), (19, vk .u64 p2)] [.box [cb p1.neg, ck .u64 ((r1.2 + (0 : Int) + (0 : Int)) % 18446744073709551616), ck .u64 ((r2.2 + y1 + (0 : Int)) % 18446744073709551616), ck .u64 p1.size.2.2.1, ck .u64 p1.size.2.2.2], .box [cb false, ck .u64 (0 : Int), ck .u64 (0 : Int), ck .u64 (0 : Int), ck .u64 (0 : Int)]] [] (by kernel_rfl) trivial ?_
  refine XO.cal 111 [vk .u64 p1.size.2.2.1, vk .u64 p2] (.tp [vk .u64 r3.1, vk .u64 r3.2]) [(20, .tp [vk .u64 r3.1, vk .u64 r3.2]), (1, vk .u64 p2), (2, .one (.pt 0 0 0 0)), (4, .one (.pt 1 0 0 0)), (5, vk .u64 y2), (6, vi (2 : Int)), (12, .ag [ck .u64 p1.size.1, ck .u64 p1.size.2.1, ck .u64 p1.size.2.2.1, ck .u64 p1.size.2.2.2]), (13, vi (2 : Int)), (18, vk .u64 p1.size.2.2.1), (19, vk .u64 p2)] (by kernel_rfl) (c_math_bits_Mul64 _ _ _ c30) rfl rfl (by kernel_rfl) ?_
  refine XO.go [2, 4] 5 [1,2,4,5,6,8,9,12,13] [] [(1, vk .u64 p2), (2, .one (.pt 0 0 0 0)), (4, .one (.pt 1 0 0 0)), (5, vk .u64 y2), (6, vi (2 : Int)), (8, vk .u64 r3.1), (9, vk .u64 r3.2), (12, .ag [ck .u64 p1.size.1, ck .u64 p1.size.2.1, ck .u64 p1.size.2.2.1, ck .u64 p1.size.2.2.2]), (13, vi (2 : Int))] [.box [cb p1.neg, ck .u64 ((r1.2 + (0 : Int) + (0 : Int)) % 18446744073709551616), ck .u64 ((r2.2 + y1 + (0 : Int)) % 18446744073709551616), ck .u64 p1.size.2.2.1, ck .u64 p1.size.2.2.2], .box [cb false, ck .u64 (0 : Int), ck .u64 (0 : Int), ck .u64 (0 : Int), ck .u64 (0 : Int)]] [] (by kernel_rfl) trivial ?_
  refine XO.done (by kernel_rfl) ?_
  refine hK29 _ _ ?_
  refine XW.seq (x := cd Try.f99 [1,1,0,1,0,0,1,1,0,0,1,1,0]) (y := cd Try.f99 [1,1,0,1,0,0,1,1,0,0,1,1,1]) (by kernel_rfl) fun K31 hK31 => ?_
  refine XW.reg (by kernel_rfl) ?_
  refine XO.go [2, 4] 1 [1,2,4,5,6,8,9,12,13] [] [(1, vk .u64 p2), (2, .one (.pt 0 0 0 0)), (4, .one (.pt 1 0 0 0)), (5, vk .u64 y2), (6, vi (2 : Int)), (8, vk .u64 r3.1), (9, vk .u64 r3.2), (12, .ag [ck .u64 p1.size.1, ck .u64 p1.size.2.1, ck .u64 p1.size.2.2.1, ck .u64 p1.size.2.2.2]), (13, vi (2 : Int))] [.box [cb p1.neg, ck .u64 ((r1.2 + (0 : Int) + (0 : Int)) % 18446744073709551616), ck .u64 ((r2.2 + y1 + (0 : Int)) % 18446744073709551616), ck .u64 p1.size.2.2.1, ck .u64 p1.size.2.2.2], .box [cb false, ck .u64 (0 : Int), ck .u64 (0 : Int), ck .u64 (0 : Int), ck .u64 (0 : Int)]] [] (by kernel_rfl) trivial ?_
  refine XO.done (by kernel_rfl) ?_
  refine hK31 _ _ ?_
  refine XW.seq (x := cd Try.f99 [1,1,0,1,0,0,1,1,0,0,1,1,1,0]) (y := cd Try.f99 [1,1,0,1,0,0,1,1,0,0,1,1,1,1]) (by kernel_rfl) fun K32 hK32 => ?_
  obtain ⟨g33, h⟩ := grd_some h
  refine XW.reg (by kernel_rfl) ?_
  refine XO.go [2, 4] 3 [1,2,4,8,12,13,24,25,26] [] [(1, vk .u64 p2), (2, .one (.pt 0 0 0 0)), (4, .one (.pt 1 0 0 0)), (8, vk .u64 r3.1), (12, .ag [ck .u64 p1.size.1, ck .u64 p1.size.2.1, ck .u64 p1.size.2.2.1, ck .u64 p1.size.2.2.2]), (13, vi (2 : Int)), (24, vi (2 : Int)), (25, vk .u64 r3.2), (26, vk .u64 y2)] [.box [cb p1.neg, ck .u64 ((r1.2 + (0 : Int) + (0 : Int)) % 18446744073709551616), ck .u64 ((r2.2 + y1 + (0 : Int)) % 18446744073709551616), ck .u64 p1.size.2.2.1, ck .u64 p1.size.2.2.2], .box [cb false, ck .u64 (0 : Int), ck .u64 (0 : Int), ck .u64 (0 : Int), ck .u64 (0 : Int)]] [] (by kernel_rfl) trivial ?_
  refine XO.ext 112 [.int .u64 r3.2, .int .u64 y2, .int .u64 (0 : Int)] [.int .u64 ((r3.2 + y2 + (0 : Int)) % 18446744073709551616), .int .u64 ((r3.2 + y2 + (0 : Int)) / 18446744073709551616)] [(27, .tp [vk .u64 ((r3.2 + y2 + (0 : Int)) % 18446744073709551616), vk .u64 ((r3.2 + y2 + (0 : Int)) / 18446744073709551616)]), (1, vk .u64 p2), (2, .one (.pt 0 0 0 0)), (4, .one (.pt 1 0 0 0)), (8, vk .u64 r3.1), (12, .ag [ck .u64 p1.size.1, ck .u64 p1.size.2.1, ck .u64 p1.size.2.2.1, ck .u64 p1.size.2.2.2]), (13, vi (2 : Int)), (24, vi (2 : Int)), (25, vk .u64 r3.2), (26, vk .u64 y2)] (by kernel_rfl) (ext_Add64 (fn := Try.f112) (by kernel_rfl) (by kernel_rfl) (by kernel_rfl) (by kernel_rfl) (by kernel_rfl) g33.1 g33.2.1 g33.2.2.1 g33.2.2.2) rfl (by kernel_rfl) ?_
  refine XO.go [2, 4] 7 [1,2,4,8,10,12,13] [] [(1, vk .u64 p2), (2, .one (.pt 0 0 0 0)), (4, .one (.pt 1 0 0 0)), (8, vk .u64 r3.1), (10, vk .u64 ((r3.2 + y2 + (0 : Int)) / 18446744073709551616)), (12, .ag [ck .u64 p1.size.1, ck .u64 p1.size.2.1, ck .u64 p1.size.2.2.1, ck .u64 p1.size.2.2.2]), (13, vi (2 : Int))] [.box [cb p1.neg, ck .u64 ((r1.2 + (0 : Int) + (0 : Int)) % 18446744073709551616), ck .u64 ((r2.2 + y1 + (0 : Int)) % 18446744073709551616), ck .u64 ((r3.2 + y2 + (0 : Int)) % 18446744073709551616), ck .u64 p1.size.2.2.2], .box [cb false, ck .u64 (0 : Int), ck .u64 (0 : Int), ck .u64 (0 : Int), ck .u64 (0 : Int)]] [0 ≤ (2 : Int) ∧ (2 : Int) < 4] (by kernel_rfl) (⟨by decide, trivial⟩) ?_
  refine XO.done (by kernel_rfl) ?_
  refine hK32 _ _ ?_
  obtain ⟨y3, y34, h⟩ := bnd_some h
  refine XW.reg (by kernel_rfl) ?_
  refine XO.go [2, 4] 3 [1,2,4,12,13,34] [] [(1, vk .u64 p2), (2, .one (.pt 0 0 0 0)), (4, .one (.pt 1 0 0 0)), (12, .ag [ck .u64 p1.size.1, ck .u64 p1.size.2.1, ck .u64 p1.size.2.2.1, ck .u64 p1.size.2.2.2]), (13, vi (2 : Int)), (34, vk .u64 (IntKind.u64.wrap (r3.1 + ((r3.2 + y2 + (0 : Int)) / 18446744073709551616))))] [.box [cb p1.neg, ck .u64 ((r1.2 + (0 : Int) + (0 : Int)) % 18446744073709551616), ck .u64 ((r2.2 + y1 + (0 : Int)) % 18446744073709551616), ck .u64 ((r3.2 + y2 + (0 : Int)) % 18446744073709551616), ck .u64 p1.size.2.2.2], .box [cb false, ck .u64 (0 : Int), ck .u64 (0 : Int), ck .u64 (0 : Int), ck .u64 (0 : Int)]] [] (by kernel_rfl) trivial ?_
  rw [show (IntKind.u64.wrap (r3.1 + ((r3.2 + y2 + (0 : Int)) / 18446744073709551616))) = y3 from Option.some.inj y34]
  refine XO.go [2, 4] 1 [1,2,4,5,12,13] [] [(1, vk .u64 p2), (2, .one (.pt 0 0 0 0)), (4, .one (.pt 1 0 0 0)), (5, vk .u64 y3), (12, .ag [ck .u64 p1.size.1, ck .u64 p1.size.2.1, ck .u64 p1.size.2.2.1, ck .u64 p1.size.2.2.2]), (13, vi (2 : Int))] [.box [cb p1.neg, ck .u64 ((r1.2 + (0 : Int) + (0 : Int)) % 18446744073709551616), ck .u64 ((r2.2 + y1 + (0 : Int)) % 18446744073709551616), ck .u64 ((r3.2 + y2 + (0 : Int)) % 18446744073709551616), ck .u64 p1.size.2.2.2], .box [cb false, ck .u64 (0 : Int), ck .u64 (0 : Int), ck .u64 (0 : Int), ck .u64 (0 : Int)]] [] (by kernel_rfl) trivial ?_
  refine XO.done (by kernel_rfl) ?_
  refine hK27 _ _ ?_
  refine XW.reg (by kernel_rfl) ?_
  refine XO.go [2, 4] 2 [1,2,4,5,12,13] [] [(1, vk .u64 p2), (2, .one (.pt 0 0 0 0)), (4, .one (.pt 1 0 0 0)), (5, vk .u64 y3), (12, .ag [ck .u64 p1.size.1, ck .u64 p1.size.2.1, ck .u64 p1.size.2.2.1, ck .u64 p1.size.2.2.2]), (13, vi (3 : Int))] [.box [cb p1.neg, ck .u64 ((r1.2 + (0 : Int) + (0 : Int)) % 18446744073709551616), ck .u64 ((r2.2 + y1 + (0 : Int)) % 18446744073709551616), ck .u64 ((r3.2 + y2 + (0 : Int)) % 18446744073709551616), ck .u64 p1.size.2.2.2], .box [cb false, ck .u64 (0 : Int), ck .u64 (0 : Int), ck .u64 (0 : Int), ck .u64 (0 : Int)]] [] (by kernel_rfl) trivial ?_
  refine XO.done (by kernel_rfl) ?_
  refine XR.one ?_
  refine XW.seq (x := cd Try.f99 [1,1,0,1,0,0,0]) (y := cd Try.f99 [1,1,0,1,0,0,1]) (by kernel_rfl) fun K35 hK35 => ?_
  refine XW.reg (by kernel_rfl) ?_
  refine XO.go [2, 4] 1 [1,2,4,5,12,13,14] [] [(1, vk .u64 p2), (2, .one (.pt 0 0 0 0)), (4, .one (.pt 1 0 0 0)), (5, vk .u64 y3), (12, .ag [ck .u64 p1.size.1, ck .u64 p1.size.2.1, ck .u64 p1.size.2.2.1, ck .u64 p1.size.2.2.2]), (13, vi (3 : Int)), (14, vb true)] [.box [cb p1.neg, ck .u64 ((r1.2 + (0 : Int) + (0 : Int)) % 18446744073709551616), ck .u64 ((r2.2 + y1 + (0 : Int)) % 18446744073709551616), ck .u64 ((r3.2 + y2 + (0 : Int)) % 18446744073709551616), ck .u64 p1.size.2.2.2], .box [cb false, ck .u64 (0 : Int), ck .u64 (0 : Int), ck .u64 (0 : Int), ck .u64 (0 : Int)]] [] (by kernel_rfl) trivial ?_
  refine XO.done (by kernel_rfl) ?_
  refine hK35 _ _ ?_
  refine XW.seq (x := cd Try.f99 [1,1,0,1,0,0,1,0]) (y := cd Try.f99 [1,1,0,1,0,0,1,1]) (by kernel_rfl) fun K36 hK36 => ?_
  refine XW.cond (x := .tmp 14) (a := cd Try.f99 [1,1,0,1,0,0,1,0,0]) (b := cd Try.f99 [1,1,0,1,0,0,1,0,1]) (t := true) (by kernel_rfl) (by kernel_rfl) (fun _ => ?_) (fun hx => by cases hx)
  refine XW.skip (by kernel_rfl) ?_
  refine hK36 _ _ ?_
  refine XW.seq (x := cd Try.f99 [1,1,0,1,0,0,1,1,0]) (y := cd Try.f99 [1,1,0,1,0,0,1,1,1]) (by kernel_rfl) fun K37 hK37 => ?_
  refine XW.block (id := 1) (x := cd Try.f99 [1,1,0,1,0,0,1,1,0,0]) (by kernel_rfl) ?_
  refine XW.seq (x := cd Try.f99 [1,1,0,1,0,0,1,1,0,0,0]) (y := cd Try.f99 [1,1,0,1,0,0,1,1,0,0,1]) (by kernel_rfl) fun K38 hK38 => ?_
  refine XW.reg (by kernel_rfl) ?_
  refine XO.go [2, 4] 4 [1,2,4,5,6,7,12,13] [] [(1, vk .u64 p2), (2, .one (.pt 0 0 0 0)), (4, .one (.pt 1 0 0 0)), (5, vk .u64 y3), (6, vi (3 : Int)), (7, vk .u64 p1.size.2.2.2), (12, .ag [ck .u64 p1.size.1, ck .u64 p1.size.2.1, ck .u64 p1.size.2.2.1, ck .u64 p1.size.2.2.2]), (13, vi (3 : Int))] [.box [cb p1.neg, ck .u64 ((r1.2 + (0 : Int) + (0 : Int)) % 18446744073709551616), ck .u64 ((r2.2 + y1 + (0 : Int)) % 18446744073709551616), ck .u64 ((r3.2 + y2 + (0 : Int)) % 18446744073709551616), ck .u64 p1.size.2.2.2], .box [cb false, ck .u64 (0 : Int), ck .u64 (0 : Int), ck .u64 (0 : Int), ck .u64 (0 : Int)]] [0 ≤ (3 : Int) ∧ (3 : Int) < 4] (by kernel_rfl) (⟨by decide, trivial⟩) ?_
  refine XO.done (by kernel_rfl) ?_
  refine hK38 _ _ ?_
  refine XW.seq (x := cd Try.f99 [1,1,0,1,0,0,1,1,0,0,1,0]) (y := cd Try.f99 [1,1,0,1,0,0,1,1,0,0,1,1]) (by kernel_rfl) fun K39 hK39 => ?_
  obtain ⟨r4, c40, h⟩ := bnd_some h
  refine XW.reg (by kernel_rfl) ?_
  refine XO.go [2, 4] 2 [1,2,4,5,6,12,13,18,19] [] [(1, vk .u64 p2), (2, .one (.pt 0 0 0 0)), (4, .one (.pt 1 0 0 0)), (5, vk .u64 y3), (6, vi (3 : Int)), (12, .ag [ck .u64 p1.size.1, ck .u64 p1.size.2.1, ck .u64 p1.size.2.2.1, ck .u64 p1.size.2.2.2]), (13, vi (3 : Int)), (18, vk .u64 p1.size.2.2.2), (19, vk .u64 p2)] [.box [cb p1.neg, ck .u64 ((r1.2 + (0 : Int) + (0 : Int)) % 18446744073709551616), ck .u64 ((r2.2 + y1 + (0 : Int)) % 18446744073709551616), ck .u64 ((r3.2 + y2 + (0 : Int)) % 18446744073709551616), ck .u64 p1.size.2.2.2], .box [cb false, ck .u64 (0 : Int), ck .u64 (0 : Int), ck .u64 (0 : Int), ck .u64 (0 : Int)]] [] (by kernel_rfl) trivial ?_
  refine XO.cal 111 [vk .u64 p1.size.2.2.2, vk .u64 p2] (.tp [vk .u64 r4.1, vk .u64 r4.2]) [(20, .tp [vk .u64 r4.1, vk .u64 r4.2]), (1, vk .u64 p2), (2, .one (.pt 0 0 0 0)), (4, .one (.pt 1 0 0 0)), (5, vk .u64 y3), (6, vi (3 : Int)), (12, .ag [ck .u64 p1.size.1, ck .u64 p1.size.2.1, ck .u64 p1.size.2.2.1, ck .u64 p1.size.2.2.2]), (13, vi (3 : Int)), (18, vk .u64 p1.size.2.2.2), (19, vk .u64 p2)] (by kernel_rfl) (c_math_bits_Mul64 _ _ _ c40) rfl rfl (by kernel_rfl) ?_
  refine XO.go [2, 4] 5 [1,2,4,5,6,8,9,12,13] [] [(1, vk .u64 p2), (2, .one (.pt 0 0 0 0)), (4, .one (.pt 1 0 0 0)), (5, vk .u64 y3), (6, vi (3 : Int)), (8, vk .u64 r4.1), (9, vk .u64 r4.2), (12, .ag [ck .u64 p1.size.1, ck .u64 p1.size.2.1, ck .u64 p1.size.2.2.1, ck .u64 p1.size.2.2.2]), (13, vi (3 : Int))] [.box [cb p1.neg, ck .u64 ((r1.2 + (0 : Int) + (0 : Int)) % 18446744073709551616), ck .u64 ((r2.2 + y1 + (0 : Int)) % 18446744073709551616), ck .u64 ((r3.2 + y2 + (0 : Int)) % 18446744073709551616), ck .u64 p1.size.2.2.2], .box [cb false, ck .u64 (0 : Int), ck .u64 (0 : Int), ck .u64 (0 : Int), ck .u64 (0 : Int)]] [] (by kernel_rfl) trivial ?_
  refine XO.done (by kernel_rfl) ?_
  refine hK39 _ _ ?_
  refine XW.seq (x := cd Try.f99 [1,1,0,1,0,0,1,1,0,0,1,1,0]) (y := cd Try.f99 [1,1,0,1,0,0,1,1,0,0,1,1,1]) (by kernel_rfl) fun K41 hK41 => ?_
  refine XW.reg (by kernel_rfl) ?_
  refine XO.go [2, 4] 1 [1,2,4,5,6,8,9,12,13] [] [(1, vk .u64 p2), (2, .one (.pt 0 0 0 0)), (4, .one (.pt 1 0 0 0)), (5, vk .u64 y3), (6, vi (3 : Int)), (8, vk .u64 r4.1), (9, vk .u64 r4.2), (12, .ag [ck .u64 p1.size.1, ck .u64 p1.size.2.1, ck .u64 p1.size.2.2.1, ck .u64 p1.size.2.2.2]), (13, vi (3 : Int))] [.box [cb p1.neg, ck .u64 ((r1.2 + (0 : Int) + (0 : Int)) % 18446744073709551616), ck .u64 ((r2.2 + y1 + (0 : Int)) % 18446744073709551616), ck .u64 ((r3.2 + y2 + (0 : Int)) % 18446744073709551616), ck .u64 p1.size.2.2.2], .box [cb false, ck .u64 (0 : Int), ck .u64 (0 : Int), ck .u64 (0 : Int), ck .u64 (0 : Int)]] [] (by kernel_rfl) trivial ?_
  refine XO.done (by kernel_rfl) ?_
  refine hK41 _ _ ?_
  refine XW.seq (x := cd Try.f99 [1,1,0,1,0,0,1,1,0,0,1,1,1,0]) (y := cd Try.f99 [1,1,0,1,0,0,1,1,0,0,1,1,1,1]) (by kernel_rfl) fun K42 hK42 => ?_
  obtain ⟨g43, h⟩ := grd_some h
  refine XW.reg (by kernel_rfl) ?_
  refine XO.go [2, 4] 3 [1,2,4,8,12,13,24,25,26] [] [(1, vk .u64 p2), (2, .one (.pt 0 0 0 0)), (4, .one (.pt 1 0 0 0)), (8, vk .u64 r4.1), (12, .ag [ck .u64 p1.size.1, ck .u64 p1.size.2.1, ck .u64 p1.size.2.2.1, ck .u64 p1.size.2.2.2]), (13, vi (3 : Int)), (24, vi (3 : Int)), (25, vk .u64 r4.2), (26, vk .u64 y3)] [.box [cb p1.neg, ck .u64 ((r1.2 + (0 : Int) + (0 : Int)) % 18446744073709551616), ck .u64 ((r2.2 + y1 + (0 : Int)) % 18446744073709551616), ck .u64 ((r3.2 + y2 + (0 : Int)) % 18446744073709551616), ck .u64 p1.size.2.2.2], .box [cb false, ck .u64 (0 : Int), ck .u64 (0 : Int), ck .u64 (0 : Int), ck .u64 (0 : Int)]] [] (by kernel_rfl) trivial ?_
  refine XO.ext 112 [.int .u64 r4.2, .int .u64 y3, .int .u64 (0 : Int)] [.int .u64 ((r4.2 + y3 + (0 : Int)) % 18446744073709551616), .int .u64 ((r4.2 + y3 + (0 : Int)) / 18446744073709551616)] [(27, .tp [vk .u64 ((r4.2 + y3 + (0 : Int)) % 18446744073709551616), vk .u64 ((r4.2 + y3 + (0 : Int)) / 18446744073709551616)]), (1, vk .u64 p2), (2, .one (.pt 0 0 0 0)), (4, .one (.pt 1 0 0 0)), (8, vk .u64 r4.1), (12, .ag [ck .u64 p1.size.1, ck .u64 p1.size.2.1, ck .u64 p1.size.2.2.1, ck .u64 p1.size.2.2.2]), (13, vi (3 : Int)), (24, vi (3 : Int)), (25, vk .u64 r4.2), (26, vk .u64 y3)] (by kernel_rfl) (ext_Add64 (fn := Try.f112) (by kernel_rfl) (by kernel_rfl) (by kernel_rfl) (by kernel_rfl) (by kernel_rfl) g43.1 g43.2.1 g43.2.2.1 g43.2.2.2) rfl (by kernel_rfl) ?_
  refine XO.go [2, 4] 7 [1,2,4,8,10,12,13] [] [(1, vk .u64 p2), (2, .one (.pt 0 0 0 0)), (4, .one (.pt 1 0 0 0)), (8, vk .u64 r4.1), (10, vk .u64 ((r4.2 + y3 + (0 : Int)) / 18446744073709551616)), (12, .ag [ck .u64 p1.size.1, ck .u64 p1.size.2.1, ck .u64 p1.size.2.2.1, ck .u64 p1.size.2.2.2]), (13, vi (3 : Int))] [.box [cb p1.neg, ck .u64 ((r1.2 + (0 : Int) + (0 : Int)) % 18446744073709551616), ck .u64 ((r2.2 + y1 + (0 : Int)) % 18446744073709551616), ck .u64 ((r3.2 + y2 + (0 : Int)) % 18446744073709551616), ck .u64 ((r4.2 + y3 + (0 : Int)) % 18446744073709551616)], .box [cb false, ck .u64 (0 : Int), ck .u64 (0 : Int), ck .u64 (0 : Int), ck .u64 (0 : Int)]] [0 ≤ (3 : Int) ∧ (3 : Int) < 4] (by kernel_rfl) (⟨by decide, trivial⟩) ?_
  refine XO.done (by kernel_rfl) ?_
  refine hK42 _ _ ?_
  obtain ⟨y4, y44, h⟩ := bnd_some h
  refine XW.reg (by kernel_rfl) ?_
  refine XO.go [2, 4] 3 [1,2,4,12,13,34] [] [(1, vk .u64 p2), (2, .one (.pt 0 0 0 0)), (4, .one (.pt 1 0 0 0)), (12, .ag [ck .u64 p1.size.1, ck .u64 p1.size.2.1, ck .u64 p1.size.2.2.1, ck .u64 p1.size.2.2.2]), (13, vi (3 : Int)), (34, vk .u64 (IntKind.u64.wrap (r4.1 + ((r4.2 + y3 + (0 : Int)) / 18446744073709551616))))] [.box [cb p1.neg, ck .u64 ((r1.2 + (0 : Int) + (0 : Int)) % 18446744073709551616), ck .u64 ((r2.2 + y1 + (0 : Int)) % 18446744073709551616), ck .u64 ((r3.2 + y2 + (0 : Int)) % 18446744073709551616), ck .u64 ((r4.2 + y3 + (0 : Int)) % 18446744073709551616)], .box [cb false, ck .u64 (0 : Int), ck .u64 (0 : Int), ck .u64 (0 : Int), ck .u64 (0 : Int)]] [] (by kernel_rfl) trivial ?_
  rw [show (IntKind.u64.wrap (r4.1 + ((r4.2 + y3 + (0 : Int)) / 18446744073709551616))) = y4 from Option.some.inj y44]
  refine XO.go [2, 4] 1 [1,2,4,5,12,13] [] [(1, vk .u64 p2), (2, .one (.pt 0 0 0 0)), (4, .one (.pt 1 0 0 0)), (5, vk .u64 y4), (12, .ag [ck .u64 p1.size.1, ck .u64 p1.size.2.1, ck .u64 p1.size.2.2.1, ck .u64 p1.size.2.2.2]), (13, vi (3 : Int))] [.box [cb p1.neg, ck .u64 ((r1.2 + (0 : Int) + (0 : Int)) % 18446744073709551616), ck .u64 ((r2.2 + y1 + (0 : Int)) % 18446744073709551616), ck .u64 ((r3.2 + y2 + (0 : Int)) % 18446744073709551616), ck .u64 ((r4.2 + y3 + (0 : Int)) % 18446744073709551616)], .box [cb false, ck .u64 (0 : Int), ck .u64 (0 : Int), ck .u64 (0 : Int), ck .u64 (0 : Int)]] [] (by kernel_rfl) trivial ?_
  refine XO.done (by kernel_rfl) ?_
  refine hK37 _ _ ?_
  refine XW.reg (by kernel_rfl) ?_
  refine XO.go [2, 4] 2 [1,2,4,5,12,13] [] [(1, vk .u64 p2), (2, .one (.pt 0 0 0 0)), (4, .one (.pt 1 0 0 0)), (5, vk .u64 y4), (12, .ag [ck .u64 p1.size.1, ck .u64 p1.size.2.1, ck .u64 p1.size.2.2.1, ck .u64 p1.size.2.2.2]), (13, vi (4 : Int))] [.box [cb p1.neg, ck .u64 ((r1.2 + (0 : Int) + (0 : Int)) % 18446744073709551616), ck .u64 ((r2.2 + y1 + (0 : Int)) % 18446744073709551616), ck .u64 ((r3.2 + y2 + (0 : Int)) % 18446744073709551616), ck .u64 ((r4.2 + y3 + (0 : Int)) % 18446744073709551616)], .box [cb false, ck .u64 (0 : Int), ck .u64 (0 : Int), ck .u64 (0 : Int), ck .u64 (0 : Int)]] [] (by kernel_rfl) trivial ?_
  refine XO.done (by kernel_rfl) ?_
  refine XR.one ?_
  refine XW.seq (x := cd Try.f99 [1,1,0,1,0,0,0]) (y := cd Try.f99 [1,1,0,1,0,0,1]) (by kernel_rfl) fun K45 hK45 => ?_
  refine XW.reg (by kernel_rfl) ?_
  refine XO.go [2, 4] 1 [1,2,4,5,12,13,14] [] [(1, vk .u64 p2), (2, .one (.pt 0 0 0 0)), (4, .one (.pt 1 0 0 0)), (5, vk .u64 y4), (12, .ag [ck .u64 p1.size.1, ck .u64 p1.size.2.1, ck .u64 p1.size.2.2.1, ck .u64 p1.size.2.2.2]), (13, vi (4 : Int)), (14, vb false)] [.box [cb p1.neg, ck .u64 ((r1.2 + (0 : Int) + (0 : Int)) % 18446744073709551616), ck .u64 ((r2.2 + y1 + (0 : Int)) % 18446744073709551616), ck .u64 ((r3.2 + y2 + (0 : Int)) % 18446744073709551616), ck .u64 ((r4.2 + y3 + (0 : Int)) % 18446744073709551616)], .box [cb false, ck .u64 (0 : Int), ck .u64 (0 : Int), ck .u64 (0 : Int), ck .u64 (0 : Int)]] [] (by kernel_rfl) trivial ?_
  refine XO.done (by kernel_rfl) ?_
  refine hK45 _ _ ?_
  refine XW.seq (x := cd Try.f99 [1,1,0,1,0,0,1,0]) (y := cd Try.f99 [1,1,0,1,0,0,1,1]) (by kernel_rfl) fun K46 hK46 => ?_
  refine XW.cond (x := .tmp 14) (a := cd Try.f99 [1,1,0,1,0,0,1,0,0]) (b := cd Try.f99 [1,1,0,1,0,0,1,0,1]) (t := false) (by kernel_rfl) (by kernel_rfl) (fun hx => by cases hx) (fun _ => ?_)
  refine XW.exit (id := 0) (by kernel_rfl) ?_
  refine hQ1 _ _ _ ?_
  refine hK3 _ _ ?_
  refine XW.seq (x := cd Try.f99 [1,1,1,0]) (y := cd Try.f99 [1,1,1,1]) (by kernel_rfl) fun K47 hK47 => ?_
  refine XW.reg (by kernel_rfl) ?_
  refine XO.go [2, 4] 2 [4] [] [(4, .one (.pt 1 0 0 0))] [.box [cb p1.neg, ck .u64 ((r1.2 + (0 : Int) + (0 : Int)) % 18446744073709551616), ck .u64 ((r2.2 + y1 + (0 : Int)) % 18446744073709551616), ck .u64 ((r3.2 + y2 + (0 : Int)) % 18446744073709551616), ck .u64 ((r4.2 + y3 + (0 : Int)) % 18446744073709551616)], .box [cb p1.neg, ck .u64 ((r1.2 + (0 : Int) + (0 : Int)) % 18446744073709551616), ck .u64 ((r2.2 + y1 + (0 : Int)) % 18446744073709551616), ck .u64 ((r3.2 + y2 + (0 : Int)) % 18446744073709551616), ck .u64 ((r4.2 + y3 + (0 : Int)) % 18446744073709551616)]] [] (by kernel_rfl) trivial ?_
  refine XO.done (by kernel_rfl) ?_
  refine hK47 _ _ ?_
  refine XW.ret (by kernel_rfl) ?_
  obtain rfl := Option.some.inj h
  exact FinP.fin (.inr rfl) [] [.ag [cb p1.neg, ck .u64 ((r1.2 + (0 : Int) + (0 : Int)) % 18446744073709551616), ck .u64 ((r2.2 + y1 + (0 : Int)) % 18446744073709551616), ck .u64 ((r3.2 + y2 + (0 : Int)) % 18446744073709551616), ck .u64 ((r4.2 + y3 + (0 : Int)) % 18446744073709551616)]] [] (by kernel_rfl) trivial (.ag (.cons (.rfl _ rfl) (.cons (.rfl _ rfl) (.cons (.rfl _ rfl) (.cons (.rfl _ rfl) (.cons (.rfl _ rfl) .nil))))))

def value_wide_shifted_j1 (b6 : Bool) (b7 : Int) (b8 : Int) (b9 : Int) (b10 : Int) : Option GWide :=
    some (GWide.mk b6 (b7, b8, b9, b10))

def value_wide_shifted_l1 (p2 : Int) : Nat → Bool → Int → Int → Int → Int → Int → Option GWide
  | 0, _, _, _, _, _, _ => none
  | k1 + 1, b1, b2, b3, b4, b5, x1 =>
    ift (decide (x1 < p2))
      (bnd (value_wide_times (GWide.mk b1 (b2, b3, b4, b5)) (10 : Int)) fun r1 =>
       (value_wide_shifted_l1 p2 k1) r1.neg r1.size.1 r1.size.2.1 r1.size.2.2.1 r1.size.2.2.2 (IntKind.i64.wrap (x1 + (1 : Int))))
      (value_wide_shifted_j1 b1 b2 b3 b4 b5)

def value_wide_shifted (p1 : GWide) (p2 : Int) : Option GWide :=
    value_wide_shifted_l1 p2 BIG p1.neg p1.size.1 p1.size.2.1 p1.size.2.2.1 p1.size.2.2.2 (0 : Int)


theorem c_value_wide_shifted (p1 : GWide) (p2 : Int) (r : GWide) (h : value_wide_shifted p1 p2 = some r) : PC Try.prog 84 [.ag [cb p1.neg, ck .u64 p1.size.1, ck .u64 p1.size.2.1, ck .u64 p1.size.2.2.1, ck .u64 p1.size.2.2.2], vi p2] (.ag [cb r.neg, ck .u64 r.size.1, ck .u64 r.size.2.1, ck .u64 r.size.2.2.1, ck .u64 r.size.2.2.2]) := by
  unfold value_wide_shifted at h
  refine PC.of (n := 12) (fn := Try.f84) (c := cd Try.f84 []) (by kernel_rfl) (by kernel_rfl) (by kernel_rfl) (Nat.le_of_ble_eq_true rfl) ?_
  refine XW.seq (x := cd Try.f84 [0]) (y := cd Try.f84 [1]) (by kernel_rfl) fun K1 hK1 => ?_
  refine XW.reg (by kernel_rfl) ?_
  refine XO.go [2, 4] 2 [1,2,4] [] [(1, vi p2), (2, .one (.pt 0 0 0 0)), (4, .one (.pt 1 0 0 0))] [.box [cb p1.neg, ck .u64 p1.size.1, ck .u64 p1.size.2.1, ck .u64 p1.size.2.2.1, ck .u64 p1.size.2.2.2], .box [cb false, ck .u64 (0 : Int), ck .u64 (0 : Int), ck .u64 (0 : Int), ck .u64 (0 : Int)]] [] (by kernel_rfl) trivial ?_
  refine XO.done (by kernel_rfl) ?_
  refine hK1 _ _ ?_
  refine XW.seq (x := cd Try.f84 [1,0]) (y := cd Try.f84 [1,1]) (by kernel_rfl) fun K2 hK2 => ?_
  have hJ1 : ∀ (b6 : Bool) (b7 : Int) (b8 : Int) (b9 : Int) (b10 : Int), value_wide_shifted_j1 b6 b7 b8 b9 b10 = some r → ∀ fr1 st1, Sub 12 0 [] fr1 st1 [(2, .one (.pt 0 0 0 0)), (4, .one (.pt 1 0 0 0))] [.box [cb b6, ck .u64 b7, ck .u64 b8, ck .u64 b9, ck .u64 b10], .box [cb false, ck .u64 (0 : Int), ck .u64 (0 : Int), ck .u64 (0 : Int), ck .u64 (0 : Int)]] → K2 fr1 st1 := by
    intro b6 b7 b8 b9 b10 h fr1 st1 hS
    unfold value_wide_shifted_j1 at h
    refine hK2 _ _ (XW.sub hS ?_)
    refine XW.seq (x := cd Try.f84 [1,1,0]) (y := cd Try.f84 [1,1,1]) (by kernel_rfl) fun K9 hK9 => ?_
    refine XW.reg (by kernel_rfl) ?_
    refine XO.go [2, 4] 2 [4] [] [(4, .one (.pt 1 0 0 0))] [.box [cb b6, ck .u64 b7, ck .u64 b8, ck .u64 b9, ck .u64 b10], .box [cb b6, ck .u64 b7, ck .u64 b8, ck .u64 b9, ck .u64 b10]] [] (by kernel_rfl) trivial ?_
    refine XO.done (by kernel_rfl) ?_
    refine hK9 _ _ ?_
    refine XW.ret (by kernel_rfl) ?_
    obtain rfl := Option.some.inj h
    exact FinP.fin (.inr rfl) [] [.ag [cb b6, ck .u64 b7, ck .u64 b8, ck .u64 b9, ck .u64 b10]] [] (by kernel_rfl) trivial (.ag (.cons (.rfl _ rfl) (.cons (.rfl _ rfl) (.cons (.rfl _ rfl) (.cons (.rfl _ rfl) (.cons (.rfl _ rfl) .nil))))))
  refine XW.seq (x := cd Try.f84 [1,0,0]) (y := cd Try.f84 [1,0,1]) (by kernel_rfl) fun K3 hK3 => ?_
  refine XW.reg (by kernel_rfl) ?_
  refine XO.go [2, 4] 2 [2,4,5,6] [] [(2, .one (.pt 0 0 0 0)), (4, .one (.pt 1 0 0 0)), (5, vi p2), (6, vi (0 : Int))] [.box [cb p1.neg, ck .u64 p1.size.1, ck .u64 p1.size.2.1, ck .u64 p1.size.2.2.1, ck .u64 p1.size.2.2.2], .box [cb false, ck .u64 (0 : Int), ck .u64 (0 : Int), ck .u64 (0 : Int), ck .u64 (0 : Int)]] [] (by kernel_rfl) trivial ?_
  refine XO.done (by kernel_rfl) ?_
  refine hK3 _ _ ?_
  refine XW.block (id := 0) (x := cd Try.f84 [1,0,1,0]) (by kernel_rfl) ?_
  refine XW.rounds' BIG (x := cd Try.f84 [1,0,1,0,0]) (by kernel_rfl) fun Q1 hQ1 => ?_
  have hL1 : ∀ (k1 : Nat) (b1 : Bool) (b2 : Int) (b3 : Int) (b4 : Int) (b5 : Int) (x1 : Int), value_wide_shifted_l1 p2 k1 b1 b2 b3 b4 b5 x1 = some r → XR Try.prog 12 0 [] (cd Try.f84 [1,0,1,0,0]) Q1 k1 [(2, .one (.pt 0 0 0 0)), (4, .one (.pt 1 0 0 0)), (5, vi p2), (6, vi x1)] [.box [cb b1, ck .u64 b2, ck .u64 b3, ck .u64 b4, ck .u64 b5], .box [cb false, ck .u64 (0 : Int), ck .u64 (0 : Int), ck .u64 (0 : Int), ck .u64 (0 : Int)]] := by
    intro k1
    induction k1 with
    | zero => intro b1 b2 b3 b4 b5 x1 h; rw [value_wide_shifted_l1.eq_1] at h; cases h
    | succ k1 ih1 =>
      intro b1 b2 b3 b4 b5 x1 h
      rw [value_wide_shifted_l1.eq_2] at h
      refine XW.seq (x := cd Try.f84 [1,0,1,0,0,0]) (y := cd Try.f84 [1,0,1,0,0,1]) (by kernel_rfl) fun K4 hK4 => ?_
      refine XW.reg (by kernel_rfl) ?_
      refine XO.go [2, 4] 1 [2,4,5,6,7] [] [(2, .one (.pt 0 0 0 0)), (4, .one (.pt 1 0 0 0)), (5, vi p2), (6, vi x1), (7, vb (decide (x1 < p2)))] [.box [cb b1, ck .u64 b2, ck .u64 b3, ck .u64 b4, ck .u64 b5], .box [cb false, ck .u64 (0 : Int), ck .u64 (0 : Int), ck .u64 (0 : Int), ck .u64 (0 : Int)]] [] (by kernel_rfl) trivial ?_
      refine XO.done (by kernel_rfl) ?_
      refine hK4 _ _ ?_
      refine XW.seq (x := cd Try.f84 [1,0,1,0,0,1,0]) (y := cd Try.f84 [1,0,1,0,0,1,1]) (by kernel_rfl) fun K5 hK5 => ?_
      refine XW.cond (x := .tmp 7) (a := cd Try.f84 [1,0,1,0,0,1,0,0]) (b := cd Try.f84 [1,0,1,0,0,1,0,1]) (t := (decide (x1 < p2))) (by kernel_rfl) (by kernel_rfl) (fun b6 => ?_) (fun b6 => ?_)
      · have h := ift_t b6 h
        refine XW.skip (by kernel_rfl) ?_
        refine hK5 _ _ ?_
        refine XW.seq (x := cd Try.f84 [1,0,1,0,0,1,1,0]) (y := cd Try.f84 [1,0,1,0,0,1,1,1]) (by kernel_rfl) fun K7 hK7 => ?_
        refine XW.block (id := 1) (x := cd Try.f84 [1,0,1,0,0,1,1,0,0]) (by kernel_rfl) ?_
        obtain ⟨r1, c8, h⟩ := bnd_some h
        refine XW.reg (by kernel_rfl) ?_
        refine XO.go [2, 4] 1 [2,4,5,6,8] [] [(2, .one (.pt 0 0 0 0)), (4, .one (.pt 1 0 0 0)), (5, vi p2), (6, vi x1), (8, .ag [cb b1, ck .u64 b2, ck .u64 b3, ck .u64 b4, ck .u64 b5])] [.box [cb b1, ck .u64 b2, ck .u64 b3, ck .u64 b4, ck .u64 b5], .box [cb false, ck .u64 (0 : Int), ck .u64 (0 : Int), ck .u64 (0 : Int), ck .u64 (0 : Int)]] [] (by kernel_rfl) trivial ?_
        refine XO.cal 99 [.ag [cb b1, ck .u64 b2, ck .u64 b3, ck .u64 b4, ck .u64 b5], vk .u64 (10 : Int)] (.ag [cb r1.neg, ck .u64 r1.size.1, ck .u64 r1.size.2.1, ck .u64 r1.size.2.2.1, ck .u64 r1.size.2.2.2]) [(9, .ag [cb r1.neg, ck .u64 r1.size.1, ck .u64 r1.size.2.1, ck .u64 r1.size.2.2.1, ck .u64 r1.size.2.2.2]), (2, .one (.pt 0 0 0 0)), (4, .one (.pt 1 0 0 0)), (5, vi p2), (6, vi x1), (8, .ag [cb b1, ck .u64 b2, ck .u64 b3, ck .u64 b4, ck .u64 b5])] (by kernel_rfl) (c_value_wide_times _ _ _ c8) rfl rfl (by kernel_rfl) ?_
        refine XO.go [2, 4] 1 [2,4,5,6] [] [(2, .one (.pt 0 0 0 0)), (4, .one (.pt 1 0 0 0)), (5, vi p2), (6, vi x1)] [.box [cb r1.neg, ck .u64 r1.size.1, ck .u64 r1.size.2.1, ck .u64 r1.size.2.2.1, ck .u64 r1.size.2.2.2], .box [cb false, ck .u64 (0 : Int), ck .u64 (0 : Int), ck .u64 (0 : Int), ck .u64 (0 : Int)]] [] (by kernel_rfl) trivial ?_
        refine XO.done (by kernel_rfl) ?_
        refine hK7 _ _ ?_
        refine XW.reg (by kernel_rfl) ?_
        refine XO.go [2, 4] 2 [2,4,5,6] [] [(2, .one (.pt 0 0 0 0)), (4, .one (.pt 1 0 0 0)), (5, vi p2), (6, vi (IntKind.i64.wrap (x1 + (1 : Int))))] [.box [cb r1.neg, ck .u64 r1.size.1, ck .u64 r1.size.2.1, ck .u64 r1.size.2.2.1, ck .u64 r1.size.2.2.2], .box [cb false, ck .u64 (0 : Int), ck .u64 (0 : Int), ck .u64 (0 : Int), ck .u64 (0 : Int)]] [] (by kernel_rfl) trivial ?_
        refine XO.done (by kernel_rfl) ?_
        exact XR.sub (Sub.pick [2,4,5,6] (by kernel_rfl)) (ih1 r1.neg r1.size.1 r1.size.2.1 r1.size.2.2.1 r1.size.2.2.2 (IntKind.i64.wrap (x1 + (1 : Int))) h)
      · have h := ift_f b6 h
        refine XW.exit (id := 0) (by kernel_rfl) ?_
        refine hQ1 _ _ _ ?_
        exact hJ1 b1 b2 b3 b4 b5 h _ _ (Sub.pick [2,4] (by kernel_rfl))
  exact XR.sub (Sub.pick [2,4,5,6] (by kernel_rfl)) (hL1 BIG p1.neg p1.size.1 p1.size.2.1 p1.size.2.2.1 p1.size.2.2.2 (0 : Int) h)

def value_scaled (p1 : Int) (p2 : Int) : Option GWide :=
    bnd (value_whole p1) fun r1 =>
    bnd (value_wide_shifted (GWide.mk r1.neg (r1.size.1, r1.size.2.1, r1.size.2.2.1, r1.size.2.2.2)) p2) fun r2 =>
    some (GWide.mk r2.neg (r2.size.1, r2.size.2.1, r2.size.2.2.1, r2.size.2.2.2))


theorem c_value_scaled (p1 : Int) (p2 : Int) (r : GWide) (h : value_scaled p1 p2 = some r) : PC Try.prog 51 [vi p1, vi p2] (.ag [cb r.neg, ck .u64 r.size.1, ck .u64 r.size.2.1, ck .u64 r.size.2.2.1, ck .u64 r.size.2.2.2]) := by
  unfold value_scaled at h
  refine PC.of (n := 9) (fn := Try.f51) (c := cd Try.f51 []) (by kernel_rfl) (by kernel_rfl) (by kernel_rfl) (Nat.le_of_ble_eq_true rfl) ?_
  refine XW.seq (x := cd Try.f51 [0]) (y := cd Try.f51 [1]) (by kernel_rfl) fun K1 hK1 => ?_
  refine XW.reg (by kernel_rfl) ?_
  refine XO.go [4] 1 [0,1,4] [] [(0, vi p1), (1, vi p2), (4, .one (.pt 0 0 0 0))] [.box [cb false, ck .u64 (0 : Int), ck .u64 (0 : Int), ck .u64 (0 : Int), ck .u64 (0 : Int)]] [] (by kernel_rfl) trivial ?_
  refine XO.done (by kernel_rfl) ?_
  refine hK1 _ _ ?_
  refine XW.seq (x := cd Try.f51 [1,0]) (y := cd Try.f51 [1,1]) (by kernel_rfl) fun K2 hK2 => ?_
  obtain ⟨r1, c3, h⟩ := bnd_some h
  obtain ⟨r2, c4, h⟩ := bnd_some h
  refine XW.reg (by kernel_rfl) ?_
  refine XO.go [4] 1 [1,4,5] [] [(1, vi p2), (4, .one (.pt 0 0 0 0)), (5, vi p1)] [.box [cb false, ck .u64 (0 : Int), ck .u64 (0 : Int), ck .u64 (0 : Int), ck .u64 (0 : Int)]] [] (by kernel_rfl) trivial ?_
  refine XO.cal 83 [vi p1] (.ag [cb r1.neg, ck .u64 r1.size.1, ck .u64 r1.size.2.1, ck .u64 r1.size.2.2.1, ck .u64 r1.size.2.2.2]) [(6, .ag [cb r1.neg, ck .u64 r1.size.1, ck .u64 r1.size.2.1, ck .u64 r1.size.2.2.1, ck .u64 r1.size.2.2.2]), (1, vi p2), (4, .one (.pt 0 0 0 0)), (5, vi p1)] (by kernel_rfl) (c_value_whole _ _ c3) rfl rfl (by kernel_rfl) ?_
  refine XO.go [4] 1 [4,6,7] [] [(4, .one (.pt 0 0 0 0)), (6, .ag [cb r1.neg, ck .u64 r1.size.1, ck .u64 r1.size.2.1, ck .u64 r1.size.2.2.1, ck .u64 r1.size.2.2.2]), (7, vi p2)] [.box [cb false, ck .u64 (0 : Int), ck .u64 (0 : Int), ck .u64 (0 : Int), ck .u64 (0 : Int)]] [] (by kernel_rfl) trivial ?_
  refine XO.cal 84 [.ag [cb r1.neg, ck .u64 r1.size.1, ck .u64 r1.size.2.1, ck .u64 r1.size.2.2.1, ck .u64 r1.size.2.2.2], vi p2] (.ag [cb r2.neg, ck .u64 r2.size.1, ck .u64 r2.size.2.1, ck .u64 r2.size.2.2.1, ck .u64 r2.size.2.2.2]) [(8, .ag [cb r2.neg, ck .u64 r2.size.1, ck .u64 r2.size.2.1, ck .u64 r2.size.2.2.1, ck .u64 r2.size.2.2.2]), (4, .one (.pt 0 0 0 0)), (6, .ag [cb r1.neg, ck .u64 r1.size.1, ck .u64 r1.size.2.1, ck .u64 r1.size.2.2.1, ck .u64 r1.size.2.2.2]), (7, vi p2)] (by kernel_rfl) (c_value_wide_shifted _ _ _ c4) rfl rfl (by kernel_rfl) ?_
  refine XO.go [4] 1 [4] [] [(4, .one (.pt 0 0 0 0))] [.box [cb r2.neg, ck .u64 r2.size.1, ck .u64 r2.size.2.1, ck .u64 r2.size.2.2.1, ck .u64 r2.size.2.2.2]] [] (by kernel_rfl) trivial ?_
  refine XO.done (by kernel_rfl) ?_
  refine hK2 _ _ ?_
  refine XW.ret (by kernel_rfl) ?_
  obtain rfl := Option.some.inj h
  exact FinP.fin (.inr rfl) [] [.ag [cb r2.neg, ck .u64 r2.size.1, ck .u64 r2.size.2.1, ck .u64 r2.size.2.2.1, ck .u64 r2.size.2.2.2]] [] (by kernel_rfl) trivial (.ag (.cons (.rfl _ rfl) (.cons (.rfl _ rfl) (.cons (.rfl _ rfl) (.cons (.rfl _ rfl) (.cons (.rfl _ rfl) .nil))))))

def value_wide_negated (p1 : GWide) : Option GWide :=
    some (GWide.mk (!p1.neg) (p1.size.1, p1.size.2.1, p1.size.2.2.1, p1.size.2.2.2))


theorem c_value_wide_negated (p1 : GWide) (r : GWide) (h : value_wide_negated p1 = some r) : PC Try.prog 101 [.ag [cb p1.neg, ck .u64 p1.size.1, ck .u64 p1.size.2.1, ck .u64 p1.size.2.2.1, ck .u64 p1.size.2.2.2]] (.ag [cb r.neg, ck .u64 r.size.1, ck .u64 r.size.2.1, ck .u64 r.size.2.2.1, ck .u64 r.size.2.2.2]) := by
  unfold value_wide_negated at h
  refine PC.of (n := 8) (fn := Try.f101) (c := cd Try.f101 []) (by kernel_rfl) (by kernel_rfl) (by kernel_rfl) (Nat.le_of_ble_eq_true rfl) ?_
  refine XW.seq (x := cd Try.f101 [0]) (y := cd Try.f101 [1]) (by kernel_rfl) fun K1 hK1 => ?_
  refine XW.reg (by kernel_rfl) ?_
  refine XO.go [1, 2] 2 [1,2] [] [(1, .one (.pt 0 0 0 0)), (2, .one (.pt 1 0 0 0))] [.box [cb p1.neg, ck .u64 p1.size.1, ck .u64 p1.size.2.1, ck .u64 p1.size.2.2.1, ck .u64 p1.size.2.2.2], .box [cb false, ck .u64 (0 : Int), ck .u64 (0 : Int), ck .u64 (0 : Int), ck .u64 (0 : Int)]] [] (by kernel_rfl) trivial ?_
  refine XO.done (by kernel_rfl) ?_
  refine hK1 _ _ ?_
  refine XW.seq (x := cd Try.f101 [1,0]) (y := cd Try.f101 [1,1]) (by kernel_rfl) fun K2 hK2 => ?_
  refine XW.reg (by kernel_rfl) ?_
  refine XO.go [1, 2] 5 [1,2] [] [(1, .one (.pt 0 0 0 0)), (2, .one (.pt 1 0 0 0))] [.box [cb (!p1.neg), ck .u64 p1.size.1, ck .u64 p1.size.2.1, ck .u64 p1.size.2.2.1, ck .u64 p1.size.2.2.2], .box [cb false, ck .u64 (0 : Int), ck .u64 (0 : Int), ck .u64 (0 : Int), ck .u64 (0 : Int)]] [] (by kernel_rfl) trivial ?_
  refine XO.done (by kernel_rfl) ?_
  refine hK2 _ _ ?_
  refine XW.seq (x := cd Try.f101 [1,1,0]) (y := cd Try.f101 [1,1,1]) (by kernel_rfl) fun K3 hK3 => ?_
  refine XW.reg (by kernel_rfl) ?_
  refine XO.go [1, 2] 2 [2] [] [(2, .one (.pt 1 0 0 0))] [.box [cb (!p1.neg), ck .u64 p1.size.1, ck .u64 p1.size.2.1, ck .u64 p1.size.2.2.1, ck .u64 p1.size.2.2.2], .box [cb (!p1.neg), ck .u64 p1.size.1, ck .u64 p1.size.2.1, ck .u64 p1.size.2.2.1, ck .u64 p1.size.2.2.2]] [] (by kernel_rfl) trivial ?_
  refine XO.done (by kernel_rfl) ?_
  refine hK3 _ _ ?_
  refine XW.ret (by kernel_rfl) ?_
  obtain rfl := Option.some.inj h
  exact FinP.fin (.inr rfl) [] [.ag [cb (!p1.neg), ck .u64 p1.size.1, ck .u64 p1.size.2.1, ck .u64 p1.size.2.2.1, ck .u64 p1.size.2.2.2]] [] (by kernel_rfl) trivial (.ag (.cons (.rfl _ rfl) (.cons (.rfl _ rfl) (.cons (.rfl _ rfl) (.cons (.rfl _ rfl) (.cons (.rfl _ rfl) .nil))))))

def value_compareSize (p1 : GWide) (p2 : GWide) : Option Int :=
    ift (decide (p1.size.2.2.2 < p2.size.2.2.2))
      (some (-1 : Int))
      (ift (decide (p2.size.2.2.2 < p1.size.2.2.2))
         (some (1 : Int))
         (ift (decide (p1.size.2.2.1 < p2.size.2.2.1))
            (some (-1 : Int))
            (ift (decide (p2.size.2.2.1 < p1.size.2.2.1))
               (some (1 : Int))
               (ift (decide (p1.size.2.1 < p2.size.2.1))
                  (some (-1 : Int))
                  (ift (decide (p2.size.2.1 < p1.size.2.1))
                     (some (1 : Int))
                     (ift (decide (p1.size.1 < p2.size.1))
                        (some (-1 : Int))
                        (ift (decide (p2.size.1 < p1.size.1))
                           (some (1 : Int))
                           (some (0 : Int)))))))))


theorem c_value_compareSize (p1 : GWide) (p2 : GWide) (r : Int) (h : value_compareSize p1 p2 = some r) : PC Try.prog 102 [.ag [cb p1.neg, ck .u64 p1.size.1, ck .u64 p1.size.2.1, ck .u64 p1.size.2.2.1, ck .u64 p1.size.2.2.2], .ag [cb p2.neg, ck .u64 p2.size.1, ck .u64 p2.size.2.1, ck .u64 p2.size.2.2.1, ck .u64 p2.size.2.2.2]] (vi r) := by
  unfold value_compareSize at h
  refine PC.of (n := 30) (fn := Try.f102) (c := cd Try.f102 []) (by kernel_rfl) (by kernel_rfl) (by kernel_rfl) (Nat.le_of_ble_eq_true rfl) ?_
  refine XW.seq (x := cd Try.f102 [0]) (y := cd Try.f102 [1]) (by kernel_rfl) fun K1 hK1 => ?_
  refine XW.reg (by kernel_rfl) ?_
  refine XO.go [] 3 [2,3] [] [(2, .one (.pv (.rp [[.s (.bool p1.neg), .s (.int .u64 p1.size.1), .s (.int .u64 p1.size.2.1), .s (.int .u64 p1.size.2.2.1), .s (.int .u64 p1.size.2.2.2)]] 0 0))), (3, .one (.pv (.rp [[.s (.bool p2.neg), .s (.int .u64 p2.size.1), .s (.int .u64 p2.size.2.1), .s (.int .u64 p2.size.2.2.1), .s (.int .u64 p2.size.2.2.2)]] 0 0)))] [] [] (by kernel_rfl) trivial ?_
  refine XO.done (by kernel_rfl) ?_
  refine hK1 _ _ ?_
  refine XW.seq (x := cd Try.f102 [1,0]) (y := cd Try.f102 [1,1]) (by kernel_rfl) fun K2 hK2 => ?_
  refine XW.seq (x := cd Try.f102 [1,0,0]) (y := cd Try.f102 [1,0,1]) (by kernel_rfl) fun K3 hK3 => ?_
  refine XW.reg (by kernel_rfl) ?_
  refine XO.go [] 1 [2,3,5] [] [(2, .one (.pv (.rp [[.s (.bool p1.neg), .s (.int .u64 p1.size.1), .s (.int .u64 p1.size.2.1), .s (.int .u64 p1.size.2.2.1), .s (.int .u64 p1.size.2.2.2)]] 0 0))), (3, .one (.pv (.rp [[.s (.bool p2.neg), .s (.int .u64 p2.size.1), .s (.int .u64 p2.size.2.1), .s (.int .u64 p2.size.2.2.1), .s (.int .u64 p2.size.2.2.2)]] 0 0))), (5, vi (3 : Int))] [] [] (by kernel_rfl) trivial ?_
  refine XO.done (by kernel_rfl) ?_
  refine hK3 _ _ ?_
  refine XW.block (id := 0) (x := cd Try.f102 [1,0,1,0]) (by kernel_rfl) ?_
  refine XW.rounds' 5 (x := cd Try.f102 [1,0,1,0,0]) (by kernel_rfl) fun Q1 hQ1 => ?_
  refine XR.one ?_
  refine XW.seq (x := cd Try.f102 [1,0,1,0,0,0]) (y := cd Try.f102 [1,0,1,0,0,1]) (by kernel_rfl) fun K4 hK4 => ?_
  refine XW.seq (x := cd Try.f102 [1,0,1,0,0,0,0]) (y := cd Try.f102 [1,0,1,0,0,0,1]) (by kernel_rfl) fun K5 hK5 => ?_
  refine XW.reg (by kernel_rfl) ?_
  refine XO.go [] 2 [2,3,5,7] [] [(2, .one (.pv (.rp [[.s (.bool p1.neg), .s (.int .u64 p1.size.1), .s (.int .u64 p1.size.2.1), .s (.int .u64 p1.size.2.2.1), .s (.int .u64 p1.size.2.2.2)]] 0 0))), (3, .one (.pv (.rp [[.s (.bool p2.neg), .s (.int .u64 p2.size.1), .s (.int .u64 p2.size.2.1), .s (.int .u64 p2.size.2.2.1), .s (.int .u64 p2.size.2.2.2)]] 0 0))), (5, vi (3 : Int)), (7, vb true)] [] [] (by kernel_rfl) trivial ?_
  refine XO.done (by kernel_rfl) ?_
  refine hK5 _ _ ?_
  refine XW.cond (x := .tmp 7) (a := cd Try.f102 [1,0,1,0,0,0,1,0]) (b := cd Try.f102 [1,0,1,0,0,0,1,1]) (t := true) (by kernel_rfl) (by kernel_rfl) (fun _ => ?_) (fun hx => by cases hx)
  refine XW.skip (by kernel_rfl) ?_
  refine hK4 _ _ ?_
  refine XW.seq (x := cd Try.f102 [1,0,1,0,0,1,0]) (y := cd Try.f102 [1,0,1,0,0,1,1]) (by kernel_rfl) fun K6 hK6 => ?_
  refine XW.block (id := 1) (x := cd Try.f102 [1,0,1,0,0,1,0,0]) (by kernel_rfl) ?_
  refine XW.block (id := 2) (x := cd Try.f102 [1,0,1,0,0,1,0,0,0]) (by kernel_rfl) ?_
  refine XW.seq (x := cd Try.f102 [1,0,1,0,0,1,0,0,0,0]) (y := cd Try.f102 [1,0,1,0,0,1,0,0,0,1]) (by kernel_rfl) fun K7 hK7 => ?_
  refine XW.drwS 8 [(18, vk .u64 p2.size.2.2.2), (17, .one (.pv (.rp [[.s (.bool p2.neg), .s (.int .u64 p2.size.1), .s (.int .u64 p2.size.2.1), .s (.int .u64 p2.size.2.2.1), .s (.int .u64 p2.size.2.2.2)]] 0 4))), (16, .one (.pv (.rp [[.s (.bool p2.neg), .s (.int .u64 p2.size.1), .s (.int .u64 p2.size.2.1), .s (.int .u64 p2.size.2.2.1), .s (.int .u64 p2.size.2.2.2)]] 0 1))), (15, vi (3 : Int)), (14, vk .u64 p1.size.2.2.2), (13, .one (.pv (.rp [[.s (.bool p1.neg), .s (.int .u64 p1.size.1), .s (.int .u64 p1.size.2.1), .s (.int .u64 p1.size.2.2.1), .s (.int .u64 p1.size.2.2.2)]] 0 4))), (12, .one (.pv (.rp [[.s (.bool p1.neg), .s (.int .u64 p1.size.1), .s (.int .u64 p1.size.2.1), .s (.int .u64 p1.size.2.2.1), .s (.int .u64 p1.size.2.2.2)]] 0 1))), (11, vi (3 : Int)), (2, .one (.pv (.rp [[.s (.bool p1.neg), .s (.int .u64 p1.size.1), .s (.int .u64 p1.size.2.1), .s (.int .u64 p1.size.2.2.1), .s (.int .u64 p1.size.2.2.2)]] 0 0))), (3, .one (.pv (.rp [[.s (.bool p2.neg), .s (.int .u64 p2.size.1), .s (.int .u64 p2.size.2.1), .s (.int .u64 p2.size.2.2.1), .s (.int .u64 p2.size.2.2.2)]] 0 0))), (5, vi (3 : Int)), (7, vb true)] (by kernel_rfl) (by kernel_rfl) ?_ ?_
  · refine DX.go 8 [[.s (.bool p1.neg), .s (.int .u64 p1.size.1), .s (.int .u64 p1.size.2.1), .s (.int .u64 p1.size.2.2.1), .s (.int .u64 p1.size.2.2.2)], [.s (.bool p2.neg), .s (.int .u64 p2.size.1), .s (.int .u64 p2.size.2.1), .s (.int .u64 p2.size.2.2.1), .s (.int .u64 p2.size.2.2.2)]] [(18, vk .u64 p2.size.2.2.2), (17, .one (.pv (.rp [[.s (.bool p2.neg), .s (.int .u64 p2.size.1), .s (.int .u64 p2.size.2.1), .s (.int .u64 p2.size.2.2.1), .s (.int .u64 p2.size.2.2.2)]] 0 4))), (16, .one (.pv (.rp [[.s (.bool p2.neg), .s (.int .u64 p2.size.1), .s (.int .u64 p2.size.2.1), .s (.int .u64 p2.size.2.2.1), .s (.int .u64 p2.size.2.2.2)]] 0 1))), (15, vi (3 : Int)), (14, vk .u64 p1.size.2.2.2), (13, .one (.pv (.rp [[.s (.bool p1.neg), .s (.int .u64 p1.size.1), .s (.int .u64 p1.size.2.1), .s (.int .u64 p1.size.2.2.1), .s (.int .u64 p1.size.2.2.2)]] 0 4))), (12, .one (.pv (.rp [[.s (.bool p1.neg), .s (.int .u64 p1.size.1), .s (.int .u64 p1.size.2.1), .s (.int .u64 p1.size.2.2.1), .s (.int .u64 p1.size.2.2.2)]] 0 1))), (11, vi (3 : Int)), (2, .one (.pv (.rp [[.s (.bool p1.neg), .s (.int .u64 p1.size.1), .s (.int .u64 p1.size.2.1), .s (.int .u64 p1.size.2.2.1), .s (.int .u64 p1.size.2.2.2)]] 0 0))), (3, .one (.pv (.rp [[.s (.bool p2.neg), .s (.int .u64 p2.size.1), .s (.int .u64 p2.size.2.1), .s (.int .u64 p2.size.2.2.1), .s (.int .u64 p2.size.2.2.2)]] 0 0))), (5, vi (3 : Int)), (7, vb true)] [0 ≤ (3 : Int) ∧ (3 : Int) < 4, ([[.s (.bool p1.neg), .s (.int .u64 p1.size.1), .s (.int .u64 p1.size.2.1), .s (.int .u64 p1.size.2.2.1), .s (.int .u64 p1.size.2.2.2)]] : List (List PV))[0]? = some [.s (.bool p1.neg), .s (.int .u64 p1.size.1), .s (.int .u64 p1.size.2.1), .s (.int .u64 p1.size.2.2.1), .s (.int .u64 p1.size.2.2.2)], 0 ≤ (3 : Int) ∧ (3 : Int) < 4, ([[.s (.bool p2.neg), .s (.int .u64 p2.size.1), .s (.int .u64 p2.size.2.1), .s (.int .u64 p2.size.2.2.1), .s (.int .u64 p2.size.2.2.2)]] : List (List PV))[0]? = some [.s (.bool p2.neg), .s (.int .u64 p2.size.1), .s (.int .u64 p2.size.2.1), .s (.int .u64 p2.size.2.2.1), .s (.int .u64 p2.size.2.2.2)]] (by kernel_rfl) (⟨by decide, rfl, by decide, rfl, trivial⟩) ?_
    exact DX.done (by kernel_rfl)
  refine XO.go [] 2 [2,3,5,10] [] [(2, .one (.pv (.rp [[.s (.bool p1.neg), .s (.int .u64 p1.size.1), .s (.int .u64 p1.size.2.1), .s (.int .u64 p1.size.2.2.1), .s (.int .u64 p1.size.2.2.2)]] 0 0))), (3, .one (.pv (.rp [[.s (.bool p2.neg), .s (.int .u64 p2.size.1), .s (.int .u64 p2.size.2.1), .s (.int .u64 p2.size.2.2.1), .s (.int .u64 p2.size.2.2.2)]] 0 0))), (5, vi (3 : Int)), (10, vb (decide (p1.size.2.2.2 < p2.size.2.2.2)))] [] [] (by kernel_rfl) trivial ?_
  refine XO.done (by kernel_rfl) ?_
  refine hK7 _ _ ?_
  refine XW.cond (x := .tmp 10) (a := cd Try.f102 [1,0,1,0,0,1,0,0,0,1,0]) (b := cd Try.f102 [1,0,1,0,0,1,0,0,0,1,1]) (t := (decide (p1.size.2.2.2 < p2.size.2.2.2))) (by kernel_rfl) (by kernel_rfl) (fun b8 => ?_) (fun b8 => ?_)
  · have h := ift_t b8 h
    refine XW.seq (x := cd Try.f102 [1,0,1,0,0,1,0,0,0,1,0,0]) (y := cd Try.f102 [1,0,1,0,0,1,0,0,0,1,0,1]) (by kernel_rfl) fun K9 hK9 => ?_
    refine XW.reg (by kernel_rfl) ?_
    refine XO.go [] 1 [4] [] [(4, vi (-1 : Int))] [] [] (by kernel_rfl) trivial ?_
    refine XO.done (by kernel_rfl) ?_
    refine hK9 _ _ ?_
    refine XW.ret (by kernel_rfl) ?_
    refine hQ1 _ _ _ ?_
    obtain rfl := Option.some.inj h
    exact FinP.fin (.inr rfl) [] [vi (-1 : Int)] [] (by kernel_rfl) trivial (.one (.rfl _ rfl))
  · have h := ift_f b8 h
    refine XW.seq (x := cd Try.f102 [1,0,1,0,0,1,0,0,0,1,1,0]) (y := cd Try.f102 [1,0,1,0,0,1,0,0,0,1,1,1]) (by kernel_rfl) fun K10 hK10 => ?_
    refine XW.drwS 8 [(28, vk .u64 p2.size.2.2.2), (27, .one (.pv (.rp [[.s (.bool p2.neg), .s (.int .u64 p2.size.1), .s (.int .u64 p2.size.2.1), .s (.int .u64 p2.size.2.2.1), .s (.int .u64 p2.size.2.2.2)]] 0 4))), (26, .one (.pv (.rp [[.s (.bool p2.neg), .s (.int .u64 p2.size.1), .s (.int .u64 p2.size.2.1), .s (.int .u64 p2.size.2.2.1), .s (.int .u64 p2.size.2.2.2)]] 0 1))), (25, vi (3 : Int)), (24, vk .u64 p1.size.2.2.2), (23, .one (.pv (.rp [[.s (.bool p1.neg), .s (.int .u64 p1.size.1), .s (.int .u64 p1.size.2.1), .s (.int .u64 p1.size.2.2.1), .s (.int .u64 p1.size.2.2.2)]] 0 4))), (22, .one (.pv (.rp [[.s (.bool p1.neg), .s (.int .u64 p1.size.1), .s (.int .u64 p1.size.2.1), .s (.int .u64 p1.size.2.2.1), .s (.int .u64 p1.size.2.2.2)]] 0 1))), (21, vi (3 : Int)), (2, .one (.pv (.rp [[.s (.bool p1.neg), .s (.int .u64 p1.size.1), .s (.int .u64 p1.size.2.1), .s (.int .u64 p1.size.2.2.1), .s (.int .u64 p1.size.2.2.2)]] 0 0))), (3, .one (.pv (.rp [[.s (.bool p2.neg), .s (.int .u64 p2.size.1), .s (.int .u64 p2.size.2.1), .s (.int .u64 p2.size.2.2.1), .s (.int .u64 p2.size.2.2.2)]] 0 0))), (5, vi (3 : Int)), (10, vb (decide (p1.size.2.2.2 < p2.size.2.2.2)))] (by kernel_rfl) (by kernel_rfl) ?_ ?_
    · refine DX.go 8 [[.s (.bool p1.neg), .s (.int .u64 p1.size.1), .s (.int .u64 p1.size.2.1), .s (.int .u64 p1.size.2.2.1), .s (.int .u64 p1.size.2.2.2)], [.s (.bool p2.neg), .s (.int .u64 p2.size.1), .s (.int .u64 p2.size.2.1), .s (.int .u64 p2.size.2.2.1), .s (.int .u64 p2.size.2.2.2)]] [(28, vk .u64 p2.size.2.2.2), (27, .one (.pv (.rp [[.s (.bool p2.neg), .s (.int .u64 p2.size.1), .s (.int .u64 p2.size.2.1), .s (.int .u64 p2.size.2.2.1), .s (.int .u64 p2.size.2.2.2)]] 0 4))), (26, .one (.pv (.rp [[.s (.bool p2.neg), .s (.int .u64 p2.size.1), .s (.int .u64 p2.size.2.1), .s (.int .u64 p2.size.2.2.1), .s (.int .u64 p2.size.2.2.2)]] 0 1))), (25, vi (3 : Int)), (24, vk .u64 p1.size.2.2.2), (23, .one (.pv (.rp [[.s (.bool p1.neg), .s (.int .u64 p1.size.1), .s (.int .u64 p1.size.2.1), .s (.int .u64 p1.size.2.2.1), .s (.int .u64 p1.size.2.2.2)]] 0 4))), (22, .one (.pv (.rp [[.s (.bool p1.neg), .s (.int .u64 p1.size.1), .s (.int .u64 p1.size.2.1), .s (.int .u64 p1.size.2.2.1), .s (.int .u64 p1.size.2.2.2)]] 0 1))), (21, vi (3 : Int)), (2, .one (.pv (.rp [[.s (.bool p1.neg), .s (.int .u64 p1.size.1), .s (.int .u64 p1.size.2.1), .s (.int .u64 p1.size.2.2.1), .s (.int .u64 p1.size.2.2.2)]] 0 0))), (3, .one (.pv (.rp [[.s (.bool p2.neg), .s (.int .u64 p2.size.1), .s (.int .u64 p2.size.2.1), .s (.int .u64 p2.size.2.2.1), .s (.int .u64 p2.size.2.2.2)]] 0 0))), (5, vi (3 : Int)), (10, vb (decide (p1.size.2.2.2 < p2.size.2.2.2)))] [0 ≤ (3 : Int) ∧ (3 : Int) < 4, ([[.s (.bool p1.neg), .s (.int .u64 p1.size.1), .s (.int .u64 p1.size.2.1), .s (.int .u64 p1.size.2.2.1), .s (.int .u64 p1.size.2.2.2)]] : List (List PV))[0]? = some [.s (.bool p1.neg), .s (.int .u64 p1.size.1), .s (.int .u64 p1.size.2.1), .s (.int .u64 p1.size.2.2.1), .s (.int .u64 p1.size.2.2.2)], 0 ≤ (3 : Int) ∧ (3 : Int) < 4, ([[.s (.bool p2.neg), .s (.int .u64 p2.size.1), .s (.int .u64 p2.size.2.1), .s (.int .u64 p2.size.2.2.1), .s (.int .u64 p2.size.2.2.2)]] : List (List PV))[0]? = some [.s (.bool p2.neg), .s (.int .u64 p2.size.1), .s (.int .u64 p2.size.2.1), .s (.int .u64 p2.size.2.2.1), .s (.int .u64 p2.size.2.2.2)]] (by kernel_rfl) (⟨by decide, rfl, by decide, rfl, trivial⟩) ?_
      exact DX.done (by kernel_rfl)
    refine XO.go [] 2 [2,3,5,20] [] [(2, .one (.pv (.rp [[.s (.bool p1.neg), .s (.int .u64 p1.size.1), .s (.int .u64 p1.size.2.1), .s (.int .u64 p1.size.2.2.1), .s (.int .u64 p1.size.2.2.2)]] 0 0))), (3, .one (.pv (.rp [[.s (.bool p2.neg), .s (.int .u64 p2.size.1), .s (.int .u64 p2.size.2.1), .s (.int .u64 p2.size.2.2.1), .s (.int .u64 p2.size.2.2.2)]] 0 0))), (5, vi (3 : Int)), (20, vb (decide (p2.size.2.2.2 < p1.size.2.2.2)))] [] [] (by kernel_rfl) trivial ?_
    refine XO.done (by kernel_rfl) ?_
    refine hK10 _ _ ?_
    refine XW.cond (x := .tmp 20) (a := cd Try.f102 [1,0,1,0,0,1,0,0,0,1,1,1,0]) (b := cd Try.f102 [1,0,1,0,0,1,0,0,0,1,1,1,1]) (t := (decide (p2.size.2.2.2 < p1.size.2.2.2))) (by kernel_rfl) (by kernel_rfl) (fun b11 => ?_) (fun b11 => ?_)
    · have h := ift_t b11 h
      refine XW.seq (x := cd Try.f102 [1,0,1,0,0,1,0,0,0,1,1,1,0,0]) (y := cd Try.f102 [1,0,1,0,0,1,0,0,0,1,1,1,0,1]) (by kernel_rfl) fun K12 hK12 => ?_
      refine XW.reg (by kernel_rfl) ?_
      refine XO.go [] 1 [4] [] [(4, vi (1 : Int))] [] [] (by kernel_rfl) trivial ?_
      refine XO.done (by kernel_rfl) ?_
      refine hK12 _ _ ?_
      refine XW.ret (by kernel_rfl) ?_
      refine hQ1 _ _ _ ?_
      obtain rfl := Option.some.inj h
      exact FinP.fin (.inr rfl) [] [vi (1 : Int)] [] (by kernel_rfl) trivial (.one (.rfl _ rfl))
    · have h := ift_f b11 h
      refine XW.skip (by kernel_rfl) ?_
      refine hK6 _ _ ?_
      refine XW.reg (by kernel_rfl) ?_
      refine XO.go [] 3 [2,3,5] [] [(2, .one (.pv (.rp [[.s (.bool p1.neg), .s (.int .u64 p1.size.1), .s (.int .u64 p1.size.2.1), .s (.int .u64 p1.size.2.2.1), .s (.int .u64 p1.size.2.2.2)]] 0 0))), (3, .one (.pv (.rp [[.s (.bool p2.neg), .s (.int .u64 p2.size.1), .s (.int .u64 p2.size.2.1), .s (.int .u64 p2.size.2.2.1), .s (.int .u64 p2.size.2.2.2)]] 0 0))), (5, vi (2 : Int))] [] [] (by kernel_rfl) trivial ?_
      refine XO.done (by kernel_rfl) ?_
      refine XR.one ?_
      refine XW.seq (x := cd Try.f102 [1,0,1,0,0,0]) (y := cd Try.f102 [1,0,1,0,0,1]) (by kernel_rfl) fun K13 hK13 => ?_
      refine XW.seq (x := cd Try.f102 [1,0,1,0,0,0,0]) (y := cd Try.f102 [1,0,1,0,0,0,1]) (by kernel_rfl) fun K14 hK14 => ?_
      refine XW.reg (by kernel_rfl) ?_
      refine XO.go [] 2 [2,3,5,7] [] [(2, .one (.pv (.rp [[.s (.bool p1.neg), .s (.int .u64 p1.size.1), .s (.int .u64 p1.size.2.1), .s (.int .u64 p1.size.2.2.1), .s (.int .u64 p1.size.2.2.2)]] 0 0))), (3, .one (.pv (.rp [[.s (.bool p2.neg), .s (.int .u64 p2.size.1), .s (.int .u64 p2.size.2.1), .s (.int .u64 p2.size.2.2.1), .s (.int .u64 p2.size.2.2.2)]] 0 0))), (5, vi (2 : Int)), (7, vb true)] [] [] (by kernel_rfl) trivial ?_
      refine XO.done (by kernel_rfl) ?_
      refine hK14 _ _ ?_
      refine XW.cond (x := .tmp 7) (a := cd Try.f102 [1,0,1,0,0,0,1,0]) (b := cd Try.f102 [1,0,1,0,0,0,1,1]) (t := true) (by kernel_rfl) (by kernel_rfl) (fun _ => ?_) (fun hx => by cases hx)
      refine XW.skip (by kernel_rfl) ?_
      refine hK13 _ _ ?_
      refine XW.seq (x := cd Try.f102 [1,0,1,0,0,1,0]) (y := cd Try.f102 [1,0,1,0,0,1,1]) (by kernel_rfl) fun K15 hK15 => ?_
      refine XW.block (id := 1) (x := cd Try.f102 [1,0,1,0,0,1,0,0]) (by kernel_rfl) ?_
      refine XW.block (id := 2) (x := cd Try.f102 [1,0,1,0,0,1,0,0,0]) (by kernel_rfl) ?_
      refine XW.seq (x := cd Try.f102 [1,0,1,0,0,1,0,0,0,0]) (y := cd Try.f102 [1,0,1,0,0,1,0,0,0,1]) (by kernel_rfl) fun K16 hK16 => ?_
      refine XW.drwS 8 [(18, vk .u64 p2.size.2.2.1), (17, .one (.pv (.rp [[.s (.bool p2.neg), .s (.int .u64 p2.size.1), .s (.int .u64 p2.size.2.1), .s (.int .u64 p2.size.2.2.1), .s (.int .u64 p2.size.2.2.2)]] 0 3))), (16, .one (.pv (.rp [[.s (.bool p2.neg), .s (.int .u64 p2.size.1), .s (.int .u64 p2.size.2.1), .s (.int .u64 p2.size.2.2.1), .s (.int .u64 p2.size.2.2.2)]] 0 1))), (15, vi (2 : Int)), (14, vk .u64 p1.size.2.2.1), (13, .one (.pv (.rp [[.s (.bool p1.neg), .s (.int .u64 p1.size.1), .s (.int .u64 p1.size.2.1), .s (.int .u64 p1.size.2.2.1), .s (.int .u64 p1.size.2.2.2)]] 0 3))), (12, .one (.pv (.rp [[.s (.bool p1.neg), .s (.int .u64 p1.size.1), .s (.int .u64 p1.size.2.1), .s (.int .u64 p1.size.2.2.1), .s (.int .u64 p1.size.2.2.2)]] 0 1))), (11, vi (2 : Int)), (2, .one (.pv (.rp [[.s (.bool p1.neg), .s (.int .u64 p1.size.1), .s (.int .u64 p1.size.2.1), .s (.int .u64 p1.size.2.2.1), .s (.int .u64 p1.size.2.2.2)]] 0 0))), (3, .one (.pv (.rp [[.s (.bool p2.neg), .s (.int .u64 p2.size.1), .s (.int .u64 p2.size.2.1), .s (.int .u64 p2.size.2.2.1), .s (.int .u64 p2.size.2.2.2)]] 0 0))), (5, vi (2 : Int)), (7, vb true)] (by kernel_rfl) (by kernel_rfl) ?_ ?_
      · refine DX.go 8 [[.s (.bool p1.neg), .s (.int .u64 p1.size.1), .s (.int .u64 p1.size.2.1), .s (.int .u64 p1.size.2.2.1), .s (.int .u64 p1.size.2.2.2)], [.s (.bool p2.neg), .s (.int .u64 p2.size.1), .s (.int .u64 p2.size.2.1), .s (.int .u64 p2.size.2.2.1), .s (.int .u64 p2.size.2.2.2)]] [(18, vk .u64 p2.size.2.2.1), (17, .one (.pv (.rp [[.s (.bool p2.neg), .s (.int .u64 p2.size.1), .s (.int .u64 p2.size.2.1), .s (.int .u64 p2.size.2.2.1), .s (.int .u64 p2.size.2.2.2)]] 0 3))), (16, .one (.pv (.rp [[.s (.bool p2.neg), .s (.int .u64 p2.size.1), .s (.int .u64 p2.size.2.1), .s (.int .u64 p2.size.2.2.1), .s (.int .u64 p2.size.2.2.2)]] 0 1))), (15, vi (2 : Int)), (14, vk .u64 p1.size.2.2.1), (13, .one (.pv (.rp [[.s (.bool p1.neg), .s (.int .u64 p1.size.1), .s (.int .u64 p1.size.2.1), .s (.int .u64 p1.size.2.2.1), .s (.int .u64 p1.size.2.2.2)]] 0 3))), (12, .one (.pv (.rp [[.s (.bool p1.neg), .s (.int .u64 p1.size.1), .s (.int .u64 p1.size.2.1), .s (.int .u64 p1.size.2.2.1), .s (.int .u64 p1.size.2.2.2)]] 0 1))), (11, vi (2 : Int)), (2, .one (.pv (.rp [[.s (.bool p1.neg), .s (.int .u64 p1.size.1), .s (.int .u64 p1.size.2.1), .s (.int .u64 p1.size.2.2.1), .s (.int .u64 p1.size.2.2.2)]] 0 0))), (3, .one (.pv (.rp [[.s (.bool p2.neg), .s (.int .u64 p2.size.1), .s (.int .u64 p2.size.2.1), .s (.int .u64 p2.size.2.2.1), .s (.int .u64 p2.size.2.2.2)]] 0 0))), (5, vi (2 : Int)), (7, vb true)] [0 ≤ (2 : Int) ∧ (2 : Int) < 4, ([[.s (.bool p1.neg), .s (.int .u64 p1.size.1), .s (.int .u64 p1.size.2.1), .s (.int .u64 p1.size.2.2.1), .s (.int .u64 p1.size.2.2.2)]] : List (List PV))[0]? = some [.s (.bool p1.neg), .s (.int .u64 p1.size.1), .s (.int .u64 p1.size.2.1), .s (.int .u64 p1.size.2.2.1), .s (.int .u64 p1.size.2.2.2)], 0 ≤ (2 : Int) ∧ (2 : Int) < 4, ([[.s (.bool p2.neg), .s (.int .u64 p2.size.1), .s (.int .u64 p2.size.2.1), .s (.int .u64 p2.size.2.2.1), .s (.int .u64 p2.size.2.2.2)]] : List (List PV))[0]? = some [.s (.bool p2.neg), .s (.int .u64 p2.size.1), .s (.int .u64 p2.size.2.1), .s (.int .u64 p2.size.2.2.1), .s (.int .u64 p2.size.2.2.2)]] (by kernel_rfl) (⟨by decide, rfl, by decide, rfl, trivial⟩) ?_
        exact DX.done (by kernel_rfl)
      refine XO.go [] 2 [2,3,5,10] [] [(2, .one (.pv (.rp [[.s (.bool p1.neg), .s (.int .u64 p1.size.1), .s (.int .u64 p1.size.2.1), .s (.int .u64 p1.size.2.2.1), .s (.int .u64 p1.size.2.2.2)]] 0 0))), (3, .one (.pv (.rp [[.s (.bool p2.neg), .s (.int .u64 p2.size.1), .s (.int .u64 p2.size.2.1), .s (.int .u64 p2.size.2.2.1), .s (.int .u64 p2.size.2.2.2)]] 0 0))), (5, vi (2 : Int)), (10, vb (decide (p1.size.2.2.1 < p2.size.2.2.1)))] [] [] (by kernel_rfl) trivial ?_
      refine XO.done (by kernel_rfl) ?_
      refine hK16 _ _ ?_
      refine XW.cond (x := .tmp 10) (a := cd Try.f102 [1,0,1,0,0,1,0,0,0,1,0]) (b := cd Try.f102 [1,0,1,0,0,1,0,0,0,1,1]) (t := (decide (p1.size.2.2.1 < p2.size.2.2.1))) (by kernel_rfl) (by kernel_rfl) (fun b17 => ?_) (fun b17 => ?_)
      · have h := ift_t b17 h
        refine XW.seq (x := cd Try.f102 [1,0,1,0,0,1,0,0,0,1,0,0]) (y := cd Try.f102 [1,0,1,0,0,1,0,0,0,1,0,1]) (by kernel_rfl) fun K18 hK18 => ?_
        refine XW.reg (by kernel_rfl) ?_
        refine XO.go [] 1 [4] [] [(4, vi (-1 : Int))] [] [] (by kernel_rfl) trivial ?_
        refine XO.done (by kernel_rfl) ?_
        refine hK18 _ _ ?_
        refine XW.ret (by kernel_rfl) ?_
        refine hQ1 _ _ _ ?_
        obtain rfl := Option.some.inj h
        exact FinP.fin (.inr rfl) [] [vi (-1 : Int)] [] (by kernel_rfl) trivial (.one (.rfl _ rfl))
      · have h := ift_f b17 h
        refine XW.seq (x := cd Try.f102 [1,0,1,0,0,1,0,0,0,1,1,0]) (y := cd Try.f102 [1,0,1,0,0,1,0,0,0,1,1,1]) (by kernel_rfl) fun K19 hK19 => ?_
        refine XW.drwS 8 [(28, vk .u64 p2.size.2.2.1), (27, .one (.pv (.rp [[.s (.bool p2.neg), .s (.int .u64 p2.size.1), .s (.int .u64 p2.size.2.1), .s (.int .u64 p2.size.2.2.1), .s (.int .u64 p2.size.2.2.2)]] 0 3))), (26, .one (.pv (.rp [[.s (.bool p2.neg), .s (.int .u64 p2.size.1), .s (.int .u64 p2.size.2.1), .s (.int .u64 p2.size.2.2.1), .s (.int .u64 p2.size.2.2.2)]] 0 1))), (25, vi (2 : Int)), (24, vk .u64 p1.size.2.2.1), (23, .one (.pv (.rp [[.s (.bool p1.neg), .s (.int .u64 p1.size.1), .s (.int .u64 p1.size.2.1), .s (.int .u64 p1.size.2.2.1), .s (.int .u64 p1.size.2.2.2)]] 0 3))), (22, .one (.pv (.rp [[.s (.bool p1.neg), .s (.int .u64 p1.size.1), .s (.int .u64 p1.size.2.1), .s (.int .u64 p1.size.2.2.1), .s (.int .u64 p1.size.2.2.2)]] 0 1))), (21, vi (2 : Int)), (2, .one (.pv (.rp [[.s (.bool p1.neg), .s (.int .u64 p1.size.1), .s (.int .u64 p1.size.2.1), .s (.int .u64 p1.size.2.2.1), .s (.int .u64 p1.size.2.2.2)]] 0 0))), (3, .one (.pv (.rp [[.s (.bool p2.neg), .s (.int .u64 p2.size.1), .s (.int .u64 p2.size.2.1), .s (.int .u64 p2.size.2.2.1), .s (.int .u64 p2.size.2.2.2)]] 0 0))), (5, vi (2 : Int)), (10, vb (decide (p1.size.2.2.1 < p2.size.2.2.1)))] (by kernel_rfl) (by kernel_rfl) ?_ ?_
        · refine DX.go 8 [[.s (.bool p1.neg), .s (.int .u64 p1.size.1), .s (.int .u64 p1.size.2.1), .s (.int .u64 p1.size.2.2.1), .s (.int .u64 p1.size.2.2.2)], [.s (.bool p2.neg), .s (.int .u64 p2.size.1), .s (.int .u64 p2.size.2.1), .s (.int .u64 p2.size.2.2.1), .s (.int .u64 p2.size.2.2.2)]] [(28, vk .u64 p2.size.2.2.1), (27, .one (.pv (.rp [[.s (.bool p2.neg), .s (.int .u64 p2.size.1), .s (.int .u64 p2.size.2.1), .s (.int .u64 p2.size.2.2.1), .s (.int .u64 p2.size.2.2.2)]] 0 3))), (26, .one (.pv (.rp [[.s (.bool p2.neg), .s (.int .u64 p2.size.1), .s (.int .u64 p2.size.2.1), .s (.int .u64 p2.size.2.2.1), .s (.int .u64 p2.size.2.2.2)]] 0 1))), (25, vi (2 : Int)), (24, vk .u64 p1.size.2.2.1), (23, .one (.pv (.rp [[.s (.bool p1.neg), .s (.int .u64 p1.size.1), .s (.int .u64 p1.size.2.1), .s (.int .u64 p1.size.2.2.1), .s (.int .u64 p1.size.2.2.2)]] 0 3))), (22, .one (.pv (.rp [[.s (.bool p1.neg), .s (.int .u64 p1.size.1), .s (.int .u64 p1.size.2.1), .s (.int .u64 p1.size.2.2.1), .s (.int .u64 p1.size.2.2.2)]] 0 1))), (21, vi (2 : Int)), (2, .one (.pv (.rp [[.s (.bool p1.neg), .s (.int .u64 p1.size.1), .s (.int .u64 p1.size.2.1), .s (.int .u64 p1.size.2.2.1), .s (.int .u64 p1.size.2.2.2)]] 0 0))), (3, .one (.pv (.rp [[.s (.bool p2.neg), .s (.int .u64 p2.size.1), .s (.int .u64 p2.size.2.1), .s (.int .u64 p2.size.2.2.1), .s (.int .u64 p2.size.2.2.2)]] 0 0))), (5, vi (2 : Int)), (10, vb (decide (p1.size.2.2.1 < p2.size.2.2.1)))] [0 ≤ (2 : Int) ∧ (2 : Int) < 4, ([[.s (.bool p1.neg), .s (.int .u64 p1.size.1), .s (.int .u64 p1.size.2.1), .s (.int .u64 p1.size.2.2.1), .s (.int .u64 p1.size.2.2.2)]] : List (List PV))[0]? = some [.s (.bool p1.neg), .s (.int .u64 p1.size.1), .s (.int .u64 p1.size.2.1), .s (.int .u64 p1.size.2.2.1), .s (.int .u64 p1.size.2.2.2)], 0 ≤ (2 : Int) ∧ (2 : Int) < 4, ([[.s (.bool p2.neg), .s (.int .u64 p2.size.1), .s (.int .u64 p2.size.2.1), .s (.int .u64 p2.size.2.2.1), .s (.int .u64 p2.size.2.2.2)]] : List (List PV))[0]? = some [.s (.bool p2.neg), .s (.int .u64 p2.size.1), .s (.int .u64 p2.size.2.1), .s (.int .u64 p2.size.2.2.1), .s (.int .u64 p2.size.2.2.2)]] (by kernel_rfl) (⟨by decide, rfl, by decide, rfl, trivial⟩) ?_
          exact DX.done (by kernel_rfl)
        refine XO.go [] 2 [2,3,5,20] [] [(2, .one (.pv (.rp [[.s (.bool p1.neg), .s (.int .u64 p1.size.1), .s (.int .u64 p1.size.2.1), .s (.int .u64 p1.size.2.2.1), .s (.int .u64 p1.size.2.2.2)]] 0 0))), (3, .one (.pv (.rp [[.s (.bool p2.neg), .s (.int .u64 p2.size.1), .s (.int .u64 p2.size.2.1), .s (.int .u64 p2.size.2.2.1), .s (.int .u64 p2.size.2.2.2)]] 0 0))), (5, vi (2 : Int)), (20, vb (decide (p2.size.2.2.1 < p1.size.2.2.1)))] [] [] (by kernel_rfl) trivial ?_
        refine XO.done (by kernel_rfl) ?_
        refine hK19 _ _ ?_
        refine XW.cond (x := .tmp 20) (a := cd Try.f102 [1,0,1,0,0,1,0,0,0,1,1,1,0]) (b := cd Try.f102 [1,0,1,0,0,1,0,0,0,1,1,1,1]) (t := (decide (p2.size.2.2.1 < p1.size.2.2.1))) (by kernel_rfl) (by kernel_rfl) (fun b20 => ?_) (fun b20 => ?_)
        · have h := ift_t b20 h
          refine XW.seq (x := cd Try.f102 [1,0,1,0,0,1,0,0,0,1,1,1,0,0]) (y := cd Try.f102 [1,0,1,0,0,1,0,0,0,1,1,1,0,1]) (by kernel_rfl) fun K21 hK21 => ?_
          refine XW.reg (by kernel_rfl) ?_
          refine XO.go [] 1 [4] [] [(4, vi (1 : Int))] [] [] (by kernel_rfl) trivial ?_
          refine XO.done (by kernel_rfl) ?_
          refine hK21 _ _ ?_
          refine XW.ret (by kernel_rfl) ?_
          refine hQ1 _ _ _ ?_
          obtain rfl := Option.some.inj h
          exact FinP.fin (.inr rfl) [] [vi (1 : Int)] [] (by kernel_rfl) trivial (.one (.rfl _ rfl))
        · have h := ift_f b20 h
          refine XW.skip (by kernel_rfl) ?_
          refine hK15 _ _ ?_
          refine XW.reg (by kernel_rfl) ?_
          refine XO.go [] 3 [2,3,5] [] [(2, .one (.pv (.rp [[.s (.bool p1.neg), .s (.int .u64 p1.size.1), .s (.int .u64 p1.size.2.1), .s (.int .u64 p1.size.2.2.1), .s (.int .u64 p1.size.2.2.2)]] 0 0))), (3, .one (.pv (.rp [[.s (.bool p2.neg), .s (.int .u64 p2.size.1), .s (.int .u64 p2.size.2.1), .s (.int .u64 p2.size.2.2.1), .s (.int .u64 p2.size.2.2.2)]] 0 0))), (5, vi (1 : Int))] [] [] (by kernel_rfl) trivial ?_
          refine XO.done (by kernel_rfl) ?_
          refine XR.one ?_
          refine XW.seq (x := cd Try.f102 [1,0,1,0,0,0]) (y := cd Try.f102 [1,0,1,0,0,1]) (by kernel_rfl) fun K22 hK22 => ?_
          refine XW.seq (x := cd Try.f102 [1,0,1,0,0,0,0]) (y := cd Try.f102 [1,0,1,0,0,0,1]) (by kernel_rfl) fun K23 hK23 => ?_
          refine XW.reg (by kernel_rfl) ?_
          refine XO.go [] 2 [2,3,5,7] [] [(2, .one (.pv (.rp [[.s (.bool p1.neg), .s (.int .u64 p1.size.1), .s (.int .u64 p1.size.2.1), .s (.int .u64 p1.size.2.2.1), .s (.int .u64 p1.size.2.2.2)]] 0 0))), (3, .one (.pv (.rp [[.s (.bool p2.neg), .s (.int .u64 p2.size.1), .s (.int .u64 p2.size.2.1), .s (.int .u64 p2.size.2.2.1), .s (.int .u64 p2.size.2.2.2)]] 0 0))), (5, vi (1 : Int)), (7, vb true)] [] [] (by kernel_rfl) trivial ?_
          refine XO.done (by kernel_rfl) ?_
          refine hK23 _ _ ?_
          refine XW.cond (x := .tmp 7) (a := cd Try.f102 [1,0,1,0,0,0,1,0]) (b := cd Try.f102 [1,0,1,0,0,0,1,1]) (t := true) (by kernel_rfl) (by kernel_rfl) (fun _ => ?_) (fun hx => by cases hx)
          refine XW.skip (by kernel_rfl) ?_
          refine hK22 _ _ ?_
          refine XW.seq (x := cd Try.f102 [1,0,1,0,0,1,0]) (y := cd Try.f102 [1,0,1,0,0,1,1]) (by kernel_rfl) fun K24 hK24 => ?_
          refine XW.block (id := 1) (x := cd Try.f102 [1,0,1,0,0,1,0,0]) (by kernel_rfl) ?_
          refine XW.block (id := 2) (x := cd Try.f102 [1,0,1,0,0,1,0,0,0]) (by kernel_rfl) ?_
          refine XW.seq (x := cd Try.f102 [1,0,1,0,0,1,0,0,0,0]) (y := cd Try.f102 [1,0,1,0,0,1,0,0,0,1]) (by kernel_rfl) fun K25 hK25 => ?_
          refine XW.drwS 8 [(18, vk .u64 p2.size.2.1), (17, .one (.pv (.rp [[.s (.bool p2.neg), .s (.int .u64 p2.size.1), .s (.int .u64 p2.size.2.1), .s (.int .u64 p2.size.2.2.1), .s (.int .u64 p2.size.2.2.2)]] 0 2))), (16, .one (.pv (.rp [[.s (.bool p2.neg), .s (.int .u64 p2.size.1), .s (.int .u64 p2.size.2.1), .s (.int .u64 p2.size.2.2.1), .s (.int .u64 p2.size.2.2.2)]] 0 1))), (15, vi (1 : Int)), (14, vk .u64 p1.size.2.1), (13, .one (.pv (.rp [[.s (.bool p1.neg), .s (.int .u64 p1.size.1), .s (.int .u64 p1.size.2.1), .s (.int .u64 p1.size.2.2.1), .s (.int .u64 p1.size.2.2.2)]] 0 2))), (12, .one (.pv (.rp [[.s (.bool p1.neg), .s (.int .u64 p1.size.1), .s (.int .u64 p1.size.2.1), .s (.int .u64 p1.size.2.2.1), .s (.int .u64 p1.size.2.2.2)]] 0 1))), (11, vi (1 : Int)), (2, .one (.pv (.rp [[.s (.bool p1.neg), .s (.int .u64 p1.size.1), .s (.int .u64 p1.size.2.1), .s (.int .u64 p1.size.2.2.1), .s (.int .u64 p1.size.2.2.2)]] 0 0))), (3, .one (.pv (.rp [[.s (.bool p2.neg), .s (.int .u64 p2.size.1), .s (.int .u64 p2.size.2.1), .s (.int .u64 p2.size.2.2.1), .s (.int .u64 p2.size.2.2.2)]] 0 0))), (5, vi (1 : Int)), (7, vb true)] (by kernel_rfl) (by kernel_rfl) ?_ ?_
          · refine DX.go 8 [[.s (.bool p1.neg), .s (.int .u64 p1.size.1), .s (.int .u64 p1.size.2.1), .s (.int .u64 p1.size.2.2.1), .s (.int .u64 p1.size.2.2.2)], [.s (.bool p2.neg), .s (.int .u64 p2.size.1), .s (.int .u64 p2.size.2.1), .s (.int .u64 p2.size.2.2.1), .s (.int .u64 p2.size.2.2.2)]] [(18, vk .u64 p2.size.2.1), (17, .one (.pv (.rp [[.s (.bool p2.neg), .s (.int .u64 p2.size.1), .s (.int .u64 p2.size.2.1), .s (.int .u64 p2.size.2.2.1), .s (.int .u64 p2.size.2.2.2)]] 0 2))), (16, .one (.pv (.rp [[.s (.bool p2.neg), .s (.int .u64 p2.size.1), .s (.int .u64 p2.size.2.1), .s (.int .u64 p2.size.2.2.1), .s (.int .u64 p2.size.2.2.2)]] 0 1))), (15, vi (1 : Int)), (14, vk .u64 p1.size.2.1), (13, .one (.pv (.rp [[.s (.bool p1.neg), .s (.int .u64 p1.size.1), .s (.int .u64 p1.size.2.1), .s (.int .u64 p1.size.2.2.1), .s (.int .u64 p1.size.2.2.2)]] 0 2))), (12, .one (.pv (.rp [[.s (.bool p1.neg), .s (.int .u64 p1.size.1), .s (.int .u64 p1.size.2.1), .s (.int .u64 p1.size.2.2.1), .s (.int .u64 p1.size.2.2.2)]] 0 1))), (11, vi (1 : Int)), (2, .one (.pv (.rp [[.s (.bool p1.neg), .s (.int .u64 p1.size.1), .s (.int .u64 p1.size.2.1), .s (.int .u64 p1.size.2.2.1), .s (.int .u64 p1.size.2.2.2)]] 0 0))), (3, .one (.pv (.rp [[.s (.bool p2.neg), .s (.int .u64 p2.size.1), .s (.int .u64 p2.size.2.1), .s (.int .u64 p2.size.2.2.1), .s (.int .u64 p2.size.2.2.2)]] 0 0))), (5, vi (1 : Int)), (7, vb true)] [0 ≤ (1 : Int) ∧ (1 : Int) < 4, ([[.s (.bool p1.neg), .s (.int .u64 p1.size.1), .s (.int .u64 p1.size.2.1), .s (.int .u64 p1.size.2.2.1), .s (.int .u64 p1.size.2.2.2)]] : List (List PV))[0]? = some [.s (.bool p1.neg), .s (.int .u64 p1.size.1), .s (.int .u64 p1.size.2.1), .s (.int .u64 p1.size.2.2.1), .s (.int .u64 p1.size.2.2.2)], 0 ≤ (1 : Int) ∧ (1 : Int) < 4, ([[.s (.bool p2.neg), .s (.int .u64 p2.size.1), .s (.int .u64 p2.size.2.1), .s (.int .u64 p2.size.2.2.1), .s (.int .u64 p2.size.2.2.2)]] : List (List PV))[0]? = some [.s (.bool p2.neg), .s (.int .u64 p2.size.1), .s (.int .u64 p2.size.2.1), .s (.int .u64 p2.size.2.2.1), .s (.int .u64 p2.size.2.2.2)]] (by kernel_rfl) (⟨by decide, rfl, by decide, rfl, trivial⟩) ?_
            exact DX.done (by kernel_rfl)
          refine XO.go [] 2 [2,3,5,10] [] [(2, .one (.pv (.rp [[.s (.bool p1.neg), .s (.int .u64 p1.size.1), .s (.int .u64 p1.size.2.1), .s (.int .u64 p1.size.2.2.1), .s (.int .u64 p1.size.2.2.2)]] 0 0))), (3, .one (.pv (.rp [[.s (.bool p2.neg), .s (.int .u64 p2.size.1), .s (.int .u64 p2.size.2.1), .s (.int .u64 p2.size.2.2.1), .s (.int .u64 p2.size.2.2.2)]] 0 0))), (5, vi (1 : Int)), (10, vb (decide (p1.size.2.1 < p2.size.2.1)))] [] [] (by kernel_rfl) trivial ?_
          refine XO.done (by kernel_rfl) ?_
          refine hK25 _ _ ?_
          refine XW.cond (x := .tmp 10) (a := cd Try.f102 [1,0,1,0,0,1,0,0,0,1,0]) (b := cd Try.f102 [1,0,1,0,0,1,0,0,0,1,1]) (t := (decide (p1.size.2.1 < p2.size.2.1))) (by kernel_rfl) (by kernel_rfl) (fun b26 => ?_) (fun b26 => ?_)
          · have h := ift_t b26 h
            refine XW.seq (x := cd Try.f102 [1,0,1,0,0,1,0,0,0,1,0,0]) (y := cd Try.f102 [1,0,1,0,0,1,0,0,0,1,0,1]) (by kernel_rfl) fun K27 hK27 => ?_
            refine XW.reg (by kernel_rfl) ?_
            refine XO.go [] 1 [4] [] [(4, vi (-1 : Int))] [] [] (by kernel_rfl) trivial ?_
            refine XO.done (by kernel_rfl) ?_
            refine hK27 _ _ ?_
            refine XW.ret (by kernel_rfl) ?_
            refine hQ1 _ _ _ ?_
            obtain rfl := Option.some.inj h
            exact FinP.fin (.inr rfl) [] [vi (-1 : Int)] [] (by kernel_rfl) trivial (.one (.rfl _ rfl))
          · have h := ift_f b26 h
            refine XW.seq (x := cd Try.f102 [1,0,1,0,0,1,0,0,0,1,1,0]) (y := cd Try.f102 [1,0,1,0,0,1,0,0,0,1,1,1]) (by kernel_rfl) fun K28 hK28 => ?_
            refine XW.drwS 8 [(28, vk .u64 p2.size.2.1), (27, .one (.pv (.rp [[.s (.bool p2.neg), .s (.int .u64 p2.size.1), .s (.int .u64 p2.size.2.1), .s (.int .u64 p2.size.2.2.1), .s (.int .u64 p2.size.2.2.2)]] 0 2))), (26, .one (.pv (.rp [[.s (.bool p2.neg), .s (.int .u64 p2.size.1), .s (.int .u64 p2.size.2.1), .s (.int .u64 p2.size.2.2.1), .s (.int .u64 p2.size.2.2.2)]] 0 1))), (25, vi (1 : Int)), (24, vk .u64 p1.size.2.1), (23, .one (.pv (.rp [[.s (.bool p1.neg), .s (.int .u64 p1.size.1), .s (.int .u64 p1.size.2.1), .s (.int .u64 p1.size.2.2.1), .s (.int .u64 p1.size.2.2.2)]] 0 2))), (22, .one (.pv (.rp [[.s (.bool p1.neg), .s (.int .u64 p1.size.1), .s (.int .u64 p1.size.2.1), .s (.int .u64 p1.size.2.2.1), .s (.int .u64 p1.size.2.2.2)]] 0 1))), (21, vi (1 : Int)), (2, .one (.pv (.rp [[.s (.bool p1.neg), .s (.int .u64 p1.size.1), .s (.int .u64 p1.size.2.1), .s (.int .u64 p1.size.2.2.1), .s (.int .u64 p1.size.2.2.2)]] 0 0))), (3, .one (.pv (.rp [[.s (.bool p2.neg), .s (.int .u64 p2.size.1), .s (.int .u64 p2.size.2.1), .s (.int .u64 p2.size.2.2.1), .s (.int .u64 p2.size.2.2.2)]] 0 0))), (5, vi (1 : Int)), (10, vb (decide (p1.size.2.1 < p2.size.2.1)))] (by kernel_rfl) (by kernel_rfl) ?_ ?_
            · refine DX.go 8 [[.s (.bool p1.neg), .s (.int .u64 p1.size.1), .s (.int .u64 p1.size.2.1), .s (.int .u64 p1.size.2.2.1), .s (.int .u64 p1.size.2.2.2)], [.s (.bool p2.neg), .s (.int .u64 p2.size.1), .s (.int .u64 p2.size.2.1), .s (.int .u64 p2.size.2.2.1), .s (.int .u64 p2.size.2.2.2)]] [(28, vk .u64 p2.size.2.1), (27, .one (.pv (.rp [[.s (.bool p2.neg), .s (.int .u64 p2.size.1), .s (.int .u64 p2.size.2.1), .s (.int .u64 p2.size.2.2.1), .s (.int .u64 p2.size.2.2.2)]] 0 2))), (26, .one (.pv (.rp [[.s (.bool p2.neg), .s (.int .u64 p2.size.1), .s (.int .u64 p2.size.2.1), .s (.int .u64 p2.size.2.2.1), .s (.int .u64 p2.size.2.2.2)]] 0 1))), (25, vi (1 : Int)), (24, vk .u64 p1.size.2.1), (23, .one (.pv (.rp [[.s (.bool p1.neg), .s (.int .u64 p1.size.1), .s (.int .u64 p1.size.2.1), .s (.int .u64 p1.size.2.2.1), .s (.int .u64 p1.size.2.2.2)]] 0 2))), (22, .one (.pv (.rp [[.s (.bool p1.neg), .s (.int .u64 p1.size.1), .s (.int .u64 p1.size.2.1), .s (.int .u64 p1.size.2.2.1), .s (.int .u64 p1.size.2.2.2)]] 0 1))), (21, vi (1 : Int)), (2, .one (.pv (.rp [[.s (.bool p1.neg), .s (.int .u64 p1.size.1), .s (.int .u64 p1.size.2.1), .s (.int .u64 p1.size.2.2.1), .s (.int .u64 p1.size.2.2.2)]] 0 0))), (3, .one (.pv (.rp [[.s (.bool p2.neg), .s (.int .u64 p2.size.1), .s (.int .u64 p2.size.2.1), .s (.int .u64 p2.size.2.2.1), .s (.int .u64 p2.size.2.2.2)]] 0 0))), (5, vi (1 : Int)), (10, vb (decide (p1.size.2.1 < p2.size.2.1)))] [0 ≤ (1 : Int) ∧ (1 : Int) < 4, ([[.s (.bool p1.neg), .s (.int .u64 p1.size.1), .s (.int .u64 p1.size.2.1), .s (.int .u64 p1.size.2.2.1), .s (.int .u64 p1.size.2.2.2)]] : List (List PV))[0]? = some [.s (.bool p1.neg), .s (.int .u64 p1.size.1), .s (.int .u64 p1.size.2.1), .s (.int .u64 p1.size.2.2.1), .s (.int .u64 p1.size.2.2.2)], 0 ≤ (1 : Int) ∧ (1 : Int) < 4, ([[.s (.bool p2.neg), .s (.int .u64 p2.size.1), .s (.int .u64 p2.size.2.1), .s (.int .u64 p2.size.2.2.1), .s (.int .u64 p2.size.2.2.2)]] : List (List PV))[0]? = some [.s (.bool p2.neg), .s (.int .u64 p2.size.1), .s (.int .u64 p2.size.2.1), .s (.int .u64 p2.size.2.2.1), .s (.int .u64 p2.size.2.2.2)]] (by kernel_rfl) (⟨by decide, rfl, by decide, rfl, trivial⟩) ?_
              exact DX.done (by kernel_rfl)
            refine XO.go [] 2 [2,3,5,20] [] [(2, .one (.pv (.rp [[.s (.bool p1.neg), .s (.int .u64 p1.size.1), .s (.int .u64 p1.size.2.1), .s (.int .u64 p1.size.2.2.1), .s (.int .u64 p1.size.2.2.2)]] 0 0))), (3, .one (.pv (.rp [[.s (.bool p2.neg), .s (.int .u64 p2.size.1), .s (.int .u64 p2.size.2.1), .s (.int .u64 p2.size.2.2.1), .s (.int .u64 p2.size.2.2.2)]] 0 0))), (5, vi (1 : Int)), (20, vb (decide (p2.size.2.1 < p1.size.2.1)))] [] [] (by kernel_rfl) trivial ?_
            refine XO.done (by kernel_rfl) ?_
            refine hK28 _ _ ?_
            refine XW.cond (x := .tmp 20) (a := cd Try.f102 [1,0,1,0,0,1,0,0,0,1,1,1,0]) (b := cd Try.f102 [1,0,1,0,0,1,0,0,0,1,1,1,1]) (t := (decide (p2.size.2.1 < p1.size.2.1))) (by kernel_rfl) (by kernel_rfl) (fun b29 => ?_) (fun b29 => ?_)
            · have h := ift_t b29 h
              refine XW.seq (x := cd Try.f102 [1,0,1,0,0,1,0,0,0,1,1,1,0,0]) (y := cd Try.f102 [1,0,1,0,0,1,0,0,0,1,1,1,0,1]) (by kernel_rfl) fun K30 hK30 => ?_
              refine XW.reg (by kernel_rfl) ?_
              refine XO.go [] 1 [4] [] [(4, vi (1 : Int))] [] [] (by kernel_rfl) trivial ?_
              refine XO.done (by kernel_rfl) ?_
              refine hK30 _ _ ?_
              refine XW.ret (by kernel_rfl) ?_
              refine hQ1 _ _ _ ?_
              obtain rfl := Option.some.inj h
              exact FinP.fin (.inr rfl) [] [vi (1 : Int)] [] (by kernel_rfl) trivial (.one (.rfl _ rfl))
            · have h := ift_f b29 h
              refine XW.skip (by kernel_rfl) ?_
              refine hK24 _ _ ?_
              refine XW.reg (by kernel_rfl) ?_
              refine XO.go [] 3 [2,3,5] [] [(2, .one (.pv (.rp [[.s (.bool p1.neg), .s (.int .u64 p1.size.1), .s (.int .u64 p1.size.2.1), .s (.int .u64 p1.size.2.2.1), .s (.int .u64 p1.size.2.2.2)]] 0 0))), (3, .one (.pv (.rp [[.s (.bool p2.neg), .s (.int .u64 p2.size.1), .s (.int .u64 p2.size.2.1), .s (.int .u64 p2.size.2.2.1), .s (.int .u64 p2.size.2.2.2)]] 0 0))), (5, vi (0 : Int))] [] [] (by kernel_rfl) trivial ?_
              refine XO.done (by kernel_rfl) ?_
              refine XR.one ?_
              refine XW.seq (x := cd Try.f102 [1,0,1,0,0,0]) (y := cd Try.f102 [1,0,1,0,0,1]) (by kernel_rfl) fun K31 hK31 => ?_
              refine XW.seq (x := cd Try.f102 [1,0,1,0,0,0,0]) (y := cd Try.f102 [1,0,1,0,0,0,1]) (by kernel_rfl) fun K32 hK32 => ?_
              refine XW.reg (by kernel_rfl) ?_
              refine XO.go [] 2 [2,3,5,7] [] [(2, .one (.pv (.rp [[.s (.bool p1.neg), .s (.int .u64 p1.size.1), .s (.int .u64 p1.size.2.1), .s (.int .u64 p1.size.2.2.1), .s (.int .u64 p1.size.2.2.2)]] 0 0))), (3, .one (.pv (.rp [[.s (.bool p2.neg), .s (.int .u64 p2.size.1), .s (.int .u64 p2.size.2.1), .s (.int .u64 p2.size.2.2.1), .s (.int .u64 p2.size.2.2.2)]] 0 0))), (5, vi (0 : Int)), (7, vb true)] [] [] (by kernel_rfl) trivial ?_
              refine XO.done (by kernel_rfl) ?_
              refine hK32 _ _ ?_
              refine XW.cond (x := .tmp 7) (a := cd Try.f102 [1,0,1,0,0,0,1,0]) (b := cd Try.f102 [1,0,1,0,0,0,1,1]) (t := true) (by kernel_rfl) (by kernel_rfl) (fun _ => ?_) (fun hx => by cases hx)
              refine XW.skip (by kernel_rfl) ?_
              refine hK31 _ _ ?_
              refine XW.seq (x := cd Try.f102 [1,0,1,0,0,1,0]) (y := cd Try.f102 [1,0,1,0,0,1,1]) (by kernel_rfl) fun K33 hK33 => ?_
              refine XW.block (id := 1) (x := cd Try.f102 [1,0,1,0,0,1,0,0]) (by kernel_rfl) ?_
              refine XW.block (id := 2) (x := cd Try.f102 [1,0,1,0,0,1,0,0,0]) (by kernel_rfl) ?_
              refine XW.seq (x := cd Try.f102 [1,0,1,0,0,1,0,0,0,0]) (y := cd Try.f102 [1,0,1,0,0,1,0,0,0,1]) (by kernel_rfl) fun K34 hK34 => ?_
              refine XW.drwS 8 [(18, vk .u64 p2.size.1), (17, .one (.pv (.rp [[.s (.bool p2.neg), .s (.int .u64 p2.size.1), .s (.int .u64 p2.size.2.1), .s (.int .u64 p2.size.2.2.1), .s (.int .u64 p2.size.2.2.2)]] 0 1))), (16, .one (.pv (.rp [[.s (.bool p2.neg), .s (.int .u64 p2.size.1), .s (.int .u64 p2.size.2.1), .s (.int .u64 p2.size.2.2.1), .s (.int .u64 p2.size.2.2.2)]] 0 1))), (15, vi (0 : Int)), (14, vk .u64 p1.size.1), (13, .one (.pv (.rp [[.s (.bool p1.neg), .s (.int .u64 p1.size.1), .s (.int .u64 p1.size.2.1), .s (.int .u64 p1.size.2.2.1), .s (.int .u64 p1.size.2.2.2)]] 0 1))), (12, .one (.pv (.rp [[.s (.bool p1.neg), .s (.int .u64 p1.size.1), .s (.int .u64 p1.size.2.1), .s (.int .u64 p1.size.2.2.1), .s (.int .u64 p1.size.2.2.2)]] 0 1))), (11, vi (0 : Int)), (2, .one (.pv (.rp [[.s (.bool p1.neg), .s (.int .u64 p1.size.1), .s (.int .u64 p1.size.2.1), .s (.int .u64 p1.size.2.2.1), .s (.int .u64 p1.size.2.2.2)]] 0 0))), (3, .one (.pv (.rp [[.s (.bool p2.neg), .s (.int .u64 p2.size.1), .s (.int .u64 p2.size.2.1), .s (.int .u64 p2.size.2.2.1), .s (.int .u64 p2.size.2.2.2)]] 0 0))), (5, vi (0 : Int)), (7, vb true)] (by kernel_rfl) (by kernel_rfl) ?_ ?_
              · refine DX.go 8 [[.s (.bool p1.neg), .s (.int .u64 p1.size.1), .s (.int .u64 p1.size.2.1), .s (.int .u64 p1.size.2.2.1), .s (.int .u64 p1.size.2.2.2)], [.s (.bool p2.neg), .s (.int .u64 p2.size.1), .s (.int .u64 p2.size.2.1), .s (.int .u64 p2.size.2.2.1), .s (.int .u64 p2.size.2.2.2)]] [(18, vk .u64 p2.size.1), (17, .one (.pv (.rp [[.s (.bool p2.neg), .s (.int .u64 p2.size.1), .s (.int .u64 p2.size.2.1), .s (.int .u64 p2.size.2.2.1), .s (.int .u64 p2.size.2.2.2)]] 0 1))), (16, .one (.pv (.rp [[.s (.bool p2.neg), .s (.int .u64 p2.size.1), .s (.int .u64 p2.size.2.1), .s (.int .u64 p2.size.2.2.1), .s (.int .u64 p2.size.2.2.2)]] 0 1))), (15, vi (0 : Int)), (14, vk .u64 p1.size.1), (13, .one (.pv (.rp [[.s (.bool p1.neg), .s (.int .u64 p1.size.1), .s (.int .u64 p1.size.2.1), .s (.int .u64 p1.size.2.2.1), .s (.int .u64 p1.size.2.2.2)]] 0 1))), (12, .one (.pv (.rp [[.s (.bool p1.neg), .s (.int .u64 p1.size.1), .s (.int .u64 p1.size.2.1), .s (.int .u64 p1.size.2.2.1), .s (.int .u64 p1.size.2.2.2)]] 0 1))), (11, vi (0 : Int)), (2, .one (.pv (.rp [[.s (.bool p1.neg), .s (.int .u64 p1.size.1), .s (.int .u64 p1.size.2.1), .s (.int .u64 p1.size.2.2.1), .s (.int .u64 p1.size.2.2.2)]] 0 0))), (3, .one (.pv (.rp [[.s (.bool p2.neg), .s (.int .u64 p2.size.1), .s (.int .u64 p2.size.2.1), .s (.int .u64 p2.size.2.2.1), .s (.int .u64 p2.size.2.2.2)]] 0 0))), (5, vi (0 : Int)), (7, vb true)] [0 ≤ (0 : Int) ∧ (0 : Int) < 4, ([[.s (.bool p1.neg), .s (.int .u64 p1.size.1), .s (.int .u64 p1.size.2.1), .s (.int .u64 p1.size.2.2.1), .s (.int .u64 p1.size.2.2.2)]] : List (List PV))[0]? = some [.s (.bool p1.neg), .s (.int .u64 p1.size.1), .s (.int .u64 p1.size.2.1), .s (.int .u64 p1.size.2.2.1), .s (.int .u64 p1.size.2.2.2)], 0 ≤ (0 : Int) ∧ (0 : Int) < 4, ([[.s (.bool p2.neg), .s (.int .u64 p2.size.1), .s (.int .u64 p2.size.2.1), .s (.int .u64 p2.size.2.2.1), .s (.int .u64 p2.size.2.2.2)]] : List (List PV))[0]? = some [.s (.bool p2.neg), .s (.int .u64 p2.size.1), .s (.int .u64 p2.size.2.1), .s (.int .u64 p2.size.2.2.1), .s (.int .u64 p2.size.2.2.2)]] (by kernel_rfl) (⟨by decide, rfl, by decide, rfl, trivial⟩) ?_
                exact DX.done (by kernel_rfl)
              refine XO.go [] 2 [2,3,5,10] [] [(2, .one (.pv (.rp [[.s (.bool p1.neg), .s (.int .u64 p1.size.1), .s (.int .u64 p1.size.2.1), .s (.int .u64 p1.size.2.2.1), .s (.int .u64 p1.size.2.2.2)]] 0 0))), (3, .one (.pv (.rp [[.s (.bool p2.neg), .s (.int .u64 p2.size.1), .s (.int .u64 p2.size.2.1), .s (.int .u64 p2.size.2.2.1), .s (.int .u64 p2.size.2.2.2)]] 0 0))), (5, vi (0 : Int)), (10, vb (decide (p1.size.1 < p2.size.1)))] [] [] (by kernel_rfl) trivial ?_
              refine XO.done (by kernel_rfl) ?_
              refine hK34 _ _ ?_
              refine XW.cond (x := .tmp 10) (a := cd Try.f102 [1,0,1,0,0,1,0,0,0,1,0]) (b := cd Try.f102 [1,0,1,0,0,1,0,0,0,1,1]) (t := (decide (p1.size.1 < p2.size.1))) (by kernel_rfl) (by kernel_rfl) (fun b35 => ?_) (fun b35 => ?_)
              · have h := ift_t b35 h
                refine XW.seq (x := cd Try.f102 [1,0,1,0,0,1,0,0,0,1,0,0]) (y := cd Try.f102 [1,0,1,0,0,1,0,0,0,1,0,1]) (by kernel_rfl) fun K36 hK36 => ?_
                refine XW.reg (by kernel_rfl) ?_
                refine XO.go [] 1 [4] [] [(4, vi (-1 : Int))] [] [] (by kernel_rfl) trivial ?_
                refine XO.done (by kernel_rfl) ?_
                refine hK36 _ _ ?_
                refine XW.ret (by kernel_rfl) ?_
                refine hQ1 _ _ _ ?_
                obtain rfl := Option.some.inj h
                exact FinP.fin (.inr rfl) [] [vi (-1 : Int)] [] (by kernel_rfl) trivial (.one (.rfl _ rfl))
              · have h := ift_f b35 h
                refine XW.seq (x := cd Try.f102 [1,0,1,0,0,1,0,0,0,1,1,0]) (y := cd Try.f102 [1,0,1,0,0,1,0,0,0,1,1,1]) (by kernel_rfl) fun K37 hK37 => ?_
                refine XW.drwS 8 [(28, vk .u64 p2.size.1), (27, .one (.pv (.rp [[.s (.bool p2.neg), .s (.int .u64 p2.size.1), .s (.int .u64 p2.size.2.1), .s (.int .u64 p2.size.2.2.1), .s (.int .u64 p2.size.2.2.2)]] 0 1))), (26, .one (.pv (.rp [[.s (.bool p2.neg), .s (.int .u64 p2.size.1), .s (.int .u64 p2.size.2.1), .s (.int .u64 p2.size.2.2.1), .s (.int .u64 p2.size.2.2.2)]] 0 1))), (25, vi (0 : Int)), (24, vk .u64 p1.size.1), (23, .one (.pv (.rp [[.s (.bool p1.neg), .s (.int .u64 p1.size.1), .s (.int .u64 p1.size.2.1), .s (.int .u64 p1.size.2.2.1), .s (.int .u64 p1.size.2.2.2)]] 0 1))), (22, .one (.pv (.rp [[.s (.bool p1.neg), .s (.int .u64 p1.size.1), .s (.int .u64 p1.size.2.1), .s (.int .u64 p1.size.2.2.1), .s (.int .u64 p1.size.2.2.2)]] 0 1))), (21, vi (0 : Int)), (2, .one (.pv (.rp [[.s (.bool p1.neg), .s (.int .u64 p1.size.1), .s (.int .u64 p1.size.2.1), .s (.int .u64 p1.size.2.2.1), .s (.int .u64 p1.size.2.2.2)]] 0 0))), (3, .one (.pv (.rp [[.s (.bool p2.neg), .s (.int .u64 p2.size.1), .s (.int .u64 p2.size.2.1), .s (.int .u64 p2.size.2.2.1), .s (.int .u64 p2.size.2.2.2)]] 0 0))), (5, vi (0 : Int)), (10, vb (decide (p1.size.1 < p2.size.1)))] (by kernel_rfl) (by kernel_rfl) ?_ ?_
                · refine DX.go 8 [[.s (.bool p1.neg), .s (.int .u64 p1.size.1), .s (.int .u64 p1.size.2.1), .s (.int .u64 p1.size.2.2.1), .s (.int .u64 p1.size.2.2.2)], [.s (.bool p2.neg), .s (.int .u64 p2.size.1), .s (.int .u64 p2.size.2.1), .s (.int .u64 p2.size.2.2.1), .s (.int .u64 p2.size.2.2.2)]] [(28, vk .u64 p2.size.1), (27, .one (.pv (.rp [[.s (.bool p2.neg), .s (.int .u64 p2.size.1), .s (.int .u64 p2.size.2.1), .s (.int .u64 p2.size.2.2.1), .s (.int .u64 p2.size.2.2.2)]] 0 1))), (26, .one (.pv (.rp [[.s (.bool p2.neg), .s (.int .u64 p2.size.1), .s (.int .u64 p2.size.2.1), .s (.int .u64 p2.size.2.2.1), .s (.int .u64 p2.size.2.2.2)]] 0 1))), (25, vi (0 : Int)), (24, vk .u64 p1.size.1), (23, .one (.pv (.rp [[.s (.bool p1.neg), .s (.int .u64 p1.size.1), .s (.int .u64 p1.size.2.1), .s (.int .u64 p1.size.2.2.1), .s (.int .u64 p1.size.2.2.2)]] 0 1))), (22, .one (.pv (.rp [[.s (.bool p1.neg), .s (.int .u64 p1.size.1), .s (.int .u64 p1.size.2.1), .s (.int .u64 p1.size.2.2.1), .s (.int .u64 p1.size.2.2.2)]] 0 1))), (21, vi (0 : Int)), (2, .one (.pv (.rp [[.s (.bool p1.neg), .s (.int .u64 p1.size.1), .s (.int .u64 p1.size.2.1), .s (.int .u64 p1.size.2.2.1), .s (.int .u64 p1.size.2.2.2)]] 0 0))), (3, .one (.pv (.rp [[.s (.bool p2.neg), .s (.int .u64 p2.size.1), .s (.int .u64 p2.size.2.1), .s (.int .u64 p2.size.2.2.1), .s (.int .u64 p2.size.2.2.2)]] 0 0))), (5, vi (0 : Int)), (10, vb (decide (p1.size.1 < p2.size.1)))] [0 ≤ (0 : Int) ∧ (0 : Int) < 4, ([[.s (.bool p1.neg), .s (.int .u64 p1.size.1), .s (.int .u64 p1.size.2.1), .s (.int .u64 p1.size.2.2.1), .s (.int .u64 p1.size.2.2.2)]] : List (List PV))[0]? = some [.s (.bool p1.neg), .s (.int .u64 p1.size.1), .s (.int .u64 p1.size.2.1), .s (.int .u64 p1.size.2.2.1), .s (.int .u64 p1.size.2.2.2)], 0 ≤ (0 : Int) ∧ (0 : Int) < 4, ([[.s (.bool p2.neg), .s (.int .u64 p2.size.1), .s (.int .u64 p2.size.2.1), .s (.int .u64 p2.size.2.2.1), .s (.int .u64 p2.size.2.2.2)]] : List (List PV))[0]? = some [.s (.bool p2.neg), .s (.int .u64 p2.size.1), .s (.int .u64 p2.size.2.1), .s (.int .u64 p2.size.2.2.1), .s (.int .u64 p2.size.2.2.2)]] (by kernel_rfl) (⟨by decide, rfl, by decide, rfl, trivial⟩) ?_
                  exact DX.done (by kernel_rfl)
                refine XO.go [] 2 [2,3,5,20] [] [(2, .one (.pv (.rp [[.s (.bool p1.neg), .s (.int .u64 p1.size.1), .s (.int .u64 p1.size.2.1), .s (.int .u64 p1.size.2.2.1), .s (.int .u64 p1.size.2.2.2)]] 0 0))), (3, .one (.pv (.rp [[.s (.bool p2.neg), .s (.int .u64 p2.size.1), .s (.int .u64 p2.size.2.1), .s (.int .u64 p2.size.2.2.1), .s (.int .u64 p2.size.2.2.2)]] 0 0))), (5, vi (0 : Int)), (20, vb (decide (p2.size.1 < p1.size.1)))] [] [] (by kernel_rfl) trivial ?_
                refine XO.done (by kernel_rfl) ?_
                refine hK37 _ _ ?_
                refine XW.cond (x := .tmp 20) (a := cd Try.f102 [1,0,1,0,0,1,0,0,0,1,1,1,0]) (b := cd Try.f102 [1,0,1,0,0,1,0,0,0,1,1,1,1]) (t := (decide (p2.size.1 < p1.size.1))) (by kernel_rfl) (by kernel_rfl) (fun b38 => ?_) (fun b38 => ?_)
                · have h := ift_t b38 h
                  refine XW.seq (x := cd Try.f102 [1,0,1,0,0,1,0,0,0,1,1,1,0,0]) (y := cd Try.f102 [1,0,1,0,0,1,0,0,0,1,1,1,0,1]) (by kernel_rfl) fun K39 hK39 => ?_
                  refine XW.reg (by kernel_rfl) ?_
                  refine XO.go [] 1 [4] [] [(4, vi (1 : Int))] [] [] (by kernel_rfl) trivial ?_
                  refine XO.done (by kernel_rfl) ?_
                  refine hK39 _ _ ?_
                  refine XW.ret (by kernel_rfl) ?_
                  refine hQ1 _ _ _ ?_
                  obtain rfl := Option.some.inj h
                  exact FinP.fin (.inr rfl) [] [vi (1 : Int)] [] (by kernel_rfl) trivial (.one (.rfl _ rfl))
                · have h := ift_f b38 h
                  refine XW.skip (by kernel_rfl) ?_
                  refine hK33 _ _ ?_
                  refine XW.reg (by kernel_rfl) ?_
                  refine XO.go [] 3 [2,3,5] [] [(2, .one (.pv (.rp [[.s (.bool p1.neg), .s (.int .u64 p1.size.1), .s (.int .u64 p1.size.2.1), .s (.int .u64 p1.size.2.2.1), .s (.int .u64 p1.size.2.2.2)]] 0 0))), (3, .one (.pv (.rp [[.s (.bool p2.neg), .s (.int .u64 p2.size.1), .s (.int .u64 p2.size.2.1), .s (.int .u64 p2.size.2.2.1), .s (.int .u64 p2.size.2.2.2)]] 0 0))), (5, vi (-1 : Int))] [] [] (by kernel_rfl) trivial ?_
                  refine XO.done (by kernel_rfl) ?_
                  refine XR.one ?_
                  refine XW.seq (x := cd Try.f102 [1,0,1,0,0,0]) (y := cd Try.f102 [1,0,1,0,0,1]) (by kernel_rfl) fun K40 hK40 => ?_
                  refine XW.seq (x := cd Try.f102 [1,0,1,0,0,0,0]) (y := cd Try.f102 [1,0,1,0,0,0,1]) (by kernel_rfl) fun K41 hK41 => ?_
                  refine XW.reg (by kernel_rfl) ?_
                  refine XO.go [] 2 [2,3,5,7] [] [(2, .one (.pv (.rp [[.s (.bool p1.neg), .s (.int .u64 p1.size.1), .s (.int .u64 p1.size.2.1), .s (.int .u64 p1.size.2.2.1), .s (.int .u64 p1.size.2.2.2)]] 0 0))), (3, .one (.pv (.rp [[.s (.bool p2.neg), .s (.int .u64 p2.size.1), .s (.int .u64 p2.size.2.1), .s (.int .u64 p2.size.2.2.1), .s (.int .u64 p2.size.2.2.2)]] 0 0))), (5, vi (-1 : Int)), (7, vb false)] [] [] (by kernel_rfl) trivial ?_
                  refine XO.done (by kernel_rfl) ?_
                  refine hK41 _ _ ?_
                  refine XW.cond (x := .tmp 7) (a := cd Try.f102 [1,0,1,0,0,0,1,0]) (b := cd Try.f102 [1,0,1,0,0,0,1,1]) (t := false) (by kernel_rfl) (by kernel_rfl) (fun hx => by cases hx) (fun _ => ?_)
                  refine XW.exit (id := 0) (by kernel_rfl) ?_
                  refine hQ1 _ _ _ ?_
                  refine hK2 _ _ ?_
                  refine XW.seq (x := cd Try.f102 [1,1,0]) (y := cd Try.f102 [1,1,1]) (by kernel_rfl) fun K42 hK42 => ?_
                  refine XW.reg (by kernel_rfl) ?_
                  refine XO.go [] 1 [4] [] [(4, vi (0 : Int))] [] [] (by kernel_rfl) trivial ?_
                  refine XO.done (by kernel_rfl) ?_
                  refine hK42 _ _ ?_
                  refine XW.ret (by kernel_rfl) ?_
                  obtain rfl := Option.some.inj h
                  exact FinP.fin (.inr rfl) [] [vi (0 : Int)] [] (by kernel_rfl) trivial (.one (.rfl _ rfl))


end Go.Proofs.Ytdkmclmdemngfaa
