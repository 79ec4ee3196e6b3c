/- Printed by a program: what the functions compute, and the proofs of their contracts. -/
import Derived.Test.YtdkmclmdemngfaaChecked
import Derived.Test.YtdkmclmdemngfaaSxMap
import Derived.Test.YtdkmclmdemngfaaGTypes
namespace Go.Proofs.Ytdkmclmdemngfaa
open Go.SX Go
set_option linter.unusedVariables false
set_option linter.unusedSimpArgs false
set_option maxRecDepth 100000

def value_leaf_j1 (x1 : Bool) : Option Bool :=
    some x1

def value_leaf (p1 : GType) : Option Bool :=
    ift (p1.kind != (6 : Int))
      (value_leaf_j1 (p1.kind != (7 : Int)))
      (value_leaf_j1 false)


theorem c_value_leaf (p1 : GType) (r : Bool) (h : value_leaf p1 = some r) : PC Try.prog 75 [.ag [ci p1.kind, ci p1.scale, cl eField p1.fields]] (vb r) := by
  unfold value_leaf at h
  refine PC.of (n := 11) (fn := Try.f75) (c := cd Try.f75 []) (by kernel_rfl) (by kernel_rfl) (by kernel_rfl) (Nat.le_of_ble_eq_true rfl) ?_
  refine XW.seq (x := cd Try.f75 [0]) (y := cd Try.f75 [1]) (by kernel_rfl) fun K1 hK1 => ?_
  refine XW.reg (by kernel_rfl) ?_
  refine XO.go [] 2 [1] [] [(1, .one (.pv (.rp [[pi p1.kind, pi p1.scale, .ro (eField.els p1.fields)]] 0 0)))] [] [] (by kernel_rfl) trivial ?_
  refine XO.done (by kernel_rfl) ?_
  refine hK1 _ _ ?_
  refine XW.seq (x := cd Try.f75 [1,0]) (y := cd Try.f75 [1,1]) (by kernel_rfl) fun K2 hK2 => ?_
  have hJ1 : ∀ (x1 : Bool), value_leaf_j1 x1 = some r → ∀ fr1 st1, Sub 11 0 [] fr1 st1 [(2, vb x1)] [] → K2 fr1 st1 := by
    intro x1 h fr1 st1 hS
    unfold value_leaf_j1 at h
    refine hK2 _ _ (XW.sub hS ?_)
    refine XW.ret (by kernel_rfl) ?_
    obtain rfl := Option.some.inj h
    exact FinP.fin (.inr rfl) [] [vb x1] [] (by kernel_rfl) trivial (.one (.rfl _ rfl))
  rcases Bool.eq_false_or_eq_true (p1.kind != (6 : Int)) with b3 | b3
  · have h := ift_t b3 h
    refine XW.reg (by kernel_rfl) ?_
    refine XO.go [] 4 [1,6] [[pi p1.kind, pi p1.scale, .ro (eField.els p1.fields)]] [(1, .one (.pv (.rp [[pi p1.kind, pi p1.scale, .ro (eField.els p1.fields)]] 0 0))), (6, vb (p1.kind != (6 : Int)))] [] [([[pi p1.kind, pi p1.scale, .ro (eField.els p1.fields)]] : List (List PV))[0]? = some [pi p1.kind, pi p1.scale, .ro (eField.els p1.fields)]] (by kernel_rfl) (⟨rfl, trivial⟩) ?_
    refine XO.setb 6 true (B := (p1.kind != (6 : Int))) rfl b3 ?_
    refine XO.go [] 5 [2] [[pi p1.kind, pi p1.scale, .ro (eField.els p1.fields)]] [(2, vb (p1.kind != (7 : Int)))] [] [([[pi p1.kind, pi p1.scale, .ro (eField.els p1.fields)]] : List (List PV))[0]? = some [pi p1.kind, pi p1.scale, .ro (eField.els p1.fields)]] (by kernel_rfl) (⟨rfl, trivial⟩) ?_
    refine XO.done (by kernel_rfl) ?_
    exact hJ1 (p1.kind != (7 : Int)) h _ _ (Sub.pick [2] (by kernel_rfl))
  · have h := ift_f b3 h
    refine XW.reg (by kernel_rfl) ?_
    refine XO.go [] 4 [1,6] [[pi p1.kind, pi p1.scale, .ro (eField.els p1.fields)]] [(1, .one (.pv (.rp [[pi p1.kind, pi p1.scale, .ro (eField.els p1.fields)]] 0 0))), (6, vb (p1.kind != (6 : Int)))] [] [([[pi p1.kind, pi p1.scale, .ro (eField.els p1.fields)]] : List (List PV))[0]? = some [pi p1.kind, pi p1.scale, .ro (eField.els p1.fields)]] (by kernel_rfl) (⟨rfl, trivial⟩) ?_
    refine XO.setb 6 false (B := (p1.kind != (6 : Int))) rfl b3 ?_
    refine XO.go [] 5 [2] [] [(2, vb false)] [] [] (by kernel_rfl) trivial ?_
    refine XO.done (by kernel_rfl) ?_
    exact hJ1 false h _ _ (Sub.pick [2] (by kernel_rfl))

def value_Name_1_j1 (x1 : Bool) : Option Bool :=
    some x1

def value_Name_1 (p1 : Int) : Option Bool :=
    ift (decide (p1 < (97 : Int)))
      (ift (decide (p1 < (48 : Int)))
         (value_Name_1_j1 (p1 != (95 : Int)))
         (ift (decide ((57 : Int) < p1))
            (value_Name_1_j1 (p1 != (95 : Int)))
            (value_Name_1_j1 false)))
      (ift (decide ((122 : Int) < p1))
         (ift (decide (p1 < (48 : Int)))
            (value_Name_1_j1 (p1 != (95 : Int)))
            (ift (decide ((57 : Int) < p1))
               (value_Name_1_j1 (p1 != (95 : Int)))
               (value_Name_1_j1 false)))
         (value_Name_1_j1 false))


theorem c_value_Name_1 (p1 : Int) (r : Bool) (h : value_Name_1 p1 = some r) : PC Try.prog 109 [vk .i32 p1] (vb r) := by
  unfold value_Name_1 at h
  refine PC.of (n := 21) (fn := Try.f109) (c := cd Try.f109 []) (by kernel_rfl) (by kernel_rfl) (by kernel_rfl) (Nat.le_of_ble_eq_true rfl) ?_
  refine XW.seq (x := cd Try.f109 [0]) (y := cd Try.f109 [1]) (by kernel_rfl) fun K1 hK1 => ?_
  refine XW.reg (by kernel_rfl) ?_
  refine XO.go [] 1 [0] [] [(0, vk .i32 p1)] [] [] (by kernel_rfl) trivial ?_
  refine XO.done (by kernel_rfl) ?_
  refine hK1 _ _ ?_
  refine XW.seq (x := cd Try.f109 [1,0]) (y := cd Try.f109 [1,1]) (by kernel_rfl) fun K2 hK2 => ?_
  have hJ1 : ∀ (x1 : Bool), value_Name_1_j1 x1 = some r → ∀ fr1 st1, Sub 21 0 [] fr1 st1 [(2, vb x1)] [] → K2 fr1 st1 := by
    intro x1 h fr1 st1 hS
    unfold value_Name_1_j1 at h
    refine hK2 _ _ (XW.sub hS ?_)
    refine XW.ret (by kernel_rfl) ?_
    obtain rfl := Option.some.inj h
    exact FinP.fin (.inr rfl) [] [vb x1] [] (by kernel_rfl) trivial (.one (.rfl _ rfl))
  rcases Bool.eq_false_or_eq_true (decide (p1 < (97 : Int))) with b3 | b3
  · have h := ift_t b3 h
    rcases Bool.eq_false_or_eq_true (decide (p1 < (48 : Int))) with b4 | b4
    · have h := ift_t b4 h
      refine XW.reg (by kernel_rfl) ?_
      refine XO.go [] 3 [0,5] [] [(0, vk .i32 p1), (5, vb (decide (p1 < (97 : Int))))] [] [] (by kernel_rfl) trivial ?_
      refine XO.setb 5 true (B := (decide (p1 < (97 : Int)))) rfl b3 ?_
      refine XO.go [] 7 [0,9,12] [] [(0, vk .i32 p1), (9, vb true), (12, vb (decide (p1 < (48 : Int))))] [] [] (by kernel_rfl) trivial ?_
      refine XO.setb 12 true (B := (decide (p1 < (48 : Int)))) rfl b4 ?_
      refine XO.go [] 9 [2] [] [(2, vb (p1 != (95 : Int)))] [] [] (by kernel_rfl) trivial ?_
      refine XO.done (by kernel_rfl) ?_
      exact hJ1 (p1 != (95 : Int)) h _ _ (Sub.pick [2] (by kernel_rfl))
    · have h := ift_f b4 h
      rcases Bool.eq_false_or_eq_true (decide ((57 : Int) < p1)) with b5 | b5
      · have h := ift_t b5 h
        refine XW.reg (by kernel_rfl) ?_
        refine XO.go [] 3 [0,5] [] [(0, vk .i32 p1), (5, vb (decide (p1 < (97 : Int))))] [] [] (by kernel_rfl) trivial ?_
        refine XO.setb 5 true (B := (decide (p1 < (97 : Int)))) rfl b3 ?_
        refine XO.go [] 7 [0,9,12] [] [(0, vk .i32 p1), (9, vb true), (12, vb (decide (p1 < (48 : Int))))] [] [] (by kernel_rfl) trivial ?_
        refine XO.setb 12 false (B := (decide (p1 < (48 : Int)))) rfl b4 ?_
        refine XO.go [] 5 [0,17] [] [(0, vk .i32 p1), (17, vb (decide ((57 : Int) < p1)))] [] [] (by kernel_rfl) trivial ?_
        refine XO.setb 17 true (B := (decide ((57 : Int) < p1))) rfl b5 ?_
        refine XO.go [] 4 [2] [] [(2, vb (p1 != (95 : Int)))] [] [] (by kernel_rfl) trivial ?_
        refine XO.done (by kernel_rfl) ?_
        exact hJ1 (p1 != (95 : Int)) h _ _ (Sub.pick [2] (by kernel_rfl))
      · have h := ift_f b5 h
        refine XW.reg (by kernel_rfl) ?_
        refine XO.go [] 3 [0,5] [] [(0, vk .i32 p1), (5, vb (decide (p1 < (97 : Int))))] [] [] (by kernel_rfl) trivial ?_
        refine XO.setb 5 true (B := (decide (p1 < (97 : Int)))) rfl b3 ?_
        refine XO.go [] 7 [0,9,12] [] [(0, vk .i32 p1), (9, vb true), (12, vb (decide (p1 < (48 : Int))))] [] [] (by kernel_rfl) trivial ?_
        refine XO.setb 12 false (B := (decide (p1 < (48 : Int)))) rfl b4 ?_
        refine XO.go [] 5 [0,17] [] [(0, vk .i32 p1), (17, vb (decide ((57 : Int) < p1)))] [] [] (by kernel_rfl) trivial ?_
        refine XO.setb 17 false (B := (decide ((57 : Int) < p1))) rfl b5 ?_
        refine XO.go [] 4 [2] [] [(2, vb false)] [] [] (by kernel_rfl) trivial ?_
        refine XO.done (by kernel_rfl) ?_
        exact hJ1 false h _ _ (Sub.pick [2] (by kernel_rfl))
  · have h := ift_f b3 h
    rcases Bool.eq_false_or_eq_true (decide ((122 : Int) < p1)) with b6 | b6
    · have h := ift_t b6 h
      rcases Bool.eq_false_or_eq_true (decide (p1 < (48 : Int))) with b7 | b7
      · have h := ift_t b7 h
        refine XW.reg (by kernel_rfl) ?_
        refine XO.go [] 3 [0,5] [] [(0, vk .i32 p1), (5, vb (decide (p1 < (97 : Int))))] [] [] (by kernel_rfl) trivial ?_
        refine XO.setb 5 false (B := (decide (p1 < (97 : Int)))) rfl b3 ?_
        refine XO.go [] 4 [0,9] [] [(0, vk .i32 p1), (9, vb (decide ((122 : Int) < p1)))] [] [] (by kernel_rfl) trivial ?_
        refine XO.setb 9 true (B := (decide ((122 : Int) < p1))) rfl b6 ?_
        refine XO.go [] 3 [0,9,12] [] [(0, vk .i32 p1), (9, vb true), (12, vb (decide (p1 < (48 : Int))))] [] [] (by kernel_rfl) trivial ?_
        refine XO.setb 12 true (B := (decide (p1 < (48 : Int)))) rfl b7 ?_
        refine XO.go [] 9 [2] [] [(2, vb (p1 != (95 : Int)))] [] [] (by kernel_rfl) trivial ?_
        refine XO.done (by kernel_rfl) ?_
        exact hJ1 (p1 != (95 : Int)) h _ _ (Sub.pick [2] (by kernel_rfl))
      · have h := ift_f b7 h
        rcases Bool.eq_false_or_eq_true (decide ((57 : Int) < p1)) with b8 | b8
        · have h := ift_t b8 h
          refine XW.reg (by kernel_rfl) ?_
          refine XO.go [] 3 [0,5] [] [(0, vk .i32 p1), (5, vb (decide (p1 < (97 : Int))))] [] [] (by kernel_rfl) trivial ?_
          refine XO.setb 5 false (B := (decide (p1 < (97 : Int)))) rfl b3 ?_
          refine XO.go [] 4 [0,9] [] [(0, vk .i32 p1), (9, vb (decide ((122 : Int) < p1)))] [] [] (by kernel_rfl) trivial ?_
          refine XO.setb 9 true (B := (decide ((122 : Int) < p1))) rfl b6 ?_
          refine XO.go [] 3 [0,9,12] [] [(0, vk .i32 p1), (9, vb true), (12, vb (decide (p1 < (48 : Int))))] [] [] (by kernel_rfl) trivial ?_
          refine XO.setb 12 false (B := (decide (p1 < (48 : Int)))) rfl b7 ?_
          refine XO.go [] 5 [0,17] [] [(0, vk .i32 p1), (17, vb (decide ((57 : Int) < p1)))] [] [] (by kernel_rfl) trivial ?_
          refine XO.setb 17 true (B := (decide ((57 : Int) < p1))) rfl b8 ?_
          refine XO.go [] 4 [2] [] [(2, vb (p1 != (95 : Int)))] [] [] (by kernel_rfl) trivial ?_
          refine XO.done (by kernel_rfl) ?_
          exact hJ1 (p1 != (95 : Int)) h _ _ (Sub.pick [2] (by kernel_rfl))
        · have h := ift_f b8 h
          refine XW.reg (by kernel_rfl) ?_
          refine XO.go [] 3 [0,5] [] [(0, vk .i32 p1), (5, vb (decide (p1 < (97 : Int))))] [] [] (by kernel_rfl) trivial ?_
          refine XO.setb 5 false (B := (decide (p1 < (97 : Int)))) rfl b3 ?_
          refine XO.go [] 4 [0,9] [] [(0, vk .i32 p1), (9, vb (decide ((122 : Int) < p1)))] [] [] (by kernel_rfl) trivial ?_
          refine XO.setb 9 true (B := (decide ((122 : Int) < p1))) rfl b6 ?_
          refine XO.go [] 3 [0,9,12] [] [(0, vk .i32 p1), (9, vb true), (12, vb (decide (p1 < (48 : Int))))] [] [] (by kernel_rfl) trivial ?_
          refine XO.setb 12 false (B := (decide (p1 < (48 : Int)))) rfl b7 ?_
          refine XO.go [] 5 [0,17] [] [(0, vk .i32 p1), (17, vb (decide ((57 : Int) < p1)))] [] [] (by kernel_rfl) trivial ?_
          refine XO.setb 17 false (B := (decide ((57 : Int) < p1))) rfl b8 ?_
          refine XO.go [] 4 [2] [] [(2, vb false)] [] [] (by kernel_rfl) trivial ?_
          refine XO.done (by kernel_rfl) ?_
          exact hJ1 false h _ _ (Sub.pick [2] (by kernel_rfl))
    · have h := ift_f b6 h
      refine XW.reg (by kernel_rfl) ?_
      refine XO.go [] 3 [0,5] [] [(0, vk .i32 p1), (5, vb (decide (p1 < (97 : Int))))] [] [] (by kernel_rfl) trivial ?_
      refine XO.setb 5 false (B := (decide (p1 < (97 : Int)))) rfl b3 ?_
      refine XO.go [] 4 [0,9] [] [(0, vk .i32 p1), (9, vb (decide ((122 : Int) < p1)))] [] [] (by kernel_rfl) trivial ?_
      refine XO.setb 9 false (B := (decide ((122 : Int) < p1))) rfl b6 ?_
      refine XO.go [] 12 [2] [] [(2, vb false)] [] [] (by kernel_rfl) trivial ?_
      refine XO.done (by kernel_rfl) ?_
      exact hJ1 false h _ _ (Sub.pick [2] (by kernel_rfl))

def strings_indexFunc_s5_j1 : Option Int :=
    some (-1 : Int)

def strings_indexFunc_s5_l1 (p1 : ByteArray) (p2 : Bool) : Nat → Nat → Option Int
  | 0, _ => none
  | k1 + 1, z1 =>
    ift (decide (z1 < p1.size))
      (bnd (value_Name_1 (Int.ofNat (Utf8.decode p1 z1).1)) fun r1 =>
       ift (r1 == p2)
         (some (Int.ofNat z1))
         ((strings_indexFunc_s5_l1 p1 p2 k1) (z1 + (Utf8.decode p1 z1).2)))
      (strings_indexFunc_s5_j1)

def strings_indexFunc_s5 (p1 : ByteArray) (p2 : Bool) : Option Int :=
    strings_indexFunc_s5_l1 p1 p2 BIG 0


theorem c_strings_indexFunc_s5 (p1 : ByteArray) (p2 : Bool) (r : Int) (h : strings_indexFunc_s5 p1 p2 = some r) : PC Try.prog 114 [vs p1, .one (.pv (.fn 109 [])), vb p2] (vi r) := by
  unfold strings_indexFunc_s5 at h
  refine PC.of (n := 21) (fn := Try.f114) (c := cd Try.f114 []) (by kernel_rfl) (by kernel_rfl) (by kernel_rfl) (Nat.le_of_ble_eq_true rfl) ?_
  refine XW.seq (x := cd Try.f114 [0]) (y := cd Try.f114 [1]) (by kernel_rfl) fun K1 hK1 => ?_
  refine XW.reg (by kernel_rfl) ?_
  refine XO.go [] 1 [0,1,2] [] [(0, vs p1), (1, .one (.pv (.fn 109 []))), (2, vb p2)] [] [] (by kernel_rfl) trivial ?_
  refine XO.done (by kernel_rfl) ?_
  refine hK1 _ _ ?_
  refine XW.seq (x := cd Try.f114 [1,0]) (y := cd Try.f114 [1,1]) (by kernel_rfl) fun K2 hK2 => ?_
  have hJ1 : ∀ (_ : Unit), strings_indexFunc_s5_j1 = some r → ∀ fr1 st1, Sub 21 0 [] fr1 st1 [] [] → K2 fr1 st1 := by
    intro _ h fr1 st1 hS
    unfold strings_indexFunc_s5_j1 at h
    refine hK2 _ _ (XW.sub hS ?_)
    refine XW.seq (x := cd Try.f114 [1,1,0]) (y := cd Try.f114 [1,1,1]) (by kernel_rfl) fun K13 hK13 => ?_
    refine XW.reg (by kernel_rfl) ?_
    refine XO.go [] 1 [6] [] [(6, vi (-1 : Int))] [] [] (by kernel_rfl) trivial ?_
    refine XO.done (by kernel_rfl) ?_
    refine hK13 _ _ ?_
    refine XW.ret (by kernel_rfl) ?_
    obtain rfl := Option.some.inj h
    exact FinP.fin (.inr rfl) [] [vi (-1 : Int)] [] (by kernel_rfl) trivial (.one (.rfl _ rfl))
  refine XW.seq (x := cd Try.f114 [1,0,0]) (y := cd Try.f114 [1,0,1]) (by kernel_rfl) fun K3 hK3 => ?_
  refine XW.reg (by kernel_rfl) ?_
  refine XO.go [] 1 [1,2,9] [] [(1, .one (.pv (.fn 109 []))), (2, vb p2), (9, vs p1)] [] [] (by kernel_rfl) trivial ?_
  refine XO.rng p1 [(10, .one (.pt 0 0 0 0)), (1, .one (.pv (.fn 109 []))), (2, vb p2), (9, vs p1)] [.raw (.stringIter p1 0)] (by kernel_rfl) (by kernel_rfl) (by kernel_rfl) ?_
  refine XO.done (by kernel_rfl) ?_
  refine hK3 _ _ ?_
  refine XW.block (id := 0) (x := cd Try.f114 [1,0,1,0]) (by kernel_rfl) ?_
  refine XW.rounds' BIG (x := cd Try.f114 [1,0,1,0,0]) (by kernel_rfl) fun Q1 hQ1 => ?_
  have hL1 : ∀ (k1 : Nat) (z1 : Nat), strings_indexFunc_s5_l1 p1 p2 k1 z1 = some r → XR Try.prog 21 0 [] (cd Try.f114 [1,0,1,0,0]) Q1 k1 [(1, .one (.pv (.fn 109 []))), (2, vb p2), (10, .one (.pt 0 0 0 0))] [.raw (.stringIter p1 z1)] := by
    intro k1
    induction k1 with
    | zero => intro z1 h; rw [strings_indexFunc_s5_l1.eq_1] at h; cases h
    | succ k1 ih1 =>
      intro z1 h
      rw [strings_indexFunc_s5_l1.eq_2] at h
      refine XW.seq (x := cd Try.f114 [1,0,1,0,0,0]) (y := cd Try.f114 [1,0,1,0,0,1]) (by kernel_rfl) fun K4 hK4 => ?_
      rcases Bool.eq_false_or_eq_true (decide (z1 < p1.size)) with b5 | b5
      · have h := ift_t b5 h
        refine XW.reg (by kernel_rfl) ?_
        refine XO.nxt 0 p1 z1 [(11, .tp [vb true, vi (Int.ofNat z1), vk .i32 (Int.ofNat (Utf8.decode p1 z1).1)]), (1, .one (.pv (.fn 109 []))), (2, vb p2), (10, .one (.pt 0 0 0 0))] [.raw (.stringIter p1 (z1 + (Utf8.decode p1 z1).2))] (by kernel_rfl) (by kernel_rfl) (by kernel_rfl) (by kernel_rfl) b5 ?_
        refine XO.go [] 1 [1,2,10,11,12] [] [(1, .one (.pv (.fn 109 []))), (2, vb p2), (10, .one (.pt 0 0 0 0)), (11, .tp [vb true, vi (Int.ofNat z1), vk .i32 (Int.ofNat (Utf8.decode p1 z1).1)]), (12, vb true)] [.raw (.stringIter p1 (z1 + (Utf8.decode p1 z1).2))] [] (by kernel_rfl) trivial ?_
        refine XO.done (by kernel_rfl) ?_
        refine hK4 _ _ ?_
        refine XW.seq (x := cd Try.f114 [1,0,1,0,0,1,0]) (y := cd Try.f114 [1,0,1,0,0,1,1]) (by kernel_rfl) fun K6 hK6 => ?_
        refine XW.cond (x := .tmp 12) (a := cd Try.f114 [1,0,1,0,0,1,0,0]) (b := cd Try.f114 [1,0,1,0,0,1,0,1]) (t := true) (by kernel_rfl) (by kernel_rfl) (fun _ => ?_) (fun hx => by cases hx)
        refine XW.skip (by kernel_rfl) ?_
        refine hK6 _ _ ?_
        refine XW.block (id := 1) (x := cd Try.f114 [1,0,1,0,0,1,1,0]) (by kernel_rfl) ?_
        refine XW.seq (x := cd Try.f114 [1,0,1,0,0,1,1,0,0]) (y := cd Try.f114 [1,0,1,0,0,1,1,0,1]) (by kernel_rfl) fun K7 hK7 => ?_
        refine XW.reg (by kernel_rfl) ?_
        refine XO.go [] 4 [1,2,7,8,10] [] [(1, .one (.pv (.fn 109 []))), (2, vb p2), (7, vi (Int.ofNat z1)), (8, vk .i32 (Int.ofNat (Utf8.decode p1 z1).1)), (10, .one (.pt 0 0 0 0))] [.raw (.stringIter p1 (z1 + (Utf8.decode p1 z1).2))] [] (by kernel_rfl) trivial ?_
        refine XO.done (by kernel_rfl) ?_
        refine hK7 _ _ ?_
        refine XW.seq (x := cd Try.f114 [1,0,1,0,0,1,1,0,1,0]) (y := cd Try.f114 [1,0,1,0,0,1,1,0,1,1]) (by kernel_rfl) fun K8 hK8 => ?_
        obtain ⟨r1, c9, h⟩ := bnd_some h
        refine XW.reg (by kernel_rfl) ?_
        refine XO.go [] 2 [1,2,7,10,15,16] [] [(1, .one (.pv (.fn 109 []))), (2, vb p2), (7, vi (Int.ofNat z1)), (10, .one (.pt 0 0 0 0)), (15, .one (.pv (.fn 109 []))), (16, vk .i32 (Int.ofNat (Utf8.decode p1 z1).1))] [.raw (.stringIter p1 (z1 + (Utf8.decode p1 z1).2))] [] (by kernel_rfl) trivial ?_
        refine XO.cal 109 [vk .i32 (Int.ofNat (Utf8.decode p1 z1).1)] (vb r1) [(17, vb r1), (1, .one (.pv (.fn 109 []))), (2, vb p2), (7, vi (Int.ofNat z1)), (10, .one (.pt 0 0 0 0)), (15, .one (.pv (.fn 109 []))), (16, vk .i32 (Int.ofNat (Utf8.decode p1 z1).1))] (by kernel_rfl) (c_value_Name_1 _ _ c9) rfl rfl (by kernel_rfl) ?_
        refine XO.go [] 2 [1,2,7,10,19] [] [(1, .one (.pv (.fn 109 []))), (2, vb p2), (7, vi (Int.ofNat z1)), (10, .one (.pt 0 0 0 0)), (19, vb (r1 == p2))] [.raw (.stringIter p1 (z1 + (Utf8.decode p1 z1).2))] [] (by kernel_rfl) trivial ?_
        refine XO.done (by kernel_rfl) ?_
        refine hK8 _ _ ?_
        refine XW.cond (x := .tmp 19) (a := cd Try.f114 [1,0,1,0,0,1,1,0,1,1,0]) (b := cd Try.f114 [1,0,1,0,0,1,1,0,1,1,1]) (t := (r1 == p2)) (by kernel_rfl) (by kernel_rfl) (fun b10 => ?_) (fun b10 => ?_)
        · have h := ift_t b10 h
          refine XW.seq (x := cd Try.f114 [1,0,1,0,0,1,1,0,1,1,0,0]) (y := cd Try.f114 [1,0,1,0,0,1,1,0,1,1,0,1]) (by kernel_rfl) fun K11 hK11 => ?_
          refine XW.reg (by kernel_rfl) ?_
          refine XO.go [] 2 [6] [] [(6, vi (Int.ofNat z1))] [.raw (.stringIter p1 (z1 + (Utf8.decode p1 z1).2))] [] (by kernel_rfl) trivial ?_
          refine XO.done (by kernel_rfl) ?_
          refine hK11 _ _ ?_
          refine XW.ret (by kernel_rfl) ?_
          refine hQ1 _ _ _ ?_
          obtain rfl := Option.some.inj h
          exact FinP.fin (.inr rfl) [] [vi (Int.ofNat z1)] [] (by kernel_rfl) trivial (.one (.rfl _ rfl))
        · have h := ift_f b10 h
          refine XW.skip (by kernel_rfl) ?_
          exact XR.sub (Sub.pick [1,2,10] (by kernel_rfl)) (ih1 (z1 + (Utf8.decode p1 z1).2) h)
      · have h := ift_f b5 h
        refine XW.reg (by kernel_rfl) ?_
        refine XO.nxtE 0 p1 z1 [(11, .tp [vb false]), (1, .one (.pv (.fn 109 []))), (2, vb p2), (10, .one (.pt 0 0 0 0))] (by kernel_rfl) (by kernel_rfl) (by kernel_rfl) b5 ?_
        refine XO.go [] 1 [1,2,10,11,12] [] [(1, .one (.pv (.fn 109 []))), (2, vb p2), (10, .one (.pt 0 0 0 0)), (11, .tp [vb false]), (12, vb false)] [.raw (.stringIter p1 z1)] [] (by kernel_rfl) trivial ?_
        refine XO.done (by kernel_rfl) ?_
        refine hK4 _ _ ?_
        refine XW.seq (x := cd Try.f114 [1,0,1,0,0,1,0]) (y := cd Try.f114 [1,0,1,0,0,1,1]) (by kernel_rfl) fun K12 hK12 => ?_
        refine XW.cond (x := .tmp 12) (a := cd Try.f114 [1,0,1,0,0,1,0,0]) (b := cd Try.f114 [1,0,1,0,0,1,0,1]) (t := false) (by kernel_rfl) (by kernel_rfl) (fun hx => by cases hx) (fun _ => ?_)
        refine XW.exit (id := 0) (by kernel_rfl) ?_
        refine hQ1 _ _ _ ?_
        exact hJ1 () h _ _ (Sub.trans (Sub.pick (fr' := []) [] (by kernel_rfl)) (Sub.take (fr' := []) 0 (Nat.zero_le _) (by kernel_rfl) (by kernel_rfl)))
  exact XR.sub (Sub.pick [1,2,10] (by kernel_rfl)) (hL1 BIG 0 h)

def strings_IndexFunc_s4 (p1 : ByteArray) : Option Int :=
    bnd (strings_indexFunc_s5 p1 true) fun r1 =>
    some r1


theorem c_strings_IndexFunc_s4 (p1 : ByteArray) (r : Int) (h : strings_IndexFunc_s4 p1 = some r) : PC Try.prog 113 [vs p1, .one (.pv (.fn 109 []))] (vi r) := by
  unfold strings_IndexFunc_s4 at h
  refine PC.of (n := 8) (fn := Try.f113) (c := cd Try.f113 []) (by kernel_rfl) (by kernel_rfl) (by kernel_rfl) (Nat.le_of_ble_eq_true rfl) ?_
  refine XW.seq (x := cd Try.f113 [0]) (y := cd Try.f113 [1]) (by kernel_rfl) fun K1 hK1 => ?_
  refine XW.reg (by kernel_rfl) ?_
  refine XO.go [] 1 [0,1] [] [(0, vs p1), (1, .one (.pv (.fn 109 [])))] [] [] (by kernel_rfl) trivial ?_
  refine XO.done (by kernel_rfl) ?_
  refine hK1 _ _ ?_
  refine XW.seq (x := cd Try.f113 [1,0]) (y := cd Try.f113 [1,1]) (by kernel_rfl) fun K2 hK2 => ?_
  obtain ⟨r1, c3, h⟩ := bnd_some h
  refine XW.reg (by kernel_rfl) ?_
  refine XO.go [] 2 [5,6] [] [(5, vs p1), (6, .one (.pv (.fn 109 [])))] [] [] (by kernel_rfl) trivial ?_
  refine XO.cal 114 [vs p1, .one (.pv (.fn 109 [])), vb true] (vi r1) [(7, vi r1), (5, vs p1), (6, .one (.pv (.fn 109 [])))] (by kernel_rfl) (c_strings_indexFunc_s5 _ _ _ c3) rfl rfl (by kernel_rfl) ?_
  refine XO.go [] 1 [4] [] [(4, vi r1)] [] [] (by kernel_rfl) trivial ?_
  refine XO.done (by kernel_rfl) ?_
  refine hK2 _ _ ?_
  refine XW.ret (by kernel_rfl) ?_
  obtain rfl := Option.some.inj h
  exact FinP.fin (.inr rfl) [] [vi r1] [] (by kernel_rfl) trivial (.one (.rfl _ rfl))

def strings_ContainsFunc_s3 (p1 : ByteArray) : Option Bool :=
    bnd (strings_IndexFunc_s4 p1) fun r1 =>
    some (decide ((0 : Int) ≤ r1))


theorem c_strings_ContainsFunc_s3 (p1 : ByteArray) (r : Bool) (h : strings_ContainsFunc_s3 p1 = some r) : PC Try.prog 110 [vs p1, .one (.pv (.fn 109 []))] (vb r) := by
  unfold strings_ContainsFunc_s3 at h
  refine PC.of (n := 9) (fn := Try.f110) (c := cd Try.f110 []) (by kernel_rfl) (by kernel_rfl) (by kernel_rfl) (Nat.le_of_ble_eq_true rfl) ?_
  refine XW.seq (x := cd Try.f110 [0]) (y := cd Try.f110 [1]) (by kernel_rfl) fun K1 hK1 => ?_
  refine XW.reg (by kernel_rfl) ?_
  refine XO.go [] 1 [0,1] [] [(0, vs p1), (1, .one (.pv (.fn 109 [])))] [] [] (by kernel_rfl) trivial ?_
  refine XO.done (by kernel_rfl) ?_
  refine hK1 _ _ ?_
  refine XW.seq (x := cd Try.f110 [1,0]) (y := cd Try.f110 [1,1]) (by kernel_rfl) fun K2 hK2 => ?_
  obtain ⟨r1, c3, h⟩ := bnd_some h
  refine XW.reg (by kernel_rfl) ?_
  refine XO.go [] 2 [5,6] [] [(5, vs p1), (6, .one (.pv (.fn 109 [])))] [] [] (by kernel_rfl) trivial ?_
  refine XO.cal 113 [vs p1, .one (.pv (.fn 109 []))] (vi r1) [(7, vi r1), (5, vs p1), (6, .one (.pv (.fn 109 [])))] (by kernel_rfl) (c_strings_IndexFunc_s4 _ _ c3) rfl rfl (by kernel_rfl) ?_
  refine XO.go [] 2 [4] [] [(4, vb (decide ((0 : Int) ≤ r1)))] [] [] (by kernel_rfl) trivial ?_
  refine XO.done (by kernel_rfl) ?_
  refine hK2 _ _ ?_
  refine XW.ret (by kernel_rfl) ?_
  obtain rfl := Option.some.inj h
  exact FinP.fin (.inr rfl) [] [vb (decide ((0 : Int) ≤ r1))] [] (by kernel_rfl) trivial (.one (.rfl _ rfl))

def value_Name_j1 (p1 : ByteArray) (x1 : Bool) : Option Bool :=
    ift x1
      (some false)
      (bnd (strings_ContainsFunc_s3 p1) fun r1 =>
       some (!r1))

def value_Name (p1 : ByteArray) : Option Bool :=
    ift (p1.toList == (ByteArray.mk #[]).toList)
      (value_Name_j1 p1 true)
      (ift (decide ((24 : Int) < (p1.size : Int)))
         (value_Name_j1 p1 true)
         (grd (0 ≤ (0 : Int) ∧ (0 : Int) < (p1.size : Int)) <|
          bnd (some (decide (((p1.data.toList.getD (0 : Int).toNat 0).toNat : Int) < (97 : Int)))) fun y1 =>
          ift y1
            (value_Name_j1 p1 true)
            (grd (0 ≤ (0 : Int) ∧ (0 : Int) < (p1.size : Int)) <|
             bnd (some (decide ((122 : Int) < ((p1.data.toList.getD (0 : Int).toNat 0).toNat : Int)))) fun y2 =>
             value_Name_j1 p1 y2)))


theorem c_value_Name (p1 : ByteArray) (r : Bool) (h : value_Name p1 = some r) : PC Try.prog 97 [vs p1] (vb r) := by
  unfold value_Name at h
  refine PC.of (n := 25) (fn := Try.f97) (c := cd Try.f97 []) (by kernel_rfl) (by kernel_rfl) (by kernel_rfl) (Nat.le_of_ble_eq_true rfl) ?_
  refine XW.seq (x := cd Try.f97 [0]) (y := cd Try.f97 [1]) (by kernel_rfl) fun K1 hK1 => ?_
  refine XW.reg (by kernel_rfl) ?_
  refine XO.go [] 1 [0] [] [(0, vs p1)] [] [] (by kernel_rfl) trivial ?_
  refine XO.done (by kernel_rfl) ?_
  refine hK1 _ _ ?_
  refine XW.seq (x := cd Try.f97 [1,0]) (y := cd Try.f97 [1,1]) (by kernel_rfl) fun K2 hK2 => ?_
  refine XW.seq (x := cd Try.f97 [1,0,0]) (y := cd Try.f97 [1,0,1]) (by kernel_rfl) fun K3 hK3 => ?_
  have hJ1 : ∀ (x1 : Bool), value_Name_j1 p1 x1 = some r → ∀ fr1 st1, Sub 25 0 [] fr1 st1 [(0, vs p1), (20, vb x1)] [] → K3 fr1 st1 := by
    intro x1 h fr1 st1 hS
    unfold value_Name_j1 at h
    refine hK3 _ _ (XW.sub hS ?_)
    refine XW.cond (x := .tmp 20) (a := cd Try.f97 [1,0,1,0]) (b := cd Try.f97 [1,0,1,1]) (t := x1) (by kernel_rfl) (by kernel_rfl) (fun b11 => ?_) (fun b11 => ?_)
    · have h := ift_t b11 h
      refine XW.seq (x := cd Try.f97 [1,0,1,0,0]) (y := cd Try.f97 [1,0,1,0,1]) (by kernel_rfl) fun K12 hK12 => ?_
      refine XW.reg (by kernel_rfl) ?_
      refine XO.go [] 1 [2] [] [(2, vb false)] [] [] (by kernel_rfl) trivial ?_
      refine XO.done (by kernel_rfl) ?_
      refine hK12 _ _ ?_
      refine XW.ret (by kernel_rfl) ?_
      obtain rfl := Option.some.inj h
      exact FinP.fin (.inr rfl) [] [vb false] [] (by kernel_rfl) trivial (.one (.rfl _ rfl))
    · have h := ift_f b11 h
      refine XW.skip (by kernel_rfl) ?_
      refine hK2 _ _ ?_
      refine XW.seq (x := cd Try.f97 [1,1,0]) (y := cd Try.f97 [1,1,1]) (by kernel_rfl) fun K13 hK13 => ?_
      refine XW.reg (by kernel_rfl) ?_
      refine XO.go [] 1 [0,3] [] [(0, vs p1), (3, .one (.pv (.fn 109 [])))] [] [] (by kernel_rfl) trivial ?_
      refine XO.done (by kernel_rfl) ?_
      refine hK13 _ _ ?_
      refine XW.seq (x := cd Try.f97 [1,1,1,0]) (y := cd Try.f97 [1,1,1,1]) (by kernel_rfl) fun K14 hK14 => ?_
      obtain ⟨r1, c15, h⟩ := bnd_some h
      refine XW.reg (by kernel_rfl) ?_
      refine XO.go [] 2 [21,22] [] [(21, vs p1), (22, .one (.pv (.fn 109 [])))] [] [] (by kernel_rfl) trivial ?_
      refine XO.cal 110 [vs p1, .one (.pv (.fn 109 []))] (vb r1) [(23, vb r1), (21, vs p1), (22, .one (.pv (.fn 109 [])))] (by kernel_rfl) (c_strings_ContainsFunc_s3 _ _ c15) rfl rfl (by kernel_rfl) ?_
      refine XO.go [] 2 [2] [] [(2, vb (!r1))] [] [] (by kernel_rfl) trivial ?_
      refine XO.done (by kernel_rfl) ?_
      refine hK14 _ _ ?_
      refine XW.ret (by kernel_rfl) ?_
      obtain rfl := Option.some.inj h
      exact FinP.fin (.inr rfl) [] [vb (!r1)] [] (by kernel_rfl) trivial (.one (.rfl _ rfl))
  rcases Bool.eq_false_or_eq_true (p1.toList == (ByteArray.mk #[]).toList) with b4 | b4
  · have h := ift_t b4 h
    refine XW.reg (by kernel_rfl) ?_
    refine XO.go [] 3 [0,6] [] [(0, vs p1), (6, vb (p1.toList == (ByteArray.mk #[]).toList))] [] [] (by kernel_rfl) trivial ?_
    refine XO.setb 6 true (B := (p1.toList == (ByteArray.mk #[]).toList)) rfl b4 ?_
    refine XO.go [] 14 [0,20] [] [(0, vs p1), (20, vb true)] [] [] (by kernel_rfl) trivial ?_
    refine XO.done (by kernel_rfl) ?_
    exact hJ1 true h _ _ (Sub.pick [0,20] (by kernel_rfl))
  · have h := ift_f b4 h
    rcases Bool.eq_false_or_eq_true (decide ((24 : Int) < (p1.size : Int))) with b5 | b5
    · have h := ift_t b5 h
      refine XW.reg (by kernel_rfl) ?_
      refine XO.go [] 3 [0,6] [] [(0, vs p1), (6, vb (p1.toList == (ByteArray.mk #[]).toList))] [] [] (by kernel_rfl) trivial ?_
      refine XO.setb 6 false (B := (p1.toList == (ByteArray.mk #[]).toList)) rfl b4 ?_
      refine XO.go [] 5 [0,11] [] [(0, vs p1), (11, vb (decide ((24 : Int) < (p1.size : Int))))] [] [] (by kernel_rfl) trivial ?_
      refine XO.setb 11 true (B := (decide ((24 : Int) < (p1.size : Int)))) rfl b5 ?_
      refine XO.go [] 9 [0,20] [] [(0, vs p1), (20, vb true)] [] [] (by kernel_rfl) trivial ?_
      refine XO.done (by kernel_rfl) ?_
      exact hJ1 true h _ _ (Sub.pick [0,20] (by kernel_rfl))
    · have h := ift_f b5 h
      obtain ⟨g6, h⟩ := grd_some h
      obtain ⟨y1, hy7, h⟩ := bnd_some h
      rcases Bool.eq_false_or_eq_true y1 with b8 | b8
      · have h := ift_t b8 h
        refine XW.reg (by kernel_rfl) ?_
        refine XO.go [] 3 [0,6] [] [(0, vs p1), (6, vb (p1.toList == (ByteArray.mk #[]).toList))] [] [] (by kernel_rfl) trivial ?_
        refine XO.setb 6 false (B := (p1.toList == (ByteArray.mk #[]).toList)) rfl b4 ?_
        refine XO.go [] 5 [0,11] [] [(0, vs p1), (11, vb (decide ((24 : Int) < (p1.size : Int))))] [] [] (by kernel_rfl) trivial ?_
        refine XO.setb 11 false (B := (decide ((24 : Int) < (p1.size : Int)))) rfl b5 ?_
        refine XO.go [] 3 [0,11,14] [] [(0, vs p1), (11, vb false), (14, vb (decide (((p1.data.toList.getD (0 : Int).toNat 0).toNat : Int) < (97 : Int))))] [] [0 ≤ (0 : Int) ∧ (0 : Int) < (p1.size : Int)] (by kernel_rfl) (⟨g6, trivial⟩) ?_
        rw [show (decide (((p1.data.toList.getD (0 : Int).toNat 0).toNat : Int) < (97 : Int))) = y1 from Option.some.inj hy7]
        refine XO.go [] 2 [0,16] [] [(0, vs p1), (16, vb y1)] [] [] (by kernel_rfl) trivial ?_
        refine XO.setb 16 true (B := y1) rfl b8 ?_
        refine XO.go [] 4 [0,20] [] [(0, vs p1), (20, vb true)] [] [] (by kernel_rfl) trivial ?_
        refine XO.done (by kernel_rfl) ?_
        exact hJ1 true h _ _ (Sub.pick [0,20] (by kernel_rfl))
      · have h := ift_f b8 h
        obtain ⟨g9, h⟩ := grd_some h
        obtain ⟨y2, hy10, h⟩ := bnd_some h
        refine XW.reg (by kernel_rfl) ?_
        refine XO.go [] 3 [0,6] [] [(0, vs p1), (6, vb (p1.toList == (ByteArray.mk #[]).toList))] [] [] (by kernel_rfl) trivial ?_
        refine XO.setb 6 false (B := (p1.toList == (ByteArray.mk #[]).toList)) rfl b4 ?_
        refine XO.go [] 5 [0,11] [] [(0, vs p1), (11, vb (decide ((24 : Int) < (p1.size : Int))))] [] [] (by kernel_rfl) trivial ?_
        refine XO.setb 11 false (B := (decide ((24 : Int) < (p1.size : Int)))) rfl b5 ?_
        refine XO.go [] 3 [0,11,14] [] [(0, vs p1), (11, vb false), (14, vb (decide (((p1.data.toList.getD (0 : Int).toNat 0).toNat : Int) < (97 : Int))))] [] [0 ≤ (0 : Int) ∧ (0 : Int) < (p1.size : Int)] (by kernel_rfl) (⟨g6, trivial⟩) ?_
        rw [show (decide (((p1.data.toList.getD (0 : Int).toNat 0).toNat : Int) < (97 : Int))) = y1 from Option.some.inj hy7]
        refine XO.go [] 2 [0,16] [] [(0, vs p1), (16, vb y1)] [] [] (by kernel_rfl) trivial ?_
        refine XO.setb 16 false (B := y1) rfl b8 ?_
        refine XO.go [] 3 [0,16,19] [] [(0, vs p1), (16, vb false), (19, vb (decide ((122 : Int) < ((p1.data.toList.getD (0 : Int).toNat 0).toNat : Int))))] [] [0 ≤ (0 : Int) ∧ (0 : Int) < (p1.size : Int)] (by kernel_rfl) (⟨g9, trivial⟩) ?_
        rw [show (decide ((122 : Int) < ((p1.data.toList.getD (0 : Int).toNat 0).toNat : Int))) = y2 from Option.some.inj hy10]
        refine XO.go [] 1 [0,20] [] [(0, vs p1), (20, vb y2)] [] [] (by kernel_rfl) trivial ?_
        refine XO.done (by kernel_rfl) ?_
        exact hJ1 y2 h _ _ (Sub.pick [0,20] (by kernel_rfl))

def value_fields_1 (p1 : GField) : Option Bool :=
    bnd (value_Name p1.name) fun r1 =>
    some (!r1)


theorem c_value_fields_1 (p1 : GField) (r : Bool) (h : value_fields_1 p1 = some r) : PC Try.prog 96 [.ag [ci p1.id, cst p1.name, cb p1.need, ci p1.type.kind, ci p1.type.scale, cl eField p1.type.fields]] (vb r) := by
  unfold value_fields_1 at h
  refine PC.of (n := 7) (fn := Try.f96) (c := cd Try.f96 []) (by kernel_rfl) (by kernel_rfl) (by kernel_rfl) (Nat.le_of_ble_eq_true rfl) ?_
  refine XW.seq (x := cd Try.f96 [0]) (y := cd Try.f96 [1]) (by kernel_rfl) fun K1 hK1 => ?_
  refine XW.reg (by kernel_rfl) ?_
  refine XO.go [] 2 [1] [] [(1, .one (.pv (.rp [[pi p1.id, .s (.string p1.name), .s (.bool p1.need), pi p1.type.kind, pi p1.type.scale, .ro (eField.els p1.type.fields)]] 0 0)))] [] [] (by kernel_rfl) trivial ?_
  refine XO.done (by kernel_rfl) ?_
  refine hK1 _ _ ?_
  refine XW.seq (x := cd Try.f96 [1,0]) (y := cd Try.f96 [1,1]) (by kernel_rfl) fun K2 hK2 => ?_
  obtain ⟨r1, c3, h⟩ := bnd_some h
  refine XW.reg (by kernel_rfl) ?_
  refine XO.go [] 2 [4] [[pi p1.id, .s (.string p1.name), .s (.bool p1.need), pi p1.type.kind, pi p1.type.scale, .ro (eField.els p1.type.fields)]] [(4, vs p1.name)] [] [([[pi p1.id, .s (.string p1.name), .s (.bool p1.need), pi p1.type.kind, pi p1.type.scale, .ro (eField.els p1.type.fields)]] : List (List PV))[0]? = some [pi p1.id, .s (.string p1.name), .s (.bool p1.need), pi p1.type.kind, pi p1.type.scale, .ro (eField.els p1.type.fields)]] (by kernel_rfl) (⟨rfl, trivial⟩) ?_
  refine XO.cal 97 [vs p1.name] (vb r1) [(5, vb r1), (4, vs p1.name)] (by kernel_rfl) (c_value_Name _ _ c3) rfl rfl (by kernel_rfl) ?_
  refine XO.go [] 2 [2] [] [(2, vb (!r1))] [] [] (by kernel_rfl) trivial ?_
  refine XO.done (by kernel_rfl) ?_
  refine hK2 _ _ ?_
  refine XW.ret (by kernel_rfl) ?_
  obtain rfl := Option.some.inj h
  exact FinP.fin (.inr rfl) [] [vb (!r1)] [] (by kernel_rfl) trivial (.one (.rfl _ rfl))

def slices_IndexFunc_api_Field_api_Field_s2_j1 : Option Int :=
    some (-1 : Int)

def slices_IndexFunc_api_Field_api_Field_s2_l1 (p1 : (List GField)) : Nat → Int → Option Int
  | 0, _ => none
  | k1 + 1, x1 =>
    ift (decide (x1 < (p1.length : Int)))
      (bnd (at? p1 x1) fun e1 =>
       bnd (value_fields_1 e1) fun r1 =>
       ift r1
         (some x1)
         ((slices_IndexFunc_api_Field_api_Field_s2_l1 p1 k1) (IntKind.i64.wrap (x1 + (1 : Int)))))
      (slices_IndexFunc_api_Field_api_Field_s2_j1)

def slices_IndexFunc_api_Field_api_Field_s2 (p1 : (List GField)) : Option Int :=
    slices_IndexFunc_api_Field_api_Field_s2_l1 p1 BIG (0 : Int)


theorem c_slices_IndexFunc_api_Field_api_Field_s2 (p1 : (List GField)) (r : Int) (h : slices_IndexFunc_api_Field_api_Field_s2 p1 = some r) : PC Try.prog 108 [vl eField p1, .one (.pv (.fn 96 []))] (vi r) := by
  unfold slices_IndexFunc_api_Field_api_Field_s2 at h
  refine PC.of (n := 19) (fn := Try.f108) (c := cd Try.f108 []) (by kernel_rfl) (by kernel_rfl) (by kernel_rfl) (Nat.le_of_ble_eq_true rfl) ?_
  refine XW.seq (x := cd Try.f108 [0]) (y := cd Try.f108 [1]) (by kernel_rfl) fun K1 hK1 => ?_
  refine XW.reg (by kernel_rfl) ?_
  refine XO.go [] 1 [0,1] [] [(0, vl eField p1), (1, .one (.pv (.fn 96 [])))] [] [] (by kernel_rfl) trivial ?_
  refine XO.done (by kernel_rfl) ?_
  refine hK1 _ _ ?_
  refine XW.seq (x := cd Try.f108 [1,0]) (y := cd Try.f108 [1,1]) (by kernel_rfl) fun K2 hK2 => ?_
  have hJ1 : ∀ (_ : Unit), slices_IndexFunc_api_Field_api_Field_s2_j1 = some r → ∀ fr1 st1, Sub 19 0 [] fr1 st1 [] [] → K2 fr1 st1 := by
    intro _ h fr1 st1 hS
    unfold slices_IndexFunc_api_Field_api_Field_s2_j1 at h
    refine hK2 _ _ (XW.sub hS ?_)
    refine XW.seq (x := cd Try.f108 [1,1,0]) (y := cd Try.f108 [1,1,1]) (by kernel_rfl) fun K14 hK14 => ?_
    refine XW.reg (by kernel_rfl) ?_
    refine XO.go [] 1 [4] [] [(4, vi (-1 : Int))] [] [] (by kernel_rfl) trivial ?_
    refine XO.done (by kernel_rfl) ?_
    refine hK14 _ _ ?_
    refine XW.ret (by kernel_rfl) ?_
    obtain rfl := Option.some.inj h
    exact FinP.fin (.inr rfl) [] [vi (-1 : Int)] [] (by kernel_rfl) trivial (.one (.rfl _ rfl))
  refine XW.seq (x := cd Try.f108 [1,0,0]) (y := cd Try.f108 [1,0,1]) (by kernel_rfl) fun K3 hK3 => ?_
  refine XW.reg (by kernel_rfl) ?_
  refine XO.go [] 2 [0,1,7] [] [(0, vl eField p1), (1, .one (.pv (.fn 96 []))), (7, vi ((eField.els p1).length : Int))] [] [] (by kernel_rfl) trivial ?_
  rw [eField.len p1]
  refine XO.go [] 1 [0,1,7,8] [] [(0, vl eField p1), (1, .one (.pv (.fn 96 []))), (7, vi (p1.length : Int)), (8, vi (0 : Int))] [] [] (by kernel_rfl) trivial ?_
  refine XO.done (by kernel_rfl) ?_
  refine hK3 _ _ ?_
  refine XW.block (id := 0) (x := cd Try.f108 [1,0,1,0]) (by kernel_rfl) ?_
  refine XW.rounds' BIG (x := cd Try.f108 [1,0,1,0,0]) (by kernel_rfl) fun Q1 hQ1 => ?_
  have hL1 : ∀ (k1 : Nat) (x1 : Int), slices_IndexFunc_api_Field_api_Field_s2_l1 p1 k1 x1 = some r → XR Try.prog 19 0 [] (cd Try.f108 [1,0,1,0,0]) Q1 k1 [(0, vl eField p1), (1, .one (.pv (.fn 96 []))), (7, vi (p1.length : Int)), (8, vi x1)] [] := by
    intro k1
    induction k1 with
    | zero => intro x1 h; rw [slices_IndexFunc_api_Field_api_Field_s2_l1.eq_1] at h; cases h
    | succ k1 ih1 =>
      intro x1 h
      rw [slices_IndexFunc_api_Field_api_Field_s2_l1.eq_2] at h
      refine XW.seq (x := cd Try.f108 [1,0,1,0,0,0]) (y := cd Try.f108 [1,0,1,0,0,1]) (by kernel_rfl) fun K4 hK4 => ?_
      refine XW.reg (by kernel_rfl) ?_
      refine XO.go [] 1 [0,1,7,8,9] [] [(0, vl eField p1), (1, .one (.pv (.fn 96 []))), (7, vi (p1.length : Int)), (8, vi x1), (9, vb (decide (x1 < (p1.length : Int))))] [] [] (by kernel_rfl) trivial ?_
      refine XO.done (by kernel_rfl) ?_
      refine hK4 _ _ ?_
      refine XW.seq (x := cd Try.f108 [1,0,1,0,0,1,0]) (y := cd Try.f108 [1,0,1,0,0,1,1]) (by kernel_rfl) fun K5 hK5 => ?_
      refine XW.cond (x := .tmp 9) (a := cd Try.f108 [1,0,1,0,0,1,0,0]) (b := cd Try.f108 [1,0,1,0,0,1,0,1]) (t := (decide (x1 < (p1.length : Int)))) (by kernel_rfl) (by kernel_rfl) (fun b6 => ?_) (fun b6 => ?_)
      · have h := ift_t b6 h
        refine XW.skip (by kernel_rfl) ?_
        refine hK5 _ _ ?_
        refine XW.seq (x := cd Try.f108 [1,0,1,0,0,1,1,0]) (y := cd Try.f108 [1,0,1,0,0,1,1,1]) (by kernel_rfl) fun K7 hK7 => ?_
        refine XW.block (id := 1) (x := cd Try.f108 [1,0,1,0,0,1,1,0,0]) (by kernel_rfl) ?_
        refine XW.seq (x := cd Try.f108 [1,0,1,0,0,1,1,0,0,0]) (y := cd Try.f108 [1,0,1,0,0,1,1,0,0,1]) (by kernel_rfl) fun K8 hK8 => ?_
        refine XW.reg (by kernel_rfl) ?_
        refine XO.go [] 2 [0,1,5,7,8] [] [(0, vl eField p1), (1, .one (.pv (.fn 96 []))), (5, vi x1), (7, vi (p1.length : Int)), (8, vi x1)] [] [] (by kernel_rfl) trivial ?_
        refine XO.done (by kernel_rfl) ?_
        refine hK8 _ _ ?_
        refine XW.seq (x := cd Try.f108 [1,0,1,0,0,1,1,0,0,1,0]) (y := cd Try.f108 [1,0,1,0,0,1,1,0,0,1,1]) (by kernel_rfl) fun K9 hK9 => ?_
        obtain ⟨e1, a10, h⟩ := bnd_some h
        obtain ⟨r1, c11, h⟩ := bnd_some h
        refine XW.reg (by kernel_rfl) ?_
        refine XO.go [] 5 [0,1,5,7,8,11,15] [[pi e1.id, .s (.string e1.name), .s (.bool e1.need), pi e1.type.kind, pi e1.type.scale, .ro (eField.els e1.type.fields)]] [(0, vl eField p1), (1, .one (.pv (.fn 96 []))), (5, vi x1), (7, vi (p1.length : Int)), (8, vi x1), (11, .one (.pv (.fn 96 []))), (15, .ag [ci e1.id, cst e1.name, cb e1.need, ci e1.type.kind, ci e1.type.scale, cl eField e1.type.fields])] [] [0 ≤ x1 ∧ x1 < ((eField.els p1).length : Int) ∧ elemsOk 6 (eField.els p1), (eField.els p1)[x1.toNat]? = some [pi e1.id, .s (.string e1.name), .s (.bool e1.need), pi e1.type.kind, pi e1.type.scale, .ro (eField.els e1.type.fields)]] (by kernel_rfl) (⟨eField.inb a10, ((eField.get a10).trans (by rcases e1 with ⟨_, _, _, ⟨_, _, _⟩⟩; rfl)), trivial⟩) ?_
        refine XO.cal 96 [.ag [ci e1.id, cst e1.name, cb e1.need, ci e1.type.kind, ci e1.type.scale, cl eField e1.type.fields]] (vb r1) [(16, vb r1), (0, vl eField p1), (1, .one (.pv (.fn 96 []))), (5, vi x1), (7, vi (p1.length : Int)), (8, vi x1), (11, .one (.pv (.fn 96 []))), (15, .ag [ci e1.id, cst e1.name, cb e1.need, ci e1.type.kind, ci e1.type.scale, cl eField e1.type.fields])] (by kernel_rfl) (c_value_fields_1 _ _ c11) rfl rfl (by kernel_rfl) ?_
        refine XO.done (by kernel_rfl) ?_
        refine hK9 _ _ ?_
        refine XW.cond (x := .tmp 16) (a := cd Try.f108 [1,0,1,0,0,1,1,0,0,1,1,0]) (b := cd Try.f108 [1,0,1,0,0,1,1,0,0,1,1,1]) (t := r1) (by kernel_rfl) (by kernel_rfl) (fun b12 => ?_) (fun b12 => ?_)
        · have h := ift_t b12 h
          refine XW.seq (x := cd Try.f108 [1,0,1,0,0,1,1,0,0,1,1,0,0]) (y := cd Try.f108 [1,0,1,0,0,1,1,0,0,1,1,0,1]) (by kernel_rfl) fun K13 hK13 => ?_
          refine XW.reg (by kernel_rfl) ?_
          refine XO.go [] 2 [4] [] [(4, vi x1)] [] [] (by kernel_rfl) trivial ?_
          refine XO.done (by kernel_rfl) ?_
          refine hK13 _ _ ?_
          refine XW.ret (by kernel_rfl) ?_
          refine hQ1 _ _ _ ?_
          obtain rfl := Option.some.inj h
          exact FinP.fin (.inr rfl) [] [vi x1] [] (by kernel_rfl) trivial (.one (.rfl _ rfl))
        · have h := ift_f b12 h
          refine XW.skip (by kernel_rfl) ?_
          refine hK7 _ _ ?_
          refine XW.reg (by kernel_rfl) ?_
          refine XO.go [] 2 [0,1,7,8] [] [(0, vl eField p1), (1, .one (.pv (.fn 96 []))), (7, vi (p1.length : Int)), (8, vi (IntKind.i64.wrap (x1 + (1 : Int))))] [] [] (by kernel_rfl) trivial ?_
          refine XO.done (by kernel_rfl) ?_
          exact XR.sub (Sub.pick [0,1,7,8] (by kernel_rfl)) (ih1 (IntKind.i64.wrap (x1 + (1 : Int))) h)
      · have h := ift_f b6 h
        refine XW.exit (id := 0) (by kernel_rfl) ?_
        refine hQ1 _ _ _ ?_
        exact hJ1 () h _ _ (Sub.pick [] (by kernel_rfl))
  exact XR.sub (Sub.pick [0,1,7,8] (by kernel_rfl)) (hL1 BIG (0 : Int) h)

def slices_ContainsFunc_api_Field_api_Field_s1 (p1 : (List GField)) : Option Bool :=
    bnd (slices_IndexFunc_api_Field_api_Field_s2 p1) fun r1 =>
    some (decide ((0 : Int) ≤ r1))


theorem c_slices_ContainsFunc_api_Field_api_Field_s1 (p1 : (List GField)) (r : Bool) (h : slices_ContainsFunc_api_Field_api_Field_s1 p1 = some r) : PC Try.prog 95 [vl eField p1, .one (.pv (.fn 96 []))] (vb r) := by
  unfold slices_ContainsFunc_api_Field_api_Field_s1 at h
  refine PC.of (n := 9) (fn := Try.f95) (c := cd Try.f95 []) (by kernel_rfl) (by kernel_rfl) (by kernel_rfl) (Nat.le_of_ble_eq_true rfl) ?_
  refine XW.seq (x := cd Try.f95 [0]) (y := cd Try.f95 [1]) (by kernel_rfl) fun K1 hK1 => ?_
  refine XW.reg (by kernel_rfl) ?_
  refine XO.go [] 1 [0,1] [] [(0, vl eField p1), (1, .one (.pv (.fn 96 [])))] [] [] (by kernel_rfl) trivial ?_
  refine XO.done (by kernel_rfl) ?_
  refine hK1 _ _ ?_
  refine XW.seq (x := cd Try.f95 [1,0]) (y := cd Try.f95 [1,1]) (by kernel_rfl) fun K2 hK2 => ?_
  obtain ⟨r1, c3, h⟩ := bnd_some h
  refine XW.reg (by kernel_rfl) ?_
  refine XO.go [] 2 [5,6] [] [(5, vl eField p1), (6, .one (.pv (.fn 96 [])))] [] [] (by kernel_rfl) trivial ?_
  refine XO.cal 108 [vl eField p1, .one (.pv (.fn 96 []))] (vi r1) [(7, vi r1), (5, vl eField p1), (6, .one (.pv (.fn 96 [])))] (by kernel_rfl) (c_slices_IndexFunc_api_Field_api_Field_s2 _ _ c3) rfl rfl (by kernel_rfl) ?_
  refine XO.go [] 2 [4] [] [(4, vb (decide ((0 : Int) ≤ r1)))] [] [] (by kernel_rfl) trivial ?_
  refine XO.done (by kernel_rfl) ?_
  refine hK2 _ _ ?_
  refine XW.ret (by kernel_rfl) ?_
  obtain rfl := Option.some.inj h
  exact FinP.fin (.inr rfl) [] [vb (decide ((0 : Int) ≤ r1))] [] (by kernel_rfl) trivial (.one (.rfl _ rfl))

def value_fields_2 (p1 : GField) (p2 : GField) : Option (Bool × GField) :=
    some ((p1.name.toList == p2.name.toList), p2)


theorem c_value_fields_2 (p1 : GField) (p2 : GField) (r : (Bool × GField)) (h : value_fields_2 p1 p2 = some r) : MC Try.prog 98 [.ag [ci p1.id, cst p1.name, cb p1.need, ci p1.type.kind, ci p1.type.scale, cl eField p1.type.fields], .one (.pt 0 0 0 0)] [.box [ci p2.id, cst p2.name, cb p2.need, ci p2.type.kind, ci p2.type.scale, cl eField p2.type.fields]] (vb r.1) [.box [ci r.2.id, cst r.2.name, cb r.2.need, ci r.2.type.kind, ci r.2.type.scale, cl eField r.2.type.fields]] := by
  unfold value_fields_2 at h
  refine MC.of 1 (n := 9) (fn := Try.f98) (c := cd Try.f98 []) (by kernel_rfl) (by kernel_rfl) (by kernel_rfl) (Nat.le_of_ble_eq_true rfl) rfl ?_
  refine XW.seq (x := cd Try.f98 [0]) (y := cd Try.f98 [1]) (by kernel_rfl) fun K1 hK1 => ?_
  refine XW.reg (by kernel_rfl) ?_
  refine XO.go [] 2 [1,2] [] [(1, .one (.pt 0 0 0 0)), (2, .one (.pv (.rp [[pi p1.id, .s (.string p1.name), .s (.bool p1.need), pi p1.type.kind, pi p1.type.scale, .ro (eField.els p1.type.fields)]] 0 0)))] [.box [ci p2.id, cst p2.name, cb p2.need, ci p2.type.kind, ci p2.type.scale, cl eField p2.type.fields]] [] (by kernel_rfl) trivial ?_
  refine XO.done (by kernel_rfl) ?_
  refine hK1 _ _ ?_
  refine XW.seq (x := cd Try.f98 [1,0]) (y := cd Try.f98 [1,1]) (by kernel_rfl) fun K2 hK2 => ?_
  refine XW.reg (by kernel_rfl) ?_
  refine XO.go [] 6 [3] [[pi p1.id, .s (.string p1.name), .s (.bool p1.need), pi p1.type.kind, pi p1.type.scale, .ro (eField.els p1.type.fields)]] [(3, vb (p1.name.toList == p2.name.toList))] [.box [ci p2.id, cst p2.name, cb p2.need, ci p2.type.kind, ci p2.type.scale, cl eField p2.type.fields]] [([[pi p1.id, .s (.string p1.name), .s (.bool p1.need), pi p1.type.kind, pi p1.type.scale, .ro (eField.els p1.type.fields)]] : List (List PV))[0]? = some [pi p1.id, .s (.string p1.name), .s (.bool p1.need), pi p1.type.kind, pi p1.type.scale, .ro (eField.els p1.type.fields)]] (by kernel_rfl) (⟨rfl, trivial⟩) ?_
  refine XO.done (by kernel_rfl) ?_
  refine hK2 _ _ ?_
  refine XW.ret (by kernel_rfl) ?_
  obtain rfl := Option.some.inj h
  exact FinM.fin (.inr rfl) [] [vb (p1.name.toList == p2.name.toList)] [] (by kernel_rfl) trivial (by kernel_rfl) (by kernel_rfl) (.one (.rfl _ rfl))

def slices_IndexFunc_api_Field_api_Field_s7_j1 (z7 : Int) (z8 : ByteArray) (z9 : Bool) (z10 : Int) (z11 : Int) (z12 : List GField) : Option (Int × GField) :=
    some ((-1 : Int), (FieldP.mk z7 z8 z9 (GType.mk z10 z11 z12)))

def slices_IndexFunc_api_Field_api_Field_s7_l1 (p1 : (List GField)) : Nat → Int → ByteArray → Bool → Int → Int → List GField → Int → Option (Int × GField)
  | 0, _, _, _, _, _, _, _ => none
  | k1 + 1, z1, z2, z3, z4, z5, z6, x1 =>
    ift (decide (x1 < (p1.length : Int)))
      (bnd (at? p1 x1) fun e1 =>
       bnd (value_fields_2 e1 (FieldP.mk z1 z2 z3 (GType.mk z4 z5 z6))) fun r1 =>
       ift r1.1
         (some (x1, r1.2))
         ((slices_IndexFunc_api_Field_api_Field_s7_l1 p1 k1) r1.2.id r1.2.name r1.2.need r1.2.type.kind r1.2.type.scale r1.2.type.fields (IntKind.i64.wrap (x1 + (1 : Int)))))
      (slices_IndexFunc_api_Field_api_Field_s7_j1 z1 z2 z3 z4 z5 z6)

def slices_IndexFunc_api_Field_api_Field_s7 (p1 : (List GField)) (p2 : GField) : Option (Int × GField) :=
    slices_IndexFunc_api_Field_api_Field_s7_l1 p1 BIG p2.id p2.name p2.need p2.type.kind p2.type.scale p2.type.fields (0 : Int)


theorem c_slices_IndexFunc_api_Field_api_Field_s7 (p1 : (List GField)) (p2 : GField) (r : (Int × GField)) (h : slices_IndexFunc_api_Field_api_Field_s7 p1 p2 = some r) : MC Try.prog 108 [vl eField p1, .one (.fn 98 [.pt 0 0 0 0])] [.box [ci p2.id, cst p2.name, cb p2.need, ci p2.type.kind, ci p2.type.scale, cl eField p2.type.fields]] (vi r.1) [.box [ci r.2.id, cst r.2.name, cb r.2.need, ci r.2.type.kind, ci r.2.type.scale, cl eField r.2.type.fields]] := by
  unfold slices_IndexFunc_api_Field_api_Field_s7 at h
  refine MC.of 1 (n := 19) (fn := Try.f108) (c := cd Try.f108 []) (by kernel_rfl) (by kernel_rfl) (by kernel_rfl) (Nat.le_of_ble_eq_true rfl) rfl ?_
  refine XW.seq (x := cd Try.f108 [0]) (y := cd Try.f108 [1]) (by kernel_rfl) fun K1 hK1 => ?_
  refine XW.reg (by kernel_rfl) ?_
  refine XO.go [] 1 [0,1] [] [(0, vl eField p1), (1, .one (.fn 98 [.pt 0 0 0 0]))] [.box [ci p2.id, cst p2.name, cb p2.need, ci p2.type.kind, ci p2.type.scale, cl eField p2.type.fields]] [] (by kernel_rfl) trivial ?_
  refine XO.done (by kernel_rfl) ?_
  refine hK1 _ _ ?_
  refine XW.seq (x := cd Try.f108 [1,0]) (y := cd Try.f108 [1,1]) (by kernel_rfl) fun K2 hK2 => ?_
  have hJ1 : ∀ (z7 : Int) (z8 : ByteArray) (z9 : Bool) (z10 : Int) (z11 : Int) (z12 : List GField), slices_IndexFunc_api_Field_api_Field_s7_j1 z7 z8 z9 z10 z11 z12 = some r → ∀ fr1 st1, Sub 19 1 [] fr1 st1 [] [.box [ci z7, cst z8, cb z9, ci z10, ci z11, cl eField z12]] → K2 fr1 st1 := by
    intro z7 z8 z9 z10 z11 z12 h fr1 st1 hS
    unfold slices_IndexFunc_api_Field_api_Field_s7_j1 at h
    refine hK2 _ _ (XW.sub hS ?_)
    refine XW.seq (x := cd Try.f108 [1,1,0]) (y := cd Try.f108 [1,1,1]) (by kernel_rfl) fun K14 hK14 => ?_
    refine XW.reg (by kernel_rfl) ?_
    refine XO.go [] 1 [4] [] [(4, vi (-1 : Int))] [.box [ci z7, cst z8, cb z9, ci z10, ci z11, cl eField z12]] [] (by kernel_rfl) trivial ?_
    refine XO.done (by kernel_rfl) ?_
    refine hK14 _ _ ?_
    refine XW.ret (by kernel_rfl) ?_
    obtain rfl := Option.some.inj h
    exact FinM.fin (.inr rfl) [] [vi (-1 : Int)] [] (by kernel_rfl) trivial (by kernel_rfl) (by kernel_rfl) (.one (.rfl _ rfl))
  refine XW.seq (x := cd Try.f108 [1,0,0]) (y := cd Try.f108 [1,0,1]) (by kernel_rfl) fun K3 hK3 => ?_
  refine XW.reg (by kernel_rfl) ?_
  refine XO.go [] 2 [0,1,7] [] [(0, vl eField p1), (1, .one (.fn 98 [.pt 0 0 0 0])), (7, vi ((eField.els p1).length : Int))] [.box [ci p2.id, cst p2.name, cb p2.need, ci p2.type.kind, ci p2.type.scale, cl eField p2.type.fields]] [] (by kernel_rfl) trivial ?_
  rw [eField.len p1]
  refine XO.go [] 1 [0,1,7,8] [] [(0, vl eField p1), (1, .one (.fn 98 [.pt 0 0 0 0])), (7, vi (p1.length : Int)), (8, vi (0 : Int))] [.box [ci p2.id, cst p2.name, cb p2.need, ci p2.type.kind, ci p2.type.scale, cl eField p2.type.fields]] [] (by kernel_rfl) trivial ?_
  refine XO.done (by kernel_rfl) ?_
  refine hK3 _ _ ?_
  refine XW.block (id := 0) (x := cd Try.f108 [1,0,1,0]) (by kernel_rfl) ?_
  refine XW.rounds' BIG (x := cd Try.f108 [1,0,1,0,0]) (by kernel_rfl) fun Q1 hQ1 => ?_
  have hL1 : ∀ (k1 : Nat) (z1 : Int) (z2 : ByteArray) (z3 : Bool) (z4 : Int) (z5 : Int) (z6 : List GField) (x1 : Int), slices_IndexFunc_api_Field_api_Field_s7_l1 p1 k1 z1 z2 z3 z4 z5 z6 x1 = some r → XR Try.prog 19 1 [] (cd Try.f108 [1,0,1,0,0]) Q1 k1 [(0, vl eField p1), (1, .one (.fn 98 [.pt 0 0 0 0])), (7, vi (p1.length : Int)), (8, vi x1)] [.box [ci z1, cst z2, cb z3, ci z4, ci z5, cl eField z6]] := by
    intro k1
    induction k1 with
    | zero => intro z1 z2 z3 z4 z5 z6 x1 h; rw [slices_IndexFunc_api_Field_api_Field_s7_l1.eq_1] at h; cases h
    | succ k1 ih1 =>
      intro z1 z2 z3 z4 z5 z6 x1 h
      rw [slices_IndexFunc_api_Field_api_Field_s7_l1.eq_2] at h
      refine XW.seq (x := cd Try.f108 [1,0,1,0,0,0]) (y := cd Try.f108 [1,0,1,0,0,1]) (by kernel_rfl) fun K4 hK4 => ?_
      refine XW.reg (by kernel_rfl) ?_
      refine XO.go [] 1 [0,1,7,8,9] [] [(0, vl eField p1), (1, .one (.fn 98 [.pt 0 0 0 0])), (7, vi (p1.length : Int)), (8, vi x1), (9, vb (decide (x1 < (p1.length : Int))))] [.box [ci z1, cst z2, cb z3, ci z4, ci z5, cl eField z6]] [] (by kernel_rfl) trivial ?_
      refine XO.done (by kernel_rfl) ?_
      refine hK4 _ _ ?_
      refine XW.seq (x := cd Try.f108 [1,0,1,0,0,1,0]) (y := cd Try.f108 [1,0,1,0,0,1,1]) (by kernel_rfl) fun K5 hK5 => ?_
      refine XW.cond (x := .tmp 9) (a := cd Try.f108 [1,0,1,0,0,1,0,0]) (b := cd Try.f108 [1,0,1,0,0,1,0,1]) (t := (decide (x1 < (p1.length : Int)))) (by kernel_rfl) (by kernel_rfl) (fun b6 => ?_) (fun b6 => ?_)
      · have h := ift_t b6 h
        refine XW.skip (by kernel_rfl) ?_
        refine hK5 _ _ ?_
        refine XW.seq (x := cd Try.f108 [1,0,1,0,0,1,1,0]) (y := cd Try.f108 [1,0,1,0,0,1,1,1]) (by kernel_rfl) fun K7 hK7 => ?_
        refine XW.block (id := 1) (x := cd Try.f108 [1,0,1,0,0,1,1,0,0]) (by kernel_rfl) ?_
        refine XW.seq (x := cd Try.f108 [1,0,1,0,0,1,1,0,0,0]) (y := cd Try.f108 [1,0,1,0,0,1,1,0,0,1]) (by kernel_rfl) fun K8 hK8 => ?_
        refine XW.reg (by kernel_rfl) ?_
        refine XO.go [] 2 [0,1,5,7,8] [] [(0, vl eField p1), (1, .one (.fn 98 [.pt 0 0 0 0])), (5, vi x1), (7, vi (p1.length : Int)), (8, vi x1)] [.box [ci z1, cst z2, cb z3, ci z4, ci z5, cl eField z6]] [] (by kernel_rfl) trivial ?_
        refine XO.done (by kernel_rfl) ?_
        refine hK8 _ _ ?_
        refine XW.seq (x := cd Try.f108 [1,0,1,0,0,1,1,0,0,1,0]) (y := cd Try.f108 [1,0,1,0,0,1,1,0,0,1,1]) (by kernel_rfl) fun K9 hK9 => ?_
        obtain ⟨e1, a10, h⟩ := bnd_some h
        obtain ⟨r1, c11, h⟩ := bnd_some h
        refine XW.reg (by kernel_rfl) ?_
        refine XO.go [] 5 [0,1,5,7,8,11,15] [[pi e1.id, .s (.string e1.name), .s (.bool e1.need), pi e1.type.kind, pi e1.type.scale, .ro (eField.els e1.type.fields)]] [(0, vl eField p1), (1, .one (.fn 98 [.pt 0 0 0 0])), (5, vi x1), (7, vi (p1.length : Int)), (8, vi x1), (11, .one (.fn 98 [.pt 0 0 0 0])), (15, .ag [ci e1.id, cst e1.name, cb e1.need, ci e1.type.kind, ci e1.type.scale, cl eField e1.type.fields])] [.box [ci z1, cst z2, cb z3, ci z4, ci z5, cl eField z6]] [0 ≤ x1 ∧ x1 < ((eField.els p1).length : Int) ∧ elemsOk 6 (eField.els p1), (eField.els p1)[x1.toNat]? = some [pi e1.id, .s (.string e1.name), .s (.bool e1.need), pi e1.type.kind, pi e1.type.scale, .ro (eField.els e1.type.fields)]] (by kernel_rfl) (⟨eField.inb a10, ((eField.get a10).trans (by rcases e1 with ⟨_, _, _, ⟨_, _, _⟩⟩; rfl)), trivial⟩) ?_
        refine XO.calm 98 [.ag [ci e1.id, cst e1.name, cb e1.need, ci e1.type.kind, ci e1.type.scale, cl eField e1.type.fields], .one (.pt 0 0 0 0)] [.box [ci z1, cst z2, cb z3, ci z4, ci z5, cl eField z6]] [.box [ci r1.2.id, cst r1.2.name, cb r1.2.need, ci r1.2.type.kind, ci r1.2.type.scale, cl eField r1.2.type.fields]] (vb r1.1) [0] [(16, vb r1.1), (0, vl eField p1), (1, .one (.fn 98 [.pt 0 0 0 0])), (5, vi x1), (7, vi (p1.length : Int)), (8, vi x1), (11, .one (.fn 98 [.pt 0 0 0 0])), (15, .ag [ci e1.id, cst e1.name, cb e1.need, ci e1.type.kind, ci e1.type.scale, cl eField e1.type.fields])] [.box [ci r1.2.id, cst r1.2.name, cb r1.2.need, ci r1.2.type.kind, ci r1.2.type.scale, cl eField r1.2.type.fields]] (by kernel_rfl) (c_value_fields_2 _ _ _ c11) (by kernel_rfl) (by kernel_rfl) (by kernel_rfl) (by kernel_rfl) ?_
        refine XO.done (by kernel_rfl) ?_
        refine hK9 _ _ ?_
        refine XW.cond (x := .tmp 16) (a := cd Try.f108 [1,0,1,0,0,1,1,0,0,1,1,0]) (b := cd Try.f108 [1,0,1,0,0,1,1,0,0,1,1,1]) (t := r1.1) (by kernel_rfl) (by kernel_rfl) (fun b12 => ?_) (fun b12 => ?_)
        · have h := ift_t b12 h
          refine XW.seq (x := cd Try.f108 [1,0,1,0,0,1,1,0,0,1,1,0,0]) (y := cd Try.f108 [1,0,1,0,0,1,1,0,0,1,1,0,1]) (by kernel_rfl) fun K13 hK13 => ?_
          refine XW.reg (by kernel_rfl) ?_
          refine XO.go [] 2 [4] [] [(4, vi x1)] [.box [ci r1.2.id, cst r1.2.name, cb r1.2.need, ci r1.2.type.kind, ci r1.2.type.scale, cl eField r1.2.type.fields]] [] (by kernel_rfl) trivial ?_
          refine XO.done (by kernel_rfl) ?_
          refine hK13 _ _ ?_
          refine XW.ret (by kernel_rfl) ?_
          refine hQ1 _ _ _ ?_
          obtain rfl := Option.some.inj h
          exact FinM.fin (.inr rfl) [] [vi x1] [] (by kernel_rfl) trivial (by kernel_rfl) (by kernel_rfl) (.one (.rfl _ rfl))
        · have h := ift_f b12 h
          refine XW.skip (by kernel_rfl) ?_
          refine hK7 _ _ ?_
          refine XW.reg (by kernel_rfl) ?_
          refine XO.go [] 2 [0,1,7,8] [] [(0, vl eField p1), (1, .one (.fn 98 [.pt 0 0 0 0])), (7, vi (p1.length : Int)), (8, vi (IntKind.i64.wrap (x1 + (1 : Int))))] [.box [ci r1.2.id, cst r1.2.name, cb r1.2.need, ci r1.2.type.kind, ci r1.2.type.scale, cl eField r1.2.type.fields]] [] (by kernel_rfl) trivial ?_
          refine XO.done (by kernel_rfl) ?_
          exact XR.sub (Sub.pick [0,1,7,8] (by kernel_rfl)) (ih1 r1.2.id r1.2.name r1.2.need r1.2.type.kind r1.2.type.scale r1.2.type.fields (IntKind.i64.wrap (x1 + (1 : Int))) h)
      · have h := ift_f b6 h
        refine XW.exit (id := 0) (by kernel_rfl) ?_
        refine hQ1 _ _ _ ?_
        exact hJ1 z1 z2 z3 z4 z5 z6 h _ _ (Sub.pick [] (by kernel_rfl))
  exact XR.sub (Sub.pick [0,1,7,8] (by kernel_rfl)) (hL1 BIG p2.id p2.name p2.need p2.type.kind p2.type.scale p2.type.fields (0 : Int) h)

def slices_ContainsFunc_api_Field_api_Field_s6 (p1 : (List GField)) (p2 : GField) : Option (Bool × GField) :=
    bnd (slices_IndexFunc_api_Field_api_Field_s7 p1 p2) fun r1 =>
    some ((decide ((0 : Int) ≤ r1.1)), r1.2)


theorem c_slices_ContainsFunc_api_Field_api_Field_s6 (p1 : (List GField)) (p2 : GField) (r : (Bool × GField)) (h : slices_ContainsFunc_api_Field_api_Field_s6 p1 p2 = some r) : MC Try.prog 95 [vl eField p1, .one (.fn 98 [.pt 0 0 0 0])] [.box [ci p2.id, cst p2.name, cb p2.need, ci p2.type.kind, ci p2.type.scale, cl eField p2.type.fields]] (vb r.1) [.box [ci r.2.id, cst r.2.name, cb r.2.need, ci r.2.type.kind, ci r.2.type.scale, cl eField r.2.type.fields]] := by
  unfold slices_ContainsFunc_api_Field_api_Field_s6 at h
  refine MC.of 1 (n := 9) (fn := Try.f95) (c := cd Try.f95 []) (by kernel_rfl) (by kernel_rfl) (by kernel_rfl) (Nat.le_of_ble_eq_true rfl) rfl ?_
  refine XW.seq (x := cd Try.f95 [0]) (y := cd Try.f95 [1]) (by kernel_rfl) fun K1 hK1 => ?_
  refine XW.reg (by kernel_rfl) ?_
  refine XO.go [] 1 [0,1] [] [(0, vl eField p1), (1, .one (.fn 98 [.pt 0 0 0 0]))] [.box [ci p2.id, cst p2.name, cb p2.need, ci p2.type.kind, ci p2.type.scale, cl eField p2.type.fields]] [] (by kernel_rfl) trivial ?_
  refine XO.done (by kernel_rfl) ?_
  refine hK1 _ _ ?_
  refine XW.seq (x := cd Try.f95 [1,0]) (y := cd Try.f95 [1,1]) (by kernel_rfl) fun K2 hK2 => ?_
  obtain ⟨r1, c3, h⟩ := bnd_some h
  refine XW.reg (by kernel_rfl) ?_
  refine XO.go [] 2 [5,6] [] [(5, vl eField p1), (6, .one (.fn 98 [.pt 0 0 0 0]))] [.box [ci p2.id, cst p2.name, cb p2.need, ci p2.type.kind, ci p2.type.scale, cl eField p2.type.fields]] [] (by kernel_rfl) trivial ?_
  refine XO.calm 108 [vl eField p1, .one (.fn 98 [.pt 0 0 0 0])] [.box [ci p2.id, cst p2.name, cb p2.need, ci p2.type.kind, ci p2.type.scale, cl eField p2.type.fields]] [.box [ci r1.2.id, cst r1.2.name, cb r1.2.need, ci r1.2.type.kind, ci r1.2.type.scale, cl eField r1.2.type.fields]] (vi r1.1) [0] [(7, vi r1.1), (5, vl eField p1), (6, .one (.fn 98 [.pt 0 0 0 0]))] [.box [ci r1.2.id, cst r1.2.name, cb r1.2.need, ci r1.2.type.kind, ci r1.2.type.scale, cl eField r1.2.type.fields]] (by kernel_rfl) (c_slices_IndexFunc_api_Field_api_Field_s7 _ _ _ c3) (by kernel_rfl) (by kernel_rfl) (by kernel_rfl) (by kernel_rfl) ?_
  refine XO.go [] 2 [4] [] [(4, vb (decide ((0 : Int) ≤ r1.1)))] [.box [ci r1.2.id, cst r1.2.name, cb r1.2.need, ci r1.2.type.kind, ci r1.2.type.scale, cl eField r1.2.type.fields]] [] (by kernel_rfl) trivial ?_
  refine XO.done (by kernel_rfl) ?_
  refine hK2 _ _ ?_
  refine XW.ret (by kernel_rfl) ?_
  obtain rfl := Option.some.inj h
  exact FinM.fin (.inr rfl) [] [vb (decide ((0 : Int) ≤ r1.1))] [] (by kernel_rfl) trivial (by kernel_rfl) (by kernel_rfl) (.one (.rfl _ rfl))

def value_fields_j1 (x1 : Bool) : Option Int :=
    ift x1
      (some (1 : Int))
      (some (0 : Int))

def value_fields_j2 : Option Int :=
    some (0 : Int)

def value_fields_l1 (p1 : GType) : Nat → Int → Option Int
  | 0, _ => none
  | k1 + 1, x2 =>
    ift (decide (x2 < (p1.fields.length : Int)))
      (bnd (at? p1.fields x2) fun e2 =>
       grd (0 ≤ (0 : Int) ∧ (0 : Int) ≤ x2 ∧ x2 ≤ (p1.fields.length : Int)) <|
       bnd (slices_ContainsFunc_api_Field_api_Field_s6 ((p1.fields.drop (0 : Int).toNat).take (x2.toNat - (0 : Int).toNat)) e2) fun r2 =>
       ift r2.1
         (some (5 : Int))
         ((value_fields_l1 p1 k1) (IntKind.i64.wrap (x2 + (1 : Int)))))
      (value_fields_j2)

def value_fields (p1 : GType) : Option Int :=
    ift (p1.kind == (6 : Int))
      (ift ((p1.fields.length : Int) != (1 : Int))
         (value_fields_j1 true)
         (bnd (at? p1.fields (0 : Int)) fun e1 =>
          value_fields_j1 (!(e1.name.toList == (ByteArray.mk #[]).toList))))
      (ift (p1.kind != (7 : Int))
         (ift (decide ((0 : Int) < (p1.fields.length : Int)))
            (some (1 : Int))
            (some (0 : Int)))
         (ift ((p1.fields.length : Int) == (0 : Int))
            (some (1 : Int))
            (bnd (slices_ContainsFunc_api_Field_api_Field_s1 p1.fields) fun r1 =>
             ift r1
               (some (4 : Int))
               (value_fields_l1 p1 BIG (0 : Int)))))


theorem c_value_fields (p1 : GType) (r : Int) (h : value_fields p1 = some r) : PC Try.prog 76 [.ag [ci p1.kind, ci p1.scale, cl eField p1.fields]] (vi r) := by
  unfold value_fields at h
  refine PC.of (n := 52) (fn := Try.f76) (c := cd Try.f76 []) (by kernel_rfl) (by kernel_rfl) (by kernel_rfl) (Nat.le_of_ble_eq_true rfl) ?_
  refine XW.seq (x := cd Try.f76 [0]) (y := cd Try.f76 [1]) (by kernel_rfl) fun K1 hK1 => ?_
  refine XW.reg (by kernel_rfl) ?_
  refine XO.go [4] 2 [1] [] [(1, .one (.pv (.rp [[pi p1.kind, pi p1.scale, .ro (eField.els p1.fields)]] 0 0)))] [] [] (by kernel_rfl) trivial ?_
  refine XO.done (by kernel_rfl) ?_
  refine hK1 _ _ ?_
  refine XW.seq (x := cd Try.f76 [1,0]) (y := cd Try.f76 [1,1]) (by kernel_rfl) fun K2 hK2 => ?_
  refine XW.block (id := 0) (x := cd Try.f76 [1,0,0]) (by kernel_rfl) ?_
  refine XW.seq (x := cd Try.f76 [1,0,0,0]) (y := cd Try.f76 [1,0,0,1]) (by kernel_rfl) fun K3 hK3 => ?_
  refine XW.reg (by kernel_rfl) ?_
  refine XO.go [4] 4 [1,5] [[pi p1.kind, pi p1.scale, .ro (eField.els p1.fields)]] [(1, .one (.pv (.rp [[pi p1.kind, pi p1.scale, .ro (eField.els p1.fields)]] 0 0))), (5, vb (p1.kind == (6 : Int)))] [] [([[pi p1.kind, pi p1.scale, .ro (eField.els p1.fields)]] : List (List PV))[0]? = some [pi p1.kind, pi p1.scale, .ro (eField.els p1.fields)]] (by kernel_rfl) (⟨rfl, trivial⟩) ?_
  refine XO.done (by kernel_rfl) ?_
  refine hK3 _ _ ?_
  refine XW.cond (x := .tmp 5) (a := cd Try.f76 [1,0,0,1,0]) (b := cd Try.f76 [1,0,0,1,1]) (t := (p1.kind == (6 : Int))) (by kernel_rfl) (by kernel_rfl) (fun b4 => ?_) (fun b4 => ?_)
  · have h := ift_t b4 h
    refine XW.seq (x := cd Try.f76 [1,0,0,1,0,0]) (y := cd Try.f76 [1,0,0,1,0,1]) (by kernel_rfl) fun K5 hK5 => ?_
    refine XW.seq (x := cd Try.f76 [1,0,0,1,0,0,0]) (y := cd Try.f76 [1,0,0,1,0,0,1]) (by kernel_rfl) fun K6 hK6 => ?_
    have hJ1 : ∀ (x1 : Bool), value_fields_j1 x1 = some r → ∀ fr1 st1, Sub 52 0 [] fr1 st1 [(20, vb x1)] [] → K6 fr1 st1 := by
      intro x1 h fr1 st1 hS
      unfold value_fields_j1 at h
      refine hK6 _ _ (XW.sub hS ?_)
      refine XW.cond (x := .tmp 20) (a := cd Try.f76 [1,0,0,1,0,0,1,0]) (b := cd Try.f76 [1,0,0,1,0,0,1,1]) (t := x1) (by kernel_rfl) (by kernel_rfl) (fun b9 => ?_) (fun b9 => ?_)
      · have h := ift_t b9 h
        refine XW.seq (x := cd Try.f76 [1,0,0,1,0,0,1,0,0]) (y := cd Try.f76 [1,0,0,1,0,0,1,0,1]) (by kernel_rfl) fun K10 hK10 => ?_
        refine XW.reg (by kernel_rfl) ?_
        refine XO.go [4] 1 [2] [] [(2, vi (1 : Int))] [] [] (by kernel_rfl) trivial ?_
        refine XO.done (by kernel_rfl) ?_
        refine hK10 _ _ ?_
        refine XW.ret (by kernel_rfl) ?_
        obtain rfl := Option.some.inj h
        exact FinP.fin (.inr rfl) [] [vi (1 : Int)] [] (by kernel_rfl) trivial (.one (.rfl _ rfl))
      · have h := ift_f b9 h
        refine XW.skip (by kernel_rfl) ?_
        refine hK5 _ _ ?_
        refine XW.seq (x := cd Try.f76 [1,0,0,1,0,1,0]) (y := cd Try.f76 [1,0,0,1,0,1,1]) (by kernel_rfl) fun K11 hK11 => ?_
        refine XW.reg (by kernel_rfl) ?_
        refine XO.go [4] 1 [2] [] [(2, vi (0 : Int))] [] [] (by kernel_rfl) trivial ?_
        refine XO.done (by kernel_rfl) ?_
        refine hK11 _ _ ?_
        refine XW.ret (by kernel_rfl) ?_
        obtain rfl := Option.some.inj h
        exact FinP.fin (.inr rfl) [] [vi (0 : Int)] [] (by kernel_rfl) trivial (.one (.rfl _ rfl))
    rcases Bool.eq_false_or_eq_true ((p1.fields.length : Int) != (1 : Int)) with b7 | b7
    · have h := ift_t b7 h
      refine XW.reg (by kernel_rfl) ?_
      refine XO.go [4] 3 [1,11] [[pi p1.kind, pi p1.scale, .ro (eField.els p1.fields)]] [(1, .one (.pv (.rp [[pi p1.kind, pi p1.scale, .ro (eField.els p1.fields)]] 0 0))), (11, vi ((eField.els p1.fields).length : Int))] [] [([[pi p1.kind, pi p1.scale, .ro (eField.els p1.fields)]] : List (List PV))[0]? = some [pi p1.kind, pi p1.scale, .ro (eField.els p1.fields)]] (by kernel_rfl) (⟨rfl, trivial⟩) ?_
      rw [eField.len p1.fields]
      refine XO.go [4] 2 [1,13] [] [(1, .one (.pv (.rp [[pi p1.kind, pi p1.scale, .ro (eField.els p1.fields)]] 0 0))), (13, vb ((p1.fields.length : Int) != (1 : Int)))] [] [] (by kernel_rfl) trivial ?_
      refine XO.setb 13 true (B := ((p1.fields.length : Int) != (1 : Int))) rfl b7 ?_
      refine XO.go [4] 7 [20] [] [(20, vb true)] [] [] (by kernel_rfl) trivial ?_
      refine XO.done (by kernel_rfl) ?_
      exact hJ1 true h _ _ (Sub.pick [20] (by kernel_rfl))
    · have h := ift_f b7 h
      obtain ⟨e1, a8, h⟩ := bnd_some h
      refine XW.reg (by kernel_rfl) ?_
      refine XO.go [4] 3 [1,11] [[pi p1.kind, pi p1.scale, .ro (eField.els p1.fields)]] [(1, .one (.pv (.rp [[pi p1.kind, pi p1.scale, .ro (eField.els p1.fields)]] 0 0))), (11, vi ((eField.els p1.fields).length : Int))] [] [([[pi p1.kind, pi p1.scale, .ro (eField.els p1.fields)]] : List (List PV))[0]? = some [pi p1.kind, pi p1.scale, .ro (eField.els p1.fields)]] (by kernel_rfl) (⟨rfl, trivial⟩) ?_
      rw [eField.len p1.fields]
      refine XO.go [4] 2 [1,13] [] [(1, .one (.pv (.rp [[pi p1.kind, pi p1.scale, .ro (eField.els p1.fields)]] 0 0))), (13, vb ((p1.fields.length : Int) != (1 : Int)))] [] [] (by kernel_rfl) trivial ?_
      refine XO.setb 13 false (B := ((p1.fields.length : Int) != (1 : Int))) rfl b7 ?_
      refine XO.go [4] 7 [20] [[pi p1.kind, pi p1.scale, .ro (eField.els p1.fields)], [pi e1.id, .s (.string e1.name), .s (.bool e1.need), pi e1.type.kind, pi e1.type.scale, .ro (eField.els e1.type.fields)]] [(20, vb (!(e1.name.toList == (ByteArray.mk #[]).toList)))] [] [([[pi p1.kind, pi p1.scale, .ro (eField.els p1.fields)]] : List (List PV))[0]? = some [pi p1.kind, pi p1.scale, .ro (eField.els p1.fields)], 0 ≤ (0 : Int) ∧ (0 : Int) < ((eField.els p1.fields).length : Int) ∧ elemsOk 6 (eField.els p1.fields), (eField.els p1.fields)[(0 : Int).toNat]? = some [pi e1.id, .s (.string e1.name), .s (.bool e1.need), pi e1.type.kind, pi e1.type.scale, .ro (eField.els e1.type.fields)]] (by kernel_rfl) (⟨rfl, eField.inb a8, ((eField.get a8).trans (by rcases e1 with ⟨_, _, _, ⟨_, _, _⟩⟩; rfl)), trivial⟩) ?_
      refine XO.done (by kernel_rfl) ?_
      exact hJ1 (!(e1.name.toList == (ByteArray.mk #[]).toList)) h _ _ (Sub.pick [20] (by kernel_rfl))
  · have h := ift_f b4 h
    refine XW.seq (x := cd Try.f76 [1,0,0,1,1,0]) (y := cd Try.f76 [1,0,0,1,1,1]) (by kernel_rfl) fun K12 hK12 => ?_
    refine XW.reg (by kernel_rfl) ?_
    refine XO.go [4] 4 [1,21] [[pi p1.kind, pi p1.scale, .ro (eField.els p1.fields)]] [(1, .one (.pv (.rp [[pi p1.kind, pi p1.scale, .ro (eField.els p1.fields)]] 0 0))), (21, vb (p1.kind != (7 : Int)))] [] [([[pi p1.kind, pi p1.scale, .ro (eField.els p1.fields)]] : List (List PV))[0]? = some [pi p1.kind, pi p1.scale, .ro (eField.els p1.fields)]] (by kernel_rfl) (⟨rfl, trivial⟩) ?_
    refine XO.done (by kernel_rfl) ?_
    refine hK12 _ _ ?_
    refine XW.cond (x := .tmp 21) (a := cd Try.f76 [1,0,0,1,1,1,0]) (b := cd Try.f76 [1,0,0,1,1,1,1]) (t := (p1.kind != (7 : Int))) (by kernel_rfl) (by kernel_rfl) (fun b13 => ?_) (fun b13 => ?_)
    · have h := ift_t b13 h
      refine XW.seq (x := cd Try.f76 [1,0,0,1,1,1,0,0]) (y := cd Try.f76 [1,0,0,1,1,1,0,1]) (by kernel_rfl) fun K14 hK14 => ?_
      refine XW.seq (x := cd Try.f76 [1,0,0,1,1,1,0,0,0]) (y := cd Try.f76 [1,0,0,1,1,1,0,0,1]) (by kernel_rfl) fun K15 hK15 => ?_
      refine XW.reg (by kernel_rfl) ?_
      refine XO.go [4] 3 [27] [[pi p1.kind, pi p1.scale, .ro (eField.els p1.fields)]] [(27, vi ((eField.els p1.fields).length : Int))] [] [([[pi p1.kind, pi p1.scale, .ro (eField.els p1.fields)]] : List (List PV))[0]? = some [pi p1.kind, pi p1.scale, .ro (eField.els p1.fields)]] (by kernel_rfl) (⟨rfl, trivial⟩) ?_
      rw [eField.len p1.fields]
      refine XO.go [4] 1 [28] [] [(28, vb (decide ((0 : Int) < (p1.fields.length : Int))))] [] [] (by kernel_rfl) trivial ?_
      refine XO.done (by kernel_rfl) ?_
      refine hK15 _ _ ?_
      refine XW.cond (x := .tmp 28) (a := cd Try.f76 [1,0,0,1,1,1,0,0,1,0]) (b := cd Try.f76 [1,0,0,1,1,1,0,0,1,1]) (t := (decide ((0 : Int) < (p1.fields.length : Int)))) (by kernel_rfl) (by kernel_rfl) (fun b16 => ?_) (fun b16 => ?_)
      · have h := ift_t b16 h
        refine XW.seq (x := cd Try.f76 [1,0,0,1,1,1,0,0,1,0,0]) (y := cd Try.f76 [1,0,0,1,1,1,0,0,1,0,1]) (by kernel_rfl) fun K17 hK17 => ?_
        refine XW.reg (by kernel_rfl) ?_
        refine XO.go [4] 1 [2] [] [(2, vi (1 : Int))] [] [] (by kernel_rfl) trivial ?_
        refine XO.done (by kernel_rfl) ?_
        refine hK17 _ _ ?_
        refine XW.ret (by kernel_rfl) ?_
        obtain rfl := Option.some.inj h
        exact FinP.fin (.inr rfl) [] [vi (1 : Int)] [] (by kernel_rfl) trivial (.one (.rfl _ rfl))
      · have h := ift_f b16 h
        refine XW.skip (by kernel_rfl) ?_
        refine hK14 _ _ ?_
        refine XW.seq (x := cd Try.f76 [1,0,0,1,1,1,0,1,0]) (y := cd Try.f76 [1,0,0,1,1,1,0,1,1]) (by kernel_rfl) fun K18 hK18 => ?_
        refine XW.reg (by kernel_rfl) ?_
        refine XO.go [4] 1 [2] [] [(2, vi (0 : Int))] [] [] (by kernel_rfl) trivial ?_
        refine XO.done (by kernel_rfl) ?_
        refine hK18 _ _ ?_
        refine XW.ret (by kernel_rfl) ?_
        obtain rfl := Option.some.inj h
        exact FinP.fin (.inr rfl) [] [vi (0 : Int)] [] (by kernel_rfl) trivial (.one (.rfl _ rfl))
    · have h := ift_f b13 h
      refine XW.seq (x := cd Try.f76 [1,0,0,1,1,1,1,0]) (y := cd Try.f76 [1,0,0,1,1,1,1,1]) (by kernel_rfl) fun K19 hK19 => ?_
      refine XW.reg (by kernel_rfl) ?_
      refine XO.go [4] 3 [1,32] [[pi p1.kind, pi p1.scale, .ro (eField.els p1.fields)]] [(1, .one (.pv (.rp [[pi p1.kind, pi p1.scale, .ro (eField.els p1.fields)]] 0 0))), (32, vi ((eField.els p1.fields).length : Int))] [] [([[pi p1.kind, pi p1.scale, .ro (eField.els p1.fields)]] : List (List PV))[0]? = some [pi p1.kind, pi p1.scale, .ro (eField.els p1.fields)]] (by kernel_rfl) (⟨rfl, trivial⟩) ?_
      rw [eField.len p1.fields]
      refine XO.go [4] 2 [1,29] [] [(1, .one (.pv (.rp [[pi p1.kind, pi p1.scale, .ro (eField.els p1.fields)]] 0 0))), (29, vb ((p1.fields.length : Int) == (0 : Int)))] [] [] (by kernel_rfl) trivial ?_
      refine XO.done (by kernel_rfl) ?_
      refine hK19 _ _ ?_
      refine XW.cond (x := .tmp 29) (a := cd Try.f76 [1,0,0,1,1,1,1,1,0]) (b := cd Try.f76 [1,0,0,1,1,1,1,1,1]) (t := ((p1.fields.length : Int) == (0 : Int))) (by kernel_rfl) (by kernel_rfl) (fun b20 => ?_) (fun b20 => ?_)
      · have h := ift_t b20 h
        refine XW.seq (x := cd Try.f76 [1,0,0,1,1,1,1,1,0,0]) (y := cd Try.f76 [1,0,0,1,1,1,1,1,0,1]) (by kernel_rfl) fun K21 hK21 => ?_
        refine XW.reg (by kernel_rfl) ?_
        refine XO.go [4] 1 [2] [] [(2, vi (1 : Int))] [] [] (by kernel_rfl) trivial ?_
        refine XO.done (by kernel_rfl) ?_
        refine hK21 _ _ ?_
        refine XW.ret (by kernel_rfl) ?_
        obtain rfl := Option.some.inj h
        exact FinP.fin (.inr rfl) [] [vi (1 : Int)] [] (by kernel_rfl) trivial (.one (.rfl _ rfl))
      · have h := ift_f b20 h
        refine XW.skip (by kernel_rfl) ?_
        refine hK2 _ _ ?_
        refine XW.seq (x := cd Try.f76 [1,1,0]) (y := cd Try.f76 [1,1,1]) (by kernel_rfl) fun K22 hK22 => ?_
        refine XW.seq (x := cd Try.f76 [1,1,0,0]) (y := cd Try.f76 [1,1,0,1]) (by kernel_rfl) fun K23 hK23 => ?_
        obtain ⟨r1, c24, h⟩ := bnd_some h
        refine XW.reg (by kernel_rfl) ?_
        refine XO.go [4] 2 [1,35] [[pi p1.kind, pi p1.scale, .ro (eField.els p1.fields)]] [(1, .one (.pv (.rp [[pi p1.kind, pi p1.scale, .ro (eField.els p1.fields)]] 0 0))), (35, vl eField p1.fields)] [] [([[pi p1.kind, pi p1.scale, .ro (eField.els p1.fields)]] : List (List PV))[0]? = some [pi p1.kind, pi p1.scale, .ro (eField.els p1.fields)]] (by kernel_rfl) (⟨rfl, trivial⟩) ?_
        refine XO.cal 95 [vl eField p1.fields, .one (.pv (.fn 96 []))] (vb r1) [(36, vb r1), (1, .one (.pv (.rp [[pi p1.kind, pi p1.scale, .ro (eField.els p1.fields)]] 0 0))), (35, vl eField p1.fields)] (by kernel_rfl) (c_slices_ContainsFunc_api_Field_api_Field_s1 _ _ c24) rfl rfl (by kernel_rfl) ?_
        refine XO.done (by kernel_rfl) ?_
        refine hK23 _ _ ?_
        refine XW.cond (x := .tmp 36) (a := cd Try.f76 [1,1,0,1,0]) (b := cd Try.f76 [1,1,0,1,1]) (t := r1) (by kernel_rfl) (by kernel_rfl) (fun b25 => ?_) (fun b25 => ?_)
        · have h := ift_t b25 h
          refine XW.seq (x := cd Try.f76 [1,1,0,1,0,0]) (y := cd Try.f76 [1,1,0,1,0,1]) (by kernel_rfl) fun K26 hK26 => ?_
          refine XW.reg (by kernel_rfl) ?_
          refine XO.go [4] 1 [2] [] [(2, vi (4 : Int))] [] [] (by kernel_rfl) trivial ?_
          refine XO.done (by kernel_rfl) ?_
          refine hK26 _ _ ?_
          refine XW.ret (by kernel_rfl) ?_
          obtain rfl := Option.some.inj h
          exact FinP.fin (.inr rfl) [] [vi (4 : Int)] [] (by kernel_rfl) trivial (.one (.rfl _ rfl))
        · have h := ift_f b25 h
          refine XW.skip (by kernel_rfl) ?_
          refine hK22 _ _ ?_
          refine XW.seq (x := cd Try.f76 [1,1,1,0]) (y := cd Try.f76 [1,1,1,1]) (by kernel_rfl) fun K27 hK27 => ?_
          have hJ2 : ∀ (_ : Unit), value_fields_j2 = some r → ∀ fr1 st1, Sub 52 0 [] fr1 st1 [] [] → K27 fr1 st1 := by
            intro _ h fr1 st1 hS
            unfold value_fields_j2 at h
            refine hK27 _ _ (XW.sub hS ?_)
            refine XW.seq (x := cd Try.f76 [1,1,1,1,0]) (y := cd Try.f76 [1,1,1,1,1]) (by kernel_rfl) fun K40 hK40 => ?_
            refine XW.reg (by kernel_rfl) ?_
            refine XO.go [4] 1 [2] [] [(2, vi (0 : Int))] [] [] (by kernel_rfl) trivial ?_
            refine XO.done (by kernel_rfl) ?_
            refine hK40 _ _ ?_
            refine XW.ret (by kernel_rfl) ?_
            obtain rfl := Option.some.inj h
            exact FinP.fin (.inr rfl) [] [vi (0 : Int)] [] (by kernel_rfl) trivial (.one (.rfl _ rfl))
          refine XW.seq (x := cd Try.f76 [1,1,1,0,0]) (y := cd Try.f76 [1,1,1,0,1]) (by kernel_rfl) fun K28 hK28 => ?_
          refine XW.reg (by kernel_rfl) ?_
          refine XO.go [4] 3 [1,38,39] [[pi p1.kind, pi p1.scale, .ro (eField.els p1.fields)]] [(1, .one (.pv (.rp [[pi p1.kind, pi p1.scale, .ro (eField.els p1.fields)]] 0 0))), (38, vl eField p1.fields), (39, vi ((eField.els p1.fields).length : Int))] [] [([[pi p1.kind, pi p1.scale, .ro (eField.els p1.fields)]] : List (List PV))[0]? = some [pi p1.kind, pi p1.scale, .ro (eField.els p1.fields)]] (by kernel_rfl) (⟨rfl, trivial⟩) ?_
          rw [eField.len p1.fields]
          refine XO.go [4] 1 [1,38,39,40] [] [(1, .one (.pv (.rp [[pi p1.kind, pi p1.scale, .ro (eField.els p1.fields)]] 0 0))), (38, vl eField p1.fields), (39, vi (p1.fields.length : Int)), (40, vi (0 : Int))] [] [] (by kernel_rfl) trivial ?_
          refine XO.done (by kernel_rfl) ?_
          refine hK28 _ _ ?_
          refine XW.block (id := 1) (x := cd Try.f76 [1,1,1,0,1,0]) (by kernel_rfl) ?_
          refine XW.rounds' BIG (x := cd Try.f76 [1,1,1,0,1,0,0]) (by kernel_rfl) fun Q1 hQ1 => ?_
          have hL1 : ∀ (k1 : Nat) (x2 : Int), value_fields_l1 p1 k1 x2 = some r → XR Try.prog 52 0 [] (cd Try.f76 [1,1,1,0,1,0,0]) Q1 k1 [(1, .one (.pv (.rp [[pi p1.kind, pi p1.scale, .ro (eField.els p1.fields)]] 0 0))), (38, vl eField p1.fields), (39, vi (p1.fields.length : Int)), (40, vi x2)] [] := by
            intro k1
            induction k1 with
            | zero => intro x2 h; rw [value_fields_l1.eq_1] at h; cases h
            | succ k1 ih1 =>
              intro x2 h
              rw [value_fields_l1.eq_2] at h
              refine XW.seq (x := cd Try.f76 [1,1,1,0,1,0,0,0]) (y := cd Try.f76 [1,1,1,0,1,0,0,1]) (by kernel_rfl) fun K29 hK29 => ?_
              refine XW.reg (by kernel_rfl) ?_
              refine XO.go [4] 1 [1,38,39,40,41] [] [(1, .one (.pv (.rp [[pi p1.kind, pi p1.scale, .ro (eField.els p1.fields)]] 0 0))), (38, vl eField p1.fields), (39, vi (p1.fields.length : Int)), (40, vi x2), (41, vb (decide (x2 < (p1.fields.length : Int))))] [] [] (by kernel_rfl) trivial ?_
              refine XO.done (by kernel_rfl) ?_
              refine hK29 _ _ ?_
              refine XW.seq (x := cd Try.f76 [1,1,1,0,1,0,0,1,0]) (y := cd Try.f76 [1,1,1,0,1,0,0,1,1]) (by kernel_rfl) fun K30 hK30 => ?_
              refine XW.cond (x := .tmp 41) (a := cd Try.f76 [1,1,1,0,1,0,0,1,0,0]) (b := cd Try.f76 [1,1,1,0,1,0,0,1,0,1]) (t := (decide (x2 < (p1.fields.length : Int)))) (by kernel_rfl) (by kernel_rfl) (fun b31 => ?_) (fun b31 => ?_)
              · have h := ift_t b31 h
                refine XW.skip (by kernel_rfl) ?_
                refine hK30 _ _ ?_
                refine XW.seq (x := cd Try.f76 [1,1,1,0,1,0,0,1,1,0]) (y := cd Try.f76 [1,1,1,0,1,0,0,1,1,1]) (by kernel_rfl) fun K32 hK32 => ?_
                refine XW.block (id := 2) (x := cd Try.f76 [1,1,1,0,1,0,0,1,1,0,0]) (by kernel_rfl) ?_
                refine XW.seq (x := cd Try.f76 [1,1,1,0,1,0,0,1,1,0,0,0]) (y := cd Try.f76 [1,1,1,0,1,0,0,1,1,0,0,1]) (by kernel_rfl) fun K33 hK33 => ?_
                obtain ⟨e2, a34, h⟩ := bnd_some h
                refine XW.reg (by kernel_rfl) ?_
                refine XO.go [4] 6 [1,3,4,38,39,40] [[pi e2.id, .s (.string e2.name), .s (.bool e2.need), pi e2.type.kind, pi e2.type.scale, .ro (eField.els e2.type.fields)]] [(1, .one (.pv (.rp [[pi p1.kind, pi p1.scale, .ro (eField.els p1.fields)]] 0 0))), (3, vi x2), (4, .one (.pt 0 0 0 0)), (38, vl eField p1.fields), (39, vi (p1.fields.length : Int)), (40, vi x2)] [.box [ci e2.id, cst e2.name, cb e2.need, ci e2.type.kind, ci e2.type.scale, cl eField e2.type.fields]] [0 ≤ x2 ∧ x2 < ((eField.els p1.fields).length : Int) ∧ elemsOk 6 (eField.els p1.fields), (eField.els p1.fields)[x2.toNat]? = some [pi e2.id, .s (.string e2.name), .s (.bool e2.need), pi e2.type.kind, pi e2.type.scale, .ro (eField.els e2.type.fields)]] (by kernel_rfl) (⟨eField.inb a34, ((eField.get a34).trans (by rcases e2 with ⟨_, _, _, ⟨_, _, _⟩⟩; rfl)), trivial⟩) ?_
                refine XO.done (by kernel_rfl) ?_
                refine hK33 _ _ ?_
                refine XW.seq (x := cd Try.f76 [1,1,1,0,1,0,0,1,1,0,0,1,0]) (y := cd Try.f76 [1,1,1,0,1,0,0,1,1,0,0,1,1]) (by kernel_rfl) fun K35 hK35 => ?_
                obtain ⟨g36, h⟩ := grd_some h
                obtain ⟨r2, c37, h⟩ := bnd_some h
                refine XW.reg (by kernel_rfl) ?_
                refine XO.go [4] 4 [1,4,38,39,40,48] [[pi p1.kind, pi p1.scale, .ro (eField.els p1.fields)]] [(1, .one (.pv (.rp [[pi p1.kind, pi p1.scale, .ro (eField.els p1.fields)]] 0 0))), (4, .one (.pt 0 0 0 0)), (38, vl eField p1.fields), (39, vi (p1.fields.length : Int)), (40, vi x2), (48, .one (.pv (.ro (((eField.els p1.fields).drop (0 : Int).toNat).take (x2.toNat - (0 : Int).toNat)))))] [.box [ci e2.id, cst e2.name, cb e2.need, ci e2.type.kind, ci e2.type.scale, cl eField e2.type.fields]] [([[pi p1.kind, pi p1.scale, .ro (eField.els p1.fields)]] : List (List PV))[0]? = some [pi p1.kind, pi p1.scale, .ro (eField.els p1.fields)], (0 ≤ (0 : Int) ∧ (0 : Int) ≤ x2 ∧ x2 ≤ ((eField.els p1.fields).length : Int)) ∧ elemsOk 6 (eField.els p1.fields)] (by kernel_rfl) (⟨rfl, eField.cutOk g36, trivial⟩) ?_
                rw [show ((eField.els p1.fields).drop (0 : Int).toNat).take (x2.toNat - (0 : Int).toNat) = eField.els ((p1.fields.drop (0 : Int).toNat).take (x2.toNat - (0 : Int).toNat)) from eField.cut _ _ _]
                refine XO.go [4] 1 [1,38,39,40,48,49] [] [(1, .one (.pv (.rp [[pi p1.kind, pi p1.scale, .ro (eField.els p1.fields)]] 0 0))), (38, vl eField p1.fields), (39, vi (p1.fields.length : Int)), (40, vi x2), (48, vl eField ((p1.fields.drop (0 : Int).toNat).take (x2.toNat - (0 : Int).toNat))), (49, .one (.fn 98 [.pt 0 0 0 0]))] [.box [ci e2.id, cst e2.name, cb e2.need, ci e2.type.kind, ci e2.type.scale, cl eField e2.type.fields]] [] (by kernel_rfl) trivial ?_
                refine XO.calm 95 [vl eField ((p1.fields.drop (0 : Int).toNat).take (x2.toNat - (0 : Int).toNat)), .one (.fn 98 [.pt 0 0 0 0])] [.box [ci e2.id, cst e2.name, cb e2.need, ci e2.type.kind, ci e2.type.scale, cl eField e2.type.fields]] [.box [ci r2.2.id, cst r2.2.name, cb r2.2.need, ci r2.2.type.kind, ci r2.2.type.scale, cl eField r2.2.type.fields]] (vb r2.1) [0] [(50, vb r2.1), (1, .one (.pv (.rp [[pi p1.kind, pi p1.scale, .ro (eField.els p1.fields)]] 0 0))), (38, vl eField p1.fields), (39, vi (p1.fields.length : Int)), (40, vi x2), (48, vl eField ((p1.fields.drop (0 : Int).toNat).take (x2.toNat - (0 : Int).toNat))), (49, .one (.fn 98 [.pt 0 0 0 0]))] [.box [ci r2.2.id, cst r2.2.name, cb r2.2.need, ci r2.2.type.kind, ci r2.2.type.scale, cl eField r2.2.type.fields]] (by kernel_rfl) (c_slices_ContainsFunc_api_Field_api_Field_s6 _ _ _ c37) (by kernel_rfl) (by kernel_rfl) (by kernel_rfl) (by kernel_rfl) ?_
                refine XO.done (by kernel_rfl) ?_
                refine hK35 _ _ ?_
                refine XW.cond (x := .tmp 50) (a := cd Try.f76 [1,1,1,0,1,0,0,1,1,0,0,1,1,0]) (b := cd Try.f76 [1,1,1,0,1,0,0,1,1,0,0,1,1,1]) (t := r2.1) (by kernel_rfl) (by kernel_rfl) (fun b38 => ?_) (fun b38 => ?_)
                · have h := ift_t b38 h
                  refine XW.seq (x := cd Try.f76 [1,1,1,0,1,0,0,1,1,0,0,1,1,0,0]) (y := cd Try.f76 [1,1,1,0,1,0,0,1,1,0,0,1,1,0,1]) (by kernel_rfl) fun K39 hK39 => ?_
                  refine XW.reg (by kernel_rfl) ?_
                  refine XO.go [4] 1 [2] [] [(2, vi (5 : Int))] [.box [ci r2.2.id, cst r2.2.name, cb r2.2.need, ci r2.2.type.kind, ci r2.2.type.scale, cl eField r2.2.type.fields]] [] (by kernel_rfl) trivial ?_
                  refine XO.done (by kernel_rfl) ?_
                  refine hK39 _ _ ?_
                  refine XW.ret (by kernel_rfl) ?_
                  refine hQ1 _ _ _ ?_
                  obtain rfl := Option.some.inj h
                  exact FinP.fin (.inr rfl) [] [vi (5 : Int)] [] (by kernel_rfl) trivial (.one (.rfl _ rfl))
                · have h := ift_f b38 h
                  refine XW.skip (by kernel_rfl) ?_
                  refine hK32 _ _ ?_
                  refine XW.reg (by kernel_rfl) ?_
                  refine XO.go [4] 2 [1,38,39,40] [] [(1, .one (.pv (.rp [[pi p1.kind, pi p1.scale, .ro (eField.els p1.fields)]] 0 0))), (38, vl eField p1.fields), (39, vi (p1.fields.length : Int)), (40, vi (IntKind.i64.wrap (x2 + (1 : Int))))] [.box [ci r2.2.id, cst r2.2.name, cb r2.2.need, ci r2.2.type.kind, ci r2.2.type.scale, cl eField r2.2.type.fields]] [] (by kernel_rfl) trivial ?_
                  refine XO.done (by kernel_rfl) ?_
                  exact XR.sub (Sub.trans (Sub.pick (fr' := [(1, .one (.pv (.rp [[pi p1.kind, pi p1.scale, .ro (eField.els p1.fields)]] 0 0))), (38, vl eField p1.fields), (39, vi (p1.fields.length : Int)), (40, vi (IntKind.i64.wrap (x2 + (1 : Int))))]) [1,38,39,40] (by kernel_rfl)) (Sub.take (fr' := [(1, .one (.pv (.rp [[pi p1.kind, pi p1.scale, .ro (eField.els p1.fields)]] 0 0))), (38, vl eField p1.fields), (39, vi (p1.fields.length : Int)), (40, vi (IntKind.i64.wrap (x2 + (1 : Int))))]) 0 (Nat.zero_le _) (by kernel_rfl) (by kernel_rfl))) (ih1 (IntKind.i64.wrap (x2 + (1 : Int))) h)
              · have h := ift_f b31 h
                refine XW.exit (id := 1) (by kernel_rfl) ?_
                refine hQ1 _ _ _ ?_
                exact hJ2 () h _ _ (Sub.pick [] (by kernel_rfl))
          exact XR.sub (Sub.pick [1,38,39,40] (by kernel_rfl)) (hL1 BIG (0 : Int) h)

def value_checker_check_j5 (z3 : Int) : Option (Int × GChecker) :=
    some ((0 : Int), (GChecker.mk z3))

def value_checker_check_l1 (q_value_checker_check : GType → Int → GChecker → Option (Int × GChecker)) (p1 : GType) (p2 : Int) : Nat → Int → Int → Option (Int × GChecker)
  | 0, _, _ => none
  | k1 + 1, z2, x4 =>
    ift (decide (x4 < (p1.fields.length : Int)))
      (bnd (at? p1.fields x4) fun e1 =>
       bnd (q_value_checker_check e1.type (IntKind.i64.wrap (p2 + (1 : Int))) (GChecker.mk z2)) fun r4 =>
       ift (r4.1 != (0 : Int))
         (some (r4.1, r4.2))
         ((value_checker_check_l1 q_value_checker_check p1 p2 k1) r4.2.leaves (IntKind.i64.wrap (x4 + (1 : Int)))))
      (value_checker_check_j5 z2)

def value_checker_check_j4 (q_value_checker_check : GType → Int → GChecker → Option (Int × GChecker)) (p1 : GType) (p2 : Int) (z1 : Int) (x3 : Bool) : Option (Int × GChecker) :=
    ift x3
      (some ((1 : Int), (GChecker.mk z1)))
      (bnd (value_fields p1) fun r3 =>
       ift (r3 != (0 : Int))
         (some (r3, (GChecker.mk z1)))
         (value_checker_check_l1 q_value_checker_check p1 p2 BIG z1 (0 : Int)))

def value_checker_check_j3 (q_value_checker_check : GType → Int → GChecker → Option (Int × GChecker)) (p1 : GType) (p2 : Int) (z1 : Int) (x2 : Bool) : Option (Int × GChecker) :=
    ift x2
      (some ((3 : Int), (GChecker.mk z1)))
      (ift (p1.scale != (0 : Int))
         (ift (p1.kind != (3 : Int))
            (value_checker_check_j4 q_value_checker_check p1 p2 z1 true)
            (ift (decide (p1.scale < (0 : Int)))
               (value_checker_check_j4 q_value_checker_check p1 p2 z1 true)
               (value_checker_check_j4 q_value_checker_check p1 p2 z1 (decide ((12 : Int) < p1.scale)))))
         (value_checker_check_j4 q_value_checker_check p1 p2 z1 false))

def value_checker_check_j2 (q_value_checker_check : GType → Int → GChecker → Option (Int × GChecker)) (p1 : GType) (p2 : Int) (z1 : Int) : Option (Int × GChecker) :=
    ift (decide (p1.kind < (1 : Int)))
      (value_checker_check_j3 q_value_checker_check p1 p2 z1 true)
      (value_checker_check_j3 q_value_checker_check p1 p2 z1 (decide ((7 : Int) < p1.kind)))

def value_checker_check_j1 (q_value_checker_check : GType → Int → GChecker → Option (Int × GChecker)) (p1 : GType) (p2 : Int) (p3 : GChecker) (x1 : Bool) : Option (Int × GChecker) :=
    ift x1
      (some ((7 : Int), p3))
      (bnd (value_leaf p1) fun r2 =>
       ift r2
         (value_checker_check_j2 q_value_checker_check p1 p2 (IntKind.i64.wrap (p3.leaves + (1 : Int))))
         (value_checker_check_j2 q_value_checker_check p1 p2 p3.leaves))

def value_checker_check : Nat → GType → Int → GChecker → Option (Int × GChecker)
  | 0, _, _, _ => none
  | k0 + 1, p1, p2, p3 =>
    ift (decide ((4 : Int) < p2))
      (value_checker_check_j1 (value_checker_check k0) p1 p2 p3 true)
      (bnd (value_leaf p1) fun r1 =>
       ift r1
         (value_checker_check_j1 (value_checker_check k0) p1 p2 p3 (p3.leaves == (40 : Int)))
         (value_checker_check_j1 (value_checker_check k0) p1 p2 p3 false))


theorem c_value_checker_check : ∀ (k0 : Nat) (p1 : GType) (p2 : Int) (p3 : GChecker) (r : (Int × GChecker)), value_checker_check k0 p1 p2 p3 = some r → MC Try.prog 35 [.one (.pt 0 0 0 0), .ag [ci p1.kind, ci p1.scale, cl eField p1.fields], vi p2] [.box [ci p3.leaves]] (vi r.1) [.box [ci r.2.leaves]]
  | 0, _, _, _, r, h => by rw [value_checker_check.eq_1] at h; cases h
  | k0 + 1, p1, p2, p3, r, h => by
    rw [value_checker_check.eq_2] at h
    refine MC.of 1 (n := 83) (fn := Try.f35) (c := cd Try.f35 []) (by kernel_rfl) (by kernel_rfl) (by kernel_rfl) (Nat.le_of_ble_eq_true rfl) rfl ?_
    refine XW.seq (x := cd Try.f35 [0]) (y := cd Try.f35 [1]) (by kernel_rfl) fun K1 hK1 => ?_
    refine XW.reg (by kernel_rfl) ?_
    refine XO.go [9] 2 [0,2,4] [] [(0, .one (.pt 0 0 0 0)), (2, vi p2), (4, .one (.pv (.rp [[pi p1.kind, pi p1.scale, .ro (eField.els p1.fields)]] 0 0)))] [.box [ci p3.leaves]] [] (by kernel_rfl) trivial ?_
    refine XO.done (by kernel_rfl) ?_
    refine hK1 _ _ ?_
    refine XW.seq (x := cd Try.f35 [1,0]) (y := cd Try.f35 [1,1]) (by kernel_rfl) fun K2 hK2 => ?_
    refine XW.seq (x := cd Try.f35 [1,0,0]) (y := cd Try.f35 [1,0,1]) (by kernel_rfl) fun K3 hK3 => ?_
    have hJ1 : ∀ (x1 : Bool), value_checker_check_j1 (value_checker_check k0) p1 p2 p3 x1 = some r → ∀ fr1 st1, Sub 83 1 [] fr1 st1 [(0, .one (.pt 0 0 0 0)), (2, vi p2), (4, .one (.pv (.rp [[pi p1.kind, pi p1.scale, .ro (eField.els p1.fields)]] 0 0))), (23, vb x1)] [.box [ci p3.leaves]] → K3 fr1 st1 := by
      intro x1 h fr1 st1 hS
      unfold value_checker_check_j1 at h
      refine hK3 _ _ (XW.sub hS ?_)
      refine XW.cond (x := .tmp 23) (a := cd Try.f35 [1,0,1,0]) (b := cd Try.f35 [1,0,1,1]) (t := x1) (by kernel_rfl) (by kernel_rfl) (fun b7 => ?_) (fun b7 => ?_)
      · have h := ift_t b7 h
        refine XW.seq (x := cd Try.f35 [1,0,1,0,0]) (y := cd Try.f35 [1,0,1,0,1]) (by kernel_rfl) fun K8 hK8 => ?_
        refine XW.reg (by kernel_rfl) ?_
        refine XO.go [9] 1 [6] [] [(6, vi (7 : Int))] [.box [ci p3.leaves]] [] (by kernel_rfl) trivial ?_
        refine XO.done (by kernel_rfl) ?_
        refine hK8 _ _ ?_
        refine XW.ret (by kernel_rfl) ?_
        obtain rfl := Option.some.inj h
        exact FinM.fin (.inr rfl) [] [vi (7 : Int)] [] (by kernel_rfl) trivial (by kernel_rfl) (by kernel_rfl) (.one (.rfl _ rfl))
      · have h := ift_f b7 h
        refine XW.skip (by kernel_rfl) ?_
        refine hK2 _ _ ?_
        refine XW.seq (x := cd Try.f35 [1,1,0]) (y := cd Try.f35 [1,1,1]) (by kernel_rfl) fun K9 hK9 => ?_
        have hJ2 : ∀ (z1 : Int), value_checker_check_j2 (value_checker_check k0) p1 p2 z1 = some r → ∀ fr1 st1, Sub 83 1 [] fr1 st1 [(0, .one (.pt 0 0 0 0)), (2, vi p2), (4, .one (.pv (.rp [[pi p1.kind, pi p1.scale, .ro (eField.els p1.fields)]] 0 0)))] [.box [ci z1]] → K9 fr1 st1 := by
          intro z1 h fr1 st1 hS
          unfold value_checker_check_j2 at h
          refine hK9 _ _ (XW.sub hS ?_)
          refine XW.seq (x := cd Try.f35 [1,1,1,0]) (y := cd Try.f35 [1,1,1,1]) (by kernel_rfl) fun K13 hK13 => ?_
          refine XW.block (id := 0) (x := cd Try.f35 [1,1,1,0,0]) (by kernel_rfl) ?_
          refine XW.seq (x := cd Try.f35 [1,1,1,0,0,0]) (y := cd Try.f35 [1,1,1,0,0,1]) (by kernel_rfl) fun K14 hK14 => ?_
          have hJ3 : ∀ (x2 : Bool), value_checker_check_j3 (value_checker_check k0) p1 p2 z1 x2 = some r → ∀ fr1 st1, Sub 83 1 [] fr1 st1 [(0, .one (.pt 0 0 0 0)), (2, vi p2), (4, .one (.pv (.rp [[pi p1.kind, pi p1.scale, .ro (eField.els p1.fields)]] 0 0))), (33, vb x2)] [.box [ci z1]] → K14 fr1 st1 := by
            intro x2 h fr1 st1 hS
            unfold value_checker_check_j3 at h
            refine hK14 _ _ (XW.sub hS ?_)
            refine XW.cond (x := .tmp 33) (a := cd Try.f35 [1,1,1,0,0,1,0]) (b := cd Try.f35 [1,1,1,0,0,1,1]) (t := x2) (by kernel_rfl) (by kernel_rfl) (fun b16 => ?_) (fun b16 => ?_)
            · have h := ift_t b16 h
              refine XW.seq (x := cd Try.f35 [1,1,1,0,0,1,0,0]) (y := cd Try.f35 [1,1,1,0,0,1,0,1]) (by kernel_rfl) fun K17 hK17 => ?_
              refine XW.reg (by kernel_rfl) ?_
              refine XO.go [9] 1 [6] [] [(6, vi (3 : Int))] [.box [ci z1]] [] (by kernel_rfl) trivial ?_
              refine XO.done (by kernel_rfl) ?_
              refine hK17 _ _ ?_
              refine XW.ret (by kernel_rfl) ?_
              obtain rfl := Option.some.inj h
              exact FinM.fin (.inr rfl) [] [vi (3 : Int)] [] (by kernel_rfl) trivial (by kernel_rfl) (by kernel_rfl) (.one (.rfl _ rfl))
            · have h := ift_f b16 h
              refine XW.seq (x := cd Try.f35 [1,1,1,0,0,1,1,0]) (y := cd Try.f35 [1,1,1,0,0,1,1,1]) (by kernel_rfl) fun K18 hK18 => ?_
              have hJ4 : ∀ (x3 : Bool), value_checker_check_j4 (value_checker_check k0) p1 p2 z1 x3 = some r → ∀ fr1 st1, Sub 83 1 [] fr1 st1 [(0, .one (.pt 0 0 0 0)), (2, vi p2), (4, .one (.pv (.rp [[pi p1.kind, pi p1.scale, .ro (eField.els p1.fields)]] 0 0))), (42, vb x3)] [.box [ci z1]] → K18 fr1 st1 := by
                intro x3 h fr1 st1 hS
                unfold value_checker_check_j4 at h
                refine hK18 _ _ (XW.sub hS ?_)
                refine XW.cond (x := .tmp 42) (a := cd Try.f35 [1,1,1,0,0,1,1,1,0]) (b := cd Try.f35 [1,1,1,0,0,1,1,1,1]) (t := x3) (by kernel_rfl) (by kernel_rfl) (fun b22 => ?_) (fun b22 => ?_)
                · have h := ift_t b22 h
                  refine XW.seq (x := cd Try.f35 [1,1,1,0,0,1,1,1,0,0]) (y := cd Try.f35 [1,1,1,0,0,1,1,1,0,1]) (by kernel_rfl) fun K23 hK23 => ?_
                  refine XW.reg (by kernel_rfl) ?_
                  refine XO.go [9] 1 [6] [] [(6, vi (1 : Int))] [.box [ci z1]] [] (by kernel_rfl) trivial ?_
                  refine XO.done (by kernel_rfl) ?_
                  refine hK23 _ _ ?_
                  refine XW.ret (by kernel_rfl) ?_
                  obtain rfl := Option.some.inj h
                  exact FinM.fin (.inr rfl) [] [vi (1 : Int)] [] (by kernel_rfl) trivial (by kernel_rfl) (by kernel_rfl) (.one (.rfl _ rfl))
                · have h := ift_f b22 h
                  refine XW.skip (by kernel_rfl) ?_
                  refine hK13 _ _ ?_
                  refine XW.seq (x := cd Try.f35 [1,1,1,1,0]) (y := cd Try.f35 [1,1,1,1,1]) (by kernel_rfl) fun K24 hK24 => ?_
                  refine XW.seq (x := cd Try.f35 [1,1,1,1,0,0]) (y := cd Try.f35 [1,1,1,1,0,1]) (by kernel_rfl) fun K25 hK25 => ?_
                  obtain ⟨r3, c26, h⟩ := bnd_some h
                  refine XW.reg (by kernel_rfl) ?_
                  refine XO.go [9] 1 [0,2,4,61] [[pi p1.kind, pi p1.scale, .ro (eField.els p1.fields)]] [(0, .one (.pt 0 0 0 0)), (2, vi p2), (4, .one (.pv (.rp [[pi p1.kind, pi p1.scale, .ro (eField.els p1.fields)]] 0 0))), (61, .ag [ci p1.kind, ci p1.scale, cl eField p1.fields])] [.box [ci z1]] [([[pi p1.kind, pi p1.scale, .ro (eField.els p1.fields)]] : List (List PV))[0]? = some [pi p1.kind, pi p1.scale, .ro (eField.els p1.fields)]] (by kernel_rfl) (⟨rfl, trivial⟩) ?_
                  refine XO.cal 76 [.ag [ci p1.kind, ci p1.scale, cl eField p1.fields]] (vi r3) [(62, vi r3), (0, .one (.pt 0 0 0 0)), (2, vi p2), (4, .one (.pv (.rp [[pi p1.kind, pi p1.scale, .ro (eField.els p1.fields)]] 0 0))), (61, .ag [ci p1.kind, ci p1.scale, cl eField p1.fields])] (by kernel_rfl) (c_value_fields _ _ c26) rfl rfl (by kernel_rfl) ?_
                  refine XO.go [9] 1 [0,2,4,7] [] [(0, .one (.pt 0 0 0 0)), (2, vi p2), (4, .one (.pv (.rp [[pi p1.kind, pi p1.scale, .ro (eField.els p1.fields)]] 0 0))), (7, vi r3)] [.box [ci z1]] [] (by kernel_rfl) trivial ?_
                  refine XO.done (by kernel_rfl) ?_
                  refine hK25 _ _ ?_
                  refine XW.seq (x := cd Try.f35 [1,1,1,1,0,1,0]) (y := cd Try.f35 [1,1,1,1,0,1,1]) (by kernel_rfl) fun K27 hK27 => ?_
                  refine XW.reg (by kernel_rfl) ?_
                  refine XO.go [9] 2 [0,2,4,7,64] [] [(0, .one (.pt 0 0 0 0)), (2, vi p2), (4, .one (.pv (.rp [[pi p1.kind, pi p1.scale, .ro (eField.els p1.fields)]] 0 0))), (7, vi r3), (64, vb (r3 != (0 : Int)))] [.box [ci z1]] [] (by kernel_rfl) trivial ?_
                  refine XO.done (by kernel_rfl) ?_
                  refine hK27 _ _ ?_
                  refine XW.cond (x := .tmp 64) (a := cd Try.f35 [1,1,1,1,0,1,1,0]) (b := cd Try.f35 [1,1,1,1,0,1,1,1]) (t := (r3 != (0 : Int))) (by kernel_rfl) (by kernel_rfl) (fun b28 => ?_) (fun b28 => ?_)
                  · have h := ift_t b28 h
                    refine XW.seq (x := cd Try.f35 [1,1,1,1,0,1,1,0,0]) (y := cd Try.f35 [1,1,1,1,0,1,1,0,1]) (by kernel_rfl) fun K29 hK29 => ?_
                    refine XW.reg (by kernel_rfl) ?_
                    refine XO.go [9] 2 [6] [] [(6, vi r3)] [.box [ci z1]] [] (by kernel_rfl) trivial ?_
                    refine XO.done (by kernel_rfl) ?_
                    refine hK29 _ _ ?_
                    refine XW.ret (by kernel_rfl) ?_
                    obtain rfl := Option.some.inj h
                    exact FinM.fin (.inr rfl) [] [vi r3] [] (by kernel_rfl) trivial (by kernel_rfl) (by kernel_rfl) (.one (.rfl _ rfl))
                  · have h := ift_f b28 h
                    refine XW.skip (by kernel_rfl) ?_
                    refine hK24 _ _ ?_
                    refine XW.seq (x := cd Try.f35 [1,1,1,1,1,0]) (y := cd Try.f35 [1,1,1,1,1,1]) (by kernel_rfl) fun K30 hK30 => ?_
                    have hJ5 : ∀ (z3 : Int), value_checker_check_j5 z3 = some r → ∀ fr1 st1, Sub 83 1 [] fr1 st1 [] [.box [ci z3]] → K30 fr1 st1 := by
                      intro z3 h fr1 st1 hS
                      unfold value_checker_check_j5 at h
                      refine hK30 _ _ (XW.sub hS ?_)
                      refine XW.seq (x := cd Try.f35 [1,1,1,1,1,1,0]) (y := cd Try.f35 [1,1,1,1,1,1,1]) (by kernel_rfl) fun K43 hK43 => ?_
                      refine XW.reg (by kernel_rfl) ?_
                      refine XO.go [9] 1 [6] [] [(6, vi (0 : Int))] [.box [ci z3]] [] (by kernel_rfl) trivial ?_
                      refine XO.done (by kernel_rfl) ?_
                      refine hK43 _ _ ?_
                      refine XW.ret (by kernel_rfl) ?_
                      obtain rfl := Option.some.inj h
                      exact FinM.fin (.inr rfl) [] [vi (0 : Int)] [] (by kernel_rfl) trivial (by kernel_rfl) (by kernel_rfl) (.one (.rfl _ rfl))
                    refine XW.seq (x := cd Try.f35 [1,1,1,1,1,0,0]) (y := cd Try.f35 [1,1,1,1,1,0,1]) (by kernel_rfl) fun K31 hK31 => ?_
                    refine XW.reg (by kernel_rfl) ?_
                    refine XO.go [9] 3 [0,2,67,68] [[pi p1.kind, pi p1.scale, .ro (eField.els p1.fields)]] [(0, .one (.pt 0 0 0 0)), (2, vi p2), (67, vl eField p1.fields), (68, vi ((eField.els p1.fields).length : Int))] [.box [ci z1]] [([[pi p1.kind, pi p1.scale, .ro (eField.els p1.fields)]] : List (List PV))[0]? = some [pi p1.kind, pi p1.scale, .ro (eField.els p1.fields)]] (by kernel_rfl) (⟨rfl, trivial⟩) ?_
                    rw [eField.len p1.fields]
                    refine XO.go [9] 1 [0,2,67,68,69] [] [(0, .one (.pt 0 0 0 0)), (2, vi p2), (67, vl eField p1.fields), (68, vi (p1.fields.length : Int)), (69, vi (0 : Int))] [.box [ci z1]] [] (by kernel_rfl) trivial ?_
                    refine XO.done (by kernel_rfl) ?_
                    refine hK31 _ _ ?_
                    refine XW.block (id := 1) (x := cd Try.f35 [1,1,1,1,1,0,1,0]) (by kernel_rfl) ?_
                    refine XW.rounds' BIG (x := cd Try.f35 [1,1,1,1,1,0,1,0,0]) (by kernel_rfl) fun Q1 hQ1 => ?_
                    have hL1 : ∀ (k1 : Nat) (z2 : Int) (x4 : Int), value_checker_check_l1 (value_checker_check k0) p1 p2 k1 z2 x4 = some r → XR Try.prog 83 1 [] (cd Try.f35 [1,1,1,1,1,0,1,0,0]) Q1 k1 [(0, .one (.pt 0 0 0 0)), (2, vi p2), (67, vl eField p1.fields), (68, vi (p1.fields.length : Int)), (69, vi x4)] [.box [ci z2]] := by
                      intro k1
                      induction k1 with
                      | zero => intro z2 x4 h; rw [value_checker_check_l1.eq_1] at h; cases h
                      | succ k1 ih1 =>
                        intro z2 x4 h
                        rw [value_checker_check_l1.eq_2] at h
                        refine XW.seq (x := cd Try.f35 [1,1,1,1,1,0,1,0,0,0]) (y := cd Try.f35 [1,1,1,1,1,0,1,0,0,1]) (by kernel_rfl) fun K32 hK32 => ?_
                        refine XW.reg (by kernel_rfl) ?_
                        refine XO.go [9] 1 [0,2,67,68,69,70] [] [(0, .one (.pt 0 0 0 0)), (2, vi p2), (67, vl eField p1.fields), (68, vi (p1.fields.length : Int)), (69, vi x4), (70, vb (decide (x4 < (p1.fields.length : Int))))] [.box [ci z2]] [] (by kernel_rfl) trivial ?_
                        refine XO.done (by kernel_rfl) ?_
                        refine hK32 _ _ ?_
                        refine XW.seq (x := cd Try.f35 [1,1,1,1,1,0,1,0,0,1,0]) (y := cd Try.f35 [1,1,1,1,1,0,1,0,0,1,1]) (by kernel_rfl) fun K33 hK33 => ?_
                        refine XW.cond (x := .tmp 70) (a := cd Try.f35 [1,1,1,1,1,0,1,0,0,1,0,0]) (b := cd Try.f35 [1,1,1,1,1,0,1,0,0,1,0,1]) (t := (decide (x4 < (p1.fields.length : Int)))) (by kernel_rfl) (by kernel_rfl) (fun b34 => ?_) (fun b34 => ?_)
                        · have h := ift_t b34 h
                          refine XW.skip (by kernel_rfl) ?_
                          refine hK33 _ _ ?_
                          refine XW.seq (x := cd Try.f35 [1,1,1,1,1,0,1,0,0,1,1,0]) (y := cd Try.f35 [1,1,1,1,1,0,1,0,0,1,1,1]) (by kernel_rfl) fun K35 hK35 => ?_
                          refine XW.block (id := 2) (x := cd Try.f35 [1,1,1,1,1,0,1,0,0,1,1,0,0]) (by kernel_rfl) ?_
                          refine XW.seq (x := cd Try.f35 [1,1,1,1,1,0,1,0,0,1,1,0,0,0]) (y := cd Try.f35 [1,1,1,1,1,0,1,0,0,1,1,0,0,1]) (by kernel_rfl) fun K36 hK36 => ?_
                          obtain ⟨e1, a37, h⟩ := bnd_some h
                          refine XW.reg (by kernel_rfl) ?_
                          refine XO.go [9] 4 [0,2,9,67,68,69] [[pi e1.id, .s (.string e1.name), .s (.bool e1.need), pi e1.type.kind, pi e1.type.scale, .ro (eField.els e1.type.fields)]] [(0, .one (.pt 0 0 0 0)), (2, vi p2), (9, .one (.pt 1 0 0 0)), (67, vl eField p1.fields), (68, vi (p1.fields.length : Int)), (69, vi x4)] [.box [ci z2], .box [ci e1.id, cst e1.name, cb e1.need, ci e1.type.kind, ci e1.type.scale, cl eField e1.type.fields]] [0 ≤ x4 ∧ x4 < ((eField.els p1.fields).length : Int) ∧ elemsOk 6 (eField.els p1.fields), (eField.els p1.fields)[x4.toNat]? = some [pi e1.id, .s (.string e1.name), .s (.bool e1.need), pi e1.type.kind, pi e1.type.scale, .ro (eField.els e1.type.fields)]] (by kernel_rfl) (⟨eField.inb a37, ((eField.get a37).trans (by rcases e1 with ⟨_, _, _, ⟨_, _, _⟩⟩; rfl)), trivial⟩) ?_
                          refine XO.done (by kernel_rfl) ?_
                          refine hK36 _ _ ?_
                          refine XW.seq (x := cd Try.f35 [1,1,1,1,1,0,1,0,0,1,1,0,0,1,0]) (y := cd Try.f35 [1,1,1,1,1,0,1,0,0,1,1,0,0,1,1]) (by kernel_rfl) fun K38 hK38 => ?_
                          obtain ⟨r4, c39, h⟩ := bnd_some h
                          refine XW.reg (by kernel_rfl) ?_
                          refine XO.go [9] 5 [0,2,67,68,69,73,75,77] [] [(0, .one (.pt 0 0 0 0)), (2, vi p2), (67, vl eField p1.fields), (68, vi (p1.fields.length : Int)), (69, vi x4), (73, .one (.pt 0 0 0 0)), (75, .ag [ci e1.type.kind, ci e1.type.scale, cl eField e1.type.fields]), (77, vi (IntKind.i64.wrap (p2 + (1 : Int))))] [.box [ci z2], .box [ci e1.id, cst e1.name, cb e1.need, ci e1.type.kind, ci e1.type.scale, cl eField e1.type.fields]] [] (by kernel_rfl) trivial ?_
                          refine XO.calm 35 [.one (.pt 0 0 0 0), .ag [ci e1.type.kind, ci e1.type.scale, cl eField e1.type.fields], vi (IntKind.i64.wrap (p2 + (1 : Int)))] [.box [ci z2]] [.box [ci r4.2.leaves]] (vi r4.1) [0] [(78, vi r4.1), (0, .one (.pt 0 0 0 0)), (2, vi p2), (67, vl eField p1.fields), (68, vi (p1.fields.length : Int)), (69, vi x4), (73, .one (.pt 0 0 0 0)), (75, .ag [ci e1.type.kind, ci e1.type.scale, cl eField e1.type.fields]), (77, vi (IntKind.i64.wrap (p2 + (1 : Int))))] [.box [ci r4.2.leaves], .box [ci e1.id, cst e1.name, cb e1.need, ci e1.type.kind, ci e1.type.scale, cl eField e1.type.fields]] (by kernel_rfl) (c_value_checker_check k0 _ _ _ _ c39) (by kernel_rfl) (by kernel_rfl) (by kernel_rfl) (by kernel_rfl) ?_
                          refine XO.go [9] 1 [0,2,10,67,68,69] [] [(0, .one (.pt 0 0 0 0)), (2, vi p2), (10, vi r4.1), (67, vl eField p1.fields), (68, vi (p1.fields.length : Int)), (69, vi x4)] [.box [ci r4.2.leaves], .box [ci e1.id, cst e1.name, cb e1.need, ci e1.type.kind, ci e1.type.scale, cl eField e1.type.fields]] [] (by kernel_rfl) trivial ?_
                          refine XO.done (by kernel_rfl) ?_
                          refine hK38 _ _ ?_
                          refine XW.seq (x := cd Try.f35 [1,1,1,1,1,0,1,0,0,1,1,0,0,1,1,0]) (y := cd Try.f35 [1,1,1,1,1,0,1,0,0,1,1,0,0,1,1,1]) (by kernel_rfl) fun K40 hK40 => ?_
                          refine XW.reg (by kernel_rfl) ?_
                          refine XO.go [9] 2 [0,2,10,67,68,69,80] [] [(0, .one (.pt 0 0 0 0)), (2, vi p2), (10, vi r4.1), (67, vl eField p1.fields), (68, vi (p1.fields.length : Int)), (69, vi x4), (80, vb (r4.1 != (0 : Int)))] [.box [ci r4.2.leaves], .box [ci e1.id, cst e1.name, cb e1.need, ci e1.type.kind, ci e1.type.scale, cl eField e1.type.fields]] [] (by kernel_rfl) trivial ?_
                          refine XO.done (by kernel_rfl) ?_
                          refine hK40 _ _ ?_
                          refine XW.cond (x := .tmp 80) (a := cd Try.f35 [1,1,1,1,1,0,1,0,0,1,1,0,0,1,1,1,0]) (b := cd Try.f35 [1,1,1,1,1,0,1,0,0,1,1,0,0,1,1,1,1]) (t := (r4.1 != (0 : Int))) (by kernel_rfl) (by kernel_rfl) (fun b41 => ?_) (fun b41 => ?_)
                          · have h := ift_t b41 h
                            refine XW.seq (x := cd Try.f35 [1,1,1,1,1,0,1,0,0,1,1,0,0,1,1,1,0,0]) (y := cd Try.f35 [1,1,1,1,1,0,1,0,0,1,1,0,0,1,1,1,0,1]) (by kernel_rfl) fun K42 hK42 => ?_
                            refine XW.reg (by kernel_rfl) ?_
                            refine XO.go [9] 2 [6] [] [(6, vi r4.1)] [.box [ci r4.2.leaves], .box [ci e1.id, cst e1.name, cb e1.need, ci e1.type.kind, ci e1.type.scale, cl eField e1.type.fields]] [] (by kernel_rfl) trivial ?_
                            refine XO.done (by kernel_rfl) ?_
                            refine hK42 _ _ ?_
                            refine XW.ret (by kernel_rfl) ?_
                            refine hQ1 _ _ _ ?_
                            obtain rfl := Option.some.inj h
                            exact FinM.fin (.inr rfl) [] [vi r4.1] [] (by kernel_rfl) trivial (by kernel_rfl) (by kernel_rfl) (.one (.rfl _ rfl))
                          · have h := ift_f b41 h
                            refine XW.skip (by kernel_rfl) ?_
                            refine hK35 _ _ ?_
                            refine XW.reg (by kernel_rfl) ?_
                            refine XO.go [9] 2 [0,2,67,68,69] [] [(0, .one (.pt 0 0 0 0)), (2, vi p2), (67, vl eField p1.fields), (68, vi (p1.fields.length : Int)), (69, vi (IntKind.i64.wrap (x4 + (1 : Int))))] [.box [ci r4.2.leaves], .box [ci e1.id, cst e1.name, cb e1.need, ci e1.type.kind, ci e1.type.scale, cl eField e1.type.fields]] [] (by kernel_rfl) trivial ?_
                            refine XO.done (by kernel_rfl) ?_
                            exact XR.sub (Sub.trans (Sub.pick (fr' := [(0, .one (.pt 0 0 0 0)), (2, vi p2), (67, vl eField p1.fields), (68, vi (p1.fields.length : Int)), (69, vi (IntKind.i64.wrap (x4 + (1 : Int))))]) [0,2,67,68,69] (by kernel_rfl)) (Sub.take (fr' := [(0, .one (.pt 0 0 0 0)), (2, vi p2), (67, vl eField p1.fields), (68, vi (p1.fields.length : Int)), (69, vi (IntKind.i64.wrap (x4 + (1 : Int))))]) 1 (by decide) (by kernel_rfl) (by kernel_rfl))) (ih1 r4.2.leaves (IntKind.i64.wrap (x4 + (1 : Int))) h)
                        · have h := ift_f b34 h
                          refine XW.exit (id := 1) (by kernel_rfl) ?_
                          refine hQ1 _ _ _ ?_
                          exact hJ5 z2 h _ _ (Sub.pick [] (by kernel_rfl))
                    exact XR.sub (Sub.pick [0,2,67,68,69] (by kernel_rfl)) (hL1 BIG z1 (0 : Int) h)
              rcases Bool.eq_false_or_eq_true (p1.scale != (0 : Int)) with b19 | b19
              · have h := ift_t b19 h
                rcases Bool.eq_false_or_eq_true (p1.kind != (3 : Int)) with b20 | b20
                · have h := ift_t b20 h
                  refine XW.reg (by kernel_rfl) ?_
                  refine XO.go [9] 4 [0,2,4,46] [[pi p1.kind, pi p1.scale, .ro (eField.els p1.fields)]] [(0, .one (.pt 0 0 0 0)), (2, vi p2), (4, .one (.pv (.rp [[pi p1.kind, pi p1.scale, .ro (eField.els p1.fields)]] 0 0))), (46, vb (p1.scale != (0 : Int)))] [.box [ci z1]] [([[pi p1.kind, pi p1.scale, .ro (eField.els p1.fields)]] : List (List PV))[0]? = some [pi p1.kind, pi p1.scale, .ro (eField.els p1.fields)]] (by kernel_rfl) (⟨rfl, trivial⟩) ?_
                  refine XO.setb 46 true (B := (p1.scale != (0 : Int))) rfl b19 ?_
                  refine XO.go [9] 4 [0,2,4,46,50] [[pi p1.kind, pi p1.scale, .ro (eField.els p1.fields)]] [(0, .one (.pt 0 0 0 0)), (2, vi p2), (4, .one (.pv (.rp [[pi p1.kind, pi p1.scale, .ro (eField.els p1.fields)]] 0 0))), (46, vb true), (50, vb (p1.kind != (3 : Int)))] [.box [ci z1]] [([[pi p1.kind, pi p1.scale, .ro (eField.els p1.fields)]] : List (List PV))[0]? = some [pi p1.kind, pi p1.scale, .ro (eField.els p1.fields)]] (by kernel_rfl) (⟨rfl, trivial⟩) ?_
                  refine XO.setb 50 true (B := (p1.kind != (3 : Int))) rfl b20 ?_
                  refine XO.go [9] 11 [0,2,4,42] [] [(0, .one (.pt 0 0 0 0)), (2, vi p2), (4, .one (.pv (.rp [[pi p1.kind, pi p1.scale, .ro (eField.els p1.fields)]] 0 0))), (42, vb true)] [.box [ci z1]] [] (by kernel_rfl) trivial ?_
                  refine XO.done (by kernel_rfl) ?_
                  exact hJ4 true h _ _ (Sub.pick [0,2,4,42] (by kernel_rfl))
                · have h := ift_f b20 h
                  rcases Bool.eq_false_or_eq_true (decide (p1.scale < (0 : Int))) with b21 | b21
                  · have h := ift_t b21 h
                    refine XW.reg (by kernel_rfl) ?_
                    refine XO.go [9] 4 [0,2,4,46] [[pi p1.kind, pi p1.scale, .ro (eField.els p1.fields)]] [(0, .one (.pt 0 0 0 0)), (2, vi p2), (4, .one (.pv (.rp [[pi p1.kind, pi p1.scale, .ro (eField.els p1.fields)]] 0 0))), (46, vb (p1.scale != (0 : Int)))] [.box [ci z1]] [([[pi p1.kind, pi p1.scale, .ro (eField.els p1.fields)]] : List (List PV))[0]? = some [pi p1.kind, pi p1.scale, .ro (eField.els p1.fields)]] (by kernel_rfl) (⟨rfl, trivial⟩) ?_
                    refine XO.setb 46 true (B := (p1.scale != (0 : Int))) rfl b19 ?_
                    refine XO.go [9] 4 [0,2,4,46,50] [[pi p1.kind, pi p1.scale, .ro (eField.els p1.fields)]] [(0, .one (.pt 0 0 0 0)), (2, vi p2), (4, .one (.pv (.rp [[pi p1.kind, pi p1.scale, .ro (eField.els p1.fields)]] 0 0))), (46, vb true), (50, vb (p1.kind != (3 : Int)))] [.box [ci z1]] [([[pi p1.kind, pi p1.scale, .ro (eField.els p1.fields)]] : List (List PV))[0]? = some [pi p1.kind, pi p1.scale, .ro (eField.els p1.fields)]] (by kernel_rfl) (⟨rfl, trivial⟩) ?_
                    refine XO.setb 50 false (B := (p1.kind != (3 : Int))) rfl b20 ?_
                    refine XO.go [9] 5 [0,2,4,46,55] [[pi p1.kind, pi p1.scale, .ro (eField.els p1.fields)]] [(0, .one (.pt 0 0 0 0)), (2, vi p2), (4, .one (.pv (.rp [[pi p1.kind, pi p1.scale, .ro (eField.els p1.fields)]] 0 0))), (46, vb true), (55, vb (decide (p1.scale < (0 : Int))))] [.box [ci z1]] [([[pi p1.kind, pi p1.scale, .ro (eField.els p1.fields)]] : List (List PV))[0]? = some [pi p1.kind, pi p1.scale, .ro (eField.els p1.fields)]] (by kernel_rfl) (⟨rfl, trivial⟩) ?_
                    refine XO.setb 55 true (B := (decide (p1.scale < (0 : Int)))) rfl b21 ?_
                    refine XO.go [9] 6 [0,2,4,42] [] [(0, .one (.pt 0 0 0 0)), (2, vi p2), (4, .one (.pv (.rp [[pi p1.kind, pi p1.scale, .ro (eField.els p1.fields)]] 0 0))), (42, vb true)] [.box [ci z1]] [] (by kernel_rfl) trivial ?_
                    refine XO.done (by kernel_rfl) ?_
                    exact hJ4 true h _ _ (Sub.pick [0,2,4,42] (by kernel_rfl))
                  · have h := ift_f b21 h
                    refine XW.reg (by kernel_rfl) ?_
                    refine XO.go [9] 4 [0,2,4,46] [[pi p1.kind, pi p1.scale, .ro (eField.els p1.fields)]] [(0, .one (.pt 0 0 0 0)), (2, vi p2), (4, .one (.pv (.rp [[pi p1.kind, pi p1.scale, .ro (eField.els p1.fields)]] 0 0))), (46, vb (p1.scale != (0 : Int)))] [.box [ci z1]] [([[pi p1.kind, pi p1.scale, .ro (eField.els p1.fields)]] : List (List PV))[0]? = some [pi p1.kind, pi p1.scale, .ro (eField.els p1.fields)]] (by kernel_rfl) (⟨rfl, trivial⟩) ?_
                    refine XO.setb 46 true (B := (p1.scale != (0 : Int))) rfl b19 ?_
                    refine XO.go [9] 4 [0,2,4,46,50] [[pi p1.kind, pi p1.scale, .ro (eField.els p1.fields)]] [(0, .one (.pt 0 0 0 0)), (2, vi p2), (4, .one (.pv (.rp [[pi p1.kind, pi p1.scale, .ro (eField.els p1.fields)]] 0 0))), (46, vb true), (50, vb (p1.kind != (3 : Int)))] [.box [ci z1]] [([[pi p1.kind, pi p1.scale, .ro (eField.els p1.fields)]] : List (List PV))[0]? = some [pi p1.kind, pi p1.scale, .ro (eField.els p1.fields)]] (by kernel_rfl) (⟨rfl, trivial⟩) ?_
                    refine XO.setb 50 false (B := (p1.kind != (3 : Int))) rfl b20 ?_
                    refine XO.go [9] 5 [0,2,4,46,55] [[pi p1.kind, pi p1.scale, .ro (eField.els p1.fields)]] [(0, .one (.pt 0 0 0 0)), (2, vi p2), (4, .one (.pv (.rp [[pi p1.kind, pi p1.scale, .ro (eField.els p1.fields)]] 0 0))), (46, vb true), (55, vb (decide (p1.scale < (0 : Int))))] [.box [ci z1]] [([[pi p1.kind, pi p1.scale, .ro (eField.els p1.fields)]] : List (List PV))[0]? = some [pi p1.kind, pi p1.scale, .ro (eField.els p1.fields)]] (by kernel_rfl) (⟨rfl, trivial⟩) ?_
                    refine XO.setb 55 false (B := (decide (p1.scale < (0 : Int)))) rfl b21 ?_
                    refine XO.go [9] 6 [0,2,4,42] [[pi p1.kind, pi p1.scale, .ro (eField.els p1.fields)]] [(0, .one (.pt 0 0 0 0)), (2, vi p2), (4, .one (.pv (.rp [[pi p1.kind, pi p1.scale, .ro (eField.els p1.fields)]] 0 0))), (42, vb (decide ((12 : Int) < p1.scale)))] [.box [ci z1]] [([[pi p1.kind, pi p1.scale, .ro (eField.els p1.fields)]] : List (List PV))[0]? = some [pi p1.kind, pi p1.scale, .ro (eField.els p1.fields)]] (by kernel_rfl) (⟨rfl, trivial⟩) ?_
                    refine XO.done (by kernel_rfl) ?_
                    exact hJ4 (decide ((12 : Int) < p1.scale)) h _ _ (Sub.pick [0,2,4,42] (by kernel_rfl))
              · have h := ift_f b19 h
                refine XW.reg (by kernel_rfl) ?_
                refine XO.go [9] 4 [0,2,4,46] [[pi p1.kind, pi p1.scale, .ro (eField.els p1.fields)]] [(0, .one (.pt 0 0 0 0)), (2, vi p2), (4, .one (.pv (.rp [[pi p1.kind, pi p1.scale, .ro (eField.els p1.fields)]] 0 0))), (46, vb (p1.scale != (0 : Int)))] [.box [ci z1]] [([[pi p1.kind, pi p1.scale, .ro (eField.els p1.fields)]] : List (List PV))[0]? = some [pi p1.kind, pi p1.scale, .ro (eField.els p1.fields)]] (by kernel_rfl) (⟨rfl, trivial⟩) ?_
                refine XO.setb 46 false (B := (p1.scale != (0 : Int))) rfl b19 ?_
                refine XO.go [9] 15 [0,2,4,42] [] [(0, .one (.pt 0 0 0 0)), (2, vi p2), (4, .one (.pv (.rp [[pi p1.kind, pi p1.scale, .ro (eField.els p1.fields)]] 0 0))), (42, vb false)] [.box [ci z1]] [] (by kernel_rfl) trivial ?_
                refine XO.done (by kernel_rfl) ?_
                exact hJ4 false h _ _ (Sub.pick [0,2,4,42] (by kernel_rfl))
          rcases Bool.eq_false_or_eq_true (decide (p1.kind < (1 : Int))) with b15 | b15
          · have h := ift_t b15 h
            refine XW.reg (by kernel_rfl) ?_
            refine XO.go [9] 4 [0,2,4,37] [[pi p1.kind, pi p1.scale, .ro (eField.els p1.fields)]] [(0, .one (.pt 0 0 0 0)), (2, vi p2), (4, .one (.pv (.rp [[pi p1.kind, pi p1.scale, .ro (eField.els p1.fields)]] 0 0))), (37, vb (decide (p1.kind < (1 : Int))))] [.box [ci z1]] [([[pi p1.kind, pi p1.scale, .ro (eField.els p1.fields)]] : List (List PV))[0]? = some [pi p1.kind, pi p1.scale, .ro (eField.els p1.fields)]] (by kernel_rfl) (⟨rfl, trivial⟩) ?_
            refine XO.setb 37 true (B := (decide (p1.kind < (1 : Int)))) rfl b15 ?_
            refine XO.go [9] 5 [0,2,4,33] [] [(0, .one (.pt 0 0 0 0)), (2, vi p2), (4, .one (.pv (.rp [[pi p1.kind, pi p1.scale, .ro (eField.els p1.fields)]] 0 0))), (33, vb true)] [.box [ci z1]] [] (by kernel_rfl) trivial ?_
            refine XO.done (by kernel_rfl) ?_
            exact hJ3 true h _ _ (Sub.pick [0,2,4,33] (by kernel_rfl))
          · have h := ift_f b15 h
            refine XW.reg (by kernel_rfl) ?_
            refine XO.go [9] 4 [0,2,4,37] [[pi p1.kind, pi p1.scale, .ro (eField.els p1.fields)]] [(0, .one (.pt 0 0 0 0)), (2, vi p2), (4, .one (.pv (.rp [[pi p1.kind, pi p1.scale, .ro (eField.els p1.fields)]] 0 0))), (37, vb (decide (p1.kind < (1 : Int))))] [.box [ci z1]] [([[pi p1.kind, pi p1.scale, .ro (eField.els p1.fields)]] : List (List PV))[0]? = some [pi p1.kind, pi p1.scale, .ro (eField.els p1.fields)]] (by kernel_rfl) (⟨rfl, trivial⟩) ?_
            refine XO.setb 37 false (B := (decide (p1.kind < (1 : Int)))) rfl b15 ?_
            refine XO.go [9] 5 [0,2,4,33] [[pi p1.kind, pi p1.scale, .ro (eField.els p1.fields)]] [(0, .one (.pt 0 0 0 0)), (2, vi p2), (4, .one (.pv (.rp [[pi p1.kind, pi p1.scale, .ro (eField.els p1.fields)]] 0 0))), (33, vb (decide ((7 : Int) < p1.kind)))] [.box [ci z1]] [([[pi p1.kind, pi p1.scale, .ro (eField.els p1.fields)]] : List (List PV))[0]? = some [pi p1.kind, pi p1.scale, .ro (eField.els p1.fields)]] (by kernel_rfl) (⟨rfl, trivial⟩) ?_
            refine XO.done (by kernel_rfl) ?_
            exact hJ3 (decide ((7 : Int) < p1.kind)) h _ _ (Sub.pick [0,2,4,33] (by kernel_rfl))
        refine XW.seq (x := cd Try.f35 [1,1,0,0]) (y := cd Try.f35 [1,1,0,1]) (by kernel_rfl) fun K10 hK10 => ?_
        obtain ⟨r2, c11, h⟩ := bnd_some h
        refine XW.reg (by kernel_rfl) ?_
        refine XO.go [9] 1 [0,2,4,24] [[pi p1.kind, pi p1.scale, .ro (eField.els p1.fields)]] [(0, .one (.pt 0 0 0 0)), (2, vi p2), (4, .one (.pv (.rp [[pi p1.kind, pi p1.scale, .ro (eField.els p1.fields)]] 0 0))), (24, .ag [ci p1.kind, ci p1.scale, cl eField p1.fields])] [.box [ci p3.leaves]] [([[pi p1.kind, pi p1.scale, .ro (eField.els p1.fields)]] : List (List PV))[0]? = some [pi p1.kind, pi p1.scale, .ro (eField.els p1.fields)]] (by kernel_rfl) (⟨rfl, trivial⟩) ?_
        refine XO.cal 75 [.ag [ci p1.kind, ci p1.scale, cl eField p1.fields]] (vb r2) [(25, vb r2), (0, .one (.pt 0 0 0 0)), (2, vi p2), (4, .one (.pv (.rp [[pi p1.kind, pi p1.scale, .ro (eField.els p1.fields)]] 0 0))), (24, .ag [ci p1.kind, ci p1.scale, cl eField p1.fields])] (by kernel_rfl) (c_value_leaf _ _ c11) rfl rfl (by kernel_rfl) ?_
        refine XO.done (by kernel_rfl) ?_
        refine hK10 _ _ ?_
        refine XW.cond (x := .tmp 25) (a := cd Try.f35 [1,1,0,1,0]) (b := cd Try.f35 [1,1,0,1,1]) (t := r2) (by kernel_rfl) (by kernel_rfl) (fun b12 => ?_) (fun b12 => ?_)
        · have h := ift_t b12 h
          refine XW.reg (by kernel_rfl) ?_
          refine XO.go [9] 8 [0,2,4] [] [(0, .one (.pt 0 0 0 0)), (2, vi p2), (4, .one (.pv (.rp [[pi p1.kind, pi p1.scale, .ro (eField.els p1.fields)]] 0 0)))] [.box [ci (IntKind.i64.wrap (p3.leaves + (1 : Int)))]] [] (by kernel_rfl) trivial ?_
          refine XO.done (by kernel_rfl) ?_
          exact hJ2 (IntKind.i64.wrap (p3.leaves + (1 : Int))) h _ _ (Sub.pick [0,2,4] (by kernel_rfl))
        · have h := ift_f b12 h
          refine XW.skip (by kernel_rfl) ?_
          exact hJ2 p3.leaves h _ _ (Sub.pick [0,2,4] (by kernel_rfl))
    rcases Bool.eq_false_or_eq_true (decide ((4 : Int) < p2)) with b4 | b4
    · have h := ift_t b4 h
      refine XW.reg (by kernel_rfl) ?_
      refine XO.go [9] 3 [0,2,4,13] [] [(0, .one (.pt 0 0 0 0)), (2, vi p2), (4, .one (.pv (.rp [[pi p1.kind, pi p1.scale, .ro (eField.els p1.fields)]] 0 0))), (13, vb (decide ((4 : Int) < p2)))] [.box [ci p3.leaves]] [] (by kernel_rfl) trivial ?_
      refine XO.setb 13 true (B := (decide ((4 : Int) < p2))) rfl b4 ?_
      refine XO.go [9] 10 [0,2,4,23] [] [(0, .one (.pt 0 0 0 0)), (2, vi p2), (4, .one (.pv (.rp [[pi p1.kind, pi p1.scale, .ro (eField.els p1.fields)]] 0 0))), (23, vb true)] [.box [ci p3.leaves]] [] (by kernel_rfl) trivial ?_
      refine XO.done (by kernel_rfl) ?_
      exact hJ1 true h _ _ (Sub.pick [0,2,4,23] (by kernel_rfl))
    · have h := ift_f b4 h
      obtain ⟨r1, c5, h⟩ := bnd_some h
      rcases Bool.eq_false_or_eq_true r1 with b6 | b6
      · have h := ift_t b6 h
        refine XW.reg (by kernel_rfl) ?_
        refine XO.go [9] 3 [0,2,4,13] [] [(0, .one (.pt 0 0 0 0)), (2, vi p2), (4, .one (.pv (.rp [[pi p1.kind, pi p1.scale, .ro (eField.els p1.fields)]] 0 0))), (13, vb (decide ((4 : Int) < p2)))] [.box [ci p3.leaves]] [] (by kernel_rfl) trivial ?_
        refine XO.setb 13 false (B := (decide ((4 : Int) < p2))) rfl b4 ?_
        refine XO.go [9] 1 [0,2,4,13,14] [[pi p1.kind, pi p1.scale, .ro (eField.els p1.fields)]] [(0, .one (.pt 0 0 0 0)), (2, vi p2), (4, .one (.pv (.rp [[pi p1.kind, pi p1.scale, .ro (eField.els p1.fields)]] 0 0))), (13, vb false), (14, .ag [ci p1.kind, ci p1.scale, cl eField p1.fields])] [.box [ci p3.leaves]] [([[pi p1.kind, pi p1.scale, .ro (eField.els p1.fields)]] : List (List PV))[0]? = some [pi p1.kind, pi p1.scale, .ro (eField.els p1.fields)]] (by kernel_rfl) (⟨rfl, trivial⟩) ?_
        refine XO.cal 75 [.ag [ci p1.kind, ci p1.scale, cl eField p1.fields]] (vb r1) [(15, vb r1), (0, .one (.pt 0 0 0 0)), (2, vi p2), (4, .one (.pv (.rp [[pi p1.kind, pi p1.scale, .ro (eField.els p1.fields)]] 0 0))), (13, vb false), (14, .ag [ci p1.kind, ci p1.scale, cl eField p1.fields])] (by kernel_rfl) (c_value_leaf _ _ c5) rfl rfl (by kernel_rfl) ?_
        refine XO.go [9] 1 [0,2,4,13,16] [] [(0, .one (.pt 0 0 0 0)), (2, vi p2), (4, .one (.pv (.rp [[pi p1.kind, pi p1.scale, .ro (eField.els p1.fields)]] 0 0))), (13, vb false), (16, vb r1)] [.box [ci p3.leaves]] [] (by kernel_rfl) trivial ?_
        refine XO.setb 16 true (B := r1) rfl b6 ?_
        refine XO.go [9] 7 [0,2,4,23] [] [(0, .one (.pt 0 0 0 0)), (2, vi p2), (4, .one (.pv (.rp [[pi p1.kind, pi p1.scale, .ro (eField.els p1.fields)]] 0 0))), (23, vb (p3.leaves == (40 : Int)))] [.box [ci p3.leaves]] [] (by kernel_rfl) trivial ?_
        refine XO.done (by kernel_rfl) ?_
        exact hJ1 (p3.leaves == (40 : Int)) h _ _ (Sub.pick [0,2,4,23] (by kernel_rfl))
      · have h := ift_f b6 h
        refine XW.reg (by kernel_rfl) ?_
        refine XO.go [9] 3 [0,2,4,13] [] [(0, .one (.pt 0 0 0 0)), (2, vi p2), (4, .one (.pv (.rp [[pi p1.kind, pi p1.scale, .ro (eField.els p1.fields)]] 0 0))), (13, vb (decide ((4 : Int) < p2)))] [.box [ci p3.leaves]] [] (by kernel_rfl) trivial ?_
        refine XO.setb 13 false (B := (decide ((4 : Int) < p2))) rfl b4 ?_
        refine XO.go [9] 1 [0,2,4,13,14] [[pi p1.kind, pi p1.scale, .ro (eField.els p1.fields)]] [(0, .one (.pt 0 0 0 0)), (2, vi p2), (4, .one (.pv (.rp [[pi p1.kind, pi p1.scale, .ro (eField.els p1.fields)]] 0 0))), (13, vb false), (14, .ag [ci p1.kind, ci p1.scale, cl eField p1.fields])] [.box [ci p3.leaves]] [([[pi p1.kind, pi p1.scale, .ro (eField.els p1.fields)]] : List (List PV))[0]? = some [pi p1.kind, pi p1.scale, .ro (eField.els p1.fields)]] (by kernel_rfl) (⟨rfl, trivial⟩) ?_
        refine XO.cal 75 [.ag [ci p1.kind, ci p1.scale, cl eField p1.fields]] (vb r1) [(15, vb r1), (0, .one (.pt 0 0 0 0)), (2, vi p2), (4, .one (.pv (.rp [[pi p1.kind, pi p1.scale, .ro (eField.els p1.fields)]] 0 0))), (13, vb false), (14, .ag [ci p1.kind, ci p1.scale, cl eField p1.fields])] (by kernel_rfl) (c_value_leaf _ _ c5) rfl rfl (by kernel_rfl) ?_
        refine XO.go [9] 1 [0,2,4,13,16] [] [(0, .one (.pt 0 0 0 0)), (2, vi p2), (4, .one (.pv (.rp [[pi p1.kind, pi p1.scale, .ro (eField.els p1.fields)]] 0 0))), (13, vb false), (16, vb r1)] [.box [ci p3.leaves]] [] (by kernel_rfl) trivial ?_
        refine XO.setb 16 false (B := r1) rfl b6 ?_
        refine XO.go [9] 7 [0,2,4,23] [] [(0, .one (.pt 0 0 0 0)), (2, vi p2), (4, .one (.pv (.rp [[pi p1.kind, pi p1.scale, .ro (eField.els p1.fields)]] 0 0))), (23, vb false)] [.box [ci p3.leaves]] [] (by kernel_rfl) trivial ?_
        refine XO.done (by kernel_rfl) ?_
        exact hJ1 false h _ _ (Sub.pick [0,2,4,23] (by kernel_rfl))

def value_CheckType (p1 : GType) : Option Int :=
    bnd (value_checker_check BIG p1 (1 : Int) (GChecker.mk (0 : Int))) fun r1 =>
    some r1.1


theorem c_value_CheckType (p1 : GType) (r : Int) (h : value_CheckType p1 = some r) : PC Try.prog 13 [.ag [ci p1.kind, ci p1.scale, cl eField p1.fields]] (vi r) := by
  unfold value_CheckType at h
  refine PC.of (n := 9) (fn := Try.f13) (c := cd Try.f13 []) (by kernel_rfl) (by kernel_rfl) (by kernel_rfl) (Nat.le_of_ble_eq_true rfl) ?_
  refine XW.seq (x := cd Try.f13 [0]) (y := cd Try.f13 [1]) (by kernel_rfl) fun K1 hK1 => ?_
  refine XW.reg (by kernel_rfl) ?_
  refine XO.go [5] 2 [1] [] [(1, .one (.pv (.rp [[pi p1.kind, pi p1.scale, .ro (eField.els p1.fields)]] 0 0)))] [] [] (by kernel_rfl) trivial ?_
  refine XO.done (by kernel_rfl) ?_
  refine hK1 _ _ ?_
  refine XW.seq (x := cd Try.f13 [1,0]) (y := cd Try.f13 [1,1]) (by kernel_rfl) fun K2 hK2 => ?_
  refine XW.reg (by kernel_rfl) ?_
  refine XO.go [5] 3 [1,3] [] [(1, .one (.pv (.rp [[pi p1.kind, pi p1.scale, .ro (eField.els p1.fields)]] 0 0))), (3, .one (.pt 0 0 0 0))] [.box [ci (0 : Int)]] [] (by kernel_rfl) trivial ?_
  refine XO.done (by kernel_rfl) ?_
  refine hK2 _ _ ?_
  refine XW.seq (x := cd Try.f13 [1,1,0]) (y := cd Try.f13 [1,1,1]) (by kernel_rfl) fun K3 hK3 => ?_
  obtain ⟨r1, c4, h⟩ := bnd_some h
  refine XW.reg (by kernel_rfl) ?_
  refine XO.go [5] 2 [6,7] [[pi p1.kind, pi p1.scale, .ro (eField.els p1.fields)]] [(6, .one (.pt 0 0 0 0)), (7, .ag [ci p1.kind, ci p1.scale, cl eField p1.fields])] [.box [ci (0 : Int)]] [([[pi p1.kind, pi p1.scale, .ro (eField.els p1.fields)]] : List (List PV))[0]? = some [pi p1.kind, pi p1.scale, .ro (eField.els p1.fields)]] (by kernel_rfl) (⟨rfl, trivial⟩) ?_
  refine XO.calm 35 [.one (.pt 0 0 0 0), .ag [ci p1.kind, ci p1.scale, cl eField p1.fields], vi (1 : Int)] [.box [ci (0 : Int)]] [.box [ci r1.2.leaves]] (vi r1.1) [0] [(8, vi r1.1), (6, .one (.pt 0 0 0 0)), (7, .ag [ci p1.kind, ci p1.scale, cl eField p1.fields])] [.box [ci r1.2.leaves]] (by kernel_rfl) (c_value_checker_check BIG _ _ _ _ c4) (by kernel_rfl) (by kernel_rfl) (by kernel_rfl) (by kernel_rfl) ?_
  refine XO.go [5] 1 [2] [] [(2, vi r1.1)] [.box [ci r1.2.leaves]] [] (by kernel_rfl) trivial ?_
  refine XO.done (by kernel_rfl) ?_
  refine hK3 _ _ ?_
  refine XW.ret (by kernel_rfl) ?_
  obtain rfl := Option.some.inj h
  exact FinP.fin (.inr rfl) [] [vi r1.1] [] (by kernel_rfl) trivial (.one (.rfl _ rfl))

def value_number_j1 (x1 : Bool) : Option Bool :=
    some x1

def value_number (p1 : GType) : Option Bool :=
    ift (p1.kind == (2 : Int))
      (value_number_j1 true)
      (value_number_j1 (p1.kind == (3 : Int)))


theorem c_value_number (p1 : GType) (r : Bool) (h : value_number p1 = some r) : PC Try.prog 70 [.ag [ci p1.kind, ci p1.scale, cl eField p1.fields]] (vb r) := by
  unfold value_number at h
  refine PC.of (n := 11) (fn := Try.f70) (c := cd Try.f70 []) (by kernel_rfl) (by kernel_rfl) (by kernel_rfl) (Nat.le_of_ble_eq_true rfl) ?_
  refine XW.seq (x := cd Try.f70 [0]) (y := cd Try.f70 [1]) (by kernel_rfl) fun K1 hK1 => ?_
  refine XW.reg (by kernel_rfl) ?_
  refine XO.go [] 2 [1] [] [(1, .one (.pv (.rp [[pi p1.kind, pi p1.scale, .ro (eField.els p1.fields)]] 0 0)))] [] [] (by kernel_rfl) trivial ?_
  refine XO.done (by kernel_rfl) ?_
  refine hK1 _ _ ?_
  refine XW.seq (x := cd Try.f70 [1,0]) (y := cd Try.f70 [1,1]) (by kernel_rfl) fun K2 hK2 => ?_
  have hJ1 : ∀ (x1 : Bool), value_number_j1 x1 = some r → ∀ fr1 st1, Sub 11 0 [] fr1 st1 [(2, vb x1)] [] → K2 fr1 st1 := by
    intro x1 h fr1 st1 hS
    unfold value_number_j1 at h
    refine hK2 _ _ (XW.sub hS ?_)
    refine XW.ret (by kernel_rfl) ?_
    obtain rfl := Option.some.inj h
    exact FinP.fin (.inr rfl) [] [vb x1] [] (by kernel_rfl) trivial (.one (.rfl _ rfl))
  rcases Bool.eq_false_or_eq_true (p1.kind == (2 : Int)) with b3 | b3
  · have h := ift_t b3 h
    refine XW.reg (by kernel_rfl) ?_
    refine XO.go [] 4 [1,6] [[pi p1.kind, pi p1.scale, .ro (eField.els p1.fields)]] [(1, .one (.pv (.rp [[pi p1.kind, pi p1.scale, .ro (eField.els p1.fields)]] 0 0))), (6, vb (p1.kind == (2 : Int)))] [] [([[pi p1.kind, pi p1.scale, .ro (eField.els p1.fields)]] : List (List PV))[0]? = some [pi p1.kind, pi p1.scale, .ro (eField.els p1.fields)]] (by kernel_rfl) (⟨rfl, trivial⟩) ?_
    refine XO.setb 6 true (B := (p1.kind == (2 : Int))) rfl b3 ?_
    refine XO.go [] 5 [2] [] [(2, vb true)] [] [] (by kernel_rfl) trivial ?_
    refine XO.done (by kernel_rfl) ?_
    exact hJ1 true h _ _ (Sub.pick [2] (by kernel_rfl))
  · have h := ift_f b3 h
    refine XW.reg (by kernel_rfl) ?_
    refine XO.go [] 4 [1,6] [[pi p1.kind, pi p1.scale, .ro (eField.els p1.fields)]] [(1, .one (.pv (.rp [[pi p1.kind, pi p1.scale, .ro (eField.els p1.fields)]] 0 0))), (6, vb (p1.kind == (2 : Int)))] [] [([[pi p1.kind, pi p1.scale, .ro (eField.els p1.fields)]] : List (List PV))[0]? = some [pi p1.kind, pi p1.scale, .ro (eField.els p1.fields)]] (by kernel_rfl) (⟨rfl, trivial⟩) ?_
    refine XO.setb 6 false (B := (p1.kind == (2 : Int))) rfl b3 ?_
    refine XO.go [] 5 [2] [[pi p1.kind, pi p1.scale, .ro (eField.els p1.fields)]] [(2, vb (p1.kind == (3 : Int)))] [] [([[pi p1.kind, pi p1.scale, .ro (eField.els p1.fields)]] : List (List PV))[0]? = some [pi p1.kind, pi p1.scale, .ro (eField.els p1.fields)]] (by kernel_rfl) (⟨rfl, trivial⟩) ?_
    refine XO.done (by kernel_rfl) ?_
    exact hJ1 (p1.kind == (3 : Int)) h _ _ (Sub.pick [2] (by kernel_rfl))

def slices_Clip_api_Field_api_Field (p1 : (List GField)) : Option (List GField) :=
    grd (0 ≤ (0 : Int) ∧ (0 : Int) ≤ (p1.length : Int) ∧ (p1.length : Int) ≤ (p1.length : Int) ∧ (p1.length : Int) ≤ (p1.length : Int)) <|
    some ((p1.drop (0 : Int).toNat).take ((p1.length : Int).toNat - (0 : Int).toNat))


theorem c_slices_Clip_api_Field_api_Field (p1 : (List GField)) (r : (List GField)) (h : slices_Clip_api_Field_api_Field p1 = some r) : PC Try.prog 71 [vl eField p1] (vl eField r) := by
  unfold slices_Clip_api_Field_api_Field at h
  refine PC.of (n := 9) (fn := Try.f71) (c := cd Try.f71 []) (by kernel_rfl) (by kernel_rfl) (by kernel_rfl) (Nat.le_of_ble_eq_true rfl) ?_
  refine XW.seq (x := cd Try.f71 [0]) (y := cd Try.f71 [1]) (by kernel_rfl) fun K1 hK1 => ?_
  refine XW.reg (by kernel_rfl) ?_
  refine XO.go [] 1 [0] [] [(0, vl eField p1)] [] [] (by kernel_rfl) trivial ?_
  refine XO.done (by kernel_rfl) ?_
  refine hK1 _ _ ?_
  refine XW.seq (x := cd Try.f71 [1,0]) (y := cd Try.f71 [1,1]) (by kernel_rfl) fun K2 hK2 => ?_
  obtain ⟨g3, h⟩ := grd_some h
  refine XW.reg (by kernel_rfl) ?_
  refine XO.go [] 3 [0,3,5] [] [(0, vl eField p1), (3, vl eField p1), (5, vi ((eField.els p1).length : Int))] [] [] (by kernel_rfl) trivial ?_
  rw [eField.len p1]
  refine XO.go [] 2 [3,5,7] [] [(3, vl eField p1), (5, vi (p1.length : Int)), (7, vi ((eField.els p1).length : Int))] [] [] (by kernel_rfl) trivial ?_
  rw [eField.len p1]
  refine XO.go [] 1 [8] [] [(8, .one (.pv (.ro (((eField.els p1).drop (0 : Int).toNat).take ((p1.length : Int).toNat - (0 : Int).toNat)))))] [] [(0 ≤ (0 : Int) ∧ (0 : Int) ≤ (p1.length : Int) ∧ (p1.length : Int) ≤ (p1.length : Int) ∧ (p1.length : Int) ≤ ((eField.els p1).length : Int)) ∧ elemsOk 6 (eField.els p1)] (by kernel_rfl) (⟨eField.cutMOk g3, trivial⟩) ?_
  rw [show ((eField.els p1).drop (0 : Int).toNat).take ((p1.length : Int).toNat - (0 : Int).toNat) = eField.els ((p1.drop (0 : Int).toNat).take ((p1.length : Int).toNat - (0 : Int).toNat)) from eField.cut _ _ _]
  refine XO.go [] 1 [2] [] [(2, vl eField ((p1.drop (0 : Int).toNat).take ((p1.length : Int).toNat - (0 : Int).toNat)))] [] [] (by kernel_rfl) trivial ?_
  refine XO.done (by kernel_rfl) ?_
  refine hK2 _ _ ?_
  refine XW.ret (by kernel_rfl) ?_
  obtain rfl := Option.some.inj h
  exact FinP.fin (.inr rfl) [] [vl eField ((p1.drop (0 : Int).toNat).take ((p1.length : Int).toNat - (0 : Int).toNat))] [] (by kernel_rfl) trivial (.one (.rfl _ rfl))

def value_common_j3 (rec1 : List GField → Int → Option (GType × Bool)) (x3 : Int) (l2 : List GField) : Option (GType × Bool) :=
    rec1 l2 (IntKind.i64.wrap (x3 + (1 : Int)))

def value_common_j4 (p1 : GType) (l3 : List GField) : Option (GType × Bool) :=
    bnd (slices_Clip_api_Field_api_Field l3) fun r4 =>
    some ((GType.mk p1.kind (0 : Int) r4), true)

def value_common_l1 (q_value_common : GType → GType → Option (GType × Bool)) (p1 : GType) (p2 : GType) : Nat → List GField → Int → Option (GType × Bool)
  | 0, _, _ => none
  | k1 + 1, l1, x3 =>
    ift (decide (x3 < (p1.fields.length : Int)))
      (bnd (at? p1.fields x3) fun e1 =>
       bnd (at? p2.fields x3) fun e2 =>
       bnd (q_value_common e1.type e2.type) fun r3 =>
       ift (!r3.2)
         (some ((GType.mk (0 : Int) (0 : Int) []), false))
         (ift e1.need
            (grd (l1.length + 1 ≤ 4294967296) <|
             value_common_j3 (value_common_l1 q_value_common p1 p2 k1) x3 (l1 ++ [(FieldP.mk (0 : Int) e1.name e2.need r3.1)]))
            (grd (l1.length + 1 ≤ 4294967296) <|
             value_common_j3 (value_common_l1 q_value_common p1 p2 k1) x3 (l1 ++ [(FieldP.mk (0 : Int) e1.name false r3.1)]))))
      (value_common_j4 p1 l1)

def value_common_j2 (q_value_common : GType → GType → Option (GType × Bool)) (p1 : GType) (p2 : GType) (x2 : Bool) : Option (GType × Bool) :=
    ift x2
      (some ((GType.mk (0 : Int) (0 : Int) []), false))
      (value_common_l1 q_value_common p1 p2 BIG [] (0 : Int))

def value_common_j1 (q_value_common : GType → GType → Option (GType × Bool)) (p1 : GType) (p2 : GType) (x1 : Bool) : Option (GType × Bool) :=
    ift x1
      (some ((GType.mk (if p2.kind > p1.kind then p2.kind else p1.kind) (if p2.scale > p1.scale then p2.scale else p1.scale) []), true))
      (ift (p1.kind != p2.kind)
         (value_common_j2 q_value_common p1 p2 true)
         (value_common_j2 q_value_common p1 p2 ((p1.fields.length : Int) != (p2.fields.length : Int))))

def value_common : Nat → GType → GType → Option (GType × Bool)
  | 0, _, _ => none
  | k0 + 1, p1, p2 =>
    bnd (value_number p1) fun r1 =>
    ift r1
      (bnd (value_number p2) fun r2 =>
       value_common_j1 (value_common k0) p1 p2 r2)
      (value_common_j1 (value_common k0) p1 p2 false)


theorem c_value_common : ∀ (k0 : Nat) (p1 : GType) (p2 : GType) (r : (GType × Bool)), value_common k0 p1 p2 = some r → PC Try.prog 31 [.ag [ci p1.kind, ci p1.scale, cl eField p1.fields], .ag [ci p2.kind, ci p2.scale, cl eField p2.fields]] (.tp [.ag [ci r.1.kind, ci r.1.scale, cl eField r.1.fields], vb r.2])
  | 0, _, _, r, h => by rw [value_common.eq_1] at h; cases h
  | k0 + 1, p1, p2, r, h => by
    rw [value_common.eq_2] at h
    refine PC.of (n := 94) (fn := Try.f31) (c := cd Try.f31 []) (by kernel_rfl) (by kernel_rfl) (by kernel_rfl) (Nat.le_of_ble_eq_true rfl) ?_
    refine XW.seq (x := cd Try.f31 [0]) (y := cd Try.f31 [1]) (by kernel_rfl) fun K1 hK1 => ?_
    refine XW.reg (by kernel_rfl) ?_
    refine XO.go [4, 6, 8, 9, 10] 4 [2,3,4] [] [(2, .one (.pv (.rp [[pi p1.kind, pi p1.scale, .ro (eField.els p1.fields)]] 0 0))), (3, .one (.pv (.rp [[pi p2.kind, pi p2.scale, .ro (eField.els p2.fields)]] 0 0))), (4, .one (.pt 0 0 0 0))] [.box [ci (0 : Int), ci (0 : Int), .pv (.s (.slice none 0 0))]] [] (by kernel_rfl) trivial ?_
    refine XO.done (by kernel_rfl) ?_
    refine hK1 _ _ ?_
    refine XW.seq (x := cd Try.f31 [1,0]) (y := cd Try.f31 [1,1]) (by kernel_rfl) fun K2 hK2 => ?_
    refine XW.block (id := 0) (x := cd Try.f31 [1,0,0]) (by kernel_rfl) ?_
    refine XW.seq (x := cd Try.f31 [1,0,0,0]) (y := cd Try.f31 [1,0,0,1]) (by kernel_rfl) fun K3 hK3 => ?_
    have hJ1 : ∀ (x1 : Bool), value_common_j1 (value_common k0) p1 p2 x1 = some r → ∀ fr1 st1, Sub 94 0 [] fr1 st1 [(2, .one (.pv (.rp [[pi p1.kind, pi p1.scale, .ro (eField.els p1.fields)]] 0 0))), (3, .one (.pv (.rp [[pi p2.kind, pi p2.scale, .ro (eField.els p2.fields)]] 0 0))), (4, .one (.pt 0 0 0 0)), (12, vb x1)] [.box [ci (0 : Int), ci (0 : Int), .pv (.s (.slice none 0 0))]] → K3 fr1 st1 := by
      intro x1 h fr1 st1 hS
      unfold value_common_j1 at h
      refine hK3 _ _ (XW.sub hS ?_)
      refine XW.cond (x := .tmp 12) (a := cd Try.f31 [1,0,0,1,0]) (b := cd Try.f31 [1,0,0,1,1]) (t := x1) (by kernel_rfl) (by kernel_rfl) (fun b7 => ?_) (fun b7 => ?_)
      · have h := ift_t b7 h
        refine XW.seq (x := cd Try.f31 [1,0,0,1,0,0]) (y := cd Try.f31 [1,0,0,1,0,1]) (by kernel_rfl) fun K8 hK8 => ?_
        refine XW.reg (by kernel_rfl) ?_
        refine XO.go [4, 6, 8, 9, 10] 13 [4,5] [[pi p1.kind, pi p1.scale, .ro (eField.els p1.fields)], [pi p2.kind, pi p2.scale, .ro (eField.els p2.fields)], [pi p1.kind, pi p1.scale, .ro (eField.els p1.fields)], [pi p2.kind, pi p2.scale, .ro (eField.els p2.fields)]] [(4, .one (.pt 0 0 0 0)), (5, vb true)] [.box [ci (if p2.kind > p1.kind then p2.kind else p1.kind), ci (if p2.scale > p1.scale then p2.scale else p1.scale), .pv (.s (.slice none 0 0))]] [([[pi p1.kind, pi p1.scale, .ro (eField.els p1.fields)]] : List (List PV))[0]? = some [pi p1.kind, pi p1.scale, .ro (eField.els p1.fields)], ([[pi p2.kind, pi p2.scale, .ro (eField.els p2.fields)]] : List (List PV))[0]? = some [pi p2.kind, pi p2.scale, .ro (eField.els p2.fields)], ([[pi p1.kind, pi p1.scale, .ro (eField.els p1.fields)]] : List (List PV))[0]? = some [pi p1.kind, pi p1.scale, .ro (eField.els p1.fields)], ([[pi p2.kind, pi p2.scale, .ro (eField.els p2.fields)]] : List (List PV))[0]? = some [pi p2.kind, pi p2.scale, .ro (eField.els p2.fields)]] (by kernel_rfl) (⟨rfl, rfl, rfl, rfl, trivial⟩) ?_
        refine XO.done (by kernel_rfl) ?_
        refine hK8 _ _ ?_
        refine XW.ret (by kernel_rfl) ?_
        obtain rfl := Option.some.inj h
        exact FinP.fin (.inr rfl) [] [.ag [ci (if p2.kind > p1.kind then p2.kind else p1.kind), ci (if p2.scale > p1.scale then p2.scale else p1.scale), .pv (.s (.slice none 0 0))], vb true] [] (by kernel_rfl) trivial (.tpc (.ag (.cons (.rfl _ rfl) (.cons (.rfl _ rfl) (.cons (.nl) .nil)))) (.tpc (.one (.rfl _ rfl)) (.tp0)))
      · have h := ift_f b7 h
        refine XW.seq (x := cd Try.f31 [1,0,0,1,1,0]) (y := cd Try.f31 [1,0,0,1,1,1]) (by kernel_rfl) fun K9 hK9 => ?_
        have hJ2 : ∀ (x2 : Bool), value_common_j2 (value_common k0) p1 p2 x2 = some r → ∀ fr1 st1, Sub 94 0 [] fr1 st1 [(2, .one (.pv (.rp [[pi p1.kind, pi p1.scale, .ro (eField.els p1.fields)]] 0 0))), (3, .one (.pv (.rp [[pi p2.kind, pi p2.scale, .ro (eField.els p2.fields)]] 0 0))), (4, .one (.pt 0 0 0 0)), (30, vb x2)] [.box [ci (0 : Int), ci (0 : Int), .pv (.s (.slice none 0 0))]] → K9 fr1 st1 := by
          intro x2 h fr1 st1 hS
          unfold value_common_j2 at h
          refine hK9 _ _ (XW.sub hS ?_)
          refine XW.cond (x := .tmp 30) (a := cd Try.f31 [1,0,0,1,1,1,0]) (b := cd Try.f31 [1,0,0,1,1,1,1]) (t := x2) (by kernel_rfl) (by kernel_rfl) (fun b11 => ?_) (fun b11 => ?_)
          · have h := ift_t b11 h
            refine XW.seq (x := cd Try.f31 [1,0,0,1,1,1,0,0]) (y := cd Try.f31 [1,0,0,1,1,1,0,1]) (by kernel_rfl) fun K12 hK12 => ?_
            refine XW.reg (by kernel_rfl) ?_
            refine XO.go [4, 6, 8, 9, 10] 3 [4,5] [] [(4, .one (.pt 0 0 0 0)), (5, vb false)] [.box [ci (0 : Int), ci (0 : Int), .pv (.s (.slice none 0 0))]] [] (by kernel_rfl) trivial ?_
            refine XO.done (by kernel_rfl) ?_
            refine hK12 _ _ ?_
            refine XW.ret (by kernel_rfl) ?_
            obtain rfl := Option.some.inj h
            exact FinP.fin (.inr rfl) [] [.ag [ci (0 : Int), ci (0 : Int), .pv (.s (.slice none 0 0))], vb false] [] (by kernel_rfl) trivial (.tpc (.ag (.cons (.rfl _ rfl) (.cons (.rfl _ rfl) (.cons (.nl) .nil)))) (.tpc (.one (.rfl _ rfl)) (.tp0)))
          · have h := ift_f b11 h
            refine XW.skip (by kernel_rfl) ?_
            refine hK2 _ _ ?_
            refine XW.seq (x := cd Try.f31 [1,1,0]) (y := cd Try.f31 [1,1,1]) (by kernel_rfl) fun K13 hK13 => ?_
            refine XW.reg (by kernel_rfl) ?_
            refine XO.go [4, 6, 8, 9, 10] 5 [2,3,4,6] [[pi p1.kind, pi p1.scale, .ro (eField.els p1.fields)]] [(2, .one (.pv (.rp [[pi p1.kind, pi p1.scale, .ro (eField.els p1.fields)]] 0 0))), (3, .one (.pv (.rp [[pi p2.kind, pi p2.scale, .ro (eField.els p2.fields)]] 0 0))), (4, .one (.pt 0 0 0 0)), (6, .one (.pt 1 0 0 0))] [.box [ci (0 : Int), ci (0 : Int), .pv (.s (.slice none 0 0))], .box [ci p1.kind, ci (0 : Int), .pv (.s (.slice none 0 0))]] [([[pi p1.kind, pi p1.scale, .ro (eField.els p1.fields)]] : List (List PV))[0]? = some [pi p1.kind, pi p1.scale, .ro (eField.els p1.fields)]] (by kernel_rfl) (⟨rfl, trivial⟩) ?_
            refine XO.done (by kernel_rfl) ?_
            refine hK13 _ _ ?_
            refine XW.seq (x := cd Try.f31 [1,1,1,0]) (y := cd Try.f31 [1,1,1,1]) (by kernel_rfl) fun K14 hK14 => ?_
            have hJ4 : ∀ (l3 : List GField), value_common_j4 p1 l3 = some r → ∀ fr1 st1, Sub 94 0 [] fr1 st1 [(4, .one (.pt 0 0 0 0)), (6, .one (.pt 1 0 0 0))] [.box [ci (0 : Int), ci (0 : Int), .pv (.s (.slice none 0 0))], .box [ci p1.kind, ci (0 : Int), .sl 2 6 0 l3.length], .arr 6 (eField.els l3)] → K14 fr1 st1 := by
              intro l3 h fr1 st1 hS
              unfold value_common_j4 at h
              refine hK14 _ _ (XW.sub hS ?_)
              refine XW.seq (x := cd Try.f31 [1,1,1,1,0]) (y := cd Try.f31 [1,1,1,1,1]) (by kernel_rfl) fun K33 hK33 => ?_
              obtain ⟨r4, c34, h⟩ := bnd_some h
              refine XW.reg (by kernel_rfl) ?_
              refine XO.go [4, 6, 8, 9, 10] 2 [4,6,90] [] [(4, .one (.pt 0 0 0 0)), (6, .one (.pt 1 0 0 0)), (90, .one (.sl 2 6 0 l3.length))] [.box [ci (0 : Int), ci (0 : Int), .pv (.s (.slice none 0 0))], .box [ci p1.kind, ci (0 : Int), .sl 2 6 0 l3.length], .arr 6 (eField.els l3)] [] (by kernel_rfl) trivial ?_
              refine XO.sub (Sub.trans (Sub.stale 1 2 2 6 0 l3.length [ci p1.kind, ci (0 : Int), .sl 2 6 0 l3.length] rfl rfl [.box [ci (0 : Int), ci (0 : Int), .pv (.s (.slice none 0 0))], .box [ci p1.kind, ci (0 : Int), .sl 3 6 0 l3.length], .arr 6 (eField.els l3), .dead] rfl) (Sub.kill (fr' := [(4, .one (.pt 0 0 0 0)), (6, .one (.pt 1 0 0 0)), (90, vl eField l3)]) 2 (Nat.zero_le _) (by kernel_rfl) ⟨.one (.rfl _ rfl), .one (.rfl _ rfl), .one (cf_sl eField l3 rfl rfl rfl), trivial⟩)) ?_
              refine XO.cal 71 [vl eField l3] (vl eField r4) [(91, vl eField r4), (4, .one (.pt 0 0 0 0)), (6, .one (.pt 1 0 0 0)), (90, vl eField l3)] (by kernel_rfl) (c_slices_Clip_api_Field_api_Field _ _ c34) rfl rfl (by kernel_rfl) ?_
              refine XO.go [4, 6, 8, 9, 10] 2 [4,6] [] [(4, .one (.pt 0 0 0 0)), (6, .one (.pt 1 0 0 0))] [.box [ci (0 : Int), ci (0 : Int), .pv (.s (.slice none 0 0))], .box [ci p1.kind, ci (0 : Int), cl eField r4], .dead, .dead] [] (by kernel_rfl) trivial ?_
              refine XO.done (by kernel_rfl) ?_
              refine hK33 _ _ ?_
              refine XW.seq (x := cd Try.f31 [1,1,1,1,1,0]) (y := cd Try.f31 [1,1,1,1,1,1]) (by kernel_rfl) fun K35 hK35 => ?_
              refine XW.reg (by kernel_rfl) ?_
              refine XO.go [4, 6, 8, 9, 10] 3 [4,5] [] [(4, .one (.pt 0 0 0 0)), (5, vb true)] [.box [ci p1.kind, ci (0 : Int), cl eField r4], .box [ci p1.kind, ci (0 : Int), cl eField r4], .dead, .dead] [] (by kernel_rfl) trivial ?_
              refine XO.done (by kernel_rfl) ?_
              refine hK35 _ _ ?_
              refine XW.ret (by kernel_rfl) ?_
              obtain rfl := Option.some.inj h
              exact FinP.fin (.inr rfl) [] [.ag [ci p1.kind, ci (0 : Int), cl eField r4], vb true] [] (by kernel_rfl) trivial (.tpc (.ag (.cons (.rfl _ rfl) (.cons (.rfl _ rfl) (.cons (.rfl _ rfl) .nil)))) (.tpc (.one (.rfl _ rfl)) (.tp0)))
            refine XW.seq (x := cd Try.f31 [1,1,1,0,0]) (y := cd Try.f31 [1,1,1,0,1]) (by kernel_rfl) fun K15 hK15 => ?_
            refine XW.reg (by kernel_rfl) ?_
            refine XO.go [4, 6, 8, 9, 10] 3 [3,4,6,50,51] [[pi p1.kind, pi p1.scale, .ro (eField.els p1.fields)]] [(3, .one (.pv (.rp [[pi p2.kind, pi p2.scale, .ro (eField.els p2.fields)]] 0 0))), (4, .one (.pt 0 0 0 0)), (6, .one (.pt 1 0 0 0)), (50, vl eField p1.fields), (51, vi ((eField.els p1.fields).length : Int))] [.box [ci (0 : Int), ci (0 : Int), .pv (.s (.slice none 0 0))], .box [ci p1.kind, ci (0 : Int), .pv (.s (.slice none 0 0))]] [([[pi p1.kind, pi p1.scale, .ro (eField.els p1.fields)]] : List (List PV))[0]? = some [pi p1.kind, pi p1.scale, .ro (eField.els p1.fields)]] (by kernel_rfl) (⟨rfl, trivial⟩) ?_
            rw [eField.len p1.fields]
            refine XO.go [4, 6, 8, 9, 10] 1 [3,4,6,50,51,52] [] [(3, .one (.pv (.rp [[pi p2.kind, pi p2.scale, .ro (eField.els p2.fields)]] 0 0))), (4, .one (.pt 0 0 0 0)), (6, .one (.pt 1 0 0 0)), (50, vl eField p1.fields), (51, vi (p1.fields.length : Int)), (52, vi (0 : Int))] [.box [ci (0 : Int), ci (0 : Int), .pv (.s (.slice none 0 0))], .box [ci p1.kind, ci (0 : Int), .pv (.s (.slice none 0 0))]] [] (by kernel_rfl) trivial ?_
            refine XO.done (by kernel_rfl) ?_
            refine hK15 _ _ ?_
            refine XW.block (id := 1) (x := cd Try.f31 [1,1,1,0,1,0]) (by kernel_rfl) ?_
            refine XW.sub (Sub.listb 1 2 6 [ci p1.kind, ci (0 : Int), .pv (.s (.slice none 0 0))] rfl rfl [.box [ci (0 : Int), ci (0 : Int), .pv (.s (.slice none 0 0))], .box [ci p1.kind, ci (0 : Int), .sl 2 6 0 0], .arr 6 (eField.els [])] rfl) ?_
            refine XW.rounds' BIG (x := cd Try.f31 [1,1,1,0,1,0,0]) (by kernel_rfl) fun Q1 hQ1 => ?_
            have hL1 : ∀ (k1 : Nat) (l1 : List GField) (x3 : Int), value_common_l1 (value_common k0) p1 p2 k1 l1 x3 = some r → XR Try.prog 94 0 [] (cd Try.f31 [1,1,1,0,1,0,0]) Q1 k1 [(3, .one (.pv (.rp [[pi p2.kind, pi p2.scale, .ro (eField.els p2.fields)]] 0 0))), (4, .one (.pt 0 0 0 0)), (6, .one (.pt 1 0 0 0)), (50, vl eField p1.fields), (51, vi (p1.fields.length : Int)), (52, vi x3)] [.box [ci (0 : Int), ci (0 : Int), .pv (.s (.slice none 0 0))], .box [ci p1.kind, ci (0 : Int), .sl 2 6 0 l1.length], .arr 6 (eField.els l1)] := by
              intro k1
              induction k1 with
              | zero => intro l1 x3 h; rw [value_common_l1.eq_1] at h; cases h
              | succ k1 ih1 =>
                intro l1 x3 h
                rw [value_common_l1.eq_2] at h
                refine XW.seq (x := cd Try.f31 [1,1,1,0,1,0,0,0]) (y := cd Try.f31 [1,1,1,0,1,0,0,1]) (by kernel_rfl) fun K16 hK16 => ?_
                refine XW.reg (by kernel_rfl) ?_
                refine XO.go [4, 6, 8, 9, 10] 1 [3,4,6,50,51,52,53] [] [(3, .one (.pv (.rp [[pi p2.kind, pi p2.scale, .ro (eField.els p2.fields)]] 0 0))), (4, .one (.pt 0 0 0 0)), (6, .one (.pt 1 0 0 0)), (50, vl eField p1.fields), (51, vi (p1.fields.length : Int)), (52, vi x3), (53, vb (decide (x3 < (p1.fields.length : Int))))] [.box [ci (0 : Int), ci (0 : Int), .pv (.s (.slice none 0 0))], .box [ci p1.kind, ci (0 : Int), .sl 2 6 0 l1.length], .arr 6 (eField.els l1)] [] (by kernel_rfl) trivial ?_
                refine XO.done (by kernel_rfl) ?_
                refine hK16 _ _ ?_
                refine XW.seq (x := cd Try.f31 [1,1,1,0,1,0,0,1,0]) (y := cd Try.f31 [1,1,1,0,1,0,0,1,1]) (by kernel_rfl) fun K17 hK17 => ?_
                refine XW.cond (x := .tmp 53) (a := cd Try.f31 [1,1,1,0,1,0,0,1,0,0]) (b := cd Try.f31 [1,1,1,0,1,0,0,1,0,1]) (t := (decide (x3 < (p1.fields.length : Int)))) (by kernel_rfl) (by kernel_rfl) (fun b18 => ?_) (fun b18 => ?_)
                · have h := ift_t b18 h
                  refine XW.skip (by kernel_rfl) ?_
                  refine hK17 _ _ ?_
                  refine XW.seq (x := cd Try.f31 [1,1,1,0,1,0,0,1,1,0]) (y := cd Try.f31 [1,1,1,0,1,0,0,1,1,1]) (by kernel_rfl) fun K19 hK19 => ?_
                  have hJ3 : ∀ (l2 : List GField), value_common_j3 (value_common_l1 (value_common k0) p1 p2 k1) x3 l2 = some r → ∀ fr1 st1, Sub 94 0 [] fr1 st1 [(3, .one (.pv (.rp [[pi p2.kind, pi p2.scale, .ro (eField.els p2.fields)]] 0 0))), (4, .one (.pt 0 0 0 0)), (6, .one (.pt 1 0 0 0)), (50, vl eField p1.fields), (51, vi (p1.fields.length : Int)), (52, vi x3)] [.box [ci (0 : Int), ci (0 : Int), .pv (.s (.slice none 0 0))], .box [ci p1.kind, ci (0 : Int), .sl 2 6 0 l2.length], .arr 6 (eField.els l2)] → K19 fr1 st1 := by
                    intro l2 h fr1 st1 hS
                    unfold value_common_j3 at h
                    refine hK19 _ _ (XW.sub hS ?_)
                    refine XW.reg (by kernel_rfl) ?_
                    refine XO.go [4, 6, 8, 9, 10] 2 [3,4,6,50,51,52] [] [(3, .one (.pv (.rp [[pi p2.kind, pi p2.scale, .ro (eField.els p2.fields)]] 0 0))), (4, .one (.pt 0 0 0 0)), (6, .one (.pt 1 0 0 0)), (50, vl eField p1.fields), (51, vi (p1.fields.length : Int)), (52, vi (IntKind.i64.wrap (x3 + (1 : Int))))] [.box [ci (0 : Int), ci (0 : Int), .pv (.s (.slice none 0 0))], .box [ci p1.kind, ci (0 : Int), .sl 2 6 0 l2.length], .arr 6 (eField.els l2)] [] (by kernel_rfl) trivial ?_
                    refine XO.done (by kernel_rfl) ?_
                    exact XR.sub (Sub.pick [3,4,6,50,51,52] (by kernel_rfl)) (ih1 l2 (IntKind.i64.wrap (x3 + (1 : Int))) h)
                  refine XW.block (id := 2) (x := cd Try.f31 [1,1,1,0,1,0,0,1,1,0,0]) (by kernel_rfl) ?_
                  refine XW.seq (x := cd Try.f31 [1,1,1,0,1,0,0,1,1,0,0,0]) (y := cd Try.f31 [1,1,1,0,1,0,0,1,1,0,0,1]) (by kernel_rfl) fun K20 hK20 => ?_
                  obtain ⟨e1, a21, h⟩ := bnd_some h
                  refine XW.reg (by kernel_rfl) ?_
                  refine XO.go [4, 6, 8, 9, 10] 6 [3,4,6,7,8,50,51,52] [[pi e1.id, .s (.string e1.name), .s (.bool e1.need), pi e1.type.kind, pi e1.type.scale, .ro (eField.els e1.type.fields)]] [(3, .one (.pv (.rp [[pi p2.kind, pi p2.scale, .ro (eField.els p2.fields)]] 0 0))), (4, .one (.pt 0 0 0 0)), (6, .one (.pt 1 0 0 0)), (7, vi x3), (8, .one (.pt 3 0 0 0)), (50, vl eField p1.fields), (51, vi (p1.fields.length : Int)), (52, vi x3)] [.box [ci (0 : Int), ci (0 : Int), .pv (.s (.slice none 0 0))], .box [ci p1.kind, ci (0 : Int), .sl 2 6 0 l1.length], .arr 6 (eField.els l1), .box [ci e1.id, cst e1.name, cb e1.need, ci e1.type.kind, ci e1.type.scale, cl eField e1.type.fields]] [0 ≤ x3 ∧ x3 < ((eField.els p1.fields).length : Int) ∧ elemsOk 6 (eField.els p1.fields), (eField.els p1.fields)[x3.toNat]? = some [pi e1.id, .s (.string e1.name), .s (.bool e1.need), pi e1.type.kind, pi e1.type.scale, .ro (eField.els e1.type.fields)]] (by kernel_rfl) (⟨eField.inb a21, ((eField.get a21).trans (by rcases e1 with ⟨_, _, _, ⟨_, _, _⟩⟩; rfl)), trivial⟩) ?_
                  refine XO.done (by kernel_rfl) ?_
                  refine hK20 _ _ ?_
                  refine XW.seq (x := cd Try.f31 [1,1,1,0,1,0,0,1,1,0,0,1,0]) (y := cd Try.f31 [1,1,1,0,1,0,0,1,1,0,0,1,1]) (by kernel_rfl) fun K22 hK22 => ?_
                  obtain ⟨e2, a23, h⟩ := bnd_some h
                  refine XW.reg (by kernel_rfl) ?_
                  refine XO.go [4, 6, 8, 9, 10] 7 [3,4,6,8,9,50,51,52] [[pi p2.kind, pi p2.scale, .ro (eField.els p2.fields)], [pi e2.id, .s (.string e2.name), .s (.bool e2.need), pi e2.type.kind, pi e2.type.scale, .ro (eField.els e2.type.fields)]] [(3, .one (.pv (.rp [[pi p2.kind, pi p2.scale, .ro (eField.els p2.fields)]] 0 0))), (4, .one (.pt 0 0 0 0)), (6, .one (.pt 1 0 0 0)), (8, .one (.pt 3 0 0 0)), (9, .one (.pt 4 0 0 0)), (50, vl eField p1.fields), (51, vi (p1.fields.length : Int)), (52, vi x3)] [.box [ci (0 : Int), ci (0 : Int), .pv (.s (.slice none 0 0))], .box [ci p1.kind, ci (0 : Int), .sl 2 6 0 l1.length], .arr 6 (eField.els l1), .box [ci e1.id, cst e1.name, cb e1.need, ci e1.type.kind, ci e1.type.scale, cl eField e1.type.fields], .box [ci e2.id, cst e2.name, cb e2.need, ci e2.type.kind, ci e2.type.scale, cl eField e2.type.fields]] [([[pi p2.kind, pi p2.scale, .ro (eField.els p2.fields)]] : List (List PV))[0]? = some [pi p2.kind, pi p2.scale, .ro (eField.els p2.fields)], 0 ≤ x3 ∧ x3 < ((eField.els p2.fields).length : Int) ∧ elemsOk 6 (eField.els p2.fields), (eField.els p2.fields)[x3.toNat]? = some [pi e2.id, .s (.string e2.name), .s (.bool e2.need), pi e2.type.kind, pi e2.type.scale, .ro (eField.els e2.type.fields)]] (by kernel_rfl) (⟨rfl, eField.inb a23, ((eField.get a23).trans (by rcases e2 with ⟨_, _, _, ⟨_, _, _⟩⟩; rfl)), trivial⟩) ?_
                  refine XO.done (by kernel_rfl) ?_
                  refine hK22 _ _ ?_
                  refine XW.seq (x := cd Try.f31 [1,1,1,0,1,0,0,1,1,0,0,1,1,0]) (y := cd Try.f31 [1,1,1,0,1,0,0,1,1,0,0,1,1,1]) (by kernel_rfl) fun K24 hK24 => ?_
                  obtain ⟨r3, c25, h⟩ := bnd_some h
                  refine XW.reg (by kernel_rfl) ?_
                  refine XO.go [4, 6, 8, 9, 10] 4 [3,4,6,8,9,50,51,52,64,66] [] [(3, .one (.pv (.rp [[pi p2.kind, pi p2.scale, .ro (eField.els p2.fields)]] 0 0))), (4, .one (.pt 0 0 0 0)), (6, .one (.pt 1 0 0 0)), (8, .one (.pt 3 0 0 0)), (9, .one (.pt 4 0 0 0)), (50, vl eField p1.fields), (51, vi (p1.fields.length : Int)), (52, vi x3), (64, .ag [ci e1.type.kind, ci e1.type.scale, cl eField e1.type.fields]), (66, .ag [ci e2.type.kind, ci e2.type.scale, cl eField e2.type.fields])] [.box [ci (0 : Int), ci (0 : Int), .pv (.s (.slice none 0 0))], .box [ci p1.kind, ci (0 : Int), .sl 2 6 0 l1.length], .arr 6 (eField.els l1), .box [ci e1.id, cst e1.name, cb e1.need, ci e1.type.kind, ci e1.type.scale, cl eField e1.type.fields], .box [ci e2.id, cst e2.name, cb e2.need, ci e2.type.kind, ci e2.type.scale, cl eField e2.type.fields]] [] (by kernel_rfl) trivial ?_
                  refine XO.cal 31 [.ag [ci e1.type.kind, ci e1.type.scale, cl eField e1.type.fields], .ag [ci e2.type.kind, ci e2.type.scale, cl eField e2.type.fields]] (.tp [.ag [ci r3.1.kind, ci r3.1.scale, cl eField r3.1.fields], vb r3.2]) [(67, .tp [.ag [ci r3.1.kind, ci r3.1.scale, cl eField r3.1.fields], vb r3.2]), (3, .one (.pv (.rp [[pi p2.kind, pi p2.scale, .ro (eField.els p2.fields)]] 0 0))), (4, .one (.pt 0 0 0 0)), (6, .one (.pt 1 0 0 0)), (8, .one (.pt 3 0 0 0)), (9, .one (.pt 4 0 0 0)), (50, vl eField p1.fields), (51, vi (p1.fields.length : Int)), (52, vi x3), (64, .ag [ci e1.type.kind, ci e1.type.scale, cl eField e1.type.fields]), (66, .ag [ci e2.type.kind, ci e2.type.scale, cl eField e2.type.fields])] (by kernel_rfl) (c_value_common k0 _ _ _ c25) rfl rfl (by kernel_rfl) ?_
                  refine XO.go [4, 6, 8, 9, 10] 6 [3,4,6,8,9,10,11,50,51,52] [] [(3, .one (.pv (.rp [[pi p2.kind, pi p2.scale, .ro (eField.els p2.fields)]] 0 0))), (4, .one (.pt 0 0 0 0)), (6, .one (.pt 1 0 0 0)), (8, .one (.pt 3 0 0 0)), (9, .one (.pt 4 0 0 0)), (10, .one (.pt 5 0 0 0)), (11, vb r3.2), (50, vl eField p1.fields), (51, vi (p1.fields.length : Int)), (52, vi x3)] [.box [ci (0 : Int), ci (0 : Int), .pv (.s (.slice none 0 0))], .box [ci p1.kind, ci (0 : Int), .sl 2 6 0 l1.length], .arr 6 (eField.els l1), .box [ci e1.id, cst e1.name, cb e1.need, ci e1.type.kind, ci e1.type.scale, cl eField e1.type.fields], .box [ci e2.id, cst e2.name, cb e2.need, ci e2.type.kind, ci e2.type.scale, cl eField e2.type.fields], .box [ci r3.1.kind, ci r3.1.scale, cl eField r3.1.fields]] [] (by kernel_rfl) trivial ?_
                  refine XO.done (by kernel_rfl) ?_
                  refine hK24 _ _ ?_
                  refine XW.seq (x := cd Try.f31 [1,1,1,0,1,0,0,1,1,0,0,1,1,1,0]) (y := cd Try.f31 [1,1,1,0,1,0,0,1,1,0,0,1,1,1,1]) (by kernel_rfl) fun K26 hK26 => ?_
                  refine XW.seq (x := cd Try.f31 [1,1,1,0,1,0,0,1,1,0,0,1,1,1,0,0]) (y := cd Try.f31 [1,1,1,0,1,0,0,1,1,0,0,1,1,1,0,1]) (by kernel_rfl) fun K27 hK27 => ?_
                  refine XW.reg (by kernel_rfl) ?_
                  refine XO.go [4, 6, 8, 9, 10] 2 [3,4,6,8,9,10,50,51,52,71] [] [(3, .one (.pv (.rp [[pi p2.kind, pi p2.scale, .ro (eField.els p2.fields)]] 0 0))), (4, .one (.pt 0 0 0 0)), (6, .one (.pt 1 0 0 0)), (8, .one (.pt 3 0 0 0)), (9, .one (.pt 4 0 0 0)), (10, .one (.pt 5 0 0 0)), (50, vl eField p1.fields), (51, vi (p1.fields.length : Int)), (52, vi x3), (71, vb (!r3.2))] [.box [ci (0 : Int), ci (0 : Int), .pv (.s (.slice none 0 0))], .box [ci p1.kind, ci (0 : Int), .sl 2 6 0 l1.length], .arr 6 (eField.els l1), .box [ci e1.id, cst e1.name, cb e1.need, ci e1.type.kind, ci e1.type.scale, cl eField e1.type.fields], .box [ci e2.id, cst e2.name, cb e2.need, ci e2.type.kind, ci e2.type.scale, cl eField e2.type.fields], .box [ci r3.1.kind, ci r3.1.scale, cl eField r3.1.fields]] [] (by kernel_rfl) trivial ?_
                  refine XO.done (by kernel_rfl) ?_
                  refine hK27 _ _ ?_
                  refine XW.cond (x := .tmp 71) (a := cd Try.f31 [1,1,1,0,1,0,0,1,1,0,0,1,1,1,0,1,0]) (b := cd Try.f31 [1,1,1,0,1,0,0,1,1,0,0,1,1,1,0,1,1]) (t := (!r3.2)) (by kernel_rfl) (by kernel_rfl) (fun b28 => ?_) (fun b28 => ?_)
                  · have h := ift_t b28 h
                    refine XW.seq (x := cd Try.f31 [1,1,1,0,1,0,0,1,1,0,0,1,1,1,0,1,0,0]) (y := cd Try.f31 [1,1,1,0,1,0,0,1,1,0,0,1,1,1,0,1,0,1]) (by kernel_rfl) fun K29 hK29 => ?_
                    refine XW.reg (by kernel_rfl) ?_
                    refine XO.go [4, 6, 8, 9, 10] 3 [4,5] [] [(4, .one (.pt 0 0 0 0)), (5, vb false)] [.box [ci (0 : Int), ci (0 : Int), .pv (.s (.slice none 0 0))], .box [ci p1.kind, ci (0 : Int), .sl 2 6 0 l1.length], .arr 6 (eField.els l1), .box [ci e1.id, cst e1.name, cb e1.need, ci e1.type.kind, ci e1.type.scale, cl eField e1.type.fields], .box [ci e2.id, cst e2.name, cb e2.need, ci e2.type.kind, ci e2.type.scale, cl eField e2.type.fields], .box [ci r3.1.kind, ci r3.1.scale, cl eField r3.1.fields]] [] (by kernel_rfl) trivial ?_
                    refine XO.done (by kernel_rfl) ?_
                    refine hK29 _ _ ?_
                    refine XW.ret (by kernel_rfl) ?_
                    refine hQ1 _ _ _ ?_
                    obtain rfl := Option.some.inj h
                    exact FinP.fin (.inr rfl) [] [.ag [ci (0 : Int), ci (0 : Int), .pv (.s (.slice none 0 0))], vb false] [] (by kernel_rfl) trivial (.tpc (.ag (.cons (.rfl _ rfl) (.cons (.rfl _ rfl) (.cons (.nl) .nil)))) (.tpc (.one (.rfl _ rfl)) (.tp0)))
                  · have h := ift_f b28 h
                    refine XW.skip (by kernel_rfl) ?_
                    refine hK26 _ _ ?_
                    rcases Bool.eq_false_or_eq_true e1.need with b30 | b30
                    · have h := ift_t b30 h
                      obtain ⟨g31, h⟩ := grd_some h
                      refine XW.reg (by kernel_rfl) ?_
                      refine XO.go [4, 6, 8, 9, 10] 7 [3,4,6,9,10,50,51,52,74,76,79] [] [(3, .one (.pv (.rp [[pi p2.kind, pi p2.scale, .ro (eField.els p2.fields)]] 0 0))), (4, .one (.pt 0 0 0 0)), (6, .one (.pt 1 0 0 0)), (9, .one (.pt 4 0 0 0)), (10, .one (.pt 5 0 0 0)), (50, vl eField p1.fields), (51, vi (p1.fields.length : Int)), (52, vi x3), (74, .one (.sl 2 6 0 l1.length)), (76, vs e1.name), (79, vb e1.need)] [.box [ci (0 : Int), ci (0 : Int), .pv (.s (.slice none 0 0))], .box [ci p1.kind, ci (0 : Int), .sl 2 6 0 l1.length], .arr 6 (eField.els l1), .box [ci e1.id, cst e1.name, cb e1.need, ci e1.type.kind, ci e1.type.scale, cl eField e1.type.fields], .box [ci e2.id, cst e2.name, cb e2.need, ci e2.type.kind, ci e2.type.scale, cl eField e2.type.fields], .box [ci r3.1.kind, ci r3.1.scale, cl eField r3.1.fields]] [] (by kernel_rfl) trivial ?_
                      refine XO.setb 79 true (B := e1.need) rfl b30 ?_
                      refine XO.go [4, 6, 8, 9, 10] 6 [3,4,6,50,51,52,74,85] [] [(3, .one (.pv (.rp [[pi p2.kind, pi p2.scale, .ro (eField.els p2.fields)]] 0 0))), (4, .one (.pt 0 0 0 0)), (6, .one (.pt 1 0 0 0)), (50, vl eField p1.fields), (51, vi (p1.fields.length : Int)), (52, vi x3), (74, .one (.sl 2 6 0 l1.length)), (85, .one (.pv (.ro [[pi (0 : Int), .s (.string e1.name), .s (.bool e2.need), pi r3.1.kind, pi r3.1.scale, .ro (eField.els r3.1.fields)]])))] [.box [ci (0 : Int), ci (0 : Int), .pv (.s (.slice none 0 0))], .box [ci p1.kind, ci (0 : Int), .sl 2 6 0 l1.length], .arr 6 (eField.els l1), .box [ci e1.id, cst e1.name, cb e1.need, ci e1.type.kind, ci e1.type.scale, cl eField e1.type.fields], .box [ci e2.id, cst e2.name, cb e2.need, ci e2.type.kind, ci e2.type.scale, cl eField e2.type.fields], .box [ci r3.1.kind, ci r3.1.scale, cl eField r3.1.fields]] [] (by kernel_rfl) trivial ?_
                      rw [show ([[pi (0 : Int), .s (.string e1.name), .s (.bool e2.need), pi r3.1.kind, pi r3.1.scale, .ro (eField.els r3.1.fields)]] : List (List PV)) = eField.els [(FieldP.mk (0 : Int) e1.name e2.need r3.1)] from by rcases e1 with ⟨_, _, _, ⟨_, _, _⟩⟩; rcases e2 with ⟨_, _, _, ⟨_, _, _⟩⟩; rcases r3 with ⟨⟨_, _, _⟩, _⟩; rfl]
                      refine XO.sub (Sub.stale 1 2 2 6 0 l1.length [ci p1.kind, ci (0 : Int), .sl 2 6 0 l1.length] rfl rfl [.box [ci (0 : Int), ci (0 : Int), .pv (.s (.slice none 0 0))], .box [ci p1.kind, ci (0 : Int), .sl 6 6 0 l1.length], .arr 6 (eField.els l1), .box [ci e1.id, cst e1.name, cb e1.need, ci e1.type.kind, ci e1.type.scale, cl eField e1.type.fields], .box [ci e2.id, cst e2.name, cb e2.need, ci e2.type.kind, ci e2.type.scale, cl eField e2.type.fields], .box [ci r3.1.kind, ci r3.1.scale, cl eField r3.1.fields], .dead] rfl) ?_
                      refine XO.go [4, 6, 8, 9, 10] 1 [3,4,6,50,51,52,86] [] [(3, .one (.pv (.rp [[pi p2.kind, pi p2.scale, .ro (eField.els p2.fields)]] 0 0))), (4, .one (.pt 0 0 0 0)), (6, .one (.pt 1 0 0 0)), (50, vl eField p1.fields), (51, vi (p1.fields.length : Int)), (52, vi x3), (86, .one (.sl 2 6 0 (l1.length + (eField.els [(FieldP.mk (0 : Int) e1.name e2.need r3.1)]).length)))] [.box [ci (0 : Int), ci (0 : Int), .pv (.s (.slice none 0 0))], .box [ci p1.kind, ci (0 : Int), .sl 6 6 0 l1.length], .arr 6 (eField.els l1 ++ eField.els [(FieldP.mk (0 : Int) e1.name e2.need r3.1)]), .box [ci e1.id, cst e1.name, cb e1.need, ci e1.type.kind, ci e1.type.scale, cl eField e1.type.fields], .box [ci e2.id, cst e2.name, cb e2.need, ci e2.type.kind, ci e2.type.scale, cl eField e2.type.fields], .box [ci r3.1.kind, ci r3.1.scale, cl eField r3.1.fields], .dead] [elemsOk 6 (eField.els [(FieldP.mk (0 : Int) e1.name e2.need r3.1)]), l1.length = (eField.els l1).length, l1.length + (eField.els [(FieldP.mk (0 : Int) e1.name e2.need r3.1)]).length ≤ 4294967296] (by kernel_rfl) (⟨eField.ok _, (eField.len l1).symm, g31, trivial⟩) ?_
                      rw [show l1.length + (eField.els [(FieldP.mk (0 : Int) e1.name e2.need r3.1)]).length = (l1 ++ [(FieldP.mk (0 : Int) e1.name e2.need r3.1)]).length from eField.lapp _ _]
                      rw [show eField.els l1 ++ eField.els [(FieldP.mk (0 : Int) e1.name e2.need r3.1)] = eField.els (l1 ++ [(FieldP.mk (0 : Int) e1.name e2.need r3.1)]) from eField.app2 _ _]
                      refine XO.go [4, 6, 8, 9, 10] 2 [3,4,6,50,51,52] [] [(3, .one (.pv (.rp [[pi p2.kind, pi p2.scale, .ro (eField.els p2.fields)]] 0 0))), (4, .one (.pt 0 0 0 0)), (6, .one (.pt 1 0 0 0)), (50, vl eField p1.fields), (51, vi (p1.fields.length : Int)), (52, vi x3)] [.box [ci (0 : Int), ci (0 : Int), .pv (.s (.slice none 0 0))], .box [ci p1.kind, ci (0 : Int), .sl 2 6 0 ((l1 ++ [(FieldP.mk (0 : Int) e1.name e2.need r3.1)]).length)], .arr 6 (eField.els (l1 ++ [(FieldP.mk (0 : Int) e1.name e2.need r3.1)])), .box [ci e1.id, cst e1.name, cb e1.need, ci e1.type.kind, ci e1.type.scale, cl eField e1.type.fields], .box [ci e2.id, cst e2.name, cb e2.need, ci e2.type.kind, ci e2.type.scale, cl eField e2.type.fields], .box [ci r3.1.kind, ci r3.1.scale, cl eField r3.1.fields], .dead] [] (by kernel_rfl) trivial ?_
                      refine XO.done (by kernel_rfl) ?_
                      exact hJ3 (l1 ++ [(FieldP.mk (0 : Int) e1.name e2.need r3.1)]) h _ _ (Sub.trans (Sub.pick (fr' := [(3, .one (.pv (.rp [[pi p2.kind, pi p2.scale, .ro (eField.els p2.fields)]] 0 0))), (4, .one (.pt 0 0 0 0)), (6, .one (.pt 1 0 0 0)), (50, vl eField p1.fields), (51, vi (p1.fields.length : Int)), (52, vi x3)]) [3,4,6,50,51,52] (by kernel_rfl)) (Sub.take (fr' := [(3, .one (.pv (.rp [[pi p2.kind, pi p2.scale, .ro (eField.els p2.fields)]] 0 0))), (4, .one (.pt 0 0 0 0)), (6, .one (.pt 1 0 0 0)), (50, vl eField p1.fields), (51, vi (p1.fields.length : Int)), (52, vi x3)]) 3 (Nat.zero_le _) (by kernel_rfl) (by kernel_rfl)))
                    · have h := ift_f b30 h
                      obtain ⟨g32, h⟩ := grd_some h
                      refine XW.reg (by kernel_rfl) ?_
                      refine XO.go [4, 6, 8, 9, 10] 7 [3,4,6,9,10,50,51,52,74,76,79] [] [(3, .one (.pv (.rp [[pi p2.kind, pi p2.scale, .ro (eField.els p2.fields)]] 0 0))), (4, .one (.pt 0 0 0 0)), (6, .one (.pt 1 0 0 0)), (9, .one (.pt 4 0 0 0)), (10, .one (.pt 5 0 0 0)), (50, vl eField p1.fields), (51, vi (p1.fields.length : Int)), (52, vi x3), (74, .one (.sl 2 6 0 l1.length)), (76, vs e1.name), (79, vb e1.need)] [.box [ci (0 : Int), ci (0 : Int), .pv (.s (.slice none 0 0))], .box [ci p1.kind, ci (0 : Int), .sl 2 6 0 l1.length], .arr 6 (eField.els l1), .box [ci e1.id, cst e1.name, cb e1.need, ci e1.type.kind, ci e1.type.scale, cl eField e1.type.fields], .box [ci e2.id, cst e2.name, cb e2.need, ci e2.type.kind, ci e2.type.scale, cl eField e2.type.fields], .box [ci r3.1.kind, ci r3.1.scale, cl eField r3.1.fields]] [] (by kernel_rfl) trivial ?_
                      refine XO.setb 79 false (B := e1.need) rfl b30 ?_
                      refine XO.go [4, 6, 8, 9, 10] 6 [3,4,6,50,51,52,74,85] [] [(3, .one (.pv (.rp [[pi p2.kind, pi p2.scale, .ro (eField.els p2.fields)]] 0 0))), (4, .one (.pt 0 0 0 0)), (6, .one (.pt 1 0 0 0)), (50, vl eField p1.fields), (51, vi (p1.fields.length : Int)), (52, vi x3), (74, .one (.sl 2 6 0 l1.length)), (85, .one (.pv (.ro [[pi (0 : Int), .s (.string e1.name), .s (.bool false), pi r3.1.kind, pi r3.1.scale, .ro (eField.els r3.1.fields)]])))] [.box [ci (0 : Int), ci (0 : Int), .pv (.s (.slice none 0 0))], .box [ci p1.kind, ci (0 : Int), .sl 2 6 0 l1.length], .arr 6 (eField.els l1), .box [ci e1.id, cst e1.name, cb e1.need, ci e1.type.kind, ci e1.type.scale, cl eField e1.type.fields], .box [ci e2.id, cst e2.name, cb e2.need, ci e2.type.kind, ci e2.type.scale, cl eField e2.type.fields], .box [ci r3.1.kind, ci r3.1.scale, cl eField r3.1.fields]] [] (by kernel_rfl) trivial ?_
                      rw [show ([[pi (0 : Int), .s (.string e1.name), .s (.bool false), pi r3.1.kind, pi r3.1.scale, .ro (eField.els r3.1.fields)]] : List (List PV)) = eField.els [(FieldP.mk (0 : Int) e1.name false r3.1)] from by rcases e1 with ⟨_, _, _, ⟨_, _, _⟩⟩; rcases r3 with ⟨⟨_, _, _⟩, _⟩; rfl]
                      refine XO.sub (Sub.stale 1 2 2 6 0 l1.length [ci p1.kind, ci (0 : Int), .sl 2 6 0 l1.length] rfl rfl [.box [ci (0 : Int), ci (0 : Int), .pv (.s (.slice none 0 0))], .box [ci p1.kind, ci (0 : Int), .sl 6 6 0 l1.length], .arr 6 (eField.els l1), .box [ci e1.id, cst e1.name, cb e1.need, ci e1.type.kind, ci e1.type.scale, cl eField e1.type.fields], .box [ci e2.id, cst e2.name, cb e2.need, ci e2.type.kind, ci e2.type.scale, cl eField e2.type.fields], .box [ci r3.1.kind, ci r3.1.scale, cl eField r3.1.fields], .dead] rfl) ?_
                      refine XO.go [4, 6, 8, 9, 10] 1 [3,4,6,50,51,52,86] [] [(3, .one (.pv (.rp [[pi p2.kind, pi p2.scale, .ro (eField.els p2.fields)]] 0 0))), (4, .one (.pt 0 0 0 0)), (6, .one (.pt 1 0 0 0)), (50, vl eField p1.fields), (51, vi (p1.fields.length : Int)), (52, vi x3), (86, .one (.sl 2 6 0 (l1.length + (eField.els [(FieldP.mk (0 : Int) e1.name false r3.1)]).length)))] [.box [ci (0 : Int), ci (0 : Int), .pv (.s (.slice none 0 0))], .box [ci p1.kind, ci (0 : Int), .sl 6 6 0 l1.length], .arr 6 (eField.els l1 ++ eField.els [(FieldP.mk (0 : Int) e1.name false r3.1)]), .box [ci e1.id, cst e1.name, cb e1.need, ci e1.type.kind, ci e1.type.scale, cl eField e1.type.fields], .box [ci e2.id, cst e2.name, cb e2.need, ci e2.type.kind, ci e2.type.scale, cl eField e2.type.fields], .box [ci r3.1.kind, ci r3.1.scale, cl eField r3.1.fields], .dead] [elemsOk 6 (eField.els [(FieldP.mk (0 : Int) e1.name false r3.1)]), l1.length = (eField.els l1).length, l1.length + (eField.els [(FieldP.mk (0 : Int) e1.name false r3.1)]).length ≤ 4294967296] (by kernel_rfl) (⟨eField.ok _, (eField.len l1).symm, g32, trivial⟩) ?_
                      rw [show l1.length + (eField.els [(FieldP.mk (0 : Int) e1.name false r3.1)]).length = (l1 ++ [(FieldP.mk (0 : Int) e1.name false r3.1)]).length from eField.lapp _ _]
                      rw [show eField.els l1 ++ eField.els [(FieldP.mk (0 : Int) e1.name false r3.1)] = eField.els (l1 ++ [(FieldP.mk (0 : Int) e1.name false r3.1)]) from eField.app2 _ _]
                      refine XO.go [4, 6, 8, 9, 10] 2 [3,4,6,50,51,52] [] [(3, .one (.pv (.rp [[pi p2.kind, pi p2.scale, .ro (eField.els p2.fields)]] 0 0))), (4, .one (.pt 0 0 0 0)), (6, .one (.pt 1 0 0 0)), (50, vl eField p1.fields), (51, vi (p1.fields.length : Int)), (52, vi x3)] [.box [ci (0 : Int), ci (0 : Int), .pv (.s (.slice none 0 0))], .box [ci p1.kind, ci (0 : Int), .sl 2 6 0 ((l1 ++ [(FieldP.mk (0 : Int) e1.name false r3.1)]).length)], .arr 6 (eField.els (l1 ++ [(FieldP.mk (0 : Int) e1.name false r3.1)])), .box [ci e1.id, cst e1.name, cb e1.need, ci e1.type.kind, ci e1.type.scale, cl eField e1.type.fields], .box [ci e2.id, cst e2.name, cb e2.need, ci e2.type.kind, ci e2.type.scale, cl eField e2.type.fields], .box [ci r3.1.kind, ci r3.1.scale, cl eField r3.1.fields], .dead] [] (by kernel_rfl) trivial ?_
                      refine XO.done (by kernel_rfl) ?_
                      exact hJ3 (l1 ++ [(FieldP.mk (0 : Int) e1.name false r3.1)]) h _ _ (Sub.trans (Sub.pick (fr' := [(3, .one (.pv (.rp [[pi p2.kind, pi p2.scale, .ro (eField.els p2.fields)]] 0 0))), (4, .one (.pt 0 0 0 0)), (6, .one (.pt 1 0 0 0)), (50, vl eField p1.fields), (51, vi (p1.fields.length : Int)), (52, vi x3)]) [3,4,6,50,51,52] (by kernel_rfl)) (Sub.take (fr' := [(3, .one (.pv (.rp [[pi p2.kind, pi p2.scale, .ro (eField.els p2.fields)]] 0 0))), (4, .one (.pt 0 0 0 0)), (6, .one (.pt 1 0 0 0)), (50, vl eField p1.fields), (51, vi (p1.fields.length : Int)), (52, vi x3)]) 3 (Nat.zero_le _) (by kernel_rfl) (by kernel_rfl)))
                · have h := ift_f b18 h
                  refine XW.exit (id := 1) (by kernel_rfl) ?_
                  refine hQ1 _ _ _ ?_
                  exact hJ4 l1 h _ _ (Sub.pick [4,6] (by kernel_rfl))
            exact XR.sub (Sub.pick [3,4,6,50,51,52] (by kernel_rfl)) (hL1 BIG [] (0 : Int) h)
        rcases Bool.eq_false_or_eq_true (p1.kind != p2.kind) with b10 | b10
        · have h := ift_t b10 h
          refine XW.reg (by kernel_rfl) ?_
          refine XO.go [4, 6, 8, 9, 10] 6 [2,3,4,36] [[pi p1.kind, pi p1.scale, .ro (eField.els p1.fields)], [pi p2.kind, pi p2.scale, .ro (eField.els p2.fields)]] [(2, .one (.pv (.rp [[pi p1.kind, pi p1.scale, .ro (eField.els p1.fields)]] 0 0))), (3, .one (.pv (.rp [[pi p2.kind, pi p2.scale, .ro (eField.els p2.fields)]] 0 0))), (4, .one (.pt 0 0 0 0)), (36, vb (p1.kind != p2.kind))] [.box [ci (0 : Int), ci (0 : Int), .pv (.s (.slice none 0 0))]] [([[pi p1.kind, pi p1.scale, .ro (eField.els p1.fields)]] : List (List PV))[0]? = some [pi p1.kind, pi p1.scale, .ro (eField.els p1.fields)], ([[pi p2.kind, pi p2.scale, .ro (eField.els p2.fields)]] : List (List PV))[0]? = some [pi p2.kind, pi p2.scale, .ro (eField.els p2.fields)]] (by kernel_rfl) (⟨rfl, rfl, trivial⟩) ?_
          refine XO.setb 36 true (B := (p1.kind != p2.kind)) rfl b10 ?_
          refine XO.go [4, 6, 8, 9, 10] 9 [2,3,4,30] [] [(2, .one (.pv (.rp [[pi p1.kind, pi p1.scale, .ro (eField.els p1.fields)]] 0 0))), (3, .one (.pv (.rp [[pi p2.kind, pi p2.scale, .ro (eField.els p2.fields)]] 0 0))), (4, .one (.pt 0 0 0 0)), (30, vb true)] [.box [ci (0 : Int), ci (0 : Int), .pv (.s (.slice none 0 0))]] [] (by kernel_rfl) trivial ?_
          refine XO.done (by kernel_rfl) ?_
          exact hJ2 true h _ _ (Sub.pick [2,3,4,30] (by kernel_rfl))
        · have h := ift_f b10 h
          refine XW.reg (by kernel_rfl) ?_
          refine XO.go [4, 6, 8, 9, 10] 6 [2,3,4,36] [[pi p1.kind, pi p1.scale, .ro (eField.els p1.fields)], [pi p2.kind, pi p2.scale, .ro (eField.els p2.fields)]] [(2, .one (.pv (.rp [[pi p1.kind, pi p1.scale, .ro (eField.els p1.fields)]] 0 0))), (3, .one (.pv (.rp [[pi p2.kind, pi p2.scale, .ro (eField.els p2.fields)]] 0 0))), (4, .one (.pt 0 0 0 0)), (36, vb (p1.kind != p2.kind))] [.box [ci (0 : Int), ci (0 : Int), .pv (.s (.slice none 0 0))]] [([[pi p1.kind, pi p1.scale, .ro (eField.els p1.fields)]] : List (List PV))[0]? = some [pi p1.kind, pi p1.scale, .ro (eField.els p1.fields)], ([[pi p2.kind, pi p2.scale, .ro (eField.els p2.fields)]] : List (List PV))[0]? = some [pi p2.kind, pi p2.scale, .ro (eField.els p2.fields)]] (by kernel_rfl) (⟨rfl, rfl, trivial⟩) ?_
          refine XO.setb 36 false (B := (p1.kind != p2.kind)) rfl b10 ?_
          refine XO.go [4, 6, 8, 9, 10] 3 [2,3,4,36,39] [[pi p1.kind, pi p1.scale, .ro (eField.els p1.fields)]] [(2, .one (.pv (.rp [[pi p1.kind, pi p1.scale, .ro (eField.els p1.fields)]] 0 0))), (3, .one (.pv (.rp [[pi p2.kind, pi p2.scale, .ro (eField.els p2.fields)]] 0 0))), (4, .one (.pt 0 0 0 0)), (36, vb false), (39, vi ((eField.els p1.fields).length : Int))] [.box [ci (0 : Int), ci (0 : Int), .pv (.s (.slice none 0 0))]] [([[pi p1.kind, pi p1.scale, .ro (eField.els p1.fields)]] : List (List PV))[0]? = some [pi p1.kind, pi p1.scale, .ro (eField.els p1.fields)]] (by kernel_rfl) (⟨rfl, trivial⟩) ?_
          rw [eField.len p1.fields]
          refine XO.go [4, 6, 8, 9, 10] 3 [2,3,4,36,39,42] [[pi p2.kind, pi p2.scale, .ro (eField.els p2.fields)]] [(2, .one (.pv (.rp [[pi p1.kind, pi p1.scale, .ro (eField.els p1.fields)]] 0 0))), (3, .one (.pv (.rp [[pi p2.kind, pi p2.scale, .ro (eField.els p2.fields)]] 0 0))), (4, .one (.pt 0 0 0 0)), (36, vb false), (39, vi (p1.fields.length : Int)), (42, vi ((eField.els p2.fields).length : Int))] [.box [ci (0 : Int), ci (0 : Int), .pv (.s (.slice none 0 0))]] [([[pi p2.kind, pi p2.scale, .ro (eField.els p2.fields)]] : List (List PV))[0]? = some [pi p2.kind, pi p2.scale, .ro (eField.els p2.fields)]] (by kernel_rfl) (⟨rfl, trivial⟩) ?_
          rw [eField.len p2.fields]
          refine XO.go [4, 6, 8, 9, 10] 3 [2,3,4,30] [] [(2, .one (.pv (.rp [[pi p1.kind, pi p1.scale, .ro (eField.els p1.fields)]] 0 0))), (3, .one (.pv (.rp [[pi p2.kind, pi p2.scale, .ro (eField.els p2.fields)]] 0 0))), (4, .one (.pt 0 0 0 0)), (30, vb ((p1.fields.length : Int) != (p2.fields.length : Int)))] [.box [ci (0 : Int), ci (0 : Int), .pv (.s (.slice none 0 0))]] [] (by kernel_rfl) trivial ?_
          refine XO.done (by kernel_rfl) ?_
          exact hJ2 ((p1.fields.length : Int) != (p2.fields.length : Int)) h _ _ (Sub.pick [2,3,4,30] (by kernel_rfl))
    obtain ⟨r1, c4, h⟩ := bnd_some h
    rcases Bool.eq_false_or_eq_true r1 with b5 | b5
    · have h := ift_t b5 h
      obtain ⟨r2, c6, h⟩ := bnd_some h
      refine XW.reg (by kernel_rfl) ?_
      refine XO.go [4, 6, 8, 9, 10] 1 [2,3,4,13] [[pi p1.kind, pi p1.scale, .ro (eField.els p1.fields)]] [(2, .one (.pv (.rp [[pi p1.kind, pi p1.scale, .ro (eField.els p1.fields)]] 0 0))), (3, .one (.pv (.rp [[pi p2.kind, pi p2.scale, .ro (eField.els p2.fields)]] 0 0))), (4, .one (.pt 0 0 0 0)), (13, .ag [ci p1.kind, ci p1.scale, cl eField p1.fields])] [.box [ci (0 : Int), ci (0 : Int), .pv (.s (.slice none 0 0))]] [([[pi p1.kind, pi p1.scale, .ro (eField.els p1.fields)]] : List (List PV))[0]? = some [pi p1.kind, pi p1.scale, .ro (eField.els p1.fields)]] (by kernel_rfl) (⟨rfl, trivial⟩) ?_
      refine XO.cal 70 [.ag [ci p1.kind, ci p1.scale, cl eField p1.fields]] (vb r1) [(14, vb r1), (2, .one (.pv (.rp [[pi p1.kind, pi p1.scale, .ro (eField.els p1.fields)]] 0 0))), (3, .one (.pv (.rp [[pi p2.kind, pi p2.scale, .ro (eField.els p2.fields)]] 0 0))), (4, .one (.pt 0 0 0 0)), (13, .ag [ci p1.kind, ci p1.scale, cl eField p1.fields])] (by kernel_rfl) (c_value_number _ _ c4) rfl rfl (by kernel_rfl) ?_
      refine XO.go [4, 6, 8, 9, 10] 1 [2,3,4,15] [] [(2, .one (.pv (.rp [[pi p1.kind, pi p1.scale, .ro (eField.els p1.fields)]] 0 0))), (3, .one (.pv (.rp [[pi p2.kind, pi p2.scale, .ro (eField.els p2.fields)]] 0 0))), (4, .one (.pt 0 0 0 0)), (15, vb r1)] [.box [ci (0 : Int), ci (0 : Int), .pv (.s (.slice none 0 0))]] [] (by kernel_rfl) trivial ?_
      refine XO.setb 15 true (B := r1) rfl b5 ?_
      refine XO.go [4, 6, 8, 9, 10] 1 [2,3,4,15,16] [[pi p2.kind, pi p2.scale, .ro (eField.els p2.fields)]] [(2, .one (.pv (.rp [[pi p1.kind, pi p1.scale, .ro (eField.els p1.fields)]] 0 0))), (3, .one (.pv (.rp [[pi p2.kind, pi p2.scale, .ro (eField.els p2.fields)]] 0 0))), (4, .one (.pt 0 0 0 0)), (15, vb true), (16, .ag [ci p2.kind, ci p2.scale, cl eField p2.fields])] [.box [ci (0 : Int), ci (0 : Int), .pv (.s (.slice none 0 0))]] [([[pi p2.kind, pi p2.scale, .ro (eField.els p2.fields)]] : List (List PV))[0]? = some [pi p2.kind, pi p2.scale, .ro (eField.els p2.fields)]] (by kernel_rfl) (⟨rfl, trivial⟩) ?_
      refine XO.cal 70 [.ag [ci p2.kind, ci p2.scale, cl eField p2.fields]] (vb r2) [(17, vb r2), (2, .one (.pv (.rp [[pi p1.kind, pi p1.scale, .ro (eField.els p1.fields)]] 0 0))), (3, .one (.pv (.rp [[pi p2.kind, pi p2.scale, .ro (eField.els p2.fields)]] 0 0))), (4, .one (.pt 0 0 0 0)), (15, vb true), (16, .ag [ci p2.kind, ci p2.scale, cl eField p2.fields])] (by kernel_rfl) (c_value_number _ _ c6) rfl rfl (by kernel_rfl) ?_
      refine XO.go [4, 6, 8, 9, 10] 2 [2,3,4,12] [] [(2, .one (.pv (.rp [[pi p1.kind, pi p1.scale, .ro (eField.els p1.fields)]] 0 0))), (3, .one (.pv (.rp [[pi p2.kind, pi p2.scale, .ro (eField.els p2.fields)]] 0 0))), (4, .one (.pt 0 0 0 0)), (12, vb r2)] [.box [ci (0 : Int), ci (0 : Int), .pv (.s (.slice none 0 0))]] [] (by kernel_rfl) trivial ?_
      refine XO.done (by kernel_rfl) ?_
      exact hJ1 r2 h _ _ (Sub.pick [2,3,4,12] (by kernel_rfl))
    · have h := ift_f b5 h
      refine XW.reg (by kernel_rfl) ?_
      refine XO.go [4, 6, 8, 9, 10] 1 [2,3,4,13] [[pi p1.kind, pi p1.scale, .ro (eField.els p1.fields)]] [(2, .one (.pv (.rp [[pi p1.kind, pi p1.scale, .ro (eField.els p1.fields)]] 0 0))), (3, .one (.pv (.rp [[pi p2.kind, pi p2.scale, .ro (eField.els p2.fields)]] 0 0))), (4, .one (.pt 0 0 0 0)), (13, .ag [ci p1.kind, ci p1.scale, cl eField p1.fields])] [.box [ci (0 : Int), ci (0 : Int), .pv (.s (.slice none 0 0))]] [([[pi p1.kind, pi p1.scale, .ro (eField.els p1.fields)]] : List (List PV))[0]? = some [pi p1.kind, pi p1.scale, .ro (eField.els p1.fields)]] (by kernel_rfl) (⟨rfl, trivial⟩) ?_
      refine XO.cal 70 [.ag [ci p1.kind, ci p1.scale, cl eField p1.fields]] (vb r1) [(14, vb r1), (2, .one (.pv (.rp [[pi p1.kind, pi p1.scale, .ro (eField.els p1.fields)]] 0 0))), (3, .one (.pv (.rp [[pi p2.kind, pi p2.scale, .ro (eField.els p2.fields)]] 0 0))), (4, .one (.pt 0 0 0 0)), (13, .ag [ci p1.kind, ci p1.scale, cl eField p1.fields])] (by kernel_rfl) (c_value_number _ _ c4) rfl rfl (by kernel_rfl) ?_
      refine XO.go [4, 6, 8, 9, 10] 1 [2,3,4,15] [] [(2, .one (.pv (.rp [[pi p1.kind, pi p1.scale, .ro (eField.els p1.fields)]] 0 0))), (3, .one (.pv (.rp [[pi p2.kind, pi p2.scale, .ro (eField.els p2.fields)]] 0 0))), (4, .one (.pt 0 0 0 0)), (15, vb r1)] [.box [ci (0 : Int), ci (0 : Int), .pv (.s (.slice none 0 0))]] [] (by kernel_rfl) trivial ?_
      refine XO.setb 15 false (B := r1) rfl b5 ?_
      refine XO.go [4, 6, 8, 9, 10] 4 [2,3,4,12] [] [(2, .one (.pv (.rp [[pi p1.kind, pi p1.scale, .ro (eField.els p1.fields)]] 0 0))), (3, .one (.pv (.rp [[pi p2.kind, pi p2.scale, .ro (eField.els p2.fields)]] 0 0))), (4, .one (.pt 0 0 0 0)), (12, vb false)] [.box [ci (0 : Int), ci (0 : Int), .pv (.s (.slice none 0 0))]] [] (by kernel_rfl) trivial ?_
      refine XO.done (by kernel_rfl) ?_
      exact hJ1 false h _ _ (Sub.pick [2,3,4,12] (by kernel_rfl))

def value_Common (p1 : GType) (p2 : GType) : Option (GType × Int) :=
    bnd (at? [p1, p2] (0 : Int)) fun e1 =>
    bnd (value_CheckType e1) fun r1 =>
    ift (r1 != (0 : Int))
      (some ((GType.mk (0 : Int) (0 : Int) []), r1))
      (bnd (at? [p1, p2] (1 : Int)) fun e2 =>
       bnd (value_CheckType e2) fun r2 =>
       ift (r2 != (0 : Int))
         (some ((GType.mk (0 : Int) (0 : Int) []), r2))
         (bnd (value_common BIG p1 p2) fun r3 =>
          ift (!r3.2)
            (some ((GType.mk (0 : Int) (0 : Int) []), (2 : Int)))
            (some (r3.1, (0 : Int)))))


theorem c_value_Common (p1 : GType) (p2 : GType) (r : (GType × Int)) (h : value_Common p1 p2 = some r) : PC Try.prog 9 [.ag [ci p1.kind, ci p1.scale, cl eField p1.fields], .ag [ci p2.kind, ci p2.scale, cl eField p2.fields]] (.tp [.ag [ci r.1.kind, ci r.1.scale, cl eField r.1.fields], vi r.2]) := by
  unfold value_Common at h
  refine PC.of (n := 36) (fn := Try.f9) (c := cd Try.f9 []) (by kernel_rfl) (by kernel_rfl) (by kernel_rfl) (Nat.le_of_ble_eq_true rfl) ?_
  refine XW.seq (x := cd Try.f9 [0]) (y := cd Try.f9 [1]) (by kernel_rfl) fun K1 hK1 => ?_
  refine XW.reg (by kernel_rfl) ?_
  refine XO.go [4, 7, 9] 4 [2,3,4] [] [(2, .one (.pv (.rp [[pi p1.kind, pi p1.scale, .ro (eField.els p1.fields)]] 0 0))), (3, .one (.pv (.rp [[pi p2.kind, pi p2.scale, .ro (eField.els p2.fields)]] 0 0))), (4, .one (.pt 0 0 0 0))] [.box [ci (0 : Int), ci (0 : Int), .pv (.s (.slice none 0 0))]] [] (by kernel_rfl) trivial ?_
  refine XO.done (by kernel_rfl) ?_
  refine hK1 _ _ ?_
  refine XW.seq (x := cd Try.f9 [1,0]) (y := cd Try.f9 [1,1]) (by kernel_rfl) fun K2 hK2 => ?_
  refine XW.seq (x := cd Try.f9 [1,0,0]) (y := cd Try.f9 [1,0,1]) (by kernel_rfl) fun K3 hK3 => ?_
  refine XW.reg (by kernel_rfl) ?_
  refine XO.go [4, 7, 9] 3 [2,3,4,13] [[pi p1.kind, pi p1.scale, .ro (eField.els p1.fields)], [pi p2.kind, pi p2.scale, .ro (eField.els p2.fields)]] [(2, .one (.pv (.rp [[pi p1.kind, pi p1.scale, .ro (eField.els p1.fields)]] 0 0))), (3, .one (.pv (.rp [[pi p2.kind, pi p2.scale, .ro (eField.els p2.fields)]] 0 0))), (4, .one (.pt 0 0 0 0)), (13, .one (.pv (.ro [[pi p1.kind, pi p1.scale, .ro (eField.els p1.fields)], [pi p2.kind, pi p2.scale, .ro (eField.els p2.fields)]])))] [.box [ci (0 : Int), ci (0 : Int), .pv (.s (.slice none 0 0))]] [([[pi p1.kind, pi p1.scale, .ro (eField.els p1.fields)]] : List (List PV))[0]? = some [pi p1.kind, pi p1.scale, .ro (eField.els p1.fields)], ([[pi p2.kind, pi p2.scale, .ro (eField.els p2.fields)]] : List (List PV))[0]? = some [pi p2.kind, pi p2.scale, .ro (eField.els p2.fields)]] (by kernel_rfl) (⟨rfl, rfl, trivial⟩) ?_
  rw [show ([[pi p1.kind, pi p1.scale, .ro (eField.els p1.fields)], [pi p2.kind, pi p2.scale, .ro (eField.els p2.fields)]] : List (List PV)) = eType.els [p1, p2] from by cases p1; cases p2; rfl]
  refine XO.go [4, 7, 9] 2 [2,3,4,13,14,15] [] [(2, .one (.pv (.rp [[pi p1.kind, pi p1.scale, .ro (eField.els p1.fields)]] 0 0))), (3, .one (.pv (.rp [[pi p2.kind, pi p2.scale, .ro (eField.els p2.fields)]] 0 0))), (4, .one (.pt 0 0 0 0)), (13, vl eType [p1, p2]), (14, vi (2 : Int)), (15, vi (0 : Int))] [.box [ci (0 : Int), ci (0 : Int), .pv (.s (.slice none 0 0))]] [] (by kernel_rfl) trivial ?_
  refine XO.done (by kernel_rfl) ?_
  refine hK3 _ _ ?_
  refine XW.block (id := 0) (x := cd Try.f9 [1,0,1,0]) (by kernel_rfl) ?_
  refine XW.rounds' 3 (x := cd Try.f9 [1,0,1,0,0]) (by kernel_rfl) fun Q1 hQ1 => ?_
  refine XR.one ?_
  refine XW.seq (x := cd Try.f9 [1,0,1,0,0,0]) (y := cd Try.f9 [1,0,1,0,0,1]) (by kernel_rfl) fun K4 hK4 => ?_
  refine XW.reg (by kernel_rfl) ?_
  refine XO.go [4, 7, 9] 1 [2,3,4,13,14,15,16] [] [(2, .one (.pv (.rp [[pi p1.kind, pi p1.scale, .ro (eField.els p1.fields)]] 0 0))), (3, .one (.pv (.rp [[pi p2.kind, pi p2.scale, .ro (eField.els p2.fields)]] 0 0))), (4, .one (.pt 0 0 0 0)), (13, vl eType [p1, p2]), (14, vi (2 : Int)), (15, vi (0 : Int)), (16, vb true)] [.box [ci (0 : Int), ci (0 : Int), .pv (.s (.slice none 0 0))]] [] (by kernel_rfl) trivial ?_
  refine XO.done (by kernel_rfl) ?_
  refine hK4 _ _ ?_
  refine XW.seq (x := cd Try.f9 [1,0,1,0,0,1,0]) (y := cd Try.f9 [1,0,1,0,0,1,1]) (by kernel_rfl) fun K5 hK5 => ?_
  refine XW.cond (x := .tmp 16) (a := cd Try.f9 [1,0,1,0,0,1,0,0]) (b := cd Try.f9 [1,0,1,0,0,1,0,1]) (t := true) (by kernel_rfl) (by kernel_rfl) (fun _ => ?_) (fun hx => by cases hx)
  refine XW.skip (by kernel_rfl) ?_
  refine hK5 _ _ ?_
  refine XW.seq (x := cd Try.f9 [1,0,1,0,0,1,1,0]) (y := cd Try.f9 [1,0,1,0,0,1,1,1]) (by kernel_rfl) fun K6 hK6 => ?_
  refine XW.block (id := 1) (x := cd Try.f9 [1,0,1,0,0,1,1,0,0]) (by kernel_rfl) ?_
  refine XW.seq (x := cd Try.f9 [1,0,1,0,0,1,1,0,0,0]) (y := cd Try.f9 [1,0,1,0,0,1,1,0,0,1]) (by kernel_rfl) fun K7 hK7 => ?_
  obtain ⟨e1, a8, h⟩ := bnd_some h
  refine XW.reg (by kernel_rfl) ?_
  refine XO.go [4, 7, 9] 4 [2,3,4,7,13,14,15] [[pi e1.kind, pi e1.scale, .ro (eField.els e1.fields)]] [(2, .one (.pv (.rp [[pi p1.kind, pi p1.scale, .ro (eField.els p1.fields)]] 0 0))), (3, .one (.pv (.rp [[pi p2.kind, pi p2.scale, .ro (eField.els p2.fields)]] 0 0))), (4, .one (.pt 0 0 0 0)), (7, .one (.pt 1 0 0 0)), (13, vl eType [p1, p2]), (14, vi (2 : Int)), (15, vi (0 : Int))] [.box [ci (0 : Int), ci (0 : Int), .pv (.s (.slice none 0 0))], .box [ci e1.kind, ci e1.scale, cl eField e1.fields]] [0 ≤ (0 : Int) ∧ (0 : Int) < ((eType.els [p1, p2]).length : Int) ∧ elemsOk 3 (eType.els [p1, p2]), (eType.els [p1, p2])[(0 : Int).toNat]? = some [pi e1.kind, pi e1.scale, .ro (eField.els e1.fields)]] (by kernel_rfl) (⟨eType.inb a8, ((eType.get a8).trans (by cases e1; rfl)), trivial⟩) ?_
  refine XO.done (by kernel_rfl) ?_
  refine hK7 _ _ ?_
  refine XW.seq (x := cd Try.f9 [1,0,1,0,0,1,1,0,0,1,0]) (y := cd Try.f9 [1,0,1,0,0,1,1,0,0,1,1]) (by kernel_rfl) fun K9 hK9 => ?_
  obtain ⟨r1, c10, h⟩ := bnd_some h
  refine XW.reg (by kernel_rfl) ?_
  refine XO.go [4, 7, 9] 1 [2,3,4,13,14,15,19] [] [(2, .one (.pv (.rp [[pi p1.kind, pi p1.scale, .ro (eField.els p1.fields)]] 0 0))), (3, .one (.pv (.rp [[pi p2.kind, pi p2.scale, .ro (eField.els p2.fields)]] 0 0))), (4, .one (.pt 0 0 0 0)), (13, vl eType [p1, p2]), (14, vi (2 : Int)), (15, vi (0 : Int)), (19, .ag [ci e1.kind, ci e1.scale, cl eField e1.fields])] [.box [ci (0 : Int), ci (0 : Int), .pv (.s (.slice none 0 0))], .box [ci e1.kind, ci e1.scale, cl eField e1.fields]] [] (by kernel_rfl) trivial ?_
  refine XO.cal 13 [.ag [ci e1.kind, ci e1.scale, cl eField e1.fields]] (vi r1) [(20, vi r1), (2, .one (.pv (.rp [[pi p1.kind, pi p1.scale, .ro (eField.els p1.fields)]] 0 0))), (3, .one (.pv (.rp [[pi p2.kind, pi p2.scale, .ro (eField.els p2.fields)]] 0 0))), (4, .one (.pt 0 0 0 0)), (13, vl eType [p1, p2]), (14, vi (2 : Int)), (15, vi (0 : Int)), (19, .ag [ci e1.kind, ci e1.scale, cl eField e1.fields])] (by kernel_rfl) (c_value_CheckType _ _ c10) rfl rfl (by kernel_rfl) ?_
  refine XO.go [4, 7, 9] 1 [2,3,4,8,13,14,15] [] [(2, .one (.pv (.rp [[pi p1.kind, pi p1.scale, .ro (eField.els p1.fields)]] 0 0))), (3, .one (.pv (.rp [[pi p2.kind, pi p2.scale, .ro (eField.els p2.fields)]] 0 0))), (4, .one (.pt 0 0 0 0)), (8, vi r1), (13, vl eType [p1, p2]), (14, vi (2 : Int)), (15, vi (0 : Int))] [.box [ci (0 : Int), ci (0 : Int), .pv (.s (.slice none 0 0))], .box [ci e1.kind, ci e1.scale, cl eField e1.fields]] [] (by kernel_rfl) trivial ?_
  refine XO.done (by kernel_rfl) ?_
  refine hK9 _ _ ?_
  refine XW.seq (x := cd Try.f9 [1,0,1,0,0,1,1,0,0,1,1,0]) (y := cd Try.f9 [1,0,1,0,0,1,1,0,0,1,1,1]) (by kernel_rfl) fun K11 hK11 => ?_
  refine XW.reg (by kernel_rfl) ?_
  refine XO.go [4, 7, 9] 2 [2,3,4,8,13,14,15,22] [] [(2, .one (.pv (.rp [[pi p1.kind, pi p1.scale, .ro (eField.els p1.fields)]] 0 0))), (3, .one (.pv (.rp [[pi p2.kind, pi p2.scale, .ro (eField.els p2.fields)]] 0 0))), (4, .one (.pt 0 0 0 0)), (8, vi r1), (13, vl eType [p1, p2]), (14, vi (2 : Int)), (15, vi (0 : Int)), (22, vb (r1 != (0 : Int)))] [.box [ci (0 : Int), ci (0 : Int), .pv (.s (.slice none 0 0))], .box [ci e1.kind, ci e1.scale, cl eField e1.fields]] [] (by kernel_rfl) trivial ?_
  refine XO.done (by kernel_rfl) ?_
  refine hK11 _ _ ?_
  refine XW.cond (x := .tmp 22) (a := cd Try.f9 [1,0,1,0,0,1,1,0,0,1,1,1,0]) (b := cd Try.f9 [1,0,1,0,0,1,1,0,0,1,1,1,1]) (t := (r1 != (0 : Int))) (by kernel_rfl) (by kernel_rfl) (fun b12 => ?_) (fun b12 => ?_)
  · have h := ift_t b12 h
    refine XW.seq (x := cd Try.f9 [1,0,1,0,0,1,1,0,0,1,1,1,0,0]) (y := cd Try.f9 [1,0,1,0,0,1,1,0,0,1,1,1,0,1]) (by kernel_rfl) fun K13 hK13 => ?_
    refine XW.reg (by kernel_rfl) ?_
    refine XO.go [4, 7, 9] 4 [4,5] [] [(4, .one (.pt 0 0 0 0)), (5, vi r1)] [.box [ci (0 : Int), ci (0 : Int), .pv (.s (.slice none 0 0))], .box [ci e1.kind, ci e1.scale, cl eField e1.fields]] [] (by kernel_rfl) trivial ?_
    refine XO.done (by kernel_rfl) ?_
    refine hK13 _ _ ?_
    refine XW.ret (by kernel_rfl) ?_
    refine hQ1 _ _ _ ?_
    obtain rfl := Option.some.inj h
    exact FinP.fin (.inr rfl) [] [.ag [ci (0 : Int), ci (0 : Int), .pv (.s (.slice none 0 0))], vi r1] [] (by kernel_rfl) trivial (.tpc (.ag (.cons (.rfl _ rfl) (.cons (.rfl _ rfl) (.cons (.nl) .nil)))) (.tpc (.one (.rfl _ rfl)) (.tp0)))
  · have h := ift_f b12 h
    refine XW.skip (by kernel_rfl) ?_
    refine hK6 _ _ ?_
    refine XW.reg (by kernel_rfl) ?_
    refine XO.go [4, 7, 9] 2 [2,3,4,13,14,15] [] [(2, .one (.pv (.rp [[pi p1.kind, pi p1.scale, .ro (eField.els p1.fields)]] 0 0))), (3, .one (.pv (.rp [[pi p2.kind, pi p2.scale, .ro (eField.els p2.fields)]] 0 0))), (4, .one (.pt 0 0 0 0)), (13, vl eType [p1, p2]), (14, vi (2 : Int)), (15, vi (1 : Int))] [.box [ci (0 : Int), ci (0 : Int), .pv (.s (.slice none 0 0))], .box [ci e1.kind, ci e1.scale, cl eField e1.fields]] [] (by kernel_rfl) trivial ?_
    refine XO.done (by kernel_rfl) ?_
    refine XR.one ?_
    refine XW.seq (x := cd Try.f9 [1,0,1,0,0,0]) (y := cd Try.f9 [1,0,1,0,0,1]) (by kernel_rfl) fun K14 hK14 => ?_
    refine XW.reg (by kernel_rfl) ?_
    refine XO.go [4, 7, 9] 1 [2,3,4,13,14,15,16] [] [(2, .one (.pv (.rp [[pi p1.kind, pi p1.scale, .ro (eField.els p1.fields)]] 0 0))), (3, .one (.pv (.rp [[pi p2.kind, pi p2.scale, .ro (eField.els p2.fields)]] 0 0))), (4, .one (.pt 0 0 0 0)), (13, vl eType [p1, p2]), (14, vi (2 : Int)), (15, vi (1 : Int)), (16, vb true)] [.box [ci (0 : Int), ci (0 : Int), .pv (.s (.slice none 0 0))], .box [ci e1.kind, ci e1.scale, cl eField e1.fields]] [] (by kernel_rfl) trivial ?_
    refine XO.done (by kernel_rfl) ?_
    refine hK14 _ _ ?_
    refine XW.seq (x := cd Try.f9 [1,0,1,0,0,1,0]) (y := cd Try.f9 [1,0,1,0,0,1,1]) (by kernel_rfl) fun K15 hK15 => ?_
    refine XW.cond (x := .tmp 16) (a := cd Try.f9 [1,0,1,0,0,1,0,0]) (b := cd Try.f9 [1,0,1,0,0,1,0,1]) (t := true) (by kernel_rfl) (by kernel_rfl) (fun _ => ?_) (fun hx => by cases hx)
    refine XW.skip (by kernel_rfl) ?_
    refine hK15 _ _ ?_
    refine XW.seq (x := cd Try.f9 [1,0,1,0,0,1,1,0]) (y := cd Try.f9 [1,0,1,0,0,1,1,1]) (by kernel_rfl) fun K16 hK16 => ?_
    refine XW.block (id := 1) (x := cd Try.f9 [1,0,1,0,0,1,1,0,0]) (by kernel_rfl) ?_
    refine XW.seq (x := cd Try.f9 [1,0,1,0,0,1,1,0,0,0]) (y := cd Try.f9 [1,0,1,0,0,1,1,0,0,1]) (by kernel_rfl) fun K17 hK17 => ?_
    obtain ⟨e2, a18, h⟩ := bnd_some h
    refine XW.reg (by kernel_rfl) ?_
    refine XO.go [4, 7, 9] 4 [2,3,4,7,13,14,15] [[pi e2.kind, pi e2.scale, .ro (eField.els e2.fields)]] [(2, .one (.pv (.rp [[pi p1.kind, pi p1.scale, .ro (eField.els p1.fields)]] 0 0))), (3, .one (.pv (.rp [[pi p2.kind, pi p2.scale, .ro (eField.els p2.fields)]] 0 0))), (4, .one (.pt 0 0 0 0)), (7, .one (.pt 2 0 0 0)), (13, vl eType [p1, p2]), (14, vi (2 : Int)), (15, vi (1 : Int))] [.box [ci (0 : Int), ci (0 : Int), .pv (.s (.slice none 0 0))], .box [ci e1.kind, ci e1.scale, cl eField e1.fields], .box [ci e2.kind, ci e2.scale, cl eField e2.fields]] [0 ≤ (1 : Int) ∧ (1 : Int) < ((eType.els [p1, p2]).length : Int) ∧ elemsOk 3 (eType.els [p1, p2]), (eType.els [p1, p2])[(1 : Int).toNat]? = some [pi e2.kind, pi e2.scale, .ro (eField.els e2.fields)]] (by kernel_rfl) (⟨eType.inb a18, ((eType.get a18).trans (by cases e2; rfl)), trivial⟩) ?_
    refine XO.done (by kernel_rfl) ?_
    refine hK17 _ _ ?_
    refine XW.seq (x := cd Try.f9 [1,0,1,0,0,1,1,0,0,1,0]) (y := cd Try.f9 [1,0,1,0,0,1,1,0,0,1,1]) (by kernel_rfl) fun K19 hK19 => ?_
    obtain ⟨r2, c20, h⟩ := bnd_some h
    refine XW.reg (by kernel_rfl) ?_
    refine XO.go [4, 7, 9] 1 [2,3,4,13,14,15,19] [] [(2, .one (.pv (.rp [[pi p1.kind, pi p1.scale, .ro (eField.els p1.fields)]] 0 0))), (3, .one (.pv (.rp [[pi p2.kind, pi p2.scale, .ro (eField.els p2.fields)]] 0 0))), (4, .one (.pt 0 0 0 0)), (13, vl eType [p1, p2]), (14, vi (2 : Int)), (15, vi (1 : Int)), (19, .ag [ci e2.kind, ci e2.scale, cl eField e2.fields])] [.box [ci (0 : Int), ci (0 : Int), .pv (.s (.slice none 0 0))], .box [ci e1.kind, ci e1.scale, cl eField e1.fields], .box [ci e2.kind, ci e2.scale, cl eField e2.fields]] [] (by kernel_rfl) trivial ?_
    refine XO.cal 13 [.ag [ci e2.kind, ci e2.scale, cl eField e2.fields]] (vi r2) [(20, vi r2), (2, .one (.pv (.rp [[pi p1.kind, pi p1.scale, .ro (eField.els p1.fields)]] 0 0))), (3, .one (.pv (.rp [[pi p2.kind, pi p2.scale, .ro (eField.els p2.fields)]] 0 0))), (4, .one (.pt 0 0 0 0)), (13, vl eType [p1, p2]), (14, vi (2 : Int)), (15, vi (1 : Int)), (19, .ag [ci e2.kind, ci e2.scale, cl eField e2.fields])] (by kernel_rfl) (c_value_CheckType _ _ c20) rfl rfl (by kernel_rfl) ?_
    refine XO.go [4, 7, 9] 1 [2,3,4,8,13,14,15] [] [(2, .one (.pv (.rp [[pi p1.kind, pi p1.scale, .ro (eField.els p1.fields)]] 0 0))), (3, .one (.pv (.rp [[pi p2.kind, pi p2.scale, .ro (eField.els p2.fields)]] 0 0))), (4, .one (.pt 0 0 0 0)), (8, vi r2), (13, vl eType [p1, p2]), (14, vi (2 : Int)), (15, vi (1 : Int))] [.box [ci (0 : Int), ci (0 : Int), .pv (.s (.slice none 0 0))], .box [ci e1.kind, ci e1.scale, cl eField e1.fields], .box [ci e2.kind, ci e2.scale, cl eField e2.fields]] [] (by kernel_rfl) trivial ?_
    refine XO.done (by kernel_rfl) ?_
    refine hK19 _ _ ?_
    refine XW.seq (x := cd Try.f9 [1,0,1,0,0,1,1,0,0,1,1,0]) (y := cd Try.f9 [1,0,1,0,0,1,1,0,0,1,1,1]) (by kernel_rfl) fun K21 hK21 => ?_
    refine XW.reg (by kernel_rfl) ?_
    refine XO.go [4, 7, 9] 2 [2,3,4,8,13,14,15,22] [] [(2, .one (.pv (.rp [[pi p1.kind, pi p1.scale, .ro (eField.els p1.fields)]] 0 0))), (3, .one (.pv (.rp [[pi p2.kind, pi p2.scale, .ro (eField.els p2.fields)]] 0 0))), (4, .one (.pt 0 0 0 0)), (8, vi r2), (13, vl eType [p1, p2]), (14, vi (2 : Int)), (15, vi (1 : Int)), (22, vb (r2 != (0 : Int)))] [.box [ci (0 : Int), ci (0 : Int), .pv (.s (.slice none 0 0))], .box [ci e1.kind, ci e1.scale, cl eField e1.fields], .box [ci e2.kind, ci e2.scale, cl eField e2.fields]] [] (by kernel_rfl) trivial ?_
    refine XO.done (by kernel_rfl) ?_
    refine hK21 _ _ ?_
    refine XW.cond (x := .tmp 22) (a := cd Try.f9 [1,0,1,0,0,1,1,0,0,1,1,1,0]) (b := cd Try.f9 [1,0,1,0,0,1,1,0,0,1,1,1,1]) (t := (r2 != (0 : Int))) (by kernel_rfl) (by kernel_rfl) (fun b22 => ?_) (fun b22 => ?_)
    · have h := ift_t b22 h
      refine XW.seq (x := cd Try.f9 [1,0,1,0,0,1,1,0,0,1,1,1,0,0]) (y := cd Try.f9 [1,0,1,0,0,1,1,0,0,1,1,1,0,1]) (by kernel_rfl) fun K23 hK23 => ?_
      refine XW.reg (by kernel_rfl) ?_
      refine XO.go [4, 7, 9] 4 [4,5] [] [(4, .one (.pt 0 0 0 0)), (5, vi r2)] [.box [ci (0 : Int), ci (0 : Int), .pv (.s (.slice none 0 0))], .box [ci e1.kind, ci e1.scale, cl eField e1.fields], .box [ci e2.kind, ci e2.scale, cl eField e2.fields]] [] (by kernel_rfl) trivial ?_
      refine XO.done (by kernel_rfl) ?_
      refine hK23 _ _ ?_
      refine XW.ret (by kernel_rfl) ?_
      refine hQ1 _ _ _ ?_
      obtain rfl := Option.some.inj h
      exact FinP.fin (.inr rfl) [] [.ag [ci (0 : Int), ci (0 : Int), .pv (.s (.slice none 0 0))], vi r2] [] (by kernel_rfl) trivial (.tpc (.ag (.cons (.rfl _ rfl) (.cons (.rfl _ rfl) (.cons (.nl) .nil)))) (.tpc (.one (.rfl _ rfl)) (.tp0)))
    · have h := ift_f b22 h
      refine XW.skip (by kernel_rfl) ?_
      refine hK16 _ _ ?_
      refine XW.reg (by kernel_rfl) ?_
      refine XO.go [4, 7, 9] 2 [2,3,4,13,14,15] [] [(2, .one (.pv (.rp [[pi p1.kind, pi p1.scale, .ro (eField.els p1.fields)]] 0 0))), (3, .one (.pv (.rp [[pi p2.kind, pi p2.scale, .ro (eField.els p2.fields)]] 0 0))), (4, .one (.pt 0 0 0 0)), (13, vl eType [p1, p2]), (14, vi (2 : Int)), (15, vi (2 : Int))] [.box [ci (0 : Int), ci (0 : Int), .pv (.s (.slice none 0 0))], .box [ci e1.kind, ci e1.scale, cl eField e1.fields], .box [ci e2.kind, ci e2.scale, cl eField e2.fields]] [] (by kernel_rfl) trivial ?_
      refine XO.done (by kernel_rfl) ?_
      refine XR.one ?_
      refine XW.seq (x := cd Try.f9 [1,0,1,0,0,0]) (y := cd Try.f9 [1,0,1,0,0,1]) (by kernel_rfl) fun K24 hK24 => ?_
      refine XW.reg (by kernel_rfl) ?_
      refine XO.go [4, 7, 9] 1 [2,3,4,13,14,15,16] [] [(2, .one (.pv (.rp [[pi p1.kind, pi p1.scale, .ro (eField.els p1.fields)]] 0 0))), (3, .one (.pv (.rp [[pi p2.kind, pi p2.scale, .ro (eField.els p2.fields)]] 0 0))), (4, .one (.pt 0 0 0 0)), (13, vl eType [p1, p2]), (14, vi (2 : Int)), (15, vi (2 : Int)), (16, vb false)] [.box [ci (0 : Int), ci (0 : Int), .pv (.s (.slice none 0 0))], .box [ci e1.kind, ci e1.scale, cl eField e1.fields], .box [ci e2.kind, ci e2.scale, cl eField e2.fields]] [] (by kernel_rfl) trivial ?_
      refine XO.done (by kernel_rfl) ?_
      refine hK24 _ _ ?_
      refine XW.seq (x := cd Try.f9 [1,0,1,0,0,1,0]) (y := cd Try.f9 [1,0,1,0,0,1,1]) (by kernel_rfl) fun K25 hK25 => ?_
      refine XW.cond (x := .tmp 16) (a := cd Try.f9 [1,0,1,0,0,1,0,0]) (b := cd Try.f9 [1,0,1,0,0,1,0,1]) (t := false) (by kernel_rfl) (by kernel_rfl) (fun hx => by cases hx) (fun _ => ?_)
      refine XW.exit (id := 0) (by kernel_rfl) ?_
      refine hQ1 _ _ _ ?_
      refine hK2 _ _ ?_
      refine XW.seq (x := cd Try.f9 [1,1,0]) (y := cd Try.f9 [1,1,1]) (by kernel_rfl) fun K26 hK26 => ?_
      obtain ⟨r3, c27, h⟩ := bnd_some h
      refine XW.reg (by kernel_rfl) ?_
      refine XO.go [4, 7, 9] 2 [4,27,28] [[pi p1.kind, pi p1.scale, .ro (eField.els p1.fields)], [pi p2.kind, pi p2.scale, .ro (eField.els p2.fields)]] [(4, .one (.pt 0 0 0 0)), (27, .ag [ci p1.kind, ci p1.scale, cl eField p1.fields]), (28, .ag [ci p2.kind, ci p2.scale, cl eField p2.fields])] [.box [ci (0 : Int), ci (0 : Int), .pv (.s (.slice none 0 0))], .box [ci e1.kind, ci e1.scale, cl eField e1.fields], .box [ci e2.kind, ci e2.scale, cl eField e2.fields]] [([[pi p1.kind, pi p1.scale, .ro (eField.els p1.fields)]] : List (List PV))[0]? = some [pi p1.kind, pi p1.scale, .ro (eField.els p1.fields)], ([[pi p2.kind, pi p2.scale, .ro (eField.els p2.fields)]] : List (List PV))[0]? = some [pi p2.kind, pi p2.scale, .ro (eField.els p2.fields)]] (by kernel_rfl) (⟨rfl, rfl, trivial⟩) ?_
      refine XO.cal 31 [.ag [ci p1.kind, ci p1.scale, cl eField p1.fields], .ag [ci p2.kind, ci p2.scale, cl eField p2.fields]] (.tp [.ag [ci r3.1.kind, ci r3.1.scale, cl eField r3.1.fields], vb r3.2]) [(29, .tp [.ag [ci r3.1.kind, ci r3.1.scale, cl eField r3.1.fields], vb r3.2]), (4, .one (.pt 0 0 0 0)), (27, .ag [ci p1.kind, ci p1.scale, cl eField p1.fields]), (28, .ag [ci p2.kind, ci p2.scale, cl eField p2.fields])] (by kernel_rfl) (c_value_common BIG _ _ _ c27) rfl rfl (by kernel_rfl) ?_
      refine XO.go [4, 7, 9] 6 [4,9,10] [] [(4, .one (.pt 0 0 0 0)), (9, .one (.pt 3 0 0 0)), (10, vb r3.2)] [.box [ci (0 : Int), ci (0 : Int), .pv (.s (.slice none 0 0))], .box [ci e1.kind, ci e1.scale, cl eField e1.fields], .box [ci e2.kind, ci e2.scale, cl eField e2.fields], .box [ci r3.1.kind, ci r3.1.scale, cl eField r3.1.fields]] [] (by kernel_rfl) trivial ?_
      refine XO.done (by kernel_rfl) ?_
      refine hK26 _ _ ?_
      refine XW.seq (x := cd Try.f9 [1,1,1,0]) (y := cd Try.f9 [1,1,1,1]) (by kernel_rfl) fun K28 hK28 => ?_
      refine XW.seq (x := cd Try.f9 [1,1,1,0,0]) (y := cd Try.f9 [1,1,1,0,1]) (by kernel_rfl) fun K29 hK29 => ?_
      refine XW.reg (by kernel_rfl) ?_
      refine XO.go [4, 7, 9] 2 [4,9,33] [] [(4, .one (.pt 0 0 0 0)), (9, .one (.pt 3 0 0 0)), (33, vb (!r3.2))] [.box [ci (0 : Int), ci (0 : Int), .pv (.s (.slice none 0 0))], .box [ci e1.kind, ci e1.scale, cl eField e1.fields], .box [ci e2.kind, ci e2.scale, cl eField e2.fields], .box [ci r3.1.kind, ci r3.1.scale, cl eField r3.1.fields]] [] (by kernel_rfl) trivial ?_
      refine XO.done (by kernel_rfl) ?_
      refine hK29 _ _ ?_
      refine XW.cond (x := .tmp 33) (a := cd Try.f9 [1,1,1,0,1,0]) (b := cd Try.f9 [1,1,1,0,1,1]) (t := (!r3.2)) (by kernel_rfl) (by kernel_rfl) (fun b30 => ?_) (fun b30 => ?_)
      · have h := ift_t b30 h
        refine XW.seq (x := cd Try.f9 [1,1,1,0,1,0,0]) (y := cd Try.f9 [1,1,1,0,1,0,1]) (by kernel_rfl) fun K31 hK31 => ?_
        refine XW.reg (by kernel_rfl) ?_
        refine XO.go [4, 7, 9] 3 [4,5] [] [(4, .one (.pt 0 0 0 0)), (5, vi (2 : Int))] [.box [ci (0 : Int), ci (0 : Int), .pv (.s (.slice none 0 0))], .box [ci e1.kind, ci e1.scale, cl eField e1.fields], .box [ci e2.kind, ci e2.scale, cl eField e2.fields], .box [ci r3.1.kind, ci r3.1.scale, cl eField r3.1.fields]] [] (by kernel_rfl) trivial ?_
        refine XO.done (by kernel_rfl) ?_
        refine hK31 _ _ ?_
        refine XW.ret (by kernel_rfl) ?_
        obtain rfl := Option.some.inj h
        exact FinP.fin (.inr rfl) [] [.ag [ci (0 : Int), ci (0 : Int), .pv (.s (.slice none 0 0))], vi (2 : Int)] [] (by kernel_rfl) trivial (.tpc (.ag (.cons (.rfl _ rfl) (.cons (.rfl _ rfl) (.cons (.nl) .nil)))) (.tpc (.one (.rfl _ rfl)) (.tp0)))
      · have h := ift_f b30 h
        refine XW.skip (by kernel_rfl) ?_
        refine hK28 _ _ ?_
        refine XW.seq (x := cd Try.f9 [1,1,1,1,0]) (y := cd Try.f9 [1,1,1,1,1]) (by kernel_rfl) fun K32 hK32 => ?_
        refine XW.reg (by kernel_rfl) ?_
        refine XO.go [4, 7, 9] 3 [4,5] [] [(4, .one (.pt 0 0 0 0)), (5, vi (0 : Int))] [.box [ci r3.1.kind, ci r3.1.scale, cl eField r3.1.fields], .box [ci e1.kind, ci e1.scale, cl eField e1.fields], .box [ci e2.kind, ci e2.scale, cl eField e2.fields], .box [ci r3.1.kind, ci r3.1.scale, cl eField r3.1.fields]] [] (by kernel_rfl) trivial ?_
        refine XO.done (by kernel_rfl) ?_
        refine hK32 _ _ ?_
        refine XW.ret (by kernel_rfl) ?_
        obtain rfl := Option.some.inj h
        exact FinP.fin (.inr rfl) [] [.ag [ci r3.1.kind, ci r3.1.scale, cl eField r3.1.fields], vi (0 : Int)] [] (by kernel_rfl) trivial (.tpc (.ag (.cons (.rfl _ rfl) (.cons (.rfl _ rfl) (.cons (.rfl _ rfl) .nil)))) (.tpc (.one (.rfl _ rfl)) (.tp0)))

def ref1_Leaf_j1 (x1 : Bool) : Option Bool :=
    some x1

def ref1_Leaf (p1 : Int) : Option Bool :=
    ift (p1 != (6 : Int))
      (ref1_Leaf_j1 (p1 != (7 : Int)))
      (ref1_Leaf_j1 false)


theorem c_ref1_Leaf (p1 : Int) (r : Bool) (h : ref1_Leaf p1 = some r) : PC Try.prog 73 [vi p1] (vb r) := by
  unfold ref1_Leaf at h
  refine PC.of (n := 9) (fn := Try.f73) (c := cd Try.f73 []) (by kernel_rfl) (by kernel_rfl) (by kernel_rfl) (Nat.le_of_ble_eq_true rfl) ?_
  refine XW.seq (x := cd Try.f73 [0]) (y := cd Try.f73 [1]) (by kernel_rfl) fun K1 hK1 => ?_
  refine XW.reg (by kernel_rfl) ?_
  refine XO.go [] 1 [0] [] [(0, vi p1)] [] [] (by kernel_rfl) trivial ?_
  refine XO.done (by kernel_rfl) ?_
  refine hK1 _ _ ?_
  refine XW.seq (x := cd Try.f73 [1,0]) (y := cd Try.f73 [1,1]) (by kernel_rfl) fun K2 hK2 => ?_
  have hJ1 : ∀ (x1 : Bool), ref1_Leaf_j1 x1 = some r → ∀ fr1 st1, Sub 9 0 [] fr1 st1 [(2, vb x1)] [] → K2 fr1 st1 := by
    intro x1 h fr1 st1 hS
    unfold ref1_Leaf_j1 at h
    refine hK2 _ _ (XW.sub hS ?_)
    refine XW.ret (by kernel_rfl) ?_
    obtain rfl := Option.some.inj h
    exact FinP.fin (.inr rfl) [] [vb x1] [] (by kernel_rfl) trivial (.one (.rfl _ rfl))
  rcases Bool.eq_false_or_eq_true (p1 != (6 : Int)) with b3 | b3
  · have h := ift_t b3 h
    refine XW.reg (by kernel_rfl) ?_
    refine XO.go [] 3 [0,5] [] [(0, vi p1), (5, vb (p1 != (6 : Int)))] [] [] (by kernel_rfl) trivial ?_
    refine XO.setb 5 true (B := (p1 != (6 : Int))) rfl b3 ?_
    refine XO.go [] 4 [2] [] [(2, vb (p1 != (7 : Int)))] [] [] (by kernel_rfl) trivial ?_
    refine XO.done (by kernel_rfl) ?_
    exact hJ1 (p1 != (7 : Int)) h _ _ (Sub.pick [2] (by kernel_rfl))
  · have h := ift_f b3 h
    refine XW.reg (by kernel_rfl) ?_
    refine XO.go [] 3 [0,5] [] [(0, vi p1), (5, vb (p1 != (6 : Int)))] [] [] (by kernel_rfl) trivial ?_
    refine XO.setb 5 false (B := (p1 != (6 : Int))) rfl b3 ?_
    refine XO.go [] 4 [2] [] [(2, vb false)] [] [] (by kernel_rfl) trivial ?_
    refine XO.done (by kernel_rfl) ?_
    exact hJ1 false h _ _ (Sub.pick [2] (by kernel_rfl))

def ref1_within_j1 (x1 : Bool) : Option Bool :=
    some x1

def ref1_within (p1 : Int) (p2 : Int) (p3 : Int) : Option Bool :=
    ift (decide (p2 ≤ p1))
      (ref1_within_j1 (decide (p1 ≤ p3)))
      (ref1_within_j1 false)


theorem c_ref1_within (p1 : Int) (p2 : Int) (p3 : Int) (r : Bool) (h : ref1_within p1 p2 p3 = some r) : PC Try.prog 58 [vi p1, vi p2, vi p3] (vb r) := by
  unfold ref1_within at h
  refine PC.of (n := 15) (fn := Try.f58) (c := cd Try.f58 []) (by kernel_rfl) (by kernel_rfl) (by kernel_rfl) (Nat.le_of_ble_eq_true rfl) ?_
  refine XW.seq (x := cd Try.f58 [0]) (y := cd Try.f58 [1]) (by kernel_rfl) fun K1 hK1 => ?_
  refine XW.reg (by kernel_rfl) ?_
  refine XO.go [] 1 [0,1,2] [] [(0, vi p1), (1, vi p2), (2, vi p3)] [] [] (by kernel_rfl) trivial ?_
  refine XO.done (by kernel_rfl) ?_
  refine hK1 _ _ ?_
  refine XW.seq (x := cd Try.f58 [1,0]) (y := cd Try.f58 [1,1]) (by kernel_rfl) fun K2 hK2 => ?_
  have hJ1 : ∀ (x1 : Bool), ref1_within_j1 x1 = some r → ∀ fr1 st1, Sub 15 0 [] fr1 st1 [(6, vb x1)] [] → K2 fr1 st1 := by
    intro x1 h fr1 st1 hS
    unfold ref1_within_j1 at h
    refine hK2 _ _ (XW.sub hS ?_)
    refine XW.ret (by kernel_rfl) ?_
    obtain rfl := Option.some.inj h
    exact FinP.fin (.inr rfl) [] [vb x1] [] (by kernel_rfl) trivial (.one (.rfl _ rfl))
  rcases Bool.eq_false_or_eq_true (decide (p2 ≤ p1)) with b3 | b3
  · have h := ift_t b3 h
    refine XW.reg (by kernel_rfl) ?_
    refine XO.go [] 4 [0,2,10] [] [(0, vi p1), (2, vi p3), (10, vb (decide (p2 ≤ p1)))] [] [] (by kernel_rfl) trivial ?_
    refine XO.setb 10 true (B := (decide (p2 ≤ p1))) rfl b3 ?_
    refine XO.go [] 5 [6] [] [(6, vb (decide (p1 ≤ p3)))] [] [] (by kernel_rfl) trivial ?_
    refine XO.done (by kernel_rfl) ?_
    exact hJ1 (decide (p1 ≤ p3)) h _ _ (Sub.pick [6] (by kernel_rfl))
  · have h := ift_f b3 h
    refine XW.reg (by kernel_rfl) ?_
    refine XO.go [] 4 [0,2,10] [] [(0, vi p1), (2, vi p3), (10, vb (decide (p2 ≤ p1)))] [] [] (by kernel_rfl) trivial ?_
    refine XO.setb 10 false (B := (decide (p2 ≤ p1))) rfl b3 ?_
    refine XO.go [] 5 [6] [] [(6, vb false)] [] [] (by kernel_rfl) trivial ?_
    refine XO.done (by kernel_rfl) ?_
    exact hJ1 false h _ _ (Sub.pick [6] (by kernel_rfl))

def ref1_Name_j4 (rec1 : Int → Option Bool) (x2 : Int) (x5 : Bool) : Option Bool :=
    ift x5
      (some false)
      (rec1 (IntKind.i64.wrap (x2 + (1 : Int))))

def ref1_Name_j3 (rec1 : Int → Option Bool) (x2 : Int) (x3 : Bool) (x4 : Bool) : Option Bool :=
    ift (!x3)
      (ift (x2 == (0 : Int))
         (ref1_Name_j4 rec1 x2 true)
         (ref1_Name_j4 rec1 x2 (!x4)))
      (ref1_Name_j4 rec1 x2 false)

def ref1_Name_j2 (rec1 : Int → Option Bool) (p1 : ByteArray) (x2 : Int) (x3 : Bool) : Option Bool :=
    grd (0 ≤ x2 ∧ x2 < (p1.size : Int)) <|
    ift (((p1.data.toList.getD x2.toNat 0).toNat : Int) == (95 : Int))
      (ref1_Name_j3 rec1 x2 x3 true)
      (grd (0 ≤ x2 ∧ x2 < (p1.size : Int)) <|
       bnd (some (decide ((48 : Int) ≤ ((p1.data.toList.getD x2.toNat 0).toNat : Int)))) fun y3 =>
       ift y3
         (grd (0 ≤ x2 ∧ x2 < (p1.size : Int)) <|
          bnd (some (decide (((p1.data.toList.getD x2.toNat 0).toNat : Int) ≤ (57 : Int)))) fun y4 =>
          ref1_Name_j3 rec1 x2 x3 y4)
         (ref1_Name_j3 rec1 x2 x3 false))

def ref1_Name_j5 : Option Bool :=
    some true

def ref1_Name_l1 (p1 : ByteArray) : Nat → Int → Option Bool
  | 0, _ => none
  | k1 + 1, x2 =>
    ift (decide (x2 < (p1.size : Int)))
      (grd (0 ≤ x2 ∧ x2 < (p1.size : Int)) <|
       bnd (some (decide ((97 : Int) ≤ ((p1.data.toList.getD x2.toNat 0).toNat : Int)))) fun y1 =>
       ift y1
         (grd (0 ≤ x2 ∧ x2 < (p1.size : Int)) <|
          bnd (some (decide (((p1.data.toList.getD x2.toNat 0).toNat : Int) ≤ (122 : Int)))) fun y2 =>
          ref1_Name_j2 (ref1_Name_l1 p1 k1) p1 x2 y2)
         (ref1_Name_j2 (ref1_Name_l1 p1 k1) p1 x2 false))
      (ref1_Name_j5)

def ref1_Name_j1 (p1 : ByteArray) (x1 : Bool) : Option Bool :=
    ift x1
      (some false)
      (ref1_Name_l1 p1 BIG (0 : Int))

def ref1_Name (p1 : ByteArray) : Option Bool :=
    ift (decide ((p1.size : Int) < (1 : Int)))
      (ref1_Name_j1 p1 true)
      (ref1_Name_j1 p1 (decide ((24 : Int) < (p1.size : Int))))


theorem c_ref1_Name (p1 : ByteArray) (r : Bool) (h : ref1_Name p1 = some r) : PC Try.prog 94 [vs p1] (vb r) := by
  unfold ref1_Name at h
  refine PC.of (n := 56) (fn := Try.f94) (c := cd Try.f94 []) (by kernel_rfl) (by kernel_rfl) (by kernel_rfl) (Nat.le_of_ble_eq_true rfl) ?_
  refine XW.seq (x := cd Try.f94 [0]) (y := cd Try.f94 [1]) (by kernel_rfl) fun K1 hK1 => ?_
  refine XW.reg (by kernel_rfl) ?_
  refine XO.go [] 1 [0] [] [(0, vs p1)] [] [] (by kernel_rfl) trivial ?_
  refine XO.done (by kernel_rfl) ?_
  refine hK1 _ _ ?_
  refine XW.seq (x := cd Try.f94 [1,0]) (y := cd Try.f94 [1,1]) (by kernel_rfl) fun K2 hK2 => ?_
  refine XW.seq (x := cd Try.f94 [1,0,0]) (y := cd Try.f94 [1,0,1]) (by kernel_rfl) fun K3 hK3 => ?_
  have hJ1 : ∀ (x1 : Bool), ref1_Name_j1 p1 x1 = some r → ∀ fr1 st1, Sub 56 0 [] fr1 st1 [(0, vs p1), (13, vb x1)] [] → K3 fr1 st1 := by
    intro x1 h fr1 st1 hS
    unfold ref1_Name_j1 at h
    refine hK3 _ _ (XW.sub hS ?_)
    refine XW.cond (x := .tmp 13) (a := cd Try.f94 [1,0,1,0]) (b := cd Try.f94 [1,0,1,1]) (t := x1) (by kernel_rfl) (by kernel_rfl) (fun b5 => ?_) (fun b5 => ?_)
    · have h := ift_t b5 h
      refine XW.seq (x := cd Try.f94 [1,0,1,0,0]) (y := cd Try.f94 [1,0,1,0,1]) (by kernel_rfl) fun K6 hK6 => ?_
      refine XW.reg (by kernel_rfl) ?_
      refine XO.go [] 1 [2] [] [(2, vb false)] [] [] (by kernel_rfl) trivial ?_
      refine XO.done (by kernel_rfl) ?_
      refine hK6 _ _ ?_
      refine XW.ret (by kernel_rfl) ?_
      obtain rfl := Option.some.inj h
      exact FinP.fin (.inr rfl) [] [vb false] [] (by kernel_rfl) trivial (.one (.rfl _ rfl))
    · have h := ift_f b5 h
      refine XW.skip (by kernel_rfl) ?_
      refine hK2 _ _ ?_
      refine XW.seq (x := cd Try.f94 [1,1,0]) (y := cd Try.f94 [1,1,1]) (by kernel_rfl) fun K7 hK7 => ?_
      have hJ5 : ∀ (_ : Unit), ref1_Name_j5 = some r → ∀ fr1 st1, Sub 56 0 [] fr1 st1 [] [] → K7 fr1 st1 := by
        intro _ h fr1 st1 hS
        unfold ref1_Name_j5 at h
        refine hK7 _ _ (XW.sub hS ?_)
        refine XW.seq (x := cd Try.f94 [1,1,1,0]) (y := cd Try.f94 [1,1,1,1]) (by kernel_rfl) fun K32 hK32 => ?_
        refine XW.reg (by kernel_rfl) ?_
        refine XO.go [] 1 [2] [] [(2, vb true)] [] [] (by kernel_rfl) trivial ?_
        refine XO.done (by kernel_rfl) ?_
        refine hK32 _ _ ?_
        refine XW.ret (by kernel_rfl) ?_
        obtain rfl := Option.some.inj h
        exact FinP.fin (.inr rfl) [] [vb true] [] (by kernel_rfl) trivial (.one (.rfl _ rfl))
      refine XW.seq (x := cd Try.f94 [1,1,0,0]) (y := cd Try.f94 [1,1,0,1]) (by kernel_rfl) fun K8 hK8 => ?_
      refine XW.reg (by kernel_rfl) ?_
      refine XO.go [] 1 [0,3] [] [(0, vs p1), (3, vi (0 : Int))] [] [] (by kernel_rfl) trivial ?_
      refine XO.done (by kernel_rfl) ?_
      refine hK8 _ _ ?_
      refine XW.block (id := 0) (x := cd Try.f94 [1,1,0,1,0]) (by kernel_rfl) ?_
      refine XW.rounds' BIG (x := cd Try.f94 [1,1,0,1,0,0]) (by kernel_rfl) fun Q1 hQ1 => ?_
      have hL1 : ∀ (k1 : Nat) (x2 : Int), ref1_Name_l1 p1 k1 x2 = some r → XR Try.prog 56 0 [] (cd Try.f94 [1,1,0,1,0,0]) Q1 k1 [(0, vs p1), (3, vi x2)] [] := by
        intro k1
        induction k1 with
        | zero => intro x2 h; rw [ref1_Name_l1.eq_1] at h; cases h
        | succ k1 ih1 =>
          intro x2 h
          rw [ref1_Name_l1.eq_2] at h
          refine XW.seq (x := cd Try.f94 [1,1,0,1,0,0,0]) (y := cd Try.f94 [1,1,0,1,0,0,1]) (by kernel_rfl) fun K9 hK9 => ?_
          refine XW.seq (x := cd Try.f94 [1,1,0,1,0,0,0,0]) (y := cd Try.f94 [1,1,0,1,0,0,0,1]) (by kernel_rfl) fun K10 hK10 => ?_
          refine XW.reg (by kernel_rfl) ?_
          refine XO.go [] 4 [0,3,17] [] [(0, vs p1), (3, vi x2), (17, vb (decide (x2 < (p1.size : Int))))] [] [] (by kernel_rfl) trivial ?_
          refine XO.done (by kernel_rfl) ?_
          refine hK10 _ _ ?_
          refine XW.cond (x := .tmp 17) (a := cd Try.f94 [1,1,0,1,0,0,0,1,0]) (b := cd Try.f94 [1,1,0,1,0,0,0,1,1]) (t := (decide (x2 < (p1.size : Int)))) (by kernel_rfl) (by kernel_rfl) (fun b11 => ?_) (fun b11 => ?_)
          · have h := ift_t b11 h
            refine XW.skip (by kernel_rfl) ?_
            refine hK9 _ _ ?_
            refine XW.seq (x := cd Try.f94 [1,1,0,1,0,0,1,0]) (y := cd Try.f94 [1,1,0,1,0,0,1,1]) (by kernel_rfl) fun K12 hK12 => ?_
            refine XW.block (id := 1) (x := cd Try.f94 [1,1,0,1,0,0,1,0,0]) (by kernel_rfl) ?_
            refine XW.seq (x := cd Try.f94 [1,1,0,1,0,0,1,0,0,0]) (y := cd Try.f94 [1,1,0,1,0,0,1,0,0,1]) (by kernel_rfl) fun K13 hK13 => ?_
            have hJ2 : ∀ (x3 : Bool), ref1_Name_j2 (ref1_Name_l1 p1 k1) p1 x2 x3 = some r → ∀ fr1 st1, Sub 56 0 [] fr1 st1 [(0, vs p1), (3, vi x2), (4, vb x3)] [] → K13 fr1 st1 := by
              intro x3 h fr1 st1 hS
              unfold ref1_Name_j2 at h
              refine hK13 _ _ (XW.sub hS ?_)
              refine XW.seq (x := cd Try.f94 [1,1,0,1,0,0,1,0,0,1,0]) (y := cd Try.f94 [1,1,0,1,0,0,1,0,0,1,1]) (by kernel_rfl) fun K19 hK19 => ?_
              have hJ3 : ∀ (x4 : Bool), ref1_Name_j3 (ref1_Name_l1 p1 k1) x2 x3 x4 = some r → ∀ fr1 st1, Sub 56 0 [] fr1 st1 [(0, vs p1), (3, vi x2), (4, vb x3), (5, vb x4)] [] → K19 fr1 st1 := by
                intro x4 h fr1 st1 hS
                unfold ref1_Name_j3 at h
                refine hK19 _ _ (XW.sub hS ?_)
                refine XW.seq (x := cd Try.f94 [1,1,0,1,0,0,1,0,0,1,1,0]) (y := cd Try.f94 [1,1,0,1,0,0,1,0,0,1,1,1]) (by kernel_rfl) fun K27 hK27 => ?_
                have hJ4 : ∀ (x5 : Bool), ref1_Name_j4 (ref1_Name_l1 p1 k1) x2 x5 = some r → ∀ fr1 st1, Sub 56 0 [] fr1 st1 [(0, vs p1), (3, vi x2), (55, vb x5)] [] → K27 fr1 st1 := by
                  intro x5 h fr1 st1 hS
                  unfold ref1_Name_j4 at h
                  refine hK27 _ _ (XW.sub hS ?_)
                  refine XW.cond (x := .tmp 55) (a := cd Try.f94 [1,1,0,1,0,0,1,0,0,1,1,1,0]) (b := cd Try.f94 [1,1,0,1,0,0,1,0,0,1,1,1,1]) (t := x5) (by kernel_rfl) (by kernel_rfl) (fun b30 => ?_) (fun b30 => ?_)
                  · have h := ift_t b30 h
                    refine XW.seq (x := cd Try.f94 [1,1,0,1,0,0,1,0,0,1,1,1,0,0]) (y := cd Try.f94 [1,1,0,1,0,0,1,0,0,1,1,1,0,1]) (by kernel_rfl) fun K31 hK31 => ?_
                    refine XW.reg (by kernel_rfl) ?_
                    refine XO.go [] 1 [2] [] [(2, vb false)] [] [] (by kernel_rfl) trivial ?_
                    refine XO.done (by kernel_rfl) ?_
                    refine hK31 _ _ ?_
                    refine XW.ret (by kernel_rfl) ?_
                    refine hQ1 _ _ _ ?_
                    obtain rfl := Option.some.inj h
                    exact FinP.fin (.inr rfl) [] [vb false] [] (by kernel_rfl) trivial (.one (.rfl _ rfl))
                  · have h := ift_f b30 h
                    refine XW.skip (by kernel_rfl) ?_
                    refine hK12 _ _ ?_
                    refine XW.reg (by kernel_rfl) ?_
                    refine XO.go [] 3 [0,3] [] [(0, vs p1), (3, vi (IntKind.i64.wrap (x2 + (1 : Int))))] [] [] (by kernel_rfl) trivial ?_
                    refine XO.done (by kernel_rfl) ?_
                    exact XR.sub (Sub.pick [0,3] (by kernel_rfl)) (ih1 (IntKind.i64.wrap (x2 + (1 : Int))) h)
                rcases Bool.eq_false_or_eq_true (!x3) with b28 | b28
                · have h := ift_t b28 h
                  rcases Bool.eq_false_or_eq_true (x2 == (0 : Int)) with b29 | b29
                  · have h := ift_t b29 h
                    refine XW.reg (by kernel_rfl) ?_
                    refine XO.go [] 3 [0,3,5,48] [] [(0, vs p1), (3, vi x2), (5, vb x4), (48, vb (!x3))] [] [] (by kernel_rfl) trivial ?_
                    refine XO.setb 48 true (B := (!x3)) rfl b28 ?_
                    refine XO.go [] 3 [0,3,5,48,51] [] [(0, vs p1), (3, vi x2), (5, vb x4), (48, vb true), (51, vb (x2 == (0 : Int)))] [] [] (by kernel_rfl) trivial ?_
                    refine XO.setb 51 true (B := (x2 == (0 : Int))) rfl b29 ?_
                    refine XO.go [] 4 [0,3,55] [] [(0, vs p1), (3, vi x2), (55, vb true)] [] [] (by kernel_rfl) trivial ?_
                    refine XO.done (by kernel_rfl) ?_
                    exact hJ4 true h _ _ (Sub.pick [0,3,55] (by kernel_rfl))
                  · have h := ift_f b29 h
                    refine XW.reg (by kernel_rfl) ?_
                    refine XO.go [] 3 [0,3,5,48] [] [(0, vs p1), (3, vi x2), (5, vb x4), (48, vb (!x3))] [] [] (by kernel_rfl) trivial ?_
                    refine XO.setb 48 true (B := (!x3)) rfl b28 ?_
                    refine XO.go [] 3 [0,3,5,48,51] [] [(0, vs p1), (3, vi x2), (5, vb x4), (48, vb true), (51, vb (x2 == (0 : Int)))] [] [] (by kernel_rfl) trivial ?_
                    refine XO.setb 51 false (B := (x2 == (0 : Int))) rfl b29 ?_
                    refine XO.go [] 4 [0,3,55] [] [(0, vs p1), (3, vi x2), (55, vb (!x4))] [] [] (by kernel_rfl) trivial ?_
                    refine XO.done (by kernel_rfl) ?_
                    exact hJ4 (!x4) h _ _ (Sub.pick [0,3,55] (by kernel_rfl))
                · have h := ift_f b28 h
                  refine XW.reg (by kernel_rfl) ?_
                  refine XO.go [] 3 [0,3,5,48] [] [(0, vs p1), (3, vi x2), (5, vb x4), (48, vb (!x3))] [] [] (by kernel_rfl) trivial ?_
                  refine XO.setb 48 false (B := (!x3)) rfl b28 ?_
                  refine XO.go [] 7 [0,3,55] [] [(0, vs p1), (3, vi x2), (55, vb false)] [] [] (by kernel_rfl) trivial ?_
                  refine XO.done (by kernel_rfl) ?_
                  exact hJ4 false h _ _ (Sub.pick [0,3,55] (by kernel_rfl))
              obtain ⟨g20, h⟩ := grd_some h
              rcases Bool.eq_false_or_eq_true (((p1.data.toList.getD x2.toNat 0).toNat : Int) == (95 : Int)) with b21 | b21
              · have h := ift_t b21 h
                refine XW.reg (by kernel_rfl) ?_
                refine XO.go [] 5 [0,3,4,34] [] [(0, vs p1), (3, vi x2), (4, vb x3), (34, vb (((p1.data.toList.getD x2.toNat 0).toNat : Int) == (95 : Int)))] [] [0 ≤ x2 ∧ x2 < (p1.size : Int)] (by kernel_rfl) (⟨g20, trivial⟩) ?_
                refine XO.setb 34 true (B := (((p1.data.toList.getD x2.toNat 0).toNat : Int) == (95 : Int))) rfl b21 ?_
                refine XO.go [] 12 [0,3,4,5] [] [(0, vs p1), (3, vi x2), (4, vb x3), (5, vb true)] [] [] (by kernel_rfl) trivial ?_
                refine XO.done (by kernel_rfl) ?_
                exact hJ3 true h _ _ (Sub.pick [0,3,4,5] (by kernel_rfl))
              · have h := ift_f b21 h
                obtain ⟨g22, h⟩ := grd_some h
                obtain ⟨y3, hy23, h⟩ := bnd_some h
                rcases Bool.eq_false_or_eq_true y3 with b24 | b24
                · have h := ift_t b24 h
                  obtain ⟨g25, h⟩ := grd_some h
                  obtain ⟨y4, hy26, h⟩ := bnd_some h
                  refine XW.reg (by kernel_rfl) ?_
                  refine XO.go [] 5 [0,3,4,34] [] [(0, vs p1), (3, vi x2), (4, vb x3), (34, vb (((p1.data.toList.getD x2.toNat 0).toNat : Int) == (95 : Int)))] [] [0 ≤ x2 ∧ x2 < (p1.size : Int)] (by kernel_rfl) (⟨g20, trivial⟩) ?_
                  refine XO.setb 34 false (B := (((p1.data.toList.getD x2.toNat 0).toNat : Int) == (95 : Int))) rfl b21 ?_
                  refine XO.go [] 4 [0,3,4,34,38] [] [(0, vs p1), (3, vi x2), (4, vb x3), (34, vb false), (38, vb (decide ((48 : Int) ≤ ((p1.data.toList.getD x2.toNat 0).toNat : Int))))] [] [0 ≤ x2 ∧ x2 < (p1.size : Int)] (by kernel_rfl) (⟨g22, trivial⟩) ?_
                  rw [show (decide ((48 : Int) ≤ ((p1.data.toList.getD x2.toNat 0).toNat : Int))) = y3 from Option.some.inj hy23]
                  refine XO.go [] 1 [0,3,4,34,39] [] [(0, vs p1), (3, vi x2), (4, vb x3), (34, vb false), (39, vb y3)] [] [] (by kernel_rfl) trivial ?_
                  refine XO.setb 39 true (B := y3) rfl b24 ?_
                  refine XO.go [] 4 [0,3,4,34,39,43] [] [(0, vs p1), (3, vi x2), (4, vb x3), (34, vb false), (39, vb true), (43, vb (decide (((p1.data.toList.getD x2.toNat 0).toNat : Int) ≤ (57 : Int))))] [] [0 ≤ x2 ∧ x2 < (p1.size : Int)] (by kernel_rfl) (⟨g25, trivial⟩) ?_
                  rw [show (decide (((p1.data.toList.getD x2.toNat 0).toNat : Int) ≤ (57 : Int))) = y4 from Option.some.inj hy26]
                  refine XO.go [] 3 [0,3,4,5] [] [(0, vs p1), (3, vi x2), (4, vb x3), (5, vb y4)] [] [] (by kernel_rfl) trivial ?_
                  refine XO.done (by kernel_rfl) ?_
                  exact hJ3 y4 h _ _ (Sub.pick [0,3,4,5] (by kernel_rfl))
                · have h := ift_f b24 h
                  refine XW.reg (by kernel_rfl) ?_
                  refine XO.go [] 5 [0,3,4,34] [] [(0, vs p1), (3, vi x2), (4, vb x3), (34, vb (((p1.data.toList.getD x2.toNat 0).toNat : Int) == (95 : Int)))] [] [0 ≤ x2 ∧ x2 < (p1.size : Int)] (by kernel_rfl) (⟨g20, trivial⟩) ?_
                  refine XO.setb 34 false (B := (((p1.data.toList.getD x2.toNat 0).toNat : Int) == (95 : Int))) rfl b21 ?_
                  refine XO.go [] 4 [0,3,4,34,38] [] [(0, vs p1), (3, vi x2), (4, vb x3), (34, vb false), (38, vb (decide ((48 : Int) ≤ ((p1.data.toList.getD x2.toNat 0).toNat : Int))))] [] [0 ≤ x2 ∧ x2 < (p1.size : Int)] (by kernel_rfl) (⟨g22, trivial⟩) ?_
                  rw [show (decide ((48 : Int) ≤ ((p1.data.toList.getD x2.toNat 0).toNat : Int))) = y3 from Option.some.inj hy23]
                  refine XO.go [] 1 [0,3,4,34,39] [] [(0, vs p1), (3, vi x2), (4, vb x3), (34, vb false), (39, vb y3)] [] [] (by kernel_rfl) trivial ?_
                  refine XO.setb 39 false (B := y3) rfl b24 ?_
                  refine XO.go [] 7 [0,3,4,5] [] [(0, vs p1), (3, vi x2), (4, vb x3), (5, vb false)] [] [] (by kernel_rfl) trivial ?_
                  refine XO.done (by kernel_rfl) ?_
                  exact hJ3 false h _ _ (Sub.pick [0,3,4,5] (by kernel_rfl))
            obtain ⟨g14, h⟩ := grd_some h
            obtain ⟨y1, hy15, h⟩ := bnd_some h
            rcases Bool.eq_false_or_eq_true y1 with b16 | b16
            · have h := ift_t b16 h
              obtain ⟨g17, h⟩ := grd_some h
              obtain ⟨y2, hy18, h⟩ := bnd_some h
              refine XW.reg (by kernel_rfl) ?_
              refine XO.go [] 4 [0,3,23] [] [(0, vs p1), (3, vi x2), (23, vb (decide ((97 : Int) ≤ ((p1.data.toList.getD x2.toNat 0).toNat : Int))))] [] [0 ≤ x2 ∧ x2 < (p1.size : Int)] (by kernel_rfl) (⟨g14, trivial⟩) ?_
              rw [show (decide ((97 : Int) ≤ ((p1.data.toList.getD x2.toNat 0).toNat : Int))) = y1 from Option.some.inj hy15]
              refine XO.go [] 1 [0,3,24] [] [(0, vs p1), (3, vi x2), (24, vb y1)] [] [] (by kernel_rfl) trivial ?_
              refine XO.setb 24 true (B := y1) rfl b16 ?_
              refine XO.go [] 4 [0,3,24,28] [] [(0, vs p1), (3, vi x2), (24, vb true), (28, vb (decide (((p1.data.toList.getD x2.toNat 0).toNat : Int) ≤ (122 : Int))))] [] [0 ≤ x2 ∧ x2 < (p1.size : Int)] (by kernel_rfl) (⟨g17, trivial⟩) ?_
              rw [show (decide (((p1.data.toList.getD x2.toNat 0).toNat : Int) ≤ (122 : Int))) = y2 from Option.some.inj hy18]
              refine XO.go [] 2 [0,3,4] [] [(0, vs p1), (3, vi x2), (4, vb y2)] [] [] (by kernel_rfl) trivial ?_
              refine XO.done (by kernel_rfl) ?_
              exact hJ2 y2 h _ _ (Sub.pick [0,3,4] (by kernel_rfl))
            · have h := ift_f b16 h
              refine XW.reg (by kernel_rfl) ?_
              refine XO.go [] 4 [0,3,23] [] [(0, vs p1), (3, vi x2), (23, vb (decide ((97 : Int) ≤ ((p1.data.toList.getD x2.toNat 0).toNat : Int))))] [] [0 ≤ x2 ∧ x2 < (p1.size : Int)] (by kernel_rfl) (⟨g14, trivial⟩) ?_
              rw [show (decide ((97 : Int) ≤ ((p1.data.toList.getD x2.toNat 0).toNat : Int))) = y1 from Option.some.inj hy15]
              refine XO.go [] 1 [0,3,24] [] [(0, vs p1), (3, vi x2), (24, vb y1)] [] [] (by kernel_rfl) trivial ?_
              refine XO.setb 24 false (B := y1) rfl b16 ?_
              refine XO.go [] 6 [0,3,4] [] [(0, vs p1), (3, vi x2), (4, vb false)] [] [] (by kernel_rfl) trivial ?_
              refine XO.done (by kernel_rfl) ?_
              exact hJ2 false h _ _ (Sub.pick [0,3,4] (by kernel_rfl))
          · have h := ift_f b11 h
            refine XW.exit (id := 0) (by kernel_rfl) ?_
            refine hQ1 _ _ _ ?_
            exact hJ5 () h _ _ (Sub.pick [] (by kernel_rfl))
      exact XR.sub (Sub.pick [0,3] (by kernel_rfl)) (hL1 BIG (0 : Int) h)
  rcases Bool.eq_false_or_eq_true (decide ((p1.size : Int) < (1 : Int))) with b4 | b4
  · have h := ift_t b4 h
    refine XW.reg (by kernel_rfl) ?_
    refine XO.go [] 4 [0,9] [] [(0, vs p1), (9, vb (decide ((p1.size : Int) < (1 : Int))))] [] [] (by kernel_rfl) trivial ?_
    refine XO.setb 9 true (B := (decide ((p1.size : Int) < (1 : Int)))) rfl b4 ?_
    refine XO.go [] 4 [0,13] [] [(0, vs p1), (13, vb true)] [] [] (by kernel_rfl) trivial ?_
    refine XO.done (by kernel_rfl) ?_
    exact hJ1 true h _ _ (Sub.pick [0,13] (by kernel_rfl))
  · have h := ift_f b4 h
    refine XW.reg (by kernel_rfl) ?_
    refine XO.go [] 4 [0,9] [] [(0, vs p1), (9, vb (decide ((p1.size : Int) < (1 : Int))))] [] [] (by kernel_rfl) trivial ?_
    refine XO.setb 9 false (B := (decide ((p1.size : Int) < (1 : Int)))) rfl b4 ?_
    refine XO.go [] 4 [0,13] [] [(0, vs p1), (13, vb (decide ((24 : Int) < (p1.size : Int))))] [] [] (by kernel_rfl) trivial ?_
    refine XO.done (by kernel_rfl) ?_
    exact hJ1 (decide ((24 : Int) < (p1.size : Int))) h _ _ (Sub.pick [0,13] (by kernel_rfl))


end Go.Proofs.Ytdkmclmdemngfaa
