/- Printed by a program: what the functions compute, and the proofs of their contracts. -/
import Derived.Test.YtdkmclmdemngfaaDoorGenK1
namespace Go.Proofs.YtdkmclmdemngfaaDoor
open Go.SX Go
set_option linter.unusedVariables false
set_option linter.unusedSimpArgs false
set_option maxRecDepth 100000

def strings_indexFunc_of_value_Name_1_j1 : Option Int :=
    some (-1 : Int)

def strings_indexFunc_of_value_Name_1_l1 (p1 : ByteArray) (p2 : Bool) : Nat → Nat → Option Int
  | 0, _ => none
  | k1 + 1, z1 =>
    ift (decide (z1 < p1.size))
      (bnd (value_Name_1 (Int.ofNat (Utf8.decode p1 z1).1)) fun r1 =>
       ift (r1 == p2)
         (some (Int.ofNat z1))
         ((strings_indexFunc_of_value_Name_1_l1 p1 p2 k1) (z1 + (Utf8.decode p1 z1).2)))
      (strings_indexFunc_of_value_Name_1_j1)

def strings_indexFunc_of_value_Name_1 (p1 : ByteArray) (p2 : Bool) : Option Int :=
    strings_indexFunc_of_value_Name_1_l1 p1 p2 BIG 0


theorem c_strings_indexFunc_of_value_Name_1 (p1 : ByteArray) (p2 : Bool) (r : Int) (h : strings_indexFunc_of_value_Name_1 p1 p2 = some r) : PC Tryd.prog 137 [vs p1, .one (.pv (.fn 134 [])), vb p2] (vi r) := by
  unfold strings_indexFunc_of_value_Name_1 at h
  refine PC.of (n := 21) (fn := Tryd.f137) (c := cd Tryd.f137 []) (by kernel_rfl) (by kernel_rfl) (by kernel_rfl) (Nat.le_of_ble_eq_true rfl) ?_
  refine XW.seq (x := cd Tryd.f137 [0]) (y := cd Tryd.f137 [1]) (by kernel_rfl) fun K1 hK1 => ?_
  refine XW.reg (by kernel_rfl) ?_
  refine XO.go [] 1 [0,1,2] [] [(0, vs p1), (1, .one (.pv (.fn 134 []))), (2, vb p2)] [] [] (by kernel_rfl) trivial ?_
  refine XO.done (by kernel_rfl) ?_
  refine hK1 _ _ ?_
  refine XW.seq (x := cd Tryd.f137 [1,0]) (y := cd Tryd.f137 [1,1]) (by kernel_rfl) fun K2 hK2 => ?_
  have hJ1 : ∀ (_ : Unit), strings_indexFunc_of_value_Name_1_j1 = some r → ∀ fr1 st1, Sub 21 0 [] fr1 st1 [] [] → K2 fr1 st1 := by
    intro _ h fr1 st1 hS
    unfold strings_indexFunc_of_value_Name_1_j1 at h
    refine hK2 _ _ (XW.sub hS ?_)
    refine XW.seq (x := cd Tryd.f137 [1,1,0]) (y := cd Tryd.f137 [1,1,1]) (by kernel_rfl) fun K13 hK13 => ?_
    refine XW.reg (by kernel_rfl) ?_
    refine XO.go [] 1 [6] [] [(6, vi (-1 : Int))] [] [] (by kernel_rfl) trivial ?_
    refine XO.done (by kernel_rfl) ?_
    refine hK13 _ _ ?_
    refine XW.ret (by kernel_rfl) ?_
    obtain rfl := Option.some.inj h
    exact FinP.fin (.inr rfl) [] [vi (-1 : Int)] [] (by kernel_rfl) trivial (.one (.rfl _ rfl))
  refine XW.seq (x := cd Tryd.f137 [1,0,0]) (y := cd Tryd.f137 [1,0,1]) (by kernel_rfl) fun K3 hK3 => ?_
  refine XW.reg (by kernel_rfl) ?_
  refine XO.go [] 1 [1,2,9] [] [(1, .one (.pv (.fn 134 []))), (2, vb p2), (9, vs p1)] [] [] (by kernel_rfl) trivial ?_
  refine XO.rng p1 [(10, .one (.pt 0 0 0 0)), (1, .one (.pv (.fn 134 []))), (2, vb p2), (9, vs p1)] [.raw (.stringIter p1 0)] (by kernel_rfl) (by kernel_rfl) (by kernel_rfl) ?_
  refine XO.done (by kernel_rfl) ?_
  refine hK3 _ _ ?_
  refine XW.block (id := 0) (x := cd Tryd.f137 [1,0,1,0]) (by kernel_rfl) ?_
  refine XW.rounds' BIG (x := cd Tryd.f137 [1,0,1,0,0]) (by kernel_rfl) fun Q1 hQ1 => ?_
  have hL1 : ∀ (k1 : Nat) (z1 : Nat), strings_indexFunc_of_value_Name_1_l1 p1 p2 k1 z1 = some r → XR Tryd.prog 21 0 [] (cd Tryd.f137 [1,0,1,0,0]) Q1 k1 [(1, .one (.pv (.fn 134 []))), (2, vb p2), (10, .one (.pt 0 0 0 0))] [.raw (.stringIter p1 z1)] := by
    intro k1
    induction k1 with
    | zero => intro z1 h; rw [strings_indexFunc_of_value_Name_1_l1.eq_1] at h; cases h
    | succ k1 ih1 =>
      intro z1 h
      rw [strings_indexFunc_of_value_Name_1_l1.eq_2] at h
      refine XW.seq (x := cd Tryd.f137 [1,0,1,0,0,0]) (y := cd Tryd.f137 [1,0,1,0,0,1]) (by kernel_rfl) fun K4 hK4 => ?_
      rcases Bool.eq_false_or_eq_true (decide (z1 < p1.size)) with b5 | b5
      · have h := ift_t b5 h
        refine XW.reg (by kernel_rfl) ?_
        refine XO.nxt 0 p1 z1 [(11, .tp [vb true, vi (Int.ofNat z1), vk .i32 (Int.ofNat (Utf8.decode p1 z1).1)]), (1, .one (.pv (.fn 134 []))), (2, vb p2), (10, .one (.pt 0 0 0 0))] [.raw (.stringIter p1 (z1 + (Utf8.decode p1 z1).2))] (by kernel_rfl) (by kernel_rfl) (by kernel_rfl) (by kernel_rfl) b5 ?_
        refine XO.go [] 1 [1,2,10,11,12] [] [(1, .one (.pv (.fn 134 []))), (2, vb p2), (10, .one (.pt 0 0 0 0)), (11, .tp [vb true, vi (Int.ofNat z1), vk .i32 (Int.ofNat (Utf8.decode p1 z1).1)]), (12, vb true)] [.raw (.stringIter p1 (z1 + (Utf8.decode p1 z1).2))] [] (by kernel_rfl) trivial ?_
        refine XO.done (by kernel_rfl) ?_
        refine hK4 _ _ ?_
        refine XW.seq (x := cd Tryd.f137 [1,0,1,0,0,1,0]) (y := cd Tryd.f137 [1,0,1,0,0,1,1]) (by kernel_rfl) fun K6 hK6 => ?_
        refine XW.cond (x := .tmp 12) (a := cd Tryd.f137 [1,0,1,0,0,1,0,0]) (b := cd Tryd.f137 [1,0,1,0,0,1,0,1]) (t := true) (by kernel_rfl) (by kernel_rfl) (fun _ => ?_) (fun hx => by cases hx)
        refine XW.skip (by kernel_rfl) ?_
        refine hK6 _ _ ?_
        refine XW.block (id := 1) (x := cd Tryd.f137 [1,0,1,0,0,1,1,0]) (by kernel_rfl) ?_
        refine XW.seq (x := cd Tryd.f137 [1,0,1,0,0,1,1,0,0]) (y := cd Tryd.f137 [1,0,1,0,0,1,1,0,1]) (by kernel_rfl) fun K7 hK7 => ?_
        refine XW.reg (by kernel_rfl) ?_
        refine XO.go [] 4 [1,2,7,8,10] [] [(1, .one (.pv (.fn 134 []))), (2, vb p2), (7, vi (Int.ofNat z1)), (8, vk .i32 (Int.ofNat (Utf8.decode p1 z1).1)), (10, .one (.pt 0 0 0 0))] [.raw (.stringIter p1 (z1 + (Utf8.decode p1 z1).2))] [] (by kernel_rfl) trivial ?_
        refine XO.done (by kernel_rfl) ?_
        refine hK7 _ _ ?_
        refine XW.seq (x := cd Tryd.f137 [1,0,1,0,0,1,1,0,1,0]) (y := cd Tryd.f137 [1,0,1,0,0,1,1,0,1,1]) (by kernel_rfl) fun K8 hK8 => ?_
        obtain ⟨r1, c9, h⟩ := bnd_some h
        refine XW.reg (by kernel_rfl) ?_
        refine XO.go [] 2 [1,2,7,10,15,16] [] [(1, .one (.pv (.fn 134 []))), (2, vb p2), (7, vi (Int.ofNat z1)), (10, .one (.pt 0 0 0 0)), (15, .one (.pv (.fn 134 []))), (16, vk .i32 (Int.ofNat (Utf8.decode p1 z1).1))] [.raw (.stringIter p1 (z1 + (Utf8.decode p1 z1).2))] [] (by kernel_rfl) trivial ?_
        refine XO.cal 134 [vk .i32 (Int.ofNat (Utf8.decode p1 z1).1)] (vb r1) [(17, vb r1), (1, .one (.pv (.fn 134 []))), (2, vb p2), (7, vi (Int.ofNat z1)), (10, .one (.pt 0 0 0 0)), (15, .one (.pv (.fn 134 []))), (16, vk .i32 (Int.ofNat (Utf8.decode p1 z1).1))] (by kernel_rfl) (c_value_Name_1 _ _ c9) rfl rfl (by kernel_rfl) ?_
        refine XO.go [] 2 [1,2,7,10,19] [] [(1, .one (.pv (.fn 134 []))), (2, vb p2), (7, vi (Int.ofNat z1)), (10, .one (.pt 0 0 0 0)), (19, vb (r1 == p2))] [.raw (.stringIter p1 (z1 + (Utf8.decode p1 z1).2))] [] (by kernel_rfl) trivial ?_
        refine XO.done (by kernel_rfl) ?_
        refine hK8 _ _ ?_
        refine XW.cond (x := .tmp 19) (a := cd Tryd.f137 [1,0,1,0,0,1,1,0,1,1,0]) (b := cd Tryd.f137 [1,0,1,0,0,1,1,0,1,1,1]) (t := (r1 == p2)) (by kernel_rfl) (by kernel_rfl) (fun b10 => ?_) (fun b10 => ?_)
        · have h := ift_t b10 h
          refine XW.seq (x := cd Tryd.f137 [1,0,1,0,0,1,1,0,1,1,0,0]) (y := cd Tryd.f137 [1,0,1,0,0,1,1,0,1,1,0,1]) (by kernel_rfl) fun K11 hK11 => ?_
          refine XW.reg (by kernel_rfl) ?_
          refine XO.go [] 2 [6] [] [(6, vi (Int.ofNat z1))] [.raw (.stringIter p1 (z1 + (Utf8.decode p1 z1).2))] [] (by kernel_rfl) trivial ?_
          refine XO.done (by kernel_rfl) ?_
          refine hK11 _ _ ?_
          refine XW.ret (by kernel_rfl) ?_
          refine hQ1 _ _ _ ?_
          obtain rfl := Option.some.inj h
          exact FinP.fin (.inr rfl) [] [vi (Int.ofNat z1)] [] (by kernel_rfl) trivial (.one (.rfl _ rfl))
        · have h := ift_f b10 h
          refine XW.skip (by kernel_rfl) ?_
          exact XR.sub (Sub.pick [1,2,10] (by kernel_rfl)) (ih1 (z1 + (Utf8.decode p1 z1).2) h)
      · have h := ift_f b5 h
        refine XW.reg (by kernel_rfl) ?_
        refine XO.nxtE 0 p1 z1 [(11, .tp [vb false]), (1, .one (.pv (.fn 134 []))), (2, vb p2), (10, .one (.pt 0 0 0 0))] (by kernel_rfl) (by kernel_rfl) (by kernel_rfl) b5 ?_
        refine XO.go [] 1 [1,2,10,11,12] [] [(1, .one (.pv (.fn 134 []))), (2, vb p2), (10, .one (.pt 0 0 0 0)), (11, .tp [vb false]), (12, vb false)] [.raw (.stringIter p1 z1)] [] (by kernel_rfl) trivial ?_
        refine XO.done (by kernel_rfl) ?_
        refine hK4 _ _ ?_
        refine XW.seq (x := cd Tryd.f137 [1,0,1,0,0,1,0]) (y := cd Tryd.f137 [1,0,1,0,0,1,1]) (by kernel_rfl) fun K12 hK12 => ?_
        refine XW.cond (x := .tmp 12) (a := cd Tryd.f137 [1,0,1,0,0,1,0,0]) (b := cd Tryd.f137 [1,0,1,0,0,1,0,1]) (t := false) (by kernel_rfl) (by kernel_rfl) (fun hx => by cases hx) (fun _ => ?_)
        refine XW.exit (id := 0) (by kernel_rfl) ?_
        refine hQ1 _ _ _ ?_
        exact hJ1 () h _ _ (Sub.trans (Sub.pick (fr' := []) [] (by kernel_rfl)) (Sub.take (fr' := []) 0 (Nat.zero_le _) (by kernel_rfl) (by kernel_rfl)))
  exact XR.sub (Sub.pick [1,2,10] (by kernel_rfl)) (hL1 BIG 0 h)

def strings_IndexFunc_of_value_Name_1 (p1 : ByteArray) : Option Int :=
    bnd (strings_indexFunc_of_value_Name_1 p1 true) fun r1 =>
    some r1


theorem c_strings_IndexFunc_of_value_Name_1 (p1 : ByteArray) (r : Int) (h : strings_IndexFunc_of_value_Name_1 p1 = some r) : PC Tryd.prog 136 [vs p1, .one (.pv (.fn 134 []))] (vi r) := by
  unfold strings_IndexFunc_of_value_Name_1 at h
  refine PC.of (n := 8) (fn := Tryd.f136) (c := cd Tryd.f136 []) (by kernel_rfl) (by kernel_rfl) (by kernel_rfl) (Nat.le_of_ble_eq_true rfl) ?_
  refine XW.seq (x := cd Tryd.f136 [0]) (y := cd Tryd.f136 [1]) (by kernel_rfl) fun K1 hK1 => ?_
  refine XW.reg (by kernel_rfl) ?_
  refine XO.go [] 1 [0,1] [] [(0, vs p1), (1, .one (.pv (.fn 134 [])))] [] [] (by kernel_rfl) trivial ?_
  refine XO.done (by kernel_rfl) ?_
  refine hK1 _ _ ?_
  refine XW.seq (x := cd Tryd.f136 [1,0]) (y := cd Tryd.f136 [1,1]) (by kernel_rfl) fun K2 hK2 => ?_
  obtain ⟨r1, c3, h⟩ := bnd_some h
  refine XW.reg (by kernel_rfl) ?_
  refine XO.go [] 2 [5,6] [] [(5, vs p1), (6, .one (.pv (.fn 134 [])))] [] [] (by kernel_rfl) trivial ?_
  refine XO.cal 137 [vs p1, .one (.pv (.fn 134 [])), vb true] (vi r1) [(7, vi r1), (5, vs p1), (6, .one (.pv (.fn 134 [])))] (by kernel_rfl) (c_strings_indexFunc_of_value_Name_1 _ _ _ c3) rfl rfl (by kernel_rfl) ?_
  refine XO.go [] 1 [4] [] [(4, vi r1)] [] [] (by kernel_rfl) trivial ?_
  refine XO.done (by kernel_rfl) ?_
  refine hK2 _ _ ?_
  refine XW.ret (by kernel_rfl) ?_
  obtain rfl := Option.some.inj h
  exact FinP.fin (.inr rfl) [] [vi r1] [] (by kernel_rfl) trivial (.one (.rfl _ rfl))

def strings_ContainsFunc_of_value_Name_1 (p1 : ByteArray) : Option Bool :=
    bnd (strings_IndexFunc_of_value_Name_1 p1) fun r1 =>
    some (decide ((0 : Int) ≤ r1))


theorem c_strings_ContainsFunc_of_value_Name_1 (p1 : ByteArray) (r : Bool) (h : strings_ContainsFunc_of_value_Name_1 p1 = some r) : PC Tryd.prog 135 [vs p1, .one (.pv (.fn 134 []))] (vb r) := by
  unfold strings_ContainsFunc_of_value_Name_1 at h
  refine PC.of (n := 9) (fn := Tryd.f135) (c := cd Tryd.f135 []) (by kernel_rfl) (by kernel_rfl) (by kernel_rfl) (Nat.le_of_ble_eq_true rfl) ?_
  refine XW.seq (x := cd Tryd.f135 [0]) (y := cd Tryd.f135 [1]) (by kernel_rfl) fun K1 hK1 => ?_
  refine XW.reg (by kernel_rfl) ?_
  refine XO.go [] 1 [0,1] [] [(0, vs p1), (1, .one (.pv (.fn 134 [])))] [] [] (by kernel_rfl) trivial ?_
  refine XO.done (by kernel_rfl) ?_
  refine hK1 _ _ ?_
  refine XW.seq (x := cd Tryd.f135 [1,0]) (y := cd Tryd.f135 [1,1]) (by kernel_rfl) fun K2 hK2 => ?_
  obtain ⟨r1, c3, h⟩ := bnd_some h
  refine XW.reg (by kernel_rfl) ?_
  refine XO.go [] 2 [5,6] [] [(5, vs p1), (6, .one (.pv (.fn 134 [])))] [] [] (by kernel_rfl) trivial ?_
  refine XO.cal 136 [vs p1, .one (.pv (.fn 134 []))] (vi r1) [(7, vi r1), (5, vs p1), (6, .one (.pv (.fn 134 [])))] (by kernel_rfl) (c_strings_IndexFunc_of_value_Name_1 _ _ c3) rfl rfl (by kernel_rfl) ?_
  refine XO.go [] 2 [4] [] [(4, vb (decide ((0 : Int) ≤ r1)))] [] [] (by kernel_rfl) trivial ?_
  refine XO.done (by kernel_rfl) ?_
  refine hK2 _ _ ?_
  refine XW.ret (by kernel_rfl) ?_
  obtain rfl := Option.some.inj h
  exact FinP.fin (.inr rfl) [] [vb (decide ((0 : Int) ≤ r1))] [] (by kernel_rfl) trivial (.one (.rfl _ rfl))

def value_Name_j1 (p1 : ByteArray) (x1 : Bool) : Option Bool :=
    ift x1
      (some false)
      (bnd (strings_ContainsFunc_of_value_Name_1 p1) fun r1 =>
       some (!r1))

def value_Name (p1 : ByteArray) : Option Bool :=
    ift (p1.toList == (ByteArray.mk #[]).toList)
      (value_Name_j1 p1 true)
      (ift (decide ((24 : Int) < (p1.size : Int)))
         (value_Name_j1 p1 true)
         (grd (0 ≤ (0 : Int) ∧ (0 : Int) < (p1.size : Int)) <|
          bnd (some (decide (((p1.data.toList.getD (0 : Int).toNat 0).toNat : Int) < (97 : Int)))) fun y1 =>
          ift y1
            (value_Name_j1 p1 true)
            (grd (0 ≤ (0 : Int) ∧ (0 : Int) < (p1.size : Int)) <|
             bnd (some (decide ((122 : Int) < ((p1.data.toList.getD (0 : Int).toNat 0).toNat : Int)))) fun y2 =>
             value_Name_j1 p1 y2)))


theorem c_value_Name (p1 : ByteArray) (r : Bool) (h : value_Name p1 = some r) : PC Tryd.prog 129 [vs p1] (vb r) := by
  unfold value_Name at h
  refine PC.of (n := 25) (fn := Tryd.f129) (c := cd Tryd.f129 []) (by kernel_rfl) (by kernel_rfl) (by kernel_rfl) (Nat.le_of_ble_eq_true rfl) ?_
  refine XW.seq (x := cd Tryd.f129 [0]) (y := cd Tryd.f129 [1]) (by kernel_rfl) fun K1 hK1 => ?_
  refine XW.reg (by kernel_rfl) ?_
  refine XO.go [] 1 [0] [] [(0, vs p1)] [] [] (by kernel_rfl) trivial ?_
  refine XO.done (by kernel_rfl) ?_
  refine hK1 _ _ ?_
  refine XW.seq (x := cd Tryd.f129 [1,0]) (y := cd Tryd.f129 [1,1]) (by kernel_rfl) fun K2 hK2 => ?_
  refine XW.seq (x := cd Tryd.f129 [1,0,0]) (y := cd Tryd.f129 [1,0,1]) (by kernel_rfl) fun K3 hK3 => ?_
  have hJ1 : ∀ (x1 : Bool), value_Name_j1 p1 x1 = some r → ∀ fr1 st1, Sub 25 0 [] fr1 st1 [(0, vs p1), (20, vb x1)] [] → K3 fr1 st1 := by
    intro x1 h fr1 st1 hS
    unfold value_Name_j1 at h
    refine hK3 _ _ (XW.sub hS ?_)
    refine XW.cond (x := .tmp 20) (a := cd Tryd.f129 [1,0,1,0]) (b := cd Tryd.f129 [1,0,1,1]) (t := x1) (by kernel_rfl) (by kernel_rfl) (fun b11 => ?_) (fun b11 => ?_)
    · have h := ift_t b11 h
      refine XW.seq (x := cd Tryd.f129 [1,0,1,0,0]) (y := cd Tryd.f129 [1,0,1,0,1]) (by kernel_rfl) fun K12 hK12 => ?_
      refine XW.reg (by kernel_rfl) ?_
      refine XO.go [] 1 [2] [] [(2, vb false)] [] [] (by kernel_rfl) trivial ?_
      refine XO.done (by kernel_rfl) ?_
      refine hK12 _ _ ?_
      refine XW.ret (by kernel_rfl) ?_
      obtain rfl := Option.some.inj h
      exact FinP.fin (.inr rfl) [] [vb false] [] (by kernel_rfl) trivial (.one (.rfl _ rfl))
    · have h := ift_f b11 h
      refine XW.skip (by kernel_rfl) ?_
      refine hK2 _ _ ?_
      refine XW.seq (x := cd Tryd.f129 [1,1,0]) (y := cd Tryd.f129 [1,1,1]) (by kernel_rfl) fun K13 hK13 => ?_
      refine XW.reg (by kernel_rfl) ?_
      refine XO.go [] 1 [0,3] [] [(0, vs p1), (3, .one (.pv (.fn 134 [])))] [] [] (by kernel_rfl) trivial ?_
      refine XO.done (by kernel_rfl) ?_
      refine hK13 _ _ ?_
      refine XW.seq (x := cd Tryd.f129 [1,1,1,0]) (y := cd Tryd.f129 [1,1,1,1]) (by kernel_rfl) fun K14 hK14 => ?_
      obtain ⟨r1, c15, h⟩ := bnd_some h
      refine XW.reg (by kernel_rfl) ?_
      refine XO.go [] 2 [21,22] [] [(21, vs p1), (22, .one (.pv (.fn 134 [])))] [] [] (by kernel_rfl) trivial ?_
      refine XO.cal 135 [vs p1, .one (.pv (.fn 134 []))] (vb r1) [(23, vb r1), (21, vs p1), (22, .one (.pv (.fn 134 [])))] (by kernel_rfl) (c_strings_ContainsFunc_of_value_Name_1 _ _ c15) rfl rfl (by kernel_rfl) ?_
      refine XO.go [] 2 [2] [] [(2, vb (!r1))] [] [] (by kernel_rfl) trivial ?_
      refine XO.done (by kernel_rfl) ?_
      refine hK14 _ _ ?_
      refine XW.ret (by kernel_rfl) ?_
      obtain rfl := Option.some.inj h
      exact FinP.fin (.inr rfl) [] [vb (!r1)] [] (by kernel_rfl) trivial (.one (.rfl _ rfl))
  rcases Bool.eq_false_or_eq_true (p1.toList == (ByteArray.mk #[]).toList) with b4 | b4
  · have h := ift_t b4 h
    refine XW.reg (by kernel_rfl) ?_
    refine XO.go [] 3 [0,6] [] [(0, vs p1), (6, vb (p1.toList == (ByteArray.mk #[]).toList))] [] [] (by kernel_rfl) trivial ?_
    refine XO.setb 6 true (B := (p1.toList == (ByteArray.mk #[]).toList)) rfl b4 ?_
    refine XO.go [] 14 [0,20] [] [(0, vs p1), (20, vb true)] [] [] (by kernel_rfl) trivial ?_
    refine XO.done (by kernel_rfl) ?_
    exact hJ1 true h _ _ (Sub.pick [0,20] (by kernel_rfl))
  · have h := ift_f b4 h
    rcases Bool.eq_false_or_eq_true (decide ((24 : Int) < (p1.size : Int))) with b5 | b5
    · have h := ift_t b5 h
      refine XW.reg (by kernel_rfl) ?_
      refine XO.go [] 3 [0,6] [] [(0, vs p1), (6, vb (p1.toList == (ByteArray.mk #[]).toList))] [] [] (by kernel_rfl) trivial ?_
      refine XO.setb 6 false (B := (p1.toList == (ByteArray.mk #[]).toList)) rfl b4 ?_
      refine XO.go [] 5 [0,11] [] [(0, vs p1), (11, vb (decide ((24 : Int) < (p1.size : Int))))] [] [] (by kernel_rfl) trivial ?_
      refine XO.setb 11 true (B := (decide ((24 : Int) < (p1.size : Int)))) rfl b5 ?_
      refine XO.go [] 9 [0,20] [] [(0, vs p1), (20, vb true)] [] [] (by kernel_rfl) trivial ?_
      refine XO.done (by kernel_rfl) ?_
      exact hJ1 true h _ _ (Sub.pick [0,20] (by kernel_rfl))
    · have h := ift_f b5 h
      obtain ⟨g6, h⟩ := grd_some h
      obtain ⟨y1, hy7, h⟩ := bnd_some h
      rcases Bool.eq_false_or_eq_true y1 with b8 | b8
      · have h := ift_t b8 h
        refine XW.reg (by kernel_rfl) ?_
        refine XO.go [] 3 [0,6] [] [(0, vs p1), (6, vb (p1.toList == (ByteArray.mk #[]).toList))] [] [] (by kernel_rfl) trivial ?_
        refine XO.setb 6 false (B := (p1.toList == (ByteArray.mk #[]).toList)) rfl b4 ?_
        refine XO.go [] 5 [0,11] [] [(0, vs p1), (11, vb (decide ((24 : Int) < (p1.size : Int))))] [] [] (by kernel_rfl) trivial ?_
        refine XO.setb 11 false (B := (decide ((24 : Int) < (p1.size : Int)))) rfl b5 ?_
        refine XO.go [] 3 [0,11,14] [] [(0, vs p1), (11, vb false), (14, vb (decide (((p1.data.toList.getD (0 : Int).toNat 0).toNat : Int) < (97 : Int))))] [] [0 ≤ (0 : Int) ∧ (0 : Int) < (p1.size : Int)] (by kernel_rfl) (⟨g6, trivial⟩) ?_
        rw [show (decide (((p1.data.toList.getD (0 : Int).toNat 0).toNat : Int) < (97 : Int))) = y1 from Option.some.inj hy7]
        refine XO.go [] 2 [0,16] [] [(0, vs p1), (16, vb y1)] [] [] (by kernel_rfl) trivial ?_
        refine XO.setb 16 true (B := y1) rfl b8 ?_
        refine XO.go [] 4 [0,20] [] [(0, vs p1), (20, vb true)] [] [] (by kernel_rfl) trivial ?_
        refine XO.done (by kernel_rfl) ?_
        exact hJ1 true h _ _ (Sub.pick [0,20] (by kernel_rfl))
      · have h := ift_f b8 h
        obtain ⟨g9, h⟩ := grd_some h
        obtain ⟨y2, hy10, h⟩ := bnd_some h
        refine XW.reg (by kernel_rfl) ?_
        refine XO.go [] 3 [0,6] [] [(0, vs p1), (6, vb (p1.toList == (ByteArray.mk #[]).toList))] [] [] (by kernel_rfl) trivial ?_
        refine XO.setb 6 false (B := (p1.toList == (ByteArray.mk #[]).toList)) rfl b4 ?_
        refine XO.go [] 5 [0,11] [] [(0, vs p1), (11, vb (decide ((24 : Int) < (p1.size : Int))))] [] [] (by kernel_rfl) trivial ?_
        refine XO.setb 11 false (B := (decide ((24 : Int) < (p1.size : Int)))) rfl b5 ?_
        refine XO.go [] 3 [0,11,14] [] [(0, vs p1), (11, vb false), (14, vb (decide (((p1.data.toList.getD (0 : Int).toNat 0).toNat : Int) < (97 : Int))))] [] [0 ≤ (0 : Int) ∧ (0 : Int) < (p1.size : Int)] (by kernel_rfl) (⟨g6, trivial⟩) ?_
        rw [show (decide (((p1.data.toList.getD (0 : Int).toNat 0).toNat : Int) < (97 : Int))) = y1 from Option.some.inj hy7]
        refine XO.go [] 2 [0,16] [] [(0, vs p1), (16, vb y1)] [] [] (by kernel_rfl) trivial ?_
        refine XO.setb 16 false (B := y1) rfl b8 ?_
        refine XO.go [] 3 [0,16,19] [] [(0, vs p1), (16, vb false), (19, vb (decide ((122 : Int) < ((p1.data.toList.getD (0 : Int).toNat 0).toNat : Int))))] [] [0 ≤ (0 : Int) ∧ (0 : Int) < (p1.size : Int)] (by kernel_rfl) (⟨g9, trivial⟩) ?_
        rw [show (decide ((122 : Int) < ((p1.data.toList.getD (0 : Int).toNat 0).toNat : Int))) = y2 from Option.some.inj hy10]
        refine XO.go [] 1 [0,20] [] [(0, vs p1), (20, vb y2)] [] [] (by kernel_rfl) trivial ?_
        refine XO.done (by kernel_rfl) ?_
        exact hJ1 y2 h _ _ (Sub.pick [0,20] (by kernel_rfl))

def value_fields_1 (p1 : GField) : Option Bool :=
    bnd (value_Name p1.name) fun r1 =>
    some (!r1)


theorem c_value_fields_1 (p1 : GField) (r : Bool) (h : value_fields_1 p1 = some r) : PC Tryd.prog 128 [.ag [ci p1.id, cst p1.name, cb p1.need, ci p1.type.kind, ci p1.type.scale, cl eField p1.type.fields]] (vb r) := by
  unfold value_fields_1 at h
  refine PC.of (n := 7) (fn := Tryd.f128) (c := cd Tryd.f128 []) (by kernel_rfl) (by kernel_rfl) (by kernel_rfl) (Nat.le_of_ble_eq_true rfl) ?_
  refine XW.seq (x := cd Tryd.f128 [0]) (y := cd Tryd.f128 [1]) (by kernel_rfl) fun K1 hK1 => ?_
  refine XW.reg (by kernel_rfl) ?_
  refine XO.go [] 2 [1] [] [(1, .one (.pv (.rp [[pi p1.id, .s (.string p1.name), .s (.bool p1.need), pi p1.type.kind, pi p1.type.scale, .ro (eField.els p1.type.fields)]] 0 0)))] [] [] (by kernel_rfl) trivial ?_
  refine XO.done (by kernel_rfl) ?_
  refine hK1 _ _ ?_
  refine XW.seq (x := cd Tryd.f128 [1,0]) (y := cd Tryd.f128 [1,1]) (by kernel_rfl) fun K2 hK2 => ?_
  obtain ⟨r1, c3, h⟩ := bnd_some h
  refine XW.reg (by kernel_rfl) ?_
  refine XO.go [] 2 [4] [[pi p1.id, .s (.string p1.name), .s (.bool p1.need), pi p1.type.kind, pi p1.type.scale, .ro (eField.els p1.type.fields)]] [(4, vs p1.name)] [] [([[pi p1.id, .s (.string p1.name), .s (.bool p1.need), pi p1.type.kind, pi p1.type.scale, .ro (eField.els p1.type.fields)]] : List (List PV))[0]? = some [pi p1.id, .s (.string p1.name), .s (.bool p1.need), pi p1.type.kind, pi p1.type.scale, .ro (eField.els p1.type.fields)]] (by kernel_rfl) (⟨rfl, trivial⟩) ?_
  refine XO.cal 129 [vs p1.name] (vb r1) [(5, vb r1), (4, vs p1.name)] (by kernel_rfl) (c_value_Name _ _ c3) rfl rfl (by kernel_rfl) ?_
  refine XO.go [] 2 [2] [] [(2, vb (!r1))] [] [] (by kernel_rfl) trivial ?_
  refine XO.done (by kernel_rfl) ?_
  refine hK2 _ _ ?_
  refine XW.ret (by kernel_rfl) ?_
  obtain rfl := Option.some.inj h
  exact FinP.fin (.inr rfl) [] [vb (!r1)] [] (by kernel_rfl) trivial (.one (.rfl _ rfl))

def slices_IndexFunc_api_Field_api_Field_of_value_fields_1_j1 : Option Int :=
    some (-1 : Int)

def slices_IndexFunc_api_Field_api_Field_of_value_fields_1_l1 (p1 : (List GField)) : Nat → Int → Option Int
  | 0, _ => none
  | k1 + 1, x1 =>
    ift (decide (x1 < (p1.length : Int)))
      (bnd (at? p1 x1) fun e1 =>
       bnd (value_fields_1 e1) fun r1 =>
       ift r1
         (some x1)
         ((slices_IndexFunc_api_Field_api_Field_of_value_fields_1_l1 p1 k1) (IntKind.i64.wrap (x1 + (1 : Int)))))
      (slices_IndexFunc_api_Field_api_Field_of_value_fields_1_j1)

def slices_IndexFunc_api_Field_api_Field_of_value_fields_1 (p1 : (List GField)) : Option Int :=
    slices_IndexFunc_api_Field_api_Field_of_value_fields_1_l1 p1 BIG (0 : Int)


theorem c_slices_IndexFunc_api_Field_api_Field_of_value_fields_1 (p1 : (List GField)) (r : Int) (h : slices_IndexFunc_api_Field_api_Field_of_value_fields_1 p1 = some r) : PC Tryd.prog 133 [vl eField p1, .one (.pv (.fn 128 []))] (vi r) := by
  unfold slices_IndexFunc_api_Field_api_Field_of_value_fields_1 at h
  refine PC.of (n := 19) (fn := Tryd.f133) (c := cd Tryd.f133 []) (by kernel_rfl) (by kernel_rfl) (by kernel_rfl) (Nat.le_of_ble_eq_true rfl) ?_
  refine XW.seq (x := cd Tryd.f133 [0]) (y := cd Tryd.f133 [1]) (by kernel_rfl) fun K1 hK1 => ?_
  refine XW.reg (by kernel_rfl) ?_
  refine XO.go [] 1 [0,1] [] [(0, vl eField p1), (1, .one (.pv (.fn 128 [])))] [] [] (by kernel_rfl) trivial ?_
  refine XO.done (by kernel_rfl) ?_
  refine hK1 _ _ ?_
  refine XW.seq (x := cd Tryd.f133 [1,0]) (y := cd Tryd.f133 [1,1]) (by kernel_rfl) fun K2 hK2 => ?_
  have hJ1 : ∀ (_ : Unit), slices_IndexFunc_api_Field_api_Field_of_value_fields_1_j1 = some r → ∀ fr1 st1, Sub 19 0 [] fr1 st1 [] [] → K2 fr1 st1 := by
    intro _ h fr1 st1 hS
    unfold slices_IndexFunc_api_Field_api_Field_of_value_fields_1_j1 at h
    refine hK2 _ _ (XW.sub hS ?_)
    refine XW.seq (x := cd Tryd.f133 [1,1,0]) (y := cd Tryd.f133 [1,1,1]) (by kernel_rfl) fun K14 hK14 => ?_
    refine XW.reg (by kernel_rfl) ?_
    refine XO.go [] 1 [4] [] [(4, vi (-1 : Int))] [] [] (by kernel_rfl) trivial ?_
    refine XO.done (by kernel_rfl) ?_
    refine hK14 _ _ ?_
    refine XW.ret (by kernel_rfl) ?_
    obtain rfl := Option.some.inj h
    exact FinP.fin (.inr rfl) [] [vi (-1 : Int)] [] (by kernel_rfl) trivial (.one (.rfl _ rfl))
  refine XW.seq (x := cd Tryd.f133 [1,0,0]) (y := cd Tryd.f133 [1,0,1]) (by kernel_rfl) fun K3 hK3 => ?_
  refine XW.reg (by kernel_rfl) ?_
  refine XO.go [] 2 [0,1,7] [] [(0, vl eField p1), (1, .one (.pv (.fn 128 []))), (7, vi ((eField.els p1).length : Int))] [] [] (by kernel_rfl) trivial ?_
  rw [eField.len p1]
  refine XO.go [] 1 [0,1,7,8] [] [(0, vl eField p1), (1, .one (.pv (.fn 128 []))), (7, vi (p1.length : Int)), (8, vi (0 : Int))] [] [] (by kernel_rfl) trivial ?_
  refine XO.done (by kernel_rfl) ?_
  refine hK3 _ _ ?_
  refine XW.block (id := 0) (x := cd Tryd.f133 [1,0,1,0]) (by kernel_rfl) ?_
  refine XW.rounds' BIG (x := cd Tryd.f133 [1,0,1,0,0]) (by kernel_rfl) fun Q1 hQ1 => ?_
  have hL1 : ∀ (k1 : Nat) (x1 : Int), slices_IndexFunc_api_Field_api_Field_of_value_fields_1_l1 p1 k1 x1 = some r → XR Tryd.prog 19 0 [] (cd Tryd.f133 [1,0,1,0,0]) Q1 k1 [(0, vl eField p1), (1, .one (.pv (.fn 128 []))), (7, vi (p1.length : Int)), (8, vi x1)] [] := by
    intro k1
    induction k1 with
    | zero => intro x1 h; rw [slices_IndexFunc_api_Field_api_Field_of_value_fields_1_l1.eq_1] at h; cases h
    | succ k1 ih1 =>
      intro x1 h
      rw [slices_IndexFunc_api_Field_api_Field_of_value_fields_1_l1.eq_2] at h
      refine XW.seq (x := cd Tryd.f133 [1,0,1,0,0,0]) (y := cd Tryd.f133 [1,0,1,0,0,1]) (by kernel_rfl) fun K4 hK4 => ?_
      refine XW.reg (by kernel_rfl) ?_
      refine XO.go [] 1 [0,1,7,8,9] [] [(0, vl eField p1), (1, .one (.pv (.fn 128 []))), (7, vi (p1.length : Int)), (8, vi x1), (9, vb (decide (x1 < (p1.length : Int))))] [] [] (by kernel_rfl) trivial ?_
      refine XO.done (by kernel_rfl) ?_
      refine hK4 _ _ ?_
      refine XW.seq (x := cd Tryd.f133 [1,0,1,0,0,1,0]) (y := cd Tryd.f133 [1,0,1,0,0,1,1]) (by kernel_rfl) fun K5 hK5 => ?_
      refine XW.cond (x := .tmp 9) (a := cd Tryd.f133 [1,0,1,0,0,1,0,0]) (b := cd Tryd.f133 [1,0,1,0,0,1,0,1]) (t := (decide (x1 < (p1.length : Int)))) (by kernel_rfl) (by kernel_rfl) (fun b6 => ?_) (fun b6 => ?_)
      · have h := ift_t b6 h
        refine XW.skip (by kernel_rfl) ?_
        refine hK5 _ _ ?_
        refine XW.seq (x := cd Tryd.f133 [1,0,1,0,0,1,1,0]) (y := cd Tryd.f133 [1,0,1,0,0,1,1,1]) (by kernel_rfl) fun K7 hK7 => ?_
        refine XW.block (id := 1) (x := cd Tryd.f133 [1,0,1,0,0,1,1,0,0]) (by kernel_rfl) ?_
        refine XW.seq (x := cd Tryd.f133 [1,0,1,0,0,1,1,0,0,0]) (y := cd Tryd.f133 [1,0,1,0,0,1,1,0,0,1]) (by kernel_rfl) fun K8 hK8 => ?_
        refine XW.reg (by kernel_rfl) ?_
        refine XO.go [] 2 [0,1,5,7,8] [] [(0, vl eField p1), (1, .one (.pv (.fn 128 []))), (5, vi x1), (7, vi (p1.length : Int)), (8, vi x1)] [] [] (by kernel_rfl) trivial ?_
        refine XO.done (by kernel_rfl) ?_
        refine hK8 _ _ ?_
        refine XW.seq (x := cd Tryd.f133 [1,0,1,0,0,1,1,0,0,1,0]) (y := cd Tryd.f133 [1,0,1,0,0,1,1,0,0,1,1]) (by kernel_rfl) fun K9 hK9 => ?_
        obtain ⟨e1, a10, h⟩ := bnd_some h
        obtain ⟨r1, c11, h⟩ := bnd_some h
        refine XW.reg (by kernel_rfl) ?_
        refine XO.go [] 5 [0,1,5,7,8,11,15] [[pi e1.id, .s (.string e1.name), .s (.bool e1.need), pi e1.type.kind, pi e1.type.scale, .ro (eField.els e1.type.fields)]] [(0, vl eField p1), (1, .one (.pv (.fn 128 []))), (5, vi x1), (7, vi (p1.length : Int)), (8, vi x1), (11, .one (.pv (.fn 128 []))), (15, .ag [ci e1.id, cst e1.name, cb e1.need, ci e1.type.kind, ci e1.type.scale, cl eField e1.type.fields])] [] [0 ≤ x1 ∧ x1 < ((eField.els p1).length : Int) ∧ elemsOk 6 (eField.els p1), (eField.els p1)[x1.toNat]? = some [pi e1.id, .s (.string e1.name), .s (.bool e1.need), pi e1.type.kind, pi e1.type.scale, .ro (eField.els e1.type.fields)]] (by kernel_rfl) (⟨eField.inb a10, ((eField.get a10).trans (by rcases e1 with ⟨_, _, _, ⟨_, _, _⟩⟩; rfl)), trivial⟩) ?_
        refine XO.cal 128 [.ag [ci e1.id, cst e1.name, cb e1.need, ci e1.type.kind, ci e1.type.scale, cl eField e1.type.fields]] (vb r1) [(16, vb r1), (0, vl eField p1), (1, .one (.pv (.fn 128 []))), (5, vi x1), (7, vi (p1.length : Int)), (8, vi x1), (11, .one (.pv (.fn 128 []))), (15, .ag [ci e1.id, cst e1.name, cb e1.need, ci e1.type.kind, ci e1.type.scale, cl eField e1.type.fields])] (by kernel_rfl) (c_value_fields_1 _ _ c11) rfl rfl (by kernel_rfl) ?_
        refine XO.done (by kernel_rfl) ?_
        refine hK9 _ _ ?_
        refine XW.cond (x := .tmp 16) (a := cd Tryd.f133 [1,0,1,0,0,1,1,0,0,1,1,0]) (b := cd Tryd.f133 [1,0,1,0,0,1,1,0,0,1,1,1]) (t := r1) (by kernel_rfl) (by kernel_rfl) (fun b12 => ?_) (fun b12 => ?_)
        · have h := ift_t b12 h
          refine XW.seq (x := cd Tryd.f133 [1,0,1,0,0,1,1,0,0,1,1,0,0]) (y := cd Tryd.f133 [1,0,1,0,0,1,1,0,0,1,1,0,1]) (by kernel_rfl) fun K13 hK13 => ?_
          refine XW.reg (by kernel_rfl) ?_
          refine XO.go [] 2 [4] [] [(4, vi x1)] [] [] (by kernel_rfl) trivial ?_
          refine XO.done (by kernel_rfl) ?_
          refine hK13 _ _ ?_
          refine XW.ret (by kernel_rfl) ?_
          refine hQ1 _ _ _ ?_
          obtain rfl := Option.some.inj h
          exact FinP.fin (.inr rfl) [] [vi x1] [] (by kernel_rfl) trivial (.one (.rfl _ rfl))
        · have h := ift_f b12 h
          refine XW.skip (by kernel_rfl) ?_
          refine hK7 _ _ ?_
          refine XW.reg (by kernel_rfl) ?_
          refine XO.go [] 2 [0,1,7,8] [] [(0, vl eField p1), (1, .one (.pv (.fn 128 []))), (7, vi (p1.length : Int)), (8, vi (IntKind.i64.wrap (x1 + (1 : Int))))] [] [] (by kernel_rfl) trivial ?_
          refine XO.done (by kernel_rfl) ?_
          exact XR.sub (Sub.pick [0,1,7,8] (by kernel_rfl)) (ih1 (IntKind.i64.wrap (x1 + (1 : Int))) h)
      · have h := ift_f b6 h
        refine XW.exit (id := 0) (by kernel_rfl) ?_
        refine hQ1 _ _ _ ?_
        exact hJ1 () h _ _ (Sub.pick [] (by kernel_rfl))
  exact XR.sub (Sub.pick [0,1,7,8] (by kernel_rfl)) (hL1 BIG (0 : Int) h)

def slices_ContainsFunc_api_Field_api_Field_of_value_fields_1 (p1 : (List GField)) : Option Bool :=
    bnd (slices_IndexFunc_api_Field_api_Field_of_value_fields_1 p1) fun r1 =>
    some (decide ((0 : Int) ≤ r1))


theorem c_slices_ContainsFunc_api_Field_api_Field_of_value_fields_1 (p1 : (List GField)) (r : Bool) (h : slices_ContainsFunc_api_Field_api_Field_of_value_fields_1 p1 = some r) : PC Tryd.prog 127 [vl eField p1, .one (.pv (.fn 128 []))] (vb r) := by
  unfold slices_ContainsFunc_api_Field_api_Field_of_value_fields_1 at h
  refine PC.of (n := 9) (fn := Tryd.f127) (c := cd Tryd.f127 []) (by kernel_rfl) (by kernel_rfl) (by kernel_rfl) (Nat.le_of_ble_eq_true rfl) ?_
  refine XW.seq (x := cd Tryd.f127 [0]) (y := cd Tryd.f127 [1]) (by kernel_rfl) fun K1 hK1 => ?_
  refine XW.reg (by kernel_rfl) ?_
  refine XO.go [] 1 [0,1] [] [(0, vl eField p1), (1, .one (.pv (.fn 128 [])))] [] [] (by kernel_rfl) trivial ?_
  refine XO.done (by kernel_rfl) ?_
  refine hK1 _ _ ?_
  refine XW.seq (x := cd Tryd.f127 [1,0]) (y := cd Tryd.f127 [1,1]) (by kernel_rfl) fun K2 hK2 => ?_
  obtain ⟨r1, c3, h⟩ := bnd_some h
  refine XW.reg (by kernel_rfl) ?_
  refine XO.go [] 2 [5,6] [] [(5, vl eField p1), (6, .one (.pv (.fn 128 [])))] [] [] (by kernel_rfl) trivial ?_
  refine XO.cal 133 [vl eField p1, .one (.pv (.fn 128 []))] (vi r1) [(7, vi r1), (5, vl eField p1), (6, .one (.pv (.fn 128 [])))] (by kernel_rfl) (c_slices_IndexFunc_api_Field_api_Field_of_value_fields_1 _ _ c3) rfl rfl (by kernel_rfl) ?_
  refine XO.go [] 2 [4] [] [(4, vb (decide ((0 : Int) ≤ r1)))] [] [] (by kernel_rfl) trivial ?_
  refine XO.done (by kernel_rfl) ?_
  refine hK2 _ _ ?_
  refine XW.ret (by kernel_rfl) ?_
  obtain rfl := Option.some.inj h
  exact FinP.fin (.inr rfl) [] [vb (decide ((0 : Int) ≤ r1))] [] (by kernel_rfl) trivial (.one (.rfl _ rfl))

def value_fields_2 (p1 : GField) (p2 : GField) : Option (Bool × GField) :=
    some ((p1.name.toList == p2.name.toList), p2)


theorem c_value_fields_2 (p1 : GField) (p2 : GField) (r : (Bool × GField)) (h : value_fields_2 p1 p2 = some r) : MC Tryd.prog 130 [.ag [ci p1.id, cst p1.name, cb p1.need, ci p1.type.kind, ci p1.type.scale, cl eField p1.type.fields], .one (.pt 0 0 0 0)] [.box [ci p2.id, cst p2.name, cb p2.need, ci p2.type.kind, ci p2.type.scale, cl eField p2.type.fields]] (vb r.1) [.box [ci r.2.id, cst r.2.name, cb r.2.need, ci r.2.type.kind, ci r.2.type.scale, cl eField r.2.type.fields]] := by
  unfold value_fields_2 at h
  refine MC.of 1 (n := 9) (fn := Tryd.f130) (c := cd Tryd.f130 []) (by kernel_rfl) (by kernel_rfl) (by kernel_rfl) (Nat.le_of_ble_eq_true rfl) rfl ?_
  refine XW.seq (x := cd Tryd.f130 [0]) (y := cd Tryd.f130 [1]) (by kernel_rfl) fun K1 hK1 => ?_
  refine XW.reg (by kernel_rfl) ?_
  refine XO.go [] 2 [1,2] [] [(1, .one (.pt 0 0 0 0)), (2, .one (.pv (.rp [[pi p1.id, .s (.string p1.name), .s (.bool p1.need), pi p1.type.kind, pi p1.type.scale, .ro (eField.els p1.type.fields)]] 0 0)))] [.box [ci p2.id, cst p2.name, cb p2.need, ci p2.type.kind, ci p2.type.scale, cl eField p2.type.fields]] [] (by kernel_rfl) trivial ?_
  refine XO.done (by kernel_rfl) ?_
  refine hK1 _ _ ?_
  refine XW.seq (x := cd Tryd.f130 [1,0]) (y := cd Tryd.f130 [1,1]) (by kernel_rfl) fun K2 hK2 => ?_
  refine XW.reg (by kernel_rfl) ?_
  refine XO.go [] 6 [3] [[pi p1.id, .s (.string p1.name), .s (.bool p1.need), pi p1.type.kind, pi p1.type.scale, .ro (eField.els p1.type.fields)]] [(3, vb (p1.name.toList == p2.name.toList))] [.box [ci p2.id, cst p2.name, cb p2.need, ci p2.type.kind, ci p2.type.scale, cl eField p2.type.fields]] [([[pi p1.id, .s (.string p1.name), .s (.bool p1.need), pi p1.type.kind, pi p1.type.scale, .ro (eField.els p1.type.fields)]] : List (List PV))[0]? = some [pi p1.id, .s (.string p1.name), .s (.bool p1.need), pi p1.type.kind, pi p1.type.scale, .ro (eField.els p1.type.fields)]] (by kernel_rfl) (⟨rfl, trivial⟩) ?_
  refine XO.done (by kernel_rfl) ?_
  refine hK2 _ _ ?_
  refine XW.ret (by kernel_rfl) ?_
  obtain rfl := Option.some.inj h
  exact FinM.fin (.inr rfl) [] [vb (p1.name.toList == p2.name.toList)] [] (by kernel_rfl) trivial (by kernel_rfl) (by kernel_rfl) (.one (.rfl _ rfl))

def slices_IndexFunc_api_Field_api_Field_of_value_fields_2_j1 (z7 : Int) (z8 : ByteArray) (z9 : Bool) (z10 : Int) (z11 : Int) (z12 : List GField) : Option (Int × GField) :=
    some ((-1 : Int), (FieldP.mk z7 z8 z9 (GType.mk z10 z11 z12)))

def slices_IndexFunc_api_Field_api_Field_of_value_fields_2_l1 (p1 : (List GField)) : Nat → Int → ByteArray → Bool → Int → Int → List GField → Int → Option (Int × GField)
  | 0, _, _, _, _, _, _, _ => none
  | k1 + 1, z1, z2, z3, z4, z5, z6, x1 =>
    ift (decide (x1 < (p1.length : Int)))
      (bnd (at? p1 x1) fun e1 =>
       bnd (value_fields_2 e1 (FieldP.mk z1 z2 z3 (GType.mk z4 z5 z6))) fun r1 =>
       ift r1.1
         (some (x1, r1.2))
         ((slices_IndexFunc_api_Field_api_Field_of_value_fields_2_l1 p1 k1) r1.2.id r1.2.name r1.2.need r1.2.type.kind r1.2.type.scale r1.2.type.fields (IntKind.i64.wrap (x1 + (1 : Int)))))
      (slices_IndexFunc_api_Field_api_Field_of_value_fields_2_j1 z1 z2 z3 z4 z5 z6)

def slices_IndexFunc_api_Field_api_Field_of_value_fields_2 (p1 : (List GField)) (p2 : GField) : Option (Int × GField) :=
    slices_IndexFunc_api_Field_api_Field_of_value_fields_2_l1 p1 BIG p2.id p2.name p2.need p2.type.kind p2.type.scale p2.type.fields (0 : Int)


theorem c_slices_IndexFunc_api_Field_api_Field_of_value_fields_2 (p1 : (List GField)) (p2 : GField) (r : (Int × GField)) (h : slices_IndexFunc_api_Field_api_Field_of_value_fields_2 p1 p2 = some r) : MC Tryd.prog 133 [vl eField p1, .one (.fn 130 [.pt 0 0 0 0])] [.box [ci p2.id, cst p2.name, cb p2.need, ci p2.type.kind, ci p2.type.scale, cl eField p2.type.fields]] (vi r.1) [.box [ci r.2.id, cst r.2.name, cb r.2.need, ci r.2.type.kind, ci r.2.type.scale, cl eField r.2.type.fields]] := by
  unfold slices_IndexFunc_api_Field_api_Field_of_value_fields_2 at h
  refine MC.of 1 (n := 19) (fn := Tryd.f133) (c := cd Tryd.f133 []) (by kernel_rfl) (by kernel_rfl) (by kernel_rfl) (Nat.le_of_ble_eq_true rfl) rfl ?_
  refine XW.seq (x := cd Tryd.f133 [0]) (y := cd Tryd.f133 [1]) (by kernel_rfl) fun K1 hK1 => ?_
  refine XW.reg (by kernel_rfl) ?_
  refine XO.go [] 1 [0,1] [] [(0, vl eField p1), (1, .one (.fn 130 [.pt 0 0 0 0]))] [.box [ci p2.id, cst p2.name, cb p2.need, ci p2.type.kind, ci p2.type.scale, cl eField p2.type.fields]] [] (by kernel_rfl) trivial ?_
  refine XO.done (by kernel_rfl) ?_
  refine hK1 _ _ ?_
  refine XW.seq (x := cd Tryd.f133 [1,0]) (y := cd Tryd.f133 [1,1]) (by kernel_rfl) fun K2 hK2 => ?_
  have hJ1 : ∀ (z7 : Int) (z8 : ByteArray) (z9 : Bool) (z10 : Int) (z11 : Int) (z12 : List GField), slices_IndexFunc_api_Field_api_Field_of_value_fields_2_j1 z7 z8 z9 z10 z11 z12 = some r → ∀ fr1 st1, Sub 19 1 [] fr1 st1 [] [.box [ci z7, cst z8, cb z9, ci z10, ci z11, cl eField z12]] → K2 fr1 st1 := by
    intro z7 z8 z9 z10 z11 z12 h fr1 st1 hS
    unfold slices_IndexFunc_api_Field_api_Field_of_value_fields_2_j1 at h
    refine hK2 _ _ (XW.sub hS ?_)
    refine XW.seq (x := cd Tryd.f133 [1,1,0]) (y := cd Tryd.f133 [1,1,1]) (by kernel_rfl) fun K14 hK14 => ?_
    refine XW.reg (by kernel_rfl) ?_
    refine XO.go [] 1 [4] [] [(4, vi (-1 : Int))] [.box [ci z7, cst z8, cb z9, ci z10, ci z11, cl eField z12]] [] (by kernel_rfl) trivial ?_
    refine XO.done (by kernel_rfl) ?_
    refine hK14 _ _ ?_
    refine XW.ret (by kernel_rfl) ?_
    obtain rfl := Option.some.inj h
    exact FinM.fin (.inr rfl) [] [vi (-1 : Int)] [] (by kernel_rfl) trivial (by kernel_rfl) (by kernel_rfl) (.one (.rfl _ rfl))
  refine XW.seq (x := cd Tryd.f133 [1,0,0]) (y := cd Tryd.f133 [1,0,1]) (by kernel_rfl) fun K3 hK3 => ?_
  refine XW.reg (by kernel_rfl) ?_
  refine XO.go [] 2 [0,1,7] [] [(0, vl eField p1), (1, .one (.fn 130 [.pt 0 0 0 0])), (7, vi ((eField.els p1).length : Int))] [.box [ci p2.id, cst p2.name, cb p2.need, ci p2.type.kind, ci p2.type.scale, cl eField p2.type.fields]] [] (by kernel_rfl) trivial ?_
  rw [eField.len p1]
  refine XO.go [] 1 [0,1,7,8] [] [(0, vl eField p1), (1, .one (.fn 130 [.pt 0 0 0 0])), (7, vi (p1.length : Int)), (8, vi (0 : Int))] [.box [ci p2.id, cst p2.name, cb p2.need, ci p2.type.kind, ci p2.type.scale, cl eField p2.type.fields]] [] (by kernel_rfl) trivial ?_
  refine XO.done (by kernel_rfl) ?_
  refine hK3 _ _ ?_
  refine XW.block (id := 0) (x := cd Tryd.f133 [1,0,1,0]) (by kernel_rfl) ?_
  refine XW.rounds' BIG (x := cd Tryd.f133 [1,0,1,0,0]) (by kernel_rfl) fun Q1 hQ1 => ?_
  have hL1 : ∀ (k1 : Nat) (z1 : Int) (z2 : ByteArray) (z3 : Bool) (z4 : Int) (z5 : Int) (z6 : List GField) (x1 : Int), slices_IndexFunc_api_Field_api_Field_of_value_fields_2_l1 p1 k1 z1 z2 z3 z4 z5 z6 x1 = some r → XR Tryd.prog 19 1 [] (cd Tryd.f133 [1,0,1,0,0]) Q1 k1 [(0, vl eField p1), (1, .one (.fn 130 [.pt 0 0 0 0])), (7, vi (p1.length : Int)), (8, vi x1)] [.box [ci z1, cst z2, cb z3, ci z4, ci z5, cl eField z6]] := by
    intro k1
    induction k1 with
    | zero => intro z1 z2 z3 z4 z5 z6 x1 h; rw [slices_IndexFunc_api_Field_api_Field_of_value_fields_2_l1.eq_1] at h; cases h
    | succ k1 ih1 =>
      intro z1 z2 z3 z4 z5 z6 x1 h
      rw [slices_IndexFunc_api_Field_api_Field_of_value_fields_2_l1.eq_2] at h
      refine XW.seq (x := cd Tryd.f133 [1,0,1,0,0,0]) (y := cd Tryd.f133 [1,0,1,0,0,1]) (by kernel_rfl) fun K4 hK4 => ?_
      refine XW.reg (by kernel_rfl) ?_
      refine XO.go [] 1 [0,1,7,8,9] [] [(0, vl eField p1), (1, .one (.fn 130 [.pt 0 0 0 0])), (7, vi (p1.length : Int)), (8, vi x1), (9, vb (decide (x1 < (p1.length : Int))))] [.box [ci z1, cst z2, cb z3, ci z4, ci z5, cl eField z6]] [] (by kernel_rfl) trivial ?_
      refine XO.done (by kernel_rfl) ?_
      refine hK4 _ _ ?_
      refine XW.seq (x := cd Tryd.f133 [1,0,1,0,0,1,0]) (y := cd Tryd.f133 [1,0,1,0,0,1,1]) (by kernel_rfl) fun K5 hK5 => ?_
      refine XW.cond (x := .tmp 9) (a := cd Tryd.f133 [1,0,1,0,0,1,0,0]) (b := cd Tryd.f133 [1,0,1,0,0,1,0,1]) (t := (decide (x1 < (p1.length : Int)))) (by kernel_rfl) (by kernel_rfl) (fun b6 => ?_) (fun b6 => ?_)
      · have h := ift_t b6 h
        refine XW.skip (by kernel_rfl) ?_
        refine hK5 _ _ ?_
        refine XW.seq (x := cd Tryd.f133 [1,0,1,0,0,1,1,0]) (y := cd Tryd.f133 [1,0,1,0,0,1,1,1]) (by kernel_rfl) fun K7 hK7 => ?_
        refine XW.block (id := 1) (x := cd Tryd.f133 [1,0,1,0,0,1,1,0,0]) (by kernel_rfl) ?_
        refine XW.seq (x := cd Tryd.f133 [1,0,1,0,0,1,1,0,0,0]) (y := cd Tryd.f133 [1,0,1,0,0,1,1,0,0,1]) (by kernel_rfl) fun K8 hK8 => ?_
        refine XW.reg (by kernel_rfl) ?_
        refine XO.go [] 2 [0,1,5,7,8] [] [(0, vl eField p1), (1, .one (.fn 130 [.pt 0 0 0 0])), (5, vi x1), (7, vi (p1.length : Int)), (8, vi x1)] [.box [ci z1, cst z2, cb z3, ci z4, ci z5, cl eField z6]] [] (by kernel_rfl) trivial ?_
        refine XO.done (by kernel_rfl) ?_
        refine hK8 _ _ ?_
        refine XW.seq (x := cd Tryd.f133 [1,0,1,0,0,1,1,0,0,1,0]) (y := cd Tryd.f133 [1,0,1,0,0,1,1,0,0,1,1]) (by kernel_rfl) fun K9 hK9 => ?_
        obtain ⟨e1, a10, h⟩ := bnd_some h
        obtain ⟨r1, c11, h⟩ := bnd_some h
        refine XW.reg (by kernel_rfl) ?_
        refine XO.go [] 5 [0,1,5,7,8,11,15] [[pi e1.id, .s (.string e1.name), .s (.bool e1.need), pi e1.type.kind, pi e1.type.scale, .ro (eField.els e1.type.fields)]] [(0, vl eField p1), (1, .one (.fn 130 [.pt 0 0 0 0])), (5, vi x1), (7, vi (p1.length : Int)), (8, vi x1), (11, .one (.fn 130 [.pt 0 0 0 0])), (15, .ag [ci e1.id, cst e1.name, cb e1.need, ci e1.type.kind, ci e1.type.scale, cl eField e1.type.fields])] [.box [ci z1, cst z2, cb z3, ci z4, ci z5, cl eField z6]] [0 ≤ x1 ∧ x1 < ((eField.els p1).length : Int) ∧ elemsOk 6 (eField.els p1), (eField.els p1)[x1.toNat]? = some [pi e1.id, .s (.string e1.name), .s (.bool e1.need), pi e1.type.kind, pi e1.type.scale, .ro (eField.els e1.type.fields)]] (by kernel_rfl) (⟨eField.inb a10, ((eField.get a10).trans (by rcases e1 with ⟨_, _, _, ⟨_, _, _⟩⟩; rfl)), trivial⟩) ?_
        refine XO.calm 130 [.ag [ci e1.id, cst e1.name, cb e1.need, ci e1.type.kind, ci e1.type.scale, cl eField e1.type.fields], .one (.pt 0 0 0 0)] [.box [ci z1, cst z2, cb z3, ci z4, ci z5, cl eField z6]] [.box [ci r1.2.id, cst r1.2.name, cb r1.2.need, ci r1.2.type.kind, ci r1.2.type.scale, cl eField r1.2.type.fields]] (vb r1.1) [0] [(16, vb r1.1), (0, vl eField p1), (1, .one (.fn 130 [.pt 0 0 0 0])), (5, vi x1), (7, vi (p1.length : Int)), (8, vi x1), (11, .one (.fn 130 [.pt 0 0 0 0])), (15, .ag [ci e1.id, cst e1.name, cb e1.need, ci e1.type.kind, ci e1.type.scale, cl eField e1.type.fields])] [.box [ci r1.2.id, cst r1.2.name, cb r1.2.need, ci r1.2.type.kind, ci r1.2.type.scale, cl eField r1.2.type.fields]] (by kernel_rfl) (c_value_fields_2 _ _ _ c11) (by kernel_rfl) (by kernel_rfl) (by kernel_rfl) (by kernel_rfl) ?_
        refine XO.done (by kernel_rfl) ?_
        refine hK9 _ _ ?_
        refine XW.cond (x := .tmp 16) (a := cd Tryd.f133 [1,0,1,0,0,1,1,0,0,1,1,0]) (b := cd Tryd.f133 [1,0,1,0,0,1,1,0,0,1,1,1]) (t := r1.1) (by kernel_rfl) (by kernel_rfl) (fun b12 => ?_) (fun b12 => ?_)
        · have h := ift_t b12 h
          refine XW.seq (x := cd Tryd.f133 [1,0,1,0,0,1,1,0,0,1,1,0,0]) (y := cd Tryd.f133 [1,0,1,0,0,1,1,0,0,1,1,0,1]) (by kernel_rfl) fun K13 hK13 => ?_
          refine XW.reg (by kernel_rfl) ?_
          refine XO.go [] 2 [4] [] [(4, vi x1)] [.box [ci r1.2.id, cst r1.2.name, cb r1.2.need, ci r1.2.type.kind, ci r1.2.type.scale, cl eField r1.2.type.fields]] [] (by kernel_rfl) trivial ?_
          refine XO.done (by kernel_rfl) ?_
          refine hK13 _ _ ?_
          refine XW.ret (by kernel_rfl) ?_
          refine hQ1 _ _ _ ?_
          obtain rfl := Option.some.inj h
          exact FinM.fin (.inr rfl) [] [vi x1] [] (by kernel_rfl) trivial (by kernel_rfl) (by kernel_rfl) (.one (.rfl _ rfl))
        · have h := ift_f b12 h
          refine XW.skip (by kernel_rfl) ?_
          refine hK7 _ _ ?_
          refine XW.reg (by kernel_rfl) ?_
          refine XO.go [] 2 [0,1,7,8] [] [(0, vl eField p1), (1, .one (.fn 130 [.pt 0 0 0 0])), (7, vi (p1.length : Int)), (8, vi (IntKind.i64.wrap (x1 + (1 : Int))))] [.box [ci r1.2.id, cst r1.2.name, cb r1.2.need, ci r1.2.type.kind, ci r1.2.type.scale, cl eField r1.2.type.fields]] [] (by kernel_rfl) trivial ?_
          refine XO.done (by kernel_rfl) ?_
          exact XR.sub (Sub.pick [0,1,7,8] (by kernel_rfl)) (ih1 r1.2.id r1.2.name r1.2.need r1.2.type.kind r1.2.type.scale r1.2.type.fields (IntKind.i64.wrap (x1 + (1 : Int))) h)
      · have h := ift_f b6 h
        refine XW.exit (id := 0) (by kernel_rfl) ?_
        refine hQ1 _ _ _ ?_
        exact hJ1 z1 z2 z3 z4 z5 z6 h _ _ (Sub.pick [] (by kernel_rfl))
  exact XR.sub (Sub.pick [0,1,7,8] (by kernel_rfl)) (hL1 BIG p2.id p2.name p2.need p2.type.kind p2.type.scale p2.type.fields (0 : Int) h)

def slices_ContainsFunc_api_Field_api_Field_of_value_fields_2 (p1 : (List GField)) (p2 : GField) : Option (Bool × GField) :=
    bnd (slices_IndexFunc_api_Field_api_Field_of_value_fields_2 p1 p2) fun r1 =>
    some ((decide ((0 : Int) ≤ r1.1)), r1.2)


theorem c_slices_ContainsFunc_api_Field_api_Field_of_value_fields_2 (p1 : (List GField)) (p2 : GField) (r : (Bool × GField)) (h : slices_ContainsFunc_api_Field_api_Field_of_value_fields_2 p1 p2 = some r) : MC Tryd.prog 127 [vl eField p1, .one (.fn 130 [.pt 0 0 0 0])] [.box [ci p2.id, cst p2.name, cb p2.need, ci p2.type.kind, ci p2.type.scale, cl eField p2.type.fields]] (vb r.1) [.box [ci r.2.id, cst r.2.name, cb r.2.need, ci r.2.type.kind, ci r.2.type.scale, cl eField r.2.type.fields]] := by
  unfold slices_ContainsFunc_api_Field_api_Field_of_value_fields_2 at h
  refine MC.of 1 (n := 9) (fn := Tryd.f127) (c := cd Tryd.f127 []) (by kernel_rfl) (by kernel_rfl) (by kernel_rfl) (Nat.le_of_ble_eq_true rfl) rfl ?_
  refine XW.seq (x := cd Tryd.f127 [0]) (y := cd Tryd.f127 [1]) (by kernel_rfl) fun K1 hK1 => ?_
  refine XW.reg (by kernel_rfl) ?_
  refine XO.go [] 1 [0,1] [] [(0, vl eField p1), (1, .one (.fn 130 [.pt 0 0 0 0]))] [.box [ci p2.id, cst p2.name, cb p2.need, ci p2.type.kind, ci p2.type.scale, cl eField p2.type.fields]] [] (by kernel_rfl) trivial ?_
  refine XO.done (by kernel_rfl) ?_
  refine hK1 _ _ ?_
  refine XW.seq (x := cd Tryd.f127 [1,0]) (y := cd Tryd.f127 [1,1]) (by kernel_rfl) fun K2 hK2 => ?_
  obtain ⟨r1, c3, h⟩ := bnd_some h
  refine XW.reg (by kernel_rfl) ?_
  refine XO.go [] 2 [5,6] [] [(5, vl eField p1), (6, .one (.fn 130 [.pt 0 0 0 0]))] [.box [ci p2.id, cst p2.name, cb p2.need, ci p2.type.kind, ci p2.type.scale, cl eField p2.type.fields]] [] (by kernel_rfl) trivial ?_
  refine XO.calm 133 [vl eField p1, .one (.fn 130 [.pt 0 0 0 0])] [.box [ci p2.id, cst p2.name, cb p2.need, ci p2.type.kind, ci p2.type.scale, cl eField p2.type.fields]] [.box [ci r1.2.id, cst r1.2.name, cb r1.2.need, ci r1.2.type.kind, ci r1.2.type.scale, cl eField r1.2.type.fields]] (vi r1.1) [0] [(7, vi r1.1), (5, vl eField p1), (6, .one (.fn 130 [.pt 0 0 0 0]))] [.box [ci r1.2.id, cst r1.2.name, cb r1.2.need, ci r1.2.type.kind, ci r1.2.type.scale, cl eField r1.2.type.fields]] (by kernel_rfl) (c_slices_IndexFunc_api_Field_api_Field_of_value_fields_2 _ _ _ c3) (by kernel_rfl) (by kernel_rfl) (by kernel_rfl) (by kernel_rfl) ?_
  refine XO.go [] 2 [4] [] [(4, vb (decide ((0 : Int) ≤ r1.1)))] [.box [ci r1.2.id, cst r1.2.name, cb r1.2.need, ci r1.2.type.kind, ci r1.2.type.scale, cl eField r1.2.type.fields]] [] (by kernel_rfl) trivial ?_
  refine XO.done (by kernel_rfl) ?_
  refine hK2 _ _ ?_
  refine XW.ret (by kernel_rfl) ?_
  obtain rfl := Option.some.inj h
  exact FinM.fin (.inr rfl) [] [vb (decide ((0 : Int) ≤ r1.1))] [] (by kernel_rfl) trivial (by kernel_rfl) (by kernel_rfl) (.one (.rfl _ rfl))

def value_fields_j1 (x1 : Bool) : Option Int :=
    ift x1
      (some (1 : Int))
      (some (0 : Int))

def value_fields_j2 : Option Int :=
    some (0 : Int)

def value_fields_l1 (p1 : GType) : Nat → Int → Option Int
  | 0, _ => none
  | k1 + 1, x2 =>
    ift (decide (x2 < (p1.fields.length : Int)))
      (bnd (at? p1.fields x2) fun e2 =>
       grd (0 ≤ (0 : Int) ∧ (0 : Int) ≤ x2 ∧ x2 ≤ (p1.fields.length : Int)) <|
       bnd (slices_ContainsFunc_api_Field_api_Field_of_value_fields_2 ((p1.fields.drop (0 : Int).toNat).take (x2.toNat - (0 : Int).toNat)) e2) fun r2 =>
       ift r2.1
         (some (5 : Int))
         ((value_fields_l1 p1 k1) (IntKind.i64.wrap (x2 + (1 : Int)))))
      (value_fields_j2)

def value_fields (p1 : GType) : Option Int :=
    ift (p1.kind == (6 : Int))
      (ift ((p1.fields.length : Int) != (1 : Int))
         (value_fields_j1 true)
         (bnd (at? p1.fields (0 : Int)) fun e1 =>
          value_fields_j1 (!(e1.name.toList == (ByteArray.mk #[]).toList))))
      (ift (p1.kind != (7 : Int))
         (ift (decide ((0 : Int) < (p1.fields.length : Int)))
            (some (1 : Int))
            (some (0 : Int)))
         (ift ((p1.fields.length : Int) == (0 : Int))
            (some (1 : Int))
            (bnd (slices_ContainsFunc_api_Field_api_Field_of_value_fields_1 p1.fields) fun r1 =>
             ift r1
               (some (4 : Int))
               (value_fields_l1 p1 BIG (0 : Int)))))


theorem c_value_fields (p1 : GType) (r : Int) (h : value_fields p1 = some r) : PC Tryd.prog 117 [.ag [ci p1.kind, ci p1.scale, cl eField p1.fields]] (vi r) := by
  unfold value_fields at h
  refine PC.of (n := 52) (fn := Tryd.f117) (c := cd Tryd.f117 []) (by kernel_rfl) (by kernel_rfl) (by kernel_rfl) (Nat.le_of_ble_eq_true rfl) ?_
  refine XW.seq (x := cd Tryd.f117 [0]) (y := cd Tryd.f117 [1]) (by kernel_rfl) fun K1 hK1 => ?_
  refine XW.reg (by kernel_rfl) ?_
  refine XO.go [4] 2 [1] [] [(1, .one (.pv (.rp [[pi p1.kind, pi p1.scale, .ro (eField.els p1.fields)]] 0 0)))] [] [] (by kernel_rfl) trivial ?_
  refine XO.done (by kernel_rfl) ?_
  refine hK1 _ _ ?_
  refine XW.seq (x := cd Tryd.f117 [1,0]) (y := cd Tryd.f117 [1,1]) (by kernel_rfl) fun K2 hK2 => ?_
  refine XW.block (id := 0) (x := cd Tryd.f117 [1,0,0]) (by kernel_rfl) ?_
  refine XW.seq (x := cd Tryd.f117 [1,0,0,0]) (y := cd Tryd.f117 [1,0,0,1]) (by kernel_rfl) fun K3 hK3 => ?_
  refine XW.reg (by kernel_rfl) ?_
  refine XO.go [4] 4 [1,5] [[pi p1.kind, pi p1.scale, .ro (eField.els p1.fields)]] [(1, .one (.pv (.rp [[pi p1.kind, pi p1.scale, .ro (eField.els p1.fields)]] 0 0))), (5, vb (p1.kind == (6 : Int)))] [] [([[pi p1.kind, pi p1.scale, .ro (eField.els p1.fields)]] : List (List PV))[0]? = some [pi p1.kind, pi p1.scale, .ro (eField.els p1.fields)]] (by kernel_rfl) (⟨rfl, trivial⟩) ?_
  refine XO.done (by kernel_rfl) ?_
  refine hK3 _ _ ?_
  refine XW.cond (x := .tmp 5) (a := cd Tryd.f117 [1,0,0,1,0]) (b := cd Tryd.f117 [1,0,0,1,1]) (t := (p1.kind == (6 : Int))) (by kernel_rfl) (by kernel_rfl) (fun b4 => ?_) (fun b4 => ?_)
  · have h := ift_t b4 h
    refine XW.seq (x := cd Tryd.f117 [1,0,0,1,0,0]) (y := cd Tryd.f117 [1,0,0,1,0,1]) (by kernel_rfl) fun K5 hK5 => ?_
    refine XW.seq (x := cd Tryd.f117 [1,0,0,1,0,0,0]) (y := cd Tryd.f117 [1,0,0,1,0,0,1]) (by kernel_rfl) fun K6 hK6 => ?_
    have hJ1 : ∀ (x1 : Bool), value_fields_j1 x1 = some r → ∀ fr1 st1, Sub 52 0 [] fr1 st1 [(20, vb x1)] [] → K6 fr1 st1 := by
      intro x1 h fr1 st1 hS
      unfold value_fields_j1 at h
      refine hK6 _ _ (XW.sub hS ?_)
      refine XW.cond (x := .tmp 20) (a := cd Tryd.f117 [1,0,0,1,0,0,1,0]) (b := cd Tryd.f117 [1,0,0,1,0,0,1,1]) (t := x1) (by kernel_rfl) (by kernel_rfl) (fun b9 => ?_) (fun b9 => ?_)
      · have h := ift_t b9 h
        refine XW.seq (x := cd Tryd.f117 [1,0,0,1,0,0,1,0,0]) (y := cd Tryd.f117 [1,0,0,1,0,0,1,0,1]) (by kernel_rfl) fun K10 hK10 => ?_
        refine XW.reg (by kernel_rfl) ?_
        refine XO.go [4] 1 [2] [] [(2, vi (1 : Int))] [] [] (by kernel_rfl) trivial ?_
        refine XO.done (by kernel_rfl) ?_
        refine hK10 _ _ ?_
        refine XW.ret (by kernel_rfl) ?_
        obtain rfl := Option.some.inj h
        exact FinP.fin (.inr rfl) [] [vi (1 : Int)] [] (by kernel_rfl) trivial (.one (.rfl _ rfl))
      · have h := ift_f b9 h
        refine XW.skip (by kernel_rfl) ?_
        refine hK5 _ _ ?_
        refine XW.seq (x := cd Tryd.f117 [1,0,0,1,0,1,0]) (y := cd Tryd.f117 [1,0,0,1,0,1,1]) (by kernel_rfl) fun K11 hK11 => ?_
        refine XW.reg (by kernel_rfl) ?_
        refine XO.go [4] 1 [2] [] [(2, vi (0 : Int))] [] [] (by kernel_rfl) trivial ?_
        refine XO.done (by kernel_rfl) ?_
        refine hK11 _ _ ?_
        refine XW.ret (by kernel_rfl) ?_
        obtain rfl := Option.some.inj h
        exact FinP.fin (.inr rfl) [] [vi (0 : Int)] [] (by kernel_rfl) trivial (.one (.rfl _ rfl))
    rcases Bool.eq_false_or_eq_true ((p1.fields.length : Int) != (1 : Int)) with b7 | b7
    · have h := ift_t b7 h
      refine XW.reg (by kernel_rfl) ?_
      refine XO.go [4] 3 [1,11] [[pi p1.kind, pi p1.scale, .ro (eField.els p1.fields)]] [(1, .one (.pv (.rp [[pi p1.kind, pi p1.scale, .ro (eField.els p1.fields)]] 0 0))), (11, vi ((eField.els p1.fields).length : Int))] [] [([[pi p1.kind, pi p1.scale, .ro (eField.els p1.fields)]] : List (List PV))[0]? = some [pi p1.kind, pi p1.scale, .ro (eField.els p1.fields)]] (by kernel_rfl) (⟨rfl, trivial⟩) ?_
      rw [eField.len p1.fields]
      refine XO.go [4] 2 [1,13] [] [(1, .one (.pv (.rp [[pi p1.kind, pi p1.scale, .ro (eField.els p1.fields)]] 0 0))), (13, vb ((p1.fields.length : Int) != (1 : Int)))] [] [] (by kernel_rfl) trivial ?_
      refine XO.setb 13 true (B := ((p1.fields.length : Int) != (1 : Int))) rfl b7 ?_
      refine XO.go [4] 7 [20] [] [(20, vb true)] [] [] (by kernel_rfl) trivial ?_
      refine XO.done (by kernel_rfl) ?_
      exact hJ1 true h _ _ (Sub.pick [20] (by kernel_rfl))
    · have h := ift_f b7 h
      obtain ⟨e1, a8, h⟩ := bnd_some h
      refine XW.reg (by kernel_rfl) ?_
      refine XO.go [4] 3 [1,11] [[pi p1.kind, pi p1.scale, .ro (eField.els p1.fields)]] [(1, .one (.pv (.rp [[pi p1.kind, pi p1.scale, .ro (eField.els p1.fields)]] 0 0))), (11, vi ((eField.els p1.fields).length : Int))] [] [([[pi p1.kind, pi p1.scale, .ro (eField.els p1.fields)]] : List (List PV))[0]? = some [pi p1.kind, pi p1.scale, .ro (eField.els p1.fields)]] (by kernel_rfl) (⟨rfl, trivial⟩) ?_
      rw [eField.len p1.fields]
      refine XO.go [4] 2 [1,13] [] [(1, .one (.pv (.rp [[pi p1.kind, pi p1.scale, .ro (eField.els p1.fields)]] 0 0))), (13, vb ((p1.fields.length : Int) != (1 : Int)))] [] [] (by kernel_rfl) trivial ?_
      refine XO.setb 13 false (B := ((p1.fields.length : Int) != (1 : Int))) rfl b7 ?_
      refine XO.go [4] 7 [20] [[pi p1.kind, pi p1.scale, .ro (eField.els p1.fields)], [pi e1.id, .s (.string e1.name), .s (.bool e1.need), pi e1.type.kind, pi e1.type.scale, .ro (eField.els e1.type.fields)]] [(20, vb (!(e1.name.toList == (ByteArray.mk #[]).toList)))] [] [([[pi p1.kind, pi p1.scale, .ro (eField.els p1.fields)]] : List (List PV))[0]? = some [pi p1.kind, pi p1.scale, .ro (eField.els p1.fields)], 0 ≤ (0 : Int) ∧ (0 : Int) < ((eField.els p1.fields).length : Int) ∧ elemsOk 6 (eField.els p1.fields), (eField.els p1.fields)[(0 : Int).toNat]? = some [pi e1.id, .s (.string e1.name), .s (.bool e1.need), pi e1.type.kind, pi e1.type.scale, .ro (eField.els e1.type.fields)]] (by kernel_rfl) (⟨rfl, eField.inb a8, ((eField.get a8).trans (by rcases e1 with ⟨_, _, _, ⟨_, _, _⟩⟩; rfl)), trivial⟩) ?_
      refine XO.done (by kernel_rfl) ?_
      exact hJ1 (!(e1.name.toList == (ByteArray.mk #[]).toList)) h _ _ (Sub.pick [20] (by kernel_rfl))
  · have h := ift_f b4 h
    refine XW.seq (x := cd Tryd.f117 [1,0,0,1,1,0]) (y := cd Tryd.f117 [1,0,0,1,1,1]) (by kernel_rfl) fun K12 hK12 => ?_
    refine XW.reg (by kernel_rfl) ?_
    refine XO.go [4] 4 [1,21] [[pi p1.kind, pi p1.scale, .ro (eField.els p1.fields)]] [(1, .one (.pv (.rp [[pi p1.kind, pi p1.scale, .ro (eField.els p1.fields)]] 0 0))), (21, vb (p1.kind != (7 : Int)))] [] [([[pi p1.kind, pi p1.scale, .ro (eField.els p1.fields)]] : List (List PV))[0]? = some [pi p1.kind, pi p1.scale, .ro (eField.els p1.fields)]] (by kernel_rfl) (⟨rfl, trivial⟩) ?_
    refine XO.done (by kernel_rfl) ?_
    refine hK12 _ _ ?_
    refine XW.cond (x := .tmp 21) (a := cd Tryd.f117 [1,0,0,1,1,1,0]) (b := cd Tryd.f117 [1,0,0,1,1,1,1]) (t := (p1.kind != (7 : Int))) (by kernel_rfl) (by kernel_rfl) (fun b13 => ?_) (fun b13 => ?_)
    · have h := ift_t b13 h
      refine XW.seq (x := cd Tryd.f117 [1,0,0,1,1,1,0,0]) (y := cd Tryd.f117 [1,0,0,1,1,1,0,1]) (by kernel_rfl) fun K14 hK14 => ?_
      refine XW.seq (x := cd Tryd.f117 [1,0,0,1,1,1,0,0,0]) (y := cd Tryd.f117 [1,0,0,1,1,1,0,0,1]) (by kernel_rfl) fun K15 hK15 => ?_
      refine XW.reg (by kernel_rfl) ?_
      refine XO.go [4] 3 [27] [[pi p1.kind, pi p1.scale, .ro (eField.els p1.fields)]] [(27, vi ((eField.els p1.fields).length : Int))] [] [([[pi p1.kind, pi p1.scale, .ro (eField.els p1.fields)]] : List (List PV))[0]? = some [pi p1.kind, pi p1.scale, .ro (eField.els p1.fields)]] (by kernel_rfl) (⟨rfl, trivial⟩) ?_
      rw [eField.len p1.fields]
      refine XO.go [4] 1 [28] [] [(28, vb (decide ((0 : Int) < (p1.fields.length : Int))))] [] [] (by kernel_rfl) trivial ?_
      refine XO.done (by kernel_rfl) ?_
      refine hK15 _ _ ?_
      refine XW.cond (x := .tmp 28) (a := cd Tryd.f117 [1,0,0,1,1,1,0,0,1,0]) (b := cd Tryd.f117 [1,0,0,1,1,1,0,0,1,1]) (t := (decide ((0 : Int) < (p1.fields.length : Int)))) (by kernel_rfl) (by kernel_rfl) (fun b16 => ?_) (fun b16 => ?_)
      · have h := ift_t b16 h
        refine XW.seq (x := cd Tryd.f117 [1,0,0,1,1,1,0,0,1,0,0]) (y := cd Tryd.f117 [1,0,0,1,1,1,0,0,1,0,1]) (by kernel_rfl) fun K17 hK17 => ?_
        refine XW.reg (by kernel_rfl) ?_
        refine XO.go [4] 1 [2] [] [(2, vi (1 : Int))] [] [] (by kernel_rfl) trivial ?_
        refine XO.done (by kernel_rfl) ?_
        refine hK17 _ _ ?_
        refine XW.ret (by kernel_rfl) ?_
        obtain rfl := Option.some.inj h
        exact FinP.fin (.inr rfl) [] [vi (1 : Int)] [] (by kernel_rfl) trivial (.one (.rfl _ rfl))
      · have h := ift_f b16 h
        refine XW.skip (by kernel_rfl) ?_
        refine hK14 _ _ ?_
        refine XW.seq (x := cd Tryd.f117 [1,0,0,1,1,1,0,1,0]) (y := cd Tryd.f117 [1,0,0,1,1,1,0,1,1]) (by kernel_rfl) fun K18 hK18 => ?_
        refine XW.reg (by kernel_rfl) ?_
        refine XO.go [4] 1 [2] [] [(2, vi (0 : Int))] [] [] (by kernel_rfl) trivial ?_
        refine XO.done (by kernel_rfl) ?_
        refine hK18 _ _ ?_
        refine XW.ret (by kernel_rfl) ?_
        obtain rfl := Option.some.inj h
        exact FinP.fin (.inr rfl) [] [vi (0 : Int)] [] (by kernel_rfl) trivial (.one (.rfl _ rfl))
    · have h := ift_f b13 h
      refine XW.seq (x := cd Tryd.f117 [1,0,0,1,1,1,1,0]) (y := cd Tryd.f117 [1,0,0,1,1,1,1,1]) (by kernel_rfl) fun K19 hK19 => ?_
      refine XW.reg (by kernel_rfl) ?_
      refine XO.go [4] 3 [1,32] [[pi p1.kind, pi p1.scale, .ro (eField.els p1.fields)]] [(1, .one (.pv (.rp [[pi p1.kind, pi p1.scale, .ro (eField.els p1.fields)]] 0 0))), (32, vi ((eField.els p1.fields).length : Int))] [] [([[pi p1.kind, pi p1.scale, .ro (eField.els p1.fields)]] : List (List PV))[0]? = some [pi p1.kind, pi p1.scale, .ro (eField.els p1.fields)]] (by kernel_rfl) (⟨rfl, trivial⟩) ?_
      rw [eField.len p1.fields]
      refine XO.go [4] 2 [1,29] [] [(1, .one (.pv (.rp [[pi p1.kind, pi p1.scale, .ro (eField.els p1.fields)]] 0 0))), (29, vb ((p1.fields.length : Int) == (0 : Int)))] [] [] (by kernel_rfl) trivial ?_
      refine XO.done (by kernel_rfl) ?_
      refine hK19 _ _ ?_
      refine XW.cond (x := .tmp 29) (a := cd Tryd.f117 [1,0,0,1,1,1,1,1,0]) (b := cd Tryd.f117 [1,0,0,1,1,1,1,1,1]) (t := ((p1.fields.length : Int) == (0 : Int))) (by kernel_rfl) (by kernel_rfl) (fun b20 => ?_) (fun b20 => ?_)
      · have h := ift_t b20 h
        refine XW.seq (x := cd Tryd.f117 [1,0,0,1,1,1,1,1,0,0]) (y := cd Tryd.f117 [1,0,0,1,1,1,1,1,0,1]) (by kernel_rfl) fun K21 hK21 => ?_
        refine XW.reg (by kernel_rfl) ?_
        refine XO.go [4] 1 [2] [] [(2, vi (1 : Int))] [] [] (by kernel_rfl) trivial ?_
        refine XO.done (by kernel_rfl) ?_
        refine hK21 _ _ ?_
        refine XW.ret (by kernel_rfl) ?_
        obtain rfl := Option.some.inj h
        exact FinP.fin (.inr rfl) [] [vi (1 : Int)] [] (by kernel_rfl) trivial (.one (.rfl _ rfl))
      · have h := ift_f b20 h
        refine XW.skip (by kernel_rfl) ?_
        refine hK2 _ _ ?_
        refine XW.seq (x := cd Tryd.f117 [1,1,0]) (y := cd Tryd.f117 [1,1,1]) (by kernel_rfl) fun K22 hK22 => ?_
        refine XW.seq (x := cd Tryd.f117 [1,1,0,0]) (y := cd Tryd.f117 [1,1,0,1]) (by kernel_rfl) fun K23 hK23 => ?_
        obtain ⟨r1, c24, h⟩ := bnd_some h
        refine XW.reg (by kernel_rfl) ?_
        refine XO.go [4] 2 [1,35] [[pi p1.kind, pi p1.scale, .ro (eField.els p1.fields)]] [(1, .one (.pv (.rp [[pi p1.kind, pi p1.scale, .ro (eField.els p1.fields)]] 0 0))), (35, vl eField p1.fields)] [] [([[pi p1.kind, pi p1.scale, .ro (eField.els p1.fields)]] : List (List PV))[0]? = some [pi p1.kind, pi p1.scale, .ro (eField.els p1.fields)]] (by kernel_rfl) (⟨rfl, trivial⟩) ?_
        refine XO.cal 127 [vl eField p1.fields, .one (.pv (.fn 128 []))] (vb r1) [(36, vb r1), (1, .one (.pv (.rp [[pi p1.kind, pi p1.scale, .ro (eField.els p1.fields)]] 0 0))), (35, vl eField p1.fields)] (by kernel_rfl) (c_slices_ContainsFunc_api_Field_api_Field_of_value_fields_1 _ _ c24) rfl rfl (by kernel_rfl) ?_
        refine XO.done (by kernel_rfl) ?_
        refine hK23 _ _ ?_
        refine XW.cond (x := .tmp 36) (a := cd Tryd.f117 [1,1,0,1,0]) (b := cd Tryd.f117 [1,1,0,1,1]) (t := r1) (by kernel_rfl) (by kernel_rfl) (fun b25 => ?_) (fun b25 => ?_)
        · have h := ift_t b25 h
          refine XW.seq (x := cd Tryd.f117 [1,1,0,1,0,0]) (y := cd Tryd.f117 [1,1,0,1,0,1]) (by kernel_rfl) fun K26 hK26 => ?_
          refine XW.reg (by kernel_rfl) ?_
          refine XO.go [4] 1 [2] [] [(2, vi (4 : Int))] [] [] (by kernel_rfl) trivial ?_
          refine XO.done (by kernel_rfl) ?_
          refine hK26 _ _ ?_
          refine XW.ret (by kernel_rfl) ?_
          obtain rfl := Option.some.inj h
          exact FinP.fin (.inr rfl) [] [vi (4 : Int)] [] (by kernel_rfl) trivial (.one (.rfl _ rfl))
        · have h := ift_f b25 h
          refine XW.skip (by kernel_rfl) ?_
          refine hK22 _ _ ?_
          refine XW.seq (x := cd Tryd.f117 [1,1,1,0]) (y := cd Tryd.f117 [1,1,1,1]) (by kernel_rfl) fun K27 hK27 => ?_
          have hJ2 : ∀ (_ : Unit), value_fields_j2 = some r → ∀ fr1 st1, Sub 52 0 [] fr1 st1 [] [] → K27 fr1 st1 := by
            intro _ h fr1 st1 hS
            unfold value_fields_j2 at h
            refine hK27 _ _ (XW.sub hS ?_)
            refine XW.seq (x := cd Tryd.f117 [1,1,1,1,0]) (y := cd Tryd.f117 [1,1,1,1,1]) (by kernel_rfl) fun K40 hK40 => ?_
            refine XW.reg (by kernel_rfl) ?_
            refine XO.go [4] 1 [2] [] [(2, vi (0 : Int))] [] [] (by kernel_rfl) trivial ?_
            refine XO.done (by kernel_rfl) ?_
            refine hK40 _ _ ?_
            refine XW.ret (by kernel_rfl) ?_
            obtain rfl := Option.some.inj h
            exact FinP.fin (.inr rfl) [] [vi (0 : Int)] [] (by kernel_rfl) trivial (.one (.rfl _ rfl))
          refine XW.seq (x := cd Tryd.f117 [1,1,1,0,0]) (y := cd Tryd.f117 [1,1,1,0,1]) (by kernel_rfl) fun K28 hK28 => ?_
          refine XW.reg (by kernel_rfl) ?_
          refine XO.go [4] 3 [1,38,39] [[pi p1.kind, pi p1.scale, .ro (eField.els p1.fields)]] [(1, .one (.pv (.rp [[pi p1.kind, pi p1.scale, .ro (eField.els p1.fields)]] 0 0))), (38, vl eField p1.fields), (39, vi ((eField.els p1.fields).length : Int))] [] [([[pi p1.kind, pi p1.scale, .ro (eField.els p1.fields)]] : List (List PV))[0]? = some [pi p1.kind, pi p1.scale, .ro (eField.els p1.fields)]] (by kernel_rfl) (⟨rfl, trivial⟩) ?_
          rw [eField.len p1.fields]
          refine XO.go [4] 1 [1,38,39,40] [] [(1, .one (.pv (.rp [[pi p1.kind, pi p1.scale, .ro (eField.els p1.fields)]] 0 0))), (38, vl eField p1.fields), (39, vi (p1.fields.length : Int)), (40, vi (0 : Int))] [] [] (by kernel_rfl) trivial ?_
          refine XO.done (by kernel_rfl) ?_
          refine hK28 _ _ ?_
          refine XW.block (id := 1) (x := cd Tryd.f117 [1,1,1,0,1,0]) (by kernel_rfl) ?_
          refine XW.rounds' BIG (x := cd Tryd.f117 [1,1,1,0,1,0,0]) (by kernel_rfl) fun Q1 hQ1 => ?_
          have hL1 : ∀ (k1 : Nat) (x2 : Int), value_fields_l1 p1 k1 x2 = some r → XR Tryd.prog 52 0 [] (cd Tryd.f117 [1,1,1,0,1,0,0]) Q1 k1 [(1, .one (.pv (.rp [[pi p1.kind, pi p1.scale, .ro (eField.els p1.fields)]] 0 0))), (38, vl eField p1.fields), (39, vi (p1.fields.length : Int)), (40, vi x2)] [] := by
            intro k1
            induction k1 with
            | zero => intro x2 h; rw [value_fields_l1.eq_1] at h; cases h
            | succ k1 ih1 =>
              intro x2 h
              rw [value_fields_l1.eq_2] at h
              refine XW.seq (x := cd Tryd.f117 [1,1,1,0,1,0,0,0]) (y := cd Tryd.f117 [1,1,1,0,1,0,0,1]) (by kernel_rfl) fun K29 hK29 => ?_
              refine XW.reg (by kernel_rfl) ?_
              refine XO.go [4] 1 [1,38,39,40,41] [] [(1, .one (.pv (.rp [[pi p1.kind, pi p1.scale, .ro (eField.els p1.fields)]] 0 0))), (38, vl eField p1.fields), (39, vi (p1.fields.length : Int)), (40, vi x2), (41, vb (decide (x2 < (p1.fields.length : Int))))] [] [] (by kernel_rfl) trivial ?_
              refine XO.done (by kernel_rfl) ?_
              refine hK29 _ _ ?_
              refine XW.seq (x := cd Tryd.f117 [1,1,1,0,1,0,0,1,0]) (y := cd Tryd.f117 [1,1,1,0,1,0,0,1,1]) (by kernel_rfl) fun K30 hK30 => ?_
              refine XW.cond (x := .tmp 41) (a := cd Tryd.f117 [1,1,1,0,1,0,0,1,0,0]) (b := cd Tryd.f117 [1,1,1,0,1,0,0,1,0,1]) (t := (decide (x2 < (p1.fields.length : Int)))) (by kernel_rfl) (by kernel_rfl) (fun b31 => ?_) (fun b31 => ?_)
              · have h := ift_t b31 h
                refine XW.skip (by kernel_rfl) ?_
                refine hK30 _ _ ?_
                refine XW.seq (x := cd Tryd.f117 [1,1,1,0,1,0,0,1,1,0]) (y := cd Tryd.f117 [1,1,1,0,1,0,0,1,1,1]) (by kernel_rfl) fun K32 hK32 => ?_
                refine XW.block (id := 2) (x := cd Tryd.f117 [1,1,1,0,1,0,0,1,1,0,0]) (by kernel_rfl) ?_
                refine XW.seq (x := cd Tryd.f117 [1,1,1,0,1,0,0,1,1,0,0,0]) (y := cd Tryd.f117 [1,1,1,0,1,0,0,1,1,0,0,1]) (by kernel_rfl) fun K33 hK33 => ?_
                obtain ⟨e2, a34, h⟩ := bnd_some h
                refine XW.reg (by kernel_rfl) ?_
                refine XO.go [4] 6 [1,3,4,38,39,40] [[pi e2.id, .s (.string e2.name), .s (.bool e2.need), pi e2.type.kind, pi e2.type.scale, .ro (eField.els e2.type.fields)]] [(1, .one (.pv (.rp [[pi p1.kind, pi p1.scale, .ro (eField.els p1.fields)]] 0 0))), (3, vi x2), (4, .one (.pt 0 0 0 0)), (38, vl eField p1.fields), (39, vi (p1.fields.length : Int)), (40, vi x2)] [.box [ci e2.id, cst e2.name, cb e2.need, ci e2.type.kind, ci e2.type.scale, cl eField e2.type.fields]] [0 ≤ x2 ∧ x2 < ((eField.els p1.fields).length : Int) ∧ elemsOk 6 (eField.els p1.fields), (eField.els p1.fields)[x2.toNat]? = some [pi e2.id, .s (.string e2.name), .s (.bool e2.need), pi e2.type.kind, pi e2.type.scale, .ro (eField.els e2.type.fields)]] (by kernel_rfl) (⟨eField.inb a34, ((eField.get a34).trans (by rcases e2 with ⟨_, _, _, ⟨_, _, _⟩⟩; rfl)), trivial⟩) ?_
                refine XO.done (by kernel_rfl) ?_
                refine hK33 _ _ ?_
                refine XW.seq (x := cd Tryd.f117 [1,1,1,0,1,0,0,1,1,0,0,1,0]) (y := cd Tryd.f117 [1,1,1,0,1,0,0,1,1,0,0,1,1]) (by kernel_rfl) fun K35 hK35 => ?_
                obtain ⟨g36, h⟩ := grd_some h
                obtain ⟨r2, c37, h⟩ := bnd_some h
                refine XW.reg (by kernel_rfl) ?_
                refine XO.go [4] 4 [1,4,38,39,40,48] [[pi p1.kind, pi p1.scale, .ro (eField.els p1.fields)]] [(1, .one (.pv (.rp [[pi p1.kind, pi p1.scale, .ro (eField.els p1.fields)]] 0 0))), (4, .one (.pt 0 0 0 0)), (38, vl eField p1.fields), (39, vi (p1.fields.length : Int)), (40, vi x2), (48, .one (.pv (.ro (((eField.els p1.fields).drop (0 : Int).toNat).take (x2.toNat - (0 : Int).toNat)))))] [.box [ci e2.id, cst e2.name, cb e2.need, ci e2.type.kind, ci e2.type.scale, cl eField e2.type.fields]] [([[pi p1.kind, pi p1.scale, .ro (eField.els p1.fields)]] : List (List PV))[0]? = some [pi p1.kind, pi p1.scale, .ro (eField.els p1.fields)], (0 ≤ (0 : Int) ∧ (0 : Int) ≤ x2 ∧ x2 ≤ ((eField.els p1.fields).length : Int)) ∧ elemsOk 6 (eField.els p1.fields)] (by kernel_rfl) (⟨rfl, eField.cutOk g36, trivial⟩) ?_
                rw [show ((eField.els p1.fields).drop (0 : Int).toNat).take (x2.toNat - (0 : Int).toNat) = eField.els ((p1.fields.drop (0 : Int).toNat).take (x2.toNat - (0 : Int).toNat)) from eField.cut _ _ _]
                refine XO.go [4] 1 [1,38,39,40,48,49] [] [(1, .one (.pv (.rp [[pi p1.kind, pi p1.scale, .ro (eField.els p1.fields)]] 0 0))), (38, vl eField p1.fields), (39, vi (p1.fields.length : Int)), (40, vi x2), (48, vl eField ((p1.fields.drop (0 : Int).toNat).take (x2.toNat - (0 : Int).toNat))), (49, .one (.fn 130 [.pt 0 0 0 0]))] [.box [ci e2.id, cst e2.name, cb e2.need, ci e2.type.kind, ci e2.type.scale, cl eField e2.type.fields]] [] (by kernel_rfl) trivial ?_
                refine XO.calm 127 [vl eField ((p1.fields.drop (0 : Int).toNat).take (x2.toNat - (0 : Int).toNat)), .one (.fn 130 [.pt 0 0 0 0])] [.box [ci e2.id, cst e2.name, cb e2.need, ci e2.type.kind, ci e2.type.scale, cl eField e2.type.fields]] [.box [ci r2.2.id, cst r2.2.name, cb r2.2.need, ci r2.2.type.kind, ci r2.2.type.scale, cl eField r2.2.type.fields]] (vb r2.1) [0] [(50, vb r2.1), (1, .one (.pv (.rp [[pi p1.kind, pi p1.scale, .ro (eField.els p1.fields)]] 0 0))), (38, vl eField p1.fields), (39, vi (p1.fields.length : Int)), (40, vi x2), (48, vl eField ((p1.fields.drop (0 : Int).toNat).take (x2.toNat - (0 : Int).toNat))), (49, .one (.fn 130 [.pt 0 0 0 0]))] [.box [ci r2.2.id, cst r2.2.name, cb r2.2.need, ci r2.2.type.kind, ci r2.2.type.scale, cl eField r2.2.type.fields]] (by kernel_rfl) (c_slices_ContainsFunc_api_Field_api_Field_of_value_fields_2 _ _ _ c37) (by kernel_rfl) (by kernel_rfl) (by kernel_rfl) (by kernel_rfl) ?_
                refine XO.done (by kernel_rfl) ?_
                refine hK35 _ _ ?_
                refine XW.cond (x := .tmp 50) (a := cd Tryd.f117 [1,1,1,0,1,0,0,1,1,0,0,1,1,0]) (b := cd Tryd.f117 [1,1,1,0,1,0,0,1,1,0,0,1,1,1]) (t := r2.1) (by kernel_rfl) (by kernel_rfl) (fun b38 => ?_) (fun b38 => ?_)
                · have h := ift_t b38 h
                  refine XW.seq (x := cd Tryd.f117 [1,1,1,0,1,0,0,1,1,0,0,1,1,0,0]) (y := cd Tryd.f117 [1,1,1,0,1,0,0,1,1,0,0,1,1,0,1]) (by kernel_rfl) fun K39 hK39 => ?_
                  refine XW.reg (by kernel_rfl) ?_
                  refine XO.go [4] 1 [2] [] [(2, vi (5 : Int))] [.box [ci r2.2.id, cst r2.2.name, cb r2.2.need, ci r2.2.type.kind, ci r2.2.type.scale, cl eField r2.2.type.fields]] [] (by kernel_rfl) trivial ?_
                  refine XO.done (by kernel_rfl) ?_
                  refine hK39 _ _ ?_
                  refine XW.ret (by kernel_rfl) ?_
                  refine hQ1 _ _ _ ?_
                  obtain rfl := Option.some.inj h
                  exact FinP.fin (.inr rfl) [] [vi (5 : Int)] [] (by kernel_rfl) trivial (.one (.rfl _ rfl))
                · have h := ift_f b38 h
                  refine XW.skip (by kernel_rfl) ?_
                  refine hK32 _ _ ?_
                  refine XW.reg (by kernel_rfl) ?_
                  refine XO.go [4] 2 [1,38,39,40] [] [(1, .one (.pv (.rp [[pi p1.kind, pi p1.scale, .ro (eField.els p1.fields)]] 0 0))), (38, vl eField p1.fields), (39, vi (p1.fields.length : Int)), (40, vi (IntKind.i64.wrap (x2 + (1 : Int))))] [.box [ci r2.2.id, cst r2.2.name, cb r2.2.need, ci r2.2.type.kind, ci r2.2.type.scale, cl eField r2.2.type.fields]] [] (by kernel_rfl) trivial ?_
                  refine XO.done (by kernel_rfl) ?_
                  exact XR.sub (Sub.trans (Sub.pick (fr' := [(1, .one (.pv (.rp [[pi p1.kind, pi p1.scale, .ro (eField.els p1.fields)]] 0 0))), (38, vl eField p1.fields), (39, vi (p1.fields.length : Int)), (40, vi (IntKind.i64.wrap (x2 + (1 : Int))))]) [1,38,39,40] (by kernel_rfl)) (Sub.take (fr' := [(1, .one (.pv (.rp [[pi p1.kind, pi p1.scale, .ro (eField.els p1.fields)]] 0 0))), (38, vl eField p1.fields), (39, vi (p1.fields.length : Int)), (40, vi (IntKind.i64.wrap (x2 + (1 : Int))))]) 0 (Nat.zero_le _) (by kernel_rfl) (by kernel_rfl))) (ih1 (IntKind.i64.wrap (x2 + (1 : Int))) h)
              · have h := ift_f b31 h
                refine XW.exit (id := 1) (by kernel_rfl) ?_
                refine hQ1 _ _ _ ?_
                exact hJ2 () h _ _ (Sub.pick [] (by kernel_rfl))
          exact XR.sub (Sub.pick [1,38,39,40] (by kernel_rfl)) (hL1 BIG (0 : Int) h)

def value_checker_check_j5 (z3 : Int) : Option (Int × GChecker) :=
    some ((0 : Int), (GChecker.mk z3))

def value_checker_check_l1 (q_value_checker_check : GType → Int → GChecker → Option (Int × GChecker)) (p1 : GType) (p2 : Int) : Nat → Int → Int → Option (Int × GChecker)
  | 0, _, _ => none
  | k1 + 1, z2, x4 =>
    ift (decide (x4 < (p1.fields.length : Int)))
      (bnd (at? p1.fields x4) fun e1 =>
       bnd (q_value_checker_check e1.type (IntKind.i64.wrap (p2 + (1 : Int))) (GChecker.mk z2)) fun r4 =>
       ift (r4.1 != (0 : Int))
         (some (r4.1, r4.2))
         ((value_checker_check_l1 q_value_checker_check p1 p2 k1) r4.2.leaves (IntKind.i64.wrap (x4 + (1 : Int)))))
      (value_checker_check_j5 z2)

def value_checker_check_j4 (q_value_checker_check : GType → Int → GChecker → Option (Int × GChecker)) (p1 : GType) (p2 : Int) (z1 : Int) (x3 : Bool) : Option (Int × GChecker) :=
    ift x3
      (some ((1 : Int), (GChecker.mk z1)))
      (bnd (value_fields p1) fun r3 =>
       ift (r3 != (0 : Int))
         (some (r3, (GChecker.mk z1)))
         (value_checker_check_l1 q_value_checker_check p1 p2 BIG z1 (0 : Int)))

def value_checker_check_j3 (q_value_checker_check : GType → Int → GChecker → Option (Int × GChecker)) (p1 : GType) (p2 : Int) (z1 : Int) (x2 : Bool) : Option (Int × GChecker) :=
    ift x2
      (some ((3 : Int), (GChecker.mk z1)))
      (ift (p1.scale != (0 : Int))
         (ift (p1.kind != (3 : Int))
            (value_checker_check_j4 q_value_checker_check p1 p2 z1 true)
            (ift (decide (p1.scale < (0 : Int)))
               (value_checker_check_j4 q_value_checker_check p1 p2 z1 true)
               (value_checker_check_j4 q_value_checker_check p1 p2 z1 (decide ((12 : Int) < p1.scale)))))
         (value_checker_check_j4 q_value_checker_check p1 p2 z1 false))

def value_checker_check_j2 (q_value_checker_check : GType → Int → GChecker → Option (Int × GChecker)) (p1 : GType) (p2 : Int) (z1 : Int) : Option (Int × GChecker) :=
    ift (decide (p1.kind < (1 : Int)))
      (value_checker_check_j3 q_value_checker_check p1 p2 z1 true)
      (value_checker_check_j3 q_value_checker_check p1 p2 z1 (decide ((7 : Int) < p1.kind)))

def value_checker_check_j1 (q_value_checker_check : GType → Int → GChecker → Option (Int × GChecker)) (p1 : GType) (p2 : Int) (p3 : GChecker) (x1 : Bool) : Option (Int × GChecker) :=
    ift x1
      (some ((7 : Int), p3))
      (bnd (value_leaf p1) fun r2 =>
       ift r2
         (value_checker_check_j2 q_value_checker_check p1 p2 (IntKind.i64.wrap (p3.leaves + (1 : Int))))
         (value_checker_check_j2 q_value_checker_check p1 p2 p3.leaves))

def value_checker_check : Nat → GType → Int → GChecker → Option (Int × GChecker)
  | 0, _, _, _ => none
  | k0 + 1, p1, p2, p3 =>
    ift (decide ((4 : Int) < p2))
      (value_checker_check_j1 (value_checker_check k0) p1 p2 p3 true)
      (bnd (value_leaf p1) fun r1 =>
       ift r1
         (value_checker_check_j1 (value_checker_check k0) p1 p2 p3 (p3.leaves == (40 : Int)))
         (value_checker_check_j1 (value_checker_check k0) p1 p2 p3 false))


theorem c_value_checker_check : ∀ (k0 : Nat) (p1 : GType) (p2 : Int) (p3 : GChecker) (r : (Int × GChecker)), value_checker_check k0 p1 p2 p3 = some r → MC Tryd.prog 80 [.one (.pt 0 0 0 0), .ag [ci p1.kind, ci p1.scale, cl eField p1.fields], vi p2] [.box [ci p3.leaves]] (vi r.1) [.box [ci r.2.leaves]]
  | 0, _, _, _, r, h => by rw [value_checker_check.eq_1] at h; cases h
  | k0 + 1, p1, p2, p3, r, h => by
    rw [value_checker_check.eq_2] at h
    refine MC.of 1 (n := 83) (fn := Tryd.f80) (c := cd Tryd.f80 []) (by kernel_rfl) (by kernel_rfl) (by kernel_rfl) (Nat.le_of_ble_eq_true rfl) rfl ?_
    refine XW.seq (x := cd Tryd.f80 [0]) (y := cd Tryd.f80 [1]) (by kernel_rfl) fun K1 hK1 => ?_
    refine XW.reg (by kernel_rfl) ?_
    refine XO.go [9] 2 [0,2,4] [] [(0, .one (.pt 0 0 0 0)), (2, vi p2), (4, .one (.pv (.rp [[pi p1.kind, pi p1.scale, .ro (eField.els p1.fields)]] 0 0)))] [.box [ci p3.leaves]] [] (by kernel_rfl) trivial ?_
    refine XO.done (by kernel_rfl) ?_
    refine hK1 _ _ ?_
    refine XW.seq (x := cd Tryd.f80 [1,0]) (y := cd Tryd.f80 [1,1]) (by kernel_rfl) fun K2 hK2 => ?_
    refine XW.seq (x := cd Tryd.f80 [1,0,0]) (y := cd Tryd.f80 [1,0,1]) (by kernel_rfl) fun K3 hK3 => ?_
    have hJ1 : ∀ (x1 : Bool), value_checker_check_j1 (value_checker_check k0) p1 p2 p3 x1 = some r → ∀ fr1 st1, Sub 83 1 [] fr1 st1 [(0, .one (.pt 0 0 0 0)), (2, vi p2), (4, .one (.pv (.rp [[pi p1.kind, pi p1.scale, .ro (eField.els p1.fields)]] 0 0))), (23, vb x1)] [.box [ci p3.leaves]] → K3 fr1 st1 := by
      intro x1 h fr1 st1 hS
      unfold value_checker_check_j1 at h
      refine hK3 _ _ (XW.sub hS ?_)
      refine XW.cond (x := .tmp 23) (a := cd Tryd.f80 [1,0,1,0]) (b := cd Tryd.f80 [1,0,1,1]) (t := x1) (by kernel_rfl) (by kernel_rfl) (fun b7 => ?_) (fun b7 => ?_)
      · have h := ift_t b7 h
        refine XW.seq (x := cd Tryd.f80 [1,0,1,0,0]) (y := cd Tryd.f80 [1,0,1,0,1]) (by kernel_rfl) fun K8 hK8 => ?_
        refine XW.reg (by kernel_rfl) ?_
        refine XO.go [9] 1 [6] [] [(6, vi (7 : Int))] [.box [ci p3.leaves]] [] (by kernel_rfl) trivial ?_
        refine XO.done (by kernel_rfl) ?_
        refine hK8 _ _ ?_
        refine XW.ret (by kernel_rfl) ?_
        obtain rfl := Option.some.inj h
        exact FinM.fin (.inr rfl) [] [vi (7 : Int)] [] (by kernel_rfl) trivial (by kernel_rfl) (by kernel_rfl) (.one (.rfl _ rfl))
      · have h := ift_f b7 h
        refine XW.skip (by kernel_rfl) ?_
        refine hK2 _ _ ?_
        refine XW.seq (x := cd Tryd.f80 [1,1,0]) (y := cd Tryd.f80 [1,1,1]) (by kernel_rfl) fun K9 hK9 => ?_
        have hJ2 : ∀ (z1 : Int), value_checker_check_j2 (value_checker_check k0) p1 p2 z1 = some r → ∀ fr1 st1, Sub 83 1 [] fr1 st1 [(0, .one (.pt 0 0 0 0)), (2, vi p2), (4, .one (.pv (.rp [[pi p1.kind, pi p1.scale, .ro (eField.els p1.fields)]] 0 0)))] [.box [ci z1]] → K9 fr1 st1 := by
          intro z1 h fr1 st1 hS
          unfold value_checker_check_j2 at h
          refine hK9 _ _ (XW.sub hS ?_)
          refine XW.seq (x := cd Tryd.f80 [1,1,1,0]) (y := cd Tryd.f80 [1,1,1,1]) (by kernel_rfl) fun K13 hK13 => ?_
          refine XW.block (id := 0) (x := cd Tryd.f80 [1,1,1,0,0]) (by kernel_rfl) ?_
          refine XW.seq (x := cd Tryd.f80 [1,1,1,0,0,0]) (y := cd Tryd.f80 [1,1,1,0,0,1]) (by kernel_rfl) fun K14 hK14 => ?_
          have hJ3 : ∀ (x2 : Bool), value_checker_check_j3 (value_checker_check k0) p1 p2 z1 x2 = some r → ∀ fr1 st1, Sub 83 1 [] fr1 st1 [(0, .one (.pt 0 0 0 0)), (2, vi p2), (4, .one (.pv (.rp [[pi p1.kind, pi p1.scale, .ro (eField.els p1.fields)]] 0 0))), (33, vb x2)] [.box [ci z1]] → K14 fr1 st1 := by
            intro x2 h fr1 st1 hS
            unfold value_checker_check_j3 at h
            refine hK14 _ _ (XW.sub hS ?_)
            refine XW.cond (x := .tmp 33) (a := cd Tryd.f80 [1,1,1,0,0,1,0]) (b := cd Tryd.f80 [1,1,1,0,0,1,1]) (t := x2) (by kernel_rfl) (by kernel_rfl) (fun b16 => ?_) (fun b16 => ?_)
            · have h := ift_t b16 h
              refine XW.seq (x := cd Tryd.f80 [1,1,1,0,0,1,0,0]) (y := cd Tryd.f80 [1,1,1,0,0,1,0,1]) (by kernel_rfl) fun K17 hK17 => ?_
              refine XW.reg (by kernel_rfl) ?_
              refine XO.go [9] 1 [6] [] [(6, vi (3 : Int))] [.box [ci z1]] [] (by kernel_rfl) trivial ?_
              refine XO.done (by kernel_rfl) ?_
              refine hK17 _ _ ?_
              refine XW.ret (by kernel_rfl) ?_
              obtain rfl := Option.some.inj h
              exact FinM.fin (.inr rfl) [] [vi (3 : Int)] [] (by kernel_rfl) trivial (by kernel_rfl) (by kernel_rfl) (.one (.rfl _ rfl))
            · have h := ift_f b16 h
              refine XW.seq (x := cd Tryd.f80 [1,1,1,0,0,1,1,0]) (y := cd Tryd.f80 [1,1,1,0,0,1,1,1]) (by kernel_rfl) fun K18 hK18 => ?_
              have hJ4 : ∀ (x3 : Bool), value_checker_check_j4 (value_checker_check k0) p1 p2 z1 x3 = some r → ∀ fr1 st1, Sub 83 1 [] fr1 st1 [(0, .one (.pt 0 0 0 0)), (2, vi p2), (4, .one (.pv (.rp [[pi p1.kind, pi p1.scale, .ro (eField.els p1.fields)]] 0 0))), (42, vb x3)] [.box [ci z1]] → K18 fr1 st1 := by
                intro x3 h fr1 st1 hS
                unfold value_checker_check_j4 at h
                refine hK18 _ _ (XW.sub hS ?_)
                refine XW.cond (x := .tmp 42) (a := cd Tryd.f80 [1,1,1,0,0,1,1,1,0]) (b := cd Tryd.f80 [1,1,1,0,0,1,1,1,1]) (t := x3) (by kernel_rfl) (by kernel_rfl) (fun b22 => ?_) (fun b22 => ?_)
                · have h := ift_t b22 h
                  refine XW.seq (x := cd Tryd.f80 [1,1,1,0,0,1,1,1,0,0]) (y := cd Tryd.f80 [1,1,1,0,0,1,1,1,0,1]) (by kernel_rfl) fun K23 hK23 => ?_
                  refine XW.reg (by kernel_rfl) ?_
                  refine XO.go [9] 1 [6] [] [(6, vi (1 : Int))] [.box [ci z1]] [] (by kernel_rfl) trivial ?_
                  refine XO.done (by kernel_rfl) ?_
                  refine hK23 _ _ ?_
                  refine XW.ret (by kernel_rfl) ?_
                  obtain rfl := Option.some.inj h
                  exact FinM.fin (.inr rfl) [] [vi (1 : Int)] [] (by kernel_rfl) trivial (by kernel_rfl) (by kernel_rfl) (.one (.rfl _ rfl))
                · have h := ift_f b22 h
                  refine XW.skip (by kernel_rfl) ?_
                  refine hK13 _ _ ?_
                  refine XW.seq (x := cd Tryd.f80 [1,1,1,1,0]) (y := cd Tryd.f80 [1,1,1,1,1]) (by kernel_rfl) fun K24 hK24 => ?_
                  refine XW.seq (x := cd Tryd.f80 [1,1,1,1,0,0]) (y := cd Tryd.f80 [1,1,1,1,0,1]) (by kernel_rfl) fun K25 hK25 => ?_
                  obtain ⟨r3, c26, h⟩ := bnd_some h
                  refine XW.reg (by kernel_rfl) ?_
                  refine XO.go [9] 1 [0,2,4,61] [[pi p1.kind, pi p1.scale, .ro (eField.els p1.fields)]] [(0, .one (.pt 0 0 0 0)), (2, vi p2), (4, .one (.pv (.rp [[pi p1.kind, pi p1.scale, .ro (eField.els p1.fields)]] 0 0))), (61, .ag [ci p1.kind, ci p1.scale, cl eField p1.fields])] [.box [ci z1]] [([[pi p1.kind, pi p1.scale, .ro (eField.els p1.fields)]] : List (List PV))[0]? = some [pi p1.kind, pi p1.scale, .ro (eField.els p1.fields)]] (by kernel_rfl) (⟨rfl, trivial⟩) ?_
                  refine XO.cal 117 [.ag [ci p1.kind, ci p1.scale, cl eField p1.fields]] (vi r3) [(62, vi r3), (0, .one (.pt 0 0 0 0)), (2, vi p2), (4, .one (.pv (.rp [[pi p1.kind, pi p1.scale, .ro (eField.els p1.fields)]] 0 0))), (61, .ag [ci p1.kind, ci p1.scale, cl eField p1.fields])] (by kernel_rfl) (c_value_fields _ _ c26) rfl rfl (by kernel_rfl) ?_
                  refine XO.go [9] 1 [0,2,4,7] [] [(0, .one (.pt 0 0 0 0)), (2, vi p2), (4, .one (.pv (.rp [[pi p1.kind, pi p1.scale, .ro (eField.els p1.fields)]] 0 0))), (7, vi r3)] [.box [ci z1]] [] (by kernel_rfl) trivial ?_
                  refine XO.done (by kernel_rfl) ?_
                  refine hK25 _ _ ?_
                  refine XW.seq (x := cd Tryd.f80 [1,1,1,1,0,1,0]) (y := cd Tryd.f80 [1,1,1,1,0,1,1]) (by kernel_rfl) fun K27 hK27 => ?_
                  refine XW.reg (by kernel_rfl) ?_
                  refine XO.go [9] 2 [0,2,4,7,64] [] [(0, .one (.pt 0 0 0 0)), (2, vi p2), (4, .one (.pv (.rp [[pi p1.kind, pi p1.scale, .ro (eField.els p1.fields)]] 0 0))), (7, vi r3), (64, vb (r3 != (0 : Int)))] [.box [ci z1]] [] (by kernel_rfl) trivial ?_
                  refine XO.done (by kernel_rfl) ?_
                  refine hK27 _ _ ?_
                  refine XW.cond (x := .tmp 64) (a := cd Tryd.f80 [1,1,1,1,0,1,1,0]) (b := cd Tryd.f80 [1,1,1,1,0,1,1,1]) (t := (r3 != (0 : Int))) (by kernel_rfl) (by kernel_rfl) (fun b28 => ?_) (fun b28 => ?_)
                  · have h := ift_t b28 h
                    refine XW.seq (x := cd Tryd.f80 [1,1,1,1,0,1,1,0,0]) (y := cd Tryd.f80 [1,1,1,1,0,1,1,0,1]) (by kernel_rfl) fun K29 hK29 => ?_
                    refine XW.reg (by kernel_rfl) ?_
                    refine XO.go [9] 2 [6] [] [(6, vi r3)] [.box [ci z1]] [] (by kernel_rfl) trivial ?_
                    refine XO.done (by kernel_rfl) ?_
                    refine hK29 _ _ ?_
                    refine XW.ret (by kernel_rfl) ?_
                    obtain rfl := Option.some.inj h
                    exact FinM.fin (.inr rfl) [] [vi r3] [] (by kernel_rfl) trivial (by kernel_rfl) (by kernel_rfl) (.one (.rfl _ rfl))
                  · have h := ift_f b28 h
                    refine XW.skip (by kernel_rfl) ?_
                    refine hK24 _ _ ?_
                    refine XW.seq (x := cd Tryd.f80 [1,1,1,1,1,0]) (y := cd Tryd.f80 [1,1,1,1,1,1]) (by kernel_rfl) fun K30 hK30 => ?_
                    have hJ5 : ∀ (z3 : Int), value_checker_check_j5 z3 = some r → ∀ fr1 st1, Sub 83 1 [] fr1 st1 [] [.box [ci z3]] → K30 fr1 st1 := by
                      intro z3 h fr1 st1 hS
                      unfold value_checker_check_j5 at h
                      refine hK30 _ _ (XW.sub hS ?_)
                      refine XW.seq (x := cd Tryd.f80 [1,1,1,1,1,1,0]) (y := cd Tryd.f80 [1,1,1,1,1,1,1]) (by kernel_rfl) fun K43 hK43 => ?_
                      refine XW.reg (by kernel_rfl) ?_
                      refine XO.go [9] 1 [6] [] [(6, vi (0 : Int))] [.box [ci z3]] [] (by kernel_rfl) trivial ?_
                      refine XO.done (by kernel_rfl) ?_
                      refine hK43 _ _ ?_
                      refine XW.ret (by kernel_rfl) ?_
                      obtain rfl := Option.some.inj h
                      exact FinM.fin (.inr rfl) [] [vi (0 : Int)] [] (by kernel_rfl) trivial (by kernel_rfl) (by kernel_rfl) (.one (.rfl _ rfl))
                    refine XW.seq (x := cd Tryd.f80 [1,1,1,1,1,0,0]) (y := cd Tryd.f80 [1,1,1,1,1,0,1]) (by kernel_rfl) fun K31 hK31 => ?_
                    refine XW.reg (by kernel_rfl) ?_
                    refine XO.go [9] 3 [0,2,67,68] [[pi p1.kind, pi p1.scale, .ro (eField.els p1.fields)]] [(0, .one (.pt 0 0 0 0)), (2, vi p2), (67, vl eField p1.fields), (68, vi ((eField.els p1.fields).length : Int))] [.box [ci z1]] [([[pi p1.kind, pi p1.scale, .ro (eField.els p1.fields)]] : List (List PV))[0]? = some [pi p1.kind, pi p1.scale, .ro (eField.els p1.fields)]] (by kernel_rfl) (⟨rfl, trivial⟩) ?_
                    rw [eField.len p1.fields]
                    refine XO.go [9] 1 [0,2,67,68,69] [] [(0, .one (.pt 0 0 0 0)), (2, vi p2), (67, vl eField p1.fields), (68, vi (p1.fields.length : Int)), (69, vi (0 : Int))] [.box [ci z1]] [] (by kernel_rfl) trivial ?_
                    refine XO.done (by kernel_rfl) ?_
                    refine hK31 _ _ ?_
                    refine XW.block (id := 1) (x := cd Tryd.f80 [1,1,1,1,1,0,1,0]) (by kernel_rfl) ?_
                    refine XW.rounds' BIG (x := cd Tryd.f80 [1,1,1,1,1,0,1,0,0]) (by kernel_rfl) fun Q1 hQ1 => ?_
                    have hL1 : ∀ (k1 : Nat) (z2 : Int) (x4 : Int), value_checker_check_l1 (value_checker_check k0) p1 p2 k1 z2 x4 = some r → XR Tryd.prog 83 1 [] (cd Tryd.f80 [1,1,1,1,1,0,1,0,0]) Q1 k1 [(0, .one (.pt 0 0 0 0)), (2, vi p2), (67, vl eField p1.fields), (68, vi (p1.fields.length : Int)), (69, vi x4)] [.box [ci z2]] := by
                      intro k1
                      induction k1 with
                      | zero => intro z2 x4 h; rw [value_checker_check_l1.eq_1] at h; cases h
                      | succ k1 ih1 =>
                        intro z2 x4 h
                        rw [value_checker_check_l1.eq_2] at h
                        refine XW.seq (x := cd Tryd.f80 [1,1,1,1,1,0,1,0,0,0]) (y := cd Tryd.f80 [1,1,1,1,1,0,1,0,0,1]) (by kernel_rfl) fun K32 hK32 => ?_
                        refine XW.reg (by kernel_rfl) ?_
                        refine XO.go [9] 1 [0,2,67,68,69,70] [] [(0, .one (.pt 0 0 0 0)), (2, vi p2), (67, vl eField p1.fields), (68, vi (p1.fields.length : Int)), (69, vi x4), (70, vb (decide (x4 < (p1.fields.length : Int))))] [.box [ci z2]] [] (by kernel_rfl) trivial ?_
                        refine XO.done (by kernel_rfl) ?_
                        refine hK32 _ _ ?_
                        refine XW.seq (x := cd Tryd.f80 [1,1,1,1,1,0,1,0,0,1,0]) (y := cd Tryd.f80 [1,1,1,1,1,0,1,0,0,1,1]) (by kernel_rfl) fun K33 hK33 => ?_
                        refine XW.cond (x := .tmp 70) (a := cd Tryd.f80 [1,1,1,1,1,0,1,0,0,1,0,0]) (b := cd Tryd.f80 [1,1,1,1,1,0,1,0,0,1,0,1]) (t := (decide (x4 < (p1.fields.length : Int)))) (by kernel_rfl) (by kernel_rfl) (fun b34 => ?_) (fun b34 => ?_)
                        · have h := ift_t b34 h
                          refine XW.skip (by kernel_rfl) ?_
                          refine hK33 _ _ ?_
                          refine XW.seq (x := cd Tryd.f80 [1,1,1,1,1,0,1,0,0,1,1,0]) (y := cd Tryd.f80 [1,1,1,1,1,0,1,0,0,1,1,1]) (by kernel_rfl) fun K35 hK35 => ?_
                          refine XW.block (id := 2) (x := cd Tryd.f80 [1,1,1,1,1,0,1,0,0,1,1,0,0]) (by kernel_rfl) ?_
                          refine XW.seq (x := cd Tryd.f80 [1,1,1,1,1,0,1,0,0,1,1,0,0,0]) (y := cd Tryd.f80 [1,1,1,1,1,0,1,0,0,1,1,0,0,1]) (by kernel_rfl) fun K36 hK36 => ?_
                          obtain ⟨e1, a37, h⟩ := bnd_some h
                          refine XW.reg (by kernel_rfl) ?_
                          refine XO.go [9] 4 [0,2,9,67,68,69] [[pi e1.id, .s (.string e1.name), .s (.bool e1.need), pi e1.type.kind, pi e1.type.scale, .ro (eField.els e1.type.fields)]] [(0, .one (.pt 0 0 0 0)), (2, vi p2), (9, .one (.pt 1 0 0 0)), (67, vl eField p1.fields), (68, vi (p1.fields.length : Int)), (69, vi x4)] [.box [ci z2], .box [ci e1.id, cst e1.name, cb e1.need, ci e1.type.kind, ci e1.type.scale, cl eField e1.type.fields]] [0 ≤ x4 ∧ x4 < ((eField.els p1.fields).length : Int) ∧ elemsOk 6 (eField.els p1.fields), (eField.els p1.fields)[x4.toNat]? = some [pi e1.id, .s (.string e1.name), .s (.bool e1.need), pi e1.type.kind, pi e1.type.scale, .ro (eField.els e1.type.fields)]] (by kernel_rfl) (⟨eField.inb a37, ((eField.get a37).trans (by rcases e1 with ⟨_, _, _, ⟨_, _, _⟩⟩; rfl)), trivial⟩) ?_
                          refine XO.done (by kernel_rfl) ?_
                          refine hK36 _ _ ?_
                          refine XW.seq (x := cd Tryd.f80 [1,1,1,1,1,0,1,0,0,1,1,0,0,1,0]) (y := cd Tryd.f80 [1,1,1,1,1,0,1,0,0,1,1,0,0,1,1]) (by kernel_rfl) fun K38 hK38 => ?_
                          obtain ⟨r4, c39, h⟩ := bnd_some h
                          refine XW.reg (by kernel_rfl) ?_
                          refine XO.go [9] 5 [0,2,67,68,69,73,75,77] [] [(0, .one (.pt 0 0 0 0)), (2, vi p2), (67, vl eField p1.fields), (68, vi (p1.fields.length : Int)), (69, vi x4), (73, .one (.pt 0 0 0 0)), (75, .ag [ci e1.type.kind, ci e1.type.scale, cl eField e1.type.fields]), (77, vi (IntKind.i64.wrap (p2 + (1 : Int))))] [.box [ci z2], .box [ci e1.id, cst e1.name, cb e1.need, ci e1.type.kind, ci e1.type.scale, cl eField e1.type.fields]] [] (by kernel_rfl) trivial ?_
                          refine XO.calm 80 [.one (.pt 0 0 0 0), .ag [ci e1.type.kind, ci e1.type.scale, cl eField e1.type.fields], vi (IntKind.i64.wrap (p2 + (1 : Int)))] [.box [ci z2]] [.box [ci r4.2.leaves]] (vi r4.1) [0] [(78, vi r4.1), (0, .one (.pt 0 0 0 0)), (2, vi p2), (67, vl eField p1.fields), (68, vi (p1.fields.length : Int)), (69, vi x4), (73, .one (.pt 0 0 0 0)), (75, .ag [ci e1.type.kind, ci e1.type.scale, cl eField e1.type.fields]), (77, vi (IntKind.i64.wrap (p2 + (1 : Int))))] [.box [ci r4.2.leaves], .box [ci e1.id, cst e1.name, cb e1.need, ci e1.type.kind, ci e1.type.scale, cl eField e1.type.fields]] (by kernel_rfl) (c_value_checker_check k0 _ _ _ _ c39) (by kernel_rfl) (by kernel_rfl) (by kernel_rfl) (by kernel_rfl) ?_
                          refine XO.go [9] 1 [0,2,10,67,68,69] [] [(0, .one (.pt 0 0 0 0)), (2, vi p2), (10, vi r4.1), (67, vl eField p1.fields), (68, vi (p1.fields.length : Int)), (69, vi x4)] [.box [ci r4.2.leaves], .box [ci e1.id, cst e1.name, cb e1.need, ci e1.type.kind, ci e1.type.scale, cl eField e1.type.fields]] [] (by kernel_rfl) trivial ?_
                          refine XO.done (by kernel_rfl) ?_
                          refine hK38 _ _ ?_
                          refine XW.seq (x := cd Tryd.f80 [1,1,1,1,1,0,1,0,0,1,1,0,0,1,1,0]) (y := cd Tryd.f80 [1,1,1,1,1,0,1,0,0,1,1,0,0,1,1,1]) (by kernel_rfl) fun K40 hK40 => ?_
                          refine XW.reg (by kernel_rfl) ?_
                          refine XO.go [9] 2 [0,2,10,67,68,69,80] [] [(0, .one (.pt 0 0 0 0)), (2, vi p2), (10, vi r4.1), (67, vl eField p1.fields), (68, vi (p1.fields.length : Int)), (69, vi x4), (80, vb (r4.1 != (0 : Int)))] [.box [ci r4.2.leaves], .box [ci e1.id, cst e1.name, cb e1.need, ci e1.type.kind, ci e1.type.scale, cl eField e1.type.fields]] [] (by kernel_rfl) trivial ?_
                          refine XO.done (by kernel_rfl) ?_
                          refine hK40 _ _ ?_
                          refine XW.cond (x := .tmp 80) (a := cd Tryd.f80 [1,1,1,1,1,0,1,0,0,1,1,0,0,1,1,1,0]) (b := cd Tryd.f80 [1,1,1,1,1,0,1,0,0,1,1,0,0,1,1,1,1]) (t := (r4.1 != (0 : Int))) (by kernel_rfl) (by kernel_rfl) (fun b41 => ?_) (fun b41 => ?_)
                          · have h := ift_t b41 h
                            refine XW.seq (x := cd Tryd.f80 [1,1,1,1,1,0,1,0,0,1,1,0,0,1,1,1,0,0]) (y := cd Tryd.f80 [1,1,1,1,1,0,1,0,0,1,1,0,0,1,1,1,0,1]) (by kernel_rfl) fun K42 hK42 => ?_
                            refine XW.reg (by kernel_rfl) ?_
                            refine XO.go [9] 2 [6] [] [(6, vi r4.1)] [.box [ci r4.2.leaves], .box [ci e1.id, cst e1.name, cb e1.need, ci e1.type.kind, ci e1.type.scale, cl eField e1.type.fields]] [] (by kernel_rfl) trivial ?_
                            refine XO.done (by kernel_rfl) ?_
                            refine hK42 _ _ ?_
                            refine XW.ret (by kernel_rfl) ?_
                            refine hQ1 _ _ _ ?_
                            obtain rfl := Option.some.inj h
                            exact FinM.fin (.inr rfl) [] [vi r4.1] [] (by kernel_rfl) trivial (by kernel_rfl) (by kernel_rfl) (.one (.rfl _ rfl))
                          · have h := ift_f b41 h
                            refine XW.skip (by kernel_rfl) ?_
                            refine hK35 _ _ ?_
                            refine XW.reg (by kernel_rfl) ?_
                            refine XO.go [9] 2 [0,2,67,68,69] [] [(0, .one (.pt 0 0 0 0)), (2, vi p2), (67, vl eField p1.fields), (68, vi (p1.fields.length : Int)), (69, vi (IntKind.i64.wrap (x4 + (1 : Int))))] [.box [ci r4.2.leaves], .box [ci e1.id, cst e1.name, cb e1.need, ci e1.type.kind, ci e1.type.scale, cl eField e1.type.fields]] [] (by kernel_rfl) trivial ?_
                            refine XO.done (by kernel_rfl) ?_
                            exact XR.sub (Sub.trans (Sub.pick (fr' := [(0, .one (.pt 0 0 0 0)), (2, vi p2), (67, vl eField p1.fields), (68, vi (p1.fields.length : Int)), (69, vi (IntKind.i64.wrap (x4 + (1 : Int))))]) [0,2,67,68,69] (by kernel_rfl)) (Sub.take (fr' := [(0, .one (.pt 0 0 0 0)), (2, vi p2), (67, vl eField p1.fields), (68, vi (p1.fields.length : Int)), (69, vi (IntKind.i64.wrap (x4 + (1 : Int))))]) 1 (by decide) (by kernel_rfl) (by kernel_rfl))) (ih1 r4.2.leaves (IntKind.i64.wrap (x4 + (1 : Int))) h)
                        · have h := ift_f b34 h
                          refine XW.exit (id := 1) (by kernel_rfl) ?_
                          refine hQ1 _ _ _ ?_
                          exact hJ5 z2 h _ _ (Sub.pick [] (by kernel_rfl))
                    exact XR.sub (Sub.pick [0,2,67,68,69] (by kernel_rfl)) (hL1 BIG z1 (0 : Int) h)
              rcases Bool.eq_false_or_eq_true (p1.scale != (0 : Int)) with b19 | b19
              · have h := ift_t b19 h
                rcases Bool.eq_false_or_eq_true (p1.kind != (3 : Int)) with b20 | b20
                · have h := ift_t b20 h
                  refine XW.reg (by kernel_rfl) ?_
                  refine XO.go [9] 4 [0,2,4,46] [[pi p1.kind, pi p1.scale, .ro (eField.els p1.fields)]] [(0, .one (.pt 0 0 0 0)), (2, vi p2), (4, .one (.pv (.rp [[pi p1.kind, pi p1.scale, .ro (eField.els p1.fields)]] 0 0))), (46, vb (p1.scale != (0 : Int)))] [.box [ci z1]] [([[pi p1.kind, pi p1.scale, .ro (eField.els p1.fields)]] : List (List PV))[0]? = some [pi p1.kind, pi p1.scale, .ro (eField.els p1.fields)]] (by kernel_rfl) (⟨rfl, trivial⟩) ?_
                  refine XO.setb 46 true (B := (p1.scale != (0 : Int))) rfl b19 ?_
                  refine XO.go [9] 4 [0,2,4,46,50] [[pi p1.kind, pi p1.scale, .ro (eField.els p1.fields)]] [(0, .one (.pt 0 0 0 0)), (2, vi p2), (4, .one (.pv (.rp [[pi p1.kind, pi p1.scale, .ro (eField.els p1.fields)]] 0 0))), (46, vb true), (50, vb (p1.kind != (3 : Int)))] [.box [ci z1]] [([[pi p1.kind, pi p1.scale, .ro (eField.els p1.fields)]] : List (List PV))[0]? = some [pi p1.kind, pi p1.scale, .ro (eField.els p1.fields)]] (by kernel_rfl) (⟨rfl, trivial⟩) ?_
                  refine XO.setb 50 true (B := (p1.kind != (3 : Int))) rfl b20 ?_
                  refine XO.go [9] 11 [0,2,4,42] [] [(0, .one (.pt 0 0 0 0)), (2, vi p2), (4, .one (.pv (.rp [[pi p1.kind, pi p1.scale, .ro (eField.els p1.fields)]] 0 0))), (42, vb true)] [.box [ci z1]] [] (by kernel_rfl) trivial ?_
                  refine XO.done (by kernel_rfl) ?_
                  exact hJ4 true h _ _ (Sub.pick [0,2,4,42] (by kernel_rfl))
                · have h := ift_f b20 h
                  rcases Bool.eq_false_or_eq_true (decide (p1.scale < (0 : Int))) with b21 | b21
                  · have h := ift_t b21 h
                    refine XW.reg (by kernel_rfl) ?_
                    refine XO.go [9] 4 [0,2,4,46] [[pi p1.kind, pi p1.scale, .ro (eField.els p1.fields)]] [(0, .one (.pt 0 0 0 0)), (2, vi p2), (4, .one (.pv (.rp [[pi p1.kind, pi p1.scale, .ro (eField.els p1.fields)]] 0 0))), (46, vb (p1.scale != (0 : Int)))] [.box [ci z1]] [([[pi p1.kind, pi p1.scale, .ro (eField.els p1.fields)]] : List (List PV))[0]? = some [pi p1.kind, pi p1.scale, .ro (eField.els p1.fields)]] (by kernel_rfl) (⟨rfl, trivial⟩) ?_
                    refine XO.setb 46 true (B := (p1.scale != (0 : Int))) rfl b19 ?_
                    refine XO.go [9] 4 [0,2,4,46,50] [[pi p1.kind, pi p1.scale, .ro (eField.els p1.fields)]] [(0, .one (.pt 0 0 0 0)), (2, vi p2), (4, .one (.pv (.rp [[pi p1.kind, pi p1.scale, .ro (eField.els p1.fields)]] 0 0))), (46, vb true), (50, vb (p1.kind != (3 : Int)))] [.box [ci z1]] [([[pi p1.kind, pi p1.scale, .ro (eField.els p1.fields)]] : List (List PV))[0]? = some [pi p1.kind, pi p1.scale, .ro (eField.els p1.fields)]] (by kernel_rfl) (⟨rfl, trivial⟩) ?_
                    refine XO.setb 50 false (B := (p1.kind != (3 : Int))) rfl b20 ?_
                    refine XO.go [9] 5 [0,2,4,46,55] [[pi p1.kind, pi p1.scale, .ro (eField.els p1.fields)]] [(0, .one (.pt 0 0 0 0)), (2, vi p2), (4, .one (.pv (.rp [[pi p1.kind, pi p1.scale, .ro (eField.els p1.fields)]] 0 0))), (46, vb true), (55, vb (decide (p1.scale < (0 : Int))))] [.box [ci z1]] [([[pi p1.kind, pi p1.scale, .ro (eField.els p1.fields)]] : List (List PV))[0]? = some [pi p1.kind, pi p1.scale, .ro (eField.els p1.fields)]] (by kernel_rfl) (⟨rfl, trivial⟩) ?_
                    refine XO.setb 55 true (B := (decide (p1.scale < (0 : Int)))) rfl b21 ?_
                    refine XO.go [9] 6 [0,2,4,42] [] [(0, .one (.pt 0 0 0 0)), (2, vi p2), (4, .one (.pv (.rp [[pi p1.kind, pi p1.scale, .ro (eField.els p1.fields)]] 0 0))), (42, vb true)] [.box [ci z1]] [] (by kernel_rfl) trivial ?_
                    refine XO.done (by kernel_rfl) ?_
                    exact hJ4 true h _ _ (Sub.pick [0,2,4,42] (by kernel_rfl))
                  · have h := ift_f b21 h
                    refine XW.reg (by kernel_rfl) ?_
                    refine XO.go [9] 4 [0,2,4,46] [[pi p1.kind, pi p1.scale, .ro (eField.els p1.fields)]] [(0, .one (.pt 0 0 0 0)), (2, vi p2), (4, .one (.pv (.rp [[pi p1.kind, pi p1.scale, .ro (eField.els p1.fields)]] 0 0))), (46, vb (p1.scale != (0 : Int)))] [.box [ci z1]] [([[pi p1.kind, pi p1.scale, .ro (eField.els p1.fields)]] : List (List PV))[0]? = some [pi p1.kind, pi p1.scale, .ro (eField.els p1.fields)]] (by kernel_rfl) (⟨rfl, trivial⟩) ?_
                    refine XO.setb 46 true (B := (p1.scale != (0 : Int))) rfl b19 ?_
                    refine XO.go [9] 4 [0,2,4,46,50] [[pi p1.kind, pi p1.scale, .ro (eField.els p1.fields)]] [(0, .one (.pt 0 0 0 0)), (2, vi p2), (4, .one (.pv (.rp [[pi p1.kind, pi p1.scale, .ro (eField.els p1.fields)]] 0 0))), (46, vb true), (50, vb (p1.kind != (3 : Int)))] [.box [ci z1]] [([[pi p1.kind, pi p1.scale, .ro (eField.els p1.fields)]] : List (List PV))[0]? = some [pi p1.kind, pi p1.scale, .ro (eField.els p1.fields)]] (by kernel_rfl) (⟨rfl, trivial⟩) ?_
                    refine XO.setb 50 false (B := (p1.kind != (3 : Int))) rfl b20 ?_
                    refine XO.go [9] 5 [0,2,4,46,55] [[pi p1.kind, pi p1.scale, .ro (eField.els p1.fields)]] [(0, .one (.pt 0 0 0 0)), (2, vi p2), (4, .one (.pv (.rp [[pi p1.kind, pi p1.scale, .ro (eField.els p1.fields)]] 0 0))), (46, vb true), (55, vb (decide (p1.scale < (0 : Int))))] [.box [ci z1]] [([[pi p1.kind, pi p1.scale, .ro (eField.els p1.fields)]] : List (List PV))[0]? = some [pi p1.kind, pi p1.scale, .ro (eField.els p1.fields)]] (by kernel_rfl) (⟨rfl, trivial⟩) ?_
                    refine XO.setb 55 false (B := (decide (p1.scale < (0 : Int)))) rfl b21 ?_
                    refine XO.go [9] 6 [0,2,4,42] [[pi p1.kind, pi p1.scale, .ro (eField.els p1.fields)]] [(0, .one (.pt 0 0 0 0)), (2, vi p2), (4, .one (.pv (.rp [[pi p1.kind, pi p1.scale, .ro (eField.els p1.fields)]] 0 0))), (42, vb (decide ((12 : Int) < p1.scale)))] [.box [ci z1]] [([[pi p1.kind, pi p1.scale, .ro (eField.els p1.fields)]] : List (List PV))[0]? = some [pi p1.kind, pi p1.scale, .ro (eField.els p1.fields)]] (by kernel_rfl) (⟨rfl, trivial⟩) ?_
                    refine XO.done (by kernel_rfl) ?_
                    exact hJ4 (decide ((12 : Int) < p1.scale)) h _ _ (Sub.pick [0,2,4,42] (by kernel_rfl))
              · have h := ift_f b19 h
                refine XW.reg (by kernel_rfl) ?_
                refine XO.go [9] 4 [0,2,4,46] [[pi p1.kind, pi p1.scale, .ro (eField.els p1.fields)]] [(0, .one (.pt 0 0 0 0)), (2, vi p2), (4, .one (.pv (.rp [[pi p1.kind, pi p1.scale, .ro (eField.els p1.fields)]] 0 0))), (46, vb (p1.scale != (0 : Int)))] [.box [ci z1]] [([[pi p1.kind, pi p1.scale, .ro (eField.els p1.fields)]] : List (List PV))[0]? = some [pi p1.kind, pi p1.scale, .ro (eField.els p1.fields)]] (by kernel_rfl) (⟨rfl, trivial⟩) ?_
                refine XO.setb 46 false (B := (p1.scale != (0 : Int))) rfl b19 ?_
                refine XO.go [9] 15 [0,2,4,42] [] [(0, .one (.pt 0 0 0 0)), (2, vi p2), (4, .one (.pv (.rp [[pi p1.kind, pi p1.scale, .ro (eField.els p1.fields)]] 0 0))), (42, vb false)] [.box [ci z1]] [] (by kernel_rfl) trivial ?_
                refine XO.done (by kernel_rfl) ?_
                exact hJ4 false h _ _ (Sub.pick [0,2,4,42] (by kernel_rfl))
          rcases Bool.eq_false_or_eq_true (decide (p1.kind < (1 : Int))) with b15 | b15
          · have h := ift_t b15 h
            refine XW.reg (by kernel_rfl) ?_
            refine XO.go [9] 4 [0,2,4,37] [[pi p1.kind, pi p1.scale, .ro (eField.els p1.fields)]] [(0, .one (.pt 0 0 0 0)), (2, vi p2), (4, .one (.pv (.rp [[pi p1.kind, pi p1.scale, .ro (eField.els p1.fields)]] 0 0))), (37, vb (decide (p1.kind < (1 : Int))))] [.box [ci z1]] [([[pi p1.kind, pi p1.scale, .ro (eField.els p1.fields)]] : List (List PV))[0]? = some [pi p1.kind, pi p1.scale, .ro (eField.els p1.fields)]] (by kernel_rfl) (⟨rfl, trivial⟩) ?_
            refine XO.setb 37 true (B := (decide (p1.kind < (1 : Int)))) rfl b15 ?_
            refine XO.go [9] 5 [0,2,4,33] [] [(0, .one (.pt 0 0 0 0)), (2, vi p2), (4, .one (.pv (.rp [[pi p1.kind, pi p1.scale, .ro (eField.els p1.fields)]] 0 0))), (33, vb true)] [.box [ci z1]] [] (by kernel_rfl) trivial ?_
            refine XO.done (by kernel_rfl) ?_
            exact hJ3 true h _ _ (Sub.pick [0,2,4,33] (by kernel_rfl))
          · have h := ift_f b15 h
            refine XW.reg (by kernel_rfl) ?_
            refine XO.go [9] 4 [0,2,4,37] [[pi p1.kind, pi p1.scale, .ro (eField.els p1.fields)]] [(0, .one (.pt 0 0 0 0)), (2, vi p2), (4, .one (.pv (.rp [[pi p1.kind, pi p1.scale, .ro (eField.els p1.fields)]] 0 0))), (37, vb (decide (p1.kind < (1 : Int))))] [.box [ci z1]] [([[pi p1.kind, pi p1.scale, .ro (eField.els p1.fields)]] : List (List PV))[0]? = some [pi p1.kind, pi p1.scale, .ro (eField.els p1.fields)]] (by kernel_rfl) (⟨rfl, trivial⟩) ?_
            refine XO.setb 37 false (B := (decide (p1.kind < (1 : Int)))) rfl b15 ?_
            refine XO.go [9] 5 [0,2,4,33] [[pi p1.kind, pi p1.scale, .ro (eField.els p1.fields)]] [(0, .one (.pt 0 0 0 0)), (2, vi p2), (4, .one (.pv (.rp [[pi p1.kind, pi p1.scale, .ro (eField.els p1.fields)]] 0 0))), (33, vb (decide ((7 : Int) < p1.kind)))] [.box [ci z1]] [([[pi p1.kind, pi p1.scale, .ro (eField.els p1.fields)]] : List (List PV))[0]? = some [pi p1.kind, pi p1.scale, .ro (eField.els p1.fields)]] (by kernel_rfl) (⟨rfl, trivial⟩) ?_
            refine XO.done (by kernel_rfl) ?_
            exact hJ3 (decide ((7 : Int) < p1.kind)) h _ _ (Sub.pick [0,2,4,33] (by kernel_rfl))
        refine XW.seq (x := cd Tryd.f80 [1,1,0,0]) (y := cd Tryd.f80 [1,1,0,1]) (by kernel_rfl) fun K10 hK10 => ?_
        obtain ⟨r2, c11, h⟩ := bnd_some h
        refine XW.reg (by kernel_rfl) ?_
        refine XO.go [9] 1 [0,2,4,24] [[pi p1.kind, pi p1.scale, .ro (eField.els p1.fields)]] [(0, .one (.pt 0 0 0 0)), (2, vi p2), (4, .one (.pv (.rp [[pi p1.kind, pi p1.scale, .ro (eField.els p1.fields)]] 0 0))), (24, .ag [ci p1.kind, ci p1.scale, cl eField p1.fields])] [.box [ci p3.leaves]] [([[pi p1.kind, pi p1.scale, .ro (eField.els p1.fields)]] : List (List PV))[0]? = some [pi p1.kind, pi p1.scale, .ro (eField.els p1.fields)]] (by kernel_rfl) (⟨rfl, trivial⟩) ?_
        refine XO.cal 116 [.ag [ci p1.kind, ci p1.scale, cl eField p1.fields]] (vb r2) [(25, vb r2), (0, .one (.pt 0 0 0 0)), (2, vi p2), (4, .one (.pv (.rp [[pi p1.kind, pi p1.scale, .ro (eField.els p1.fields)]] 0 0))), (24, .ag [ci p1.kind, ci p1.scale, cl eField p1.fields])] (by kernel_rfl) (c_value_leaf _ _ c11) rfl rfl (by kernel_rfl) ?_
        refine XO.done (by kernel_rfl) ?_
        refine hK10 _ _ ?_
        refine XW.cond (x := .tmp 25) (a := cd Tryd.f80 [1,1,0,1,0]) (b := cd Tryd.f80 [1,1,0,1,1]) (t := r2) (by kernel_rfl) (by kernel_rfl) (fun b12 => ?_) (fun b12 => ?_)
        · have h := ift_t b12 h
          refine XW.reg (by kernel_rfl) ?_
          refine XO.go [9] 8 [0,2,4] [] [(0, .one (.pt 0 0 0 0)), (2, vi p2), (4, .one (.pv (.rp [[pi p1.kind, pi p1.scale, .ro (eField.els p1.fields)]] 0 0)))] [.box [ci (IntKind.i64.wrap (p3.leaves + (1 : Int)))]] [] (by kernel_rfl) trivial ?_
          refine XO.done (by kernel_rfl) ?_
          exact hJ2 (IntKind.i64.wrap (p3.leaves + (1 : Int))) h _ _ (Sub.pick [0,2,4] (by kernel_rfl))
        · have h := ift_f b12 h
          refine XW.skip (by kernel_rfl) ?_
          exact hJ2 p3.leaves h _ _ (Sub.pick [0,2,4] (by kernel_rfl))
    rcases Bool.eq_false_or_eq_true (decide ((4 : Int) < p2)) with b4 | b4
    · have h := ift_t b4 h
      refine XW.reg (by kernel_rfl) ?_
      refine XO.go [9] 3 [0,2,4,13] [] [(0, .one (.pt 0 0 0 0)), (2, vi p2), (4, .one (.pv (.rp [[pi p1.kind, pi p1.scale, .ro (eField.els p1.fields)]] 0 0))), (13, vb (decide ((4 : Int) < p2)))] [.box [ci p3.leaves]] [] (by kernel_rfl) trivial ?_
      refine XO.setb 13 true (B := (decide ((4 : Int) < p2))) rfl b4 ?_
      refine XO.go [9] 10 [0,2,4,23] [] [(0, .one (.pt 0 0 0 0)), (2, vi p2), (4, .one (.pv (.rp [[pi p1.kind, pi p1.scale, .ro (eField.els p1.fields)]] 0 0))), (23, vb true)] [.box [ci p3.leaves]] [] (by kernel_rfl) trivial ?_
      refine XO.done (by kernel_rfl) ?_
      exact hJ1 true h _ _ (Sub.pick [0,2,4,23] (by kernel_rfl))
    · have h := ift_f b4 h
      obtain ⟨r1, c5, h⟩ := bnd_some h
      rcases Bool.eq_false_or_eq_true r1 with b6 | b6
      · have h := ift_t b6 h
        refine XW.reg (by kernel_rfl) ?_
        refine XO.go [9] 3 [0,2,4,13] [] [(0, .one (.pt 0 0 0 0)), (2, vi p2), (4, .one (.pv (.rp [[pi p1.kind, pi p1.scale, .ro (eField.els p1.fields)]] 0 0))), (13, vb (decide ((4 : Int) < p2)))] [.box [ci p3.leaves]] [] (by kernel_rfl) trivial ?_
        refine XO.setb 13 false (B := (decide ((4 : Int) < p2))) rfl b4 ?_
        refine XO.go [9] 1 [0,2,4,13,14] [[pi p1.kind, pi p1.scale, .ro (eField.els p1.fields)]] [(0, .one (.pt 0 0 0 0)), (2, vi p2), (4, .one (.pv (.rp [[pi p1.kind, pi p1.scale, .ro (eField.els p1.fields)]] 0 0))), (13, vb false), (14, .ag [ci p1.kind, ci p1.scale, cl eField p1.fields])] [.box [ci p3.leaves]] [([[pi p1.kind, pi p1.scale, .ro (eField.els p1.fields)]] : List (List PV))[0]? = some [pi p1.kind, pi p1.scale, .ro (eField.els p1.fields)]] (by kernel_rfl) (⟨rfl, trivial⟩) ?_
        refine XO.cal 116 [.ag [ci p1.kind, ci p1.scale, cl eField p1.fields]] (vb r1) [(15, vb r1), (0, .one (.pt 0 0 0 0)), (2, vi p2), (4, .one (.pv (.rp [[pi p1.kind, pi p1.scale, .ro (eField.els p1.fields)]] 0 0))), (13, vb false), (14, .ag [ci p1.kind, ci p1.scale, cl eField p1.fields])] (by kernel_rfl) (c_value_leaf _ _ c5) rfl rfl (by kernel_rfl) ?_
        refine XO.go [9] 1 [0,2,4,13,16] [] [(0, .one (.pt 0 0 0 0)), (2, vi p2), (4, .one (.pv (.rp [[pi p1.kind, pi p1.scale, .ro (eField.els p1.fields)]] 0 0))), (13, vb false), (16, vb r1)] [.box [ci p3.leaves]] [] (by kernel_rfl) trivial ?_
        refine XO.setb 16 true (B := r1) rfl b6 ?_
        refine XO.go [9] 7 [0,2,4,23] [] [(0, .one (.pt 0 0 0 0)), (2, vi p2), (4, .one (.pv (.rp [[pi p1.kind, pi p1.scale, .ro (eField.els p1.fields)]] 0 0))), (23, vb (p3.leaves == (40 : Int)))] [.box [ci p3.leaves]] [] (by kernel_rfl) trivial ?_
        refine XO.done (by kernel_rfl) ?_
        exact hJ1 (p3.leaves == (40 : Int)) h _ _ (Sub.pick [0,2,4,23] (by kernel_rfl))
      · have h := ift_f b6 h
        refine XW.reg (by kernel_rfl) ?_
        refine XO.go [9] 3 [0,2,4,13] [] [(0, .one (.pt 0 0 0 0)), (2, vi p2), (4, .one (.pv (.rp [[pi p1.kind, pi p1.scale, .ro (eField.els p1.fields)]] 0 0))), (13, vb (decide ((4 : Int) < p2)))] [.box [ci p3.leaves]] [] (by kernel_rfl) trivial ?_
        refine XO.setb 13 false (B := (decide ((4 : Int) < p2))) rfl b4 ?_
        refine XO.go [9] 1 [0,2,4,13,14] [[pi p1.kind, pi p1.scale, .ro (eField.els p1.fields)]] [(0, .one (.pt 0 0 0 0)), (2, vi p2), (4, .one (.pv (.rp [[pi p1.kind, pi p1.scale, .ro (eField.els p1.fields)]] 0 0))), (13, vb false), (14, .ag [ci p1.kind, ci p1.scale, cl eField p1.fields])] [.box [ci p3.leaves]] [([[pi p1.kind, pi p1.scale, .ro (eField.els p1.fields)]] : List (List PV))[0]? = some [pi p1.kind, pi p1.scale, .ro (eField.els p1.fields)]] (by kernel_rfl) (⟨rfl, trivial⟩) ?_
        refine XO.cal 116 [.ag [ci p1.kind, ci p1.scale, cl eField p1.fields]] (vb r1) [(15, vb r1), (0, .one (.pt 0 0 0 0)), (2, vi p2), (4, .one (.pv (.rp [[pi p1.kind, pi p1.scale, .ro (eField.els p1.fields)]] 0 0))), (13, vb false), (14, .ag [ci p1.kind, ci p1.scale, cl eField p1.fields])] (by kernel_rfl) (c_value_leaf _ _ c5) rfl rfl (by kernel_rfl) ?_
        refine XO.go [9] 1 [0,2,4,13,16] [] [(0, .one (.pt 0 0 0 0)), (2, vi p2), (4, .one (.pv (.rp [[pi p1.kind, pi p1.scale, .ro (eField.els p1.fields)]] 0 0))), (13, vb false), (16, vb r1)] [.box [ci p3.leaves]] [] (by kernel_rfl) trivial ?_
        refine XO.setb 16 false (B := r1) rfl b6 ?_
        refine XO.go [9] 7 [0,2,4,23] [] [(0, .one (.pt 0 0 0 0)), (2, vi p2), (4, .one (.pv (.rp [[pi p1.kind, pi p1.scale, .ro (eField.els p1.fields)]] 0 0))), (23, vb false)] [.box [ci p3.leaves]] [] (by kernel_rfl) trivial ?_
        refine XO.done (by kernel_rfl) ?_
        exact hJ1 false h _ _ (Sub.pick [0,2,4,23] (by kernel_rfl))

def value_CheckType (p1 : GType) : Option Int :=
    bnd (value_checker_check BIG p1 (1 : Int) (GChecker.mk (0 : Int))) fun r1 =>
    some r1.1


theorem c_value_CheckType (p1 : GType) (r : Int) (h : value_CheckType p1 = some r) : PC Tryd.prog 33 [.ag [ci p1.kind, ci p1.scale, cl eField p1.fields]] (vi r) := by
  unfold value_CheckType at h
  refine PC.of (n := 9) (fn := Tryd.f33) (c := cd Tryd.f33 []) (by kernel_rfl) (by kernel_rfl) (by kernel_rfl) (Nat.le_of_ble_eq_true rfl) ?_
  refine XW.seq (x := cd Tryd.f33 [0]) (y := cd Tryd.f33 [1]) (by kernel_rfl) fun K1 hK1 => ?_
  refine XW.reg (by kernel_rfl) ?_
  refine XO.go [5] 2 [1] [] [(1, .one (.pv (.rp [[pi p1.kind, pi p1.scale, .ro (eField.els p1.fields)]] 0 0)))] [] [] (by kernel_rfl) trivial ?_
  refine XO.done (by kernel_rfl) ?_
  refine hK1 _ _ ?_
  refine XW.seq (x := cd Tryd.f33 [1,0]) (y := cd Tryd.f33 [1,1]) (by kernel_rfl) fun K2 hK2 => ?_
  refine XW.reg (by kernel_rfl) ?_
  refine XO.go [5] 3 [1,3] [] [(1, .one (.pv (.rp [[pi p1.kind, pi p1.scale, .ro (eField.els p1.fields)]] 0 0))), (3, .one (.pt 0 0 0 0))] [.box [ci (0 : Int)]] [] (by kernel_rfl) trivial ?_
  refine XO.done (by kernel_rfl) ?_
  refine hK2 _ _ ?_
  refine XW.seq (x := cd Tryd.f33 [1,1,0]) (y := cd Tryd.f33 [1,1,1]) (by kernel_rfl) fun K3 hK3 => ?_
  obtain ⟨r1, c4, h⟩ := bnd_some h
  refine XW.reg (by kernel_rfl) ?_
  refine XO.go [5] 2 [6,7] [[pi p1.kind, pi p1.scale, .ro (eField.els p1.fields)]] [(6, .one (.pt 0 0 0 0)), (7, .ag [ci p1.kind, ci p1.scale, cl eField p1.fields])] [.box [ci (0 : Int)]] [([[pi p1.kind, pi p1.scale, .ro (eField.els p1.fields)]] : List (List PV))[0]? = some [pi p1.kind, pi p1.scale, .ro (eField.els p1.fields)]] (by kernel_rfl) (⟨rfl, trivial⟩) ?_
  refine XO.calm 80 [.one (.pt 0 0 0 0), .ag [ci p1.kind, ci p1.scale, cl eField p1.fields], vi (1 : Int)] [.box [ci (0 : Int)]] [.box [ci r1.2.leaves]] (vi r1.1) [0] [(8, vi r1.1), (6, .one (.pt 0 0 0 0)), (7, .ag [ci p1.kind, ci p1.scale, cl eField p1.fields])] [.box [ci r1.2.leaves]] (by kernel_rfl) (c_value_checker_check BIG _ _ _ _ c4) (by kernel_rfl) (by kernel_rfl) (by kernel_rfl) (by kernel_rfl) ?_
  refine XO.go [5] 1 [2] [] [(2, vi r1.1)] [.box [ci r1.2.leaves]] [] (by kernel_rfl) trivial ?_
  refine XO.done (by kernel_rfl) ?_
  refine hK3 _ _ ?_
  refine XW.ret (by kernel_rfl) ?_
  obtain rfl := Option.some.inj h
  exact FinP.fin (.inr rfl) [] [vi r1.1] [] (by kernel_rfl) trivial (.one (.rfl _ rfl))

def slices_EqualFunc_api_Field_api_Value_api_Field_api_Value_of_value_of_2_j1 : Option Bool :=
    some true

def slices_EqualFunc_api_Field_api_Value_api_Field_api_Value_of_value_of_2_l1 (q_value_of_2 : GField → GValue → Option Bool) (p1 : (List GField)) (p2 : (List GValue)) : Nat → Int → Option Bool
  | 0, _ => none
  | k1 + 1, x1 =>
    ift (decide (x1 < (p1.length : Int)))
      (bnd (at? p1 x1) fun e1 =>
       bnd (at? p2 x1) fun e2 =>
       bnd (q_value_of_2 e1 e2) fun r1 =>
       ift (!r1)
         (some false)
         ((slices_EqualFunc_api_Field_api_Value_api_Field_api_Value_of_value_of_2_l1 q_value_of_2 p1 p2 k1) (IntKind.i64.wrap (x1 + (1 : Int)))))
      (slices_EqualFunc_api_Field_api_Value_api_Field_api_Value_of_value_of_2_j1)

def slices_IndexFunc_api_Value_api_Value_of_value_of_1_j1 : Option Int :=
    some (-1 : Int)

def slices_IndexFunc_api_Value_api_Value_of_value_of_1_l1 (q_value_of_1_s : GValue → Int → Int → (List GField) → Option Bool) (p1 : (List GValue)) (p2 : Int) (p3 : Int) (p4 : (List GField)) : Nat → Int → Option Int
  | 0, _ => none
  | k1 + 1, x1 =>
    ift (decide (x1 < (p1.length : Int)))
      (bnd (at? p1 x1) fun e1 =>
       bnd (q_value_of_1_s e1 p2 p3 p4) fun r1 =>
       ift r1
         (some x1)
         ((slices_IndexFunc_api_Value_api_Value_of_value_of_1_l1 q_value_of_1_s p1 p2 p3 p4 k1) (IntKind.i64.wrap (x1 + (1 : Int)))))
      (slices_IndexFunc_api_Value_api_Value_of_value_of_1_j1)

mutual

def slices_ContainsFunc_api_Value_api_Value_of_value_of_1 : Nat → (List GValue) → Int → Int → (List GField) → Option Bool
  | 0, _, _, _, _ => none
  | k0 + 1, p1, p2, p3, p4 =>
    bnd ((slices_IndexFunc_api_Value_api_Value_of_value_of_1 k0) p1 p2 p3 p4) fun r1 =>
    some (decide ((0 : Int) ≤ r1))

def slices_EqualFunc_api_Field_api_Value_api_Field_api_Value_of_value_of_2 : Nat → (List GField) → (List GValue) → Option Bool
  | 0, _, _ => none
  | k0 + 1, p1, p2 =>
    ift ((p1.length : Int) != (p2.length : Int))
      (some false)
      (slices_EqualFunc_api_Field_api_Value_api_Field_api_Value_of_value_of_2_l1 (value_of_2 k0) p1 p2 BIG (0 : Int))

def slices_IndexFunc_api_Value_api_Value_of_value_of_1 : Nat → (List GValue) → Int → Int → (List GField) → Option Int
  | 0, _, _, _, _ => none
  | k0 + 1, p1, p2, p3, p4 =>
    slices_IndexFunc_api_Value_api_Value_of_value_of_1_l1 (value_of_1_s k0) p1 p2 p3 p4 BIG (0 : Int)

def value_of : Nat → GType → GValue → Option Bool
  | 0, _, _ => none
  | k0 + 1, p1, p2 =>
    ift (p2.kind == (0 : Int))
      (some true)
      (ift (p2.kind != p1.kind)
         (some false)
         (ift (p2.kind == (3 : Int))
            (some (p2.scale == p1.scale))
            (ift (p2.kind == (6 : Int))
               (bnd ((slices_ContainsFunc_api_Value_api_Value_of_value_of_1 k0) p2.items p1.kind p1.scale p1.fields) fun r1 =>
                some (!r1))
               (ift (p2.kind == (7 : Int))
                  (bnd ((slices_EqualFunc_api_Field_api_Value_api_Field_api_Value_of_value_of_2 k0) p1.fields p2.items) fun r2 =>
                   some r2)
                  (some true)))))

def value_of_1_s : Nat → GValue → Int → Int → (List GField) → Option Bool
  | 0, _, _, _, _ => none
  | k0 + 1, p1, p2, p3, p4 =>
    bnd (at? p4 (0 : Int)) fun e1 =>
    bnd ((value_of k0) e1.type p1) fun r1 =>
    some (!r1)

def value_of_2 : Nat → GField → GValue → Option Bool
  | 0, _, _ => none
  | k0 + 1, p1, p2 =>
    bnd ((value_of k0) p1.type p2) fun r1 =>
    some r1

end


mutual

theorem c_slices_ContainsFunc_api_Value_api_Value_of_value_of_1 : ∀ (k0 : Nat) (p1 : (List GValue)) (p2 : Int) (p3 : Int) (p4 : (List GField)) (r : Bool), slices_ContainsFunc_api_Value_api_Value_of_value_of_1 k0 p1 p2 p3 p4 = some r → PC Tryd.prog 39 [vl eValue p1, .one (.fn 81 [.pv (.rp [[pi p2, pi p3, .ro (eField.els p4)]] 0 0)])] (vb r)
  | 0, _, _, _, _, r, h => by rw [slices_ContainsFunc_api_Value_api_Value_of_value_of_1.eq_1] at h; cases h
  | k0 + 1, p1, p2, p3, p4, r, h => by
    rw [slices_ContainsFunc_api_Value_api_Value_of_value_of_1.eq_2] at h
    refine PC.of (n := 9) (fn := Tryd.f39) (c := cd Tryd.f39 []) (by kernel_rfl) (by kernel_rfl) (by kernel_rfl) (Nat.le_of_ble_eq_true rfl) ?_
    refine XW.seq (x := cd Tryd.f39 [0]) (y := cd Tryd.f39 [1]) (by kernel_rfl) fun K1 hK1 => ?_
    refine XW.reg (by kernel_rfl) ?_
    refine XO.go [] 1 [0,1] [] [(0, vl eValue p1), (1, .one (.fn 81 [.pv (.rp [[pi p2, pi p3, .ro (eField.els p4)]] 0 0)]))] [] [] (by kernel_rfl) trivial ?_
    refine XO.done (by kernel_rfl) ?_
    refine hK1 _ _ ?_
    refine XW.seq (x := cd Tryd.f39 [1,0]) (y := cd Tryd.f39 [1,1]) (by kernel_rfl) fun K2 hK2 => ?_
    obtain ⟨r1, c3, h⟩ := bnd_some h
    refine XW.reg (by kernel_rfl) ?_
    refine XO.go [] 2 [5,6] [] [(5, vl eValue p1), (6, .one (.fn 81 [.pv (.rp [[pi p2, pi p3, .ro (eField.els p4)]] 0 0)]))] [] [] (by kernel_rfl) trivial ?_
    refine XO.cal 86 [vl eValue p1, .one (.fn 81 [.pv (.rp [[pi p2, pi p3, .ro (eField.els p4)]] 0 0)])] (vi r1) [(7, vi r1), (5, vl eValue p1), (6, .one (.fn 81 [.pv (.rp [[pi p2, pi p3, .ro (eField.els p4)]] 0 0)]))] (by kernel_rfl) (c_slices_IndexFunc_api_Value_api_Value_of_value_of_1 k0 _ _ _ _ _ c3) rfl rfl (by kernel_rfl) ?_
    refine XO.go [] 2 [4] [] [(4, vb (decide ((0 : Int) ≤ r1)))] [] [] (by kernel_rfl) trivial ?_
    refine XO.done (by kernel_rfl) ?_
    refine hK2 _ _ ?_
    refine XW.ret (by kernel_rfl) ?_
    obtain rfl := Option.some.inj h
    exact FinP.fin (.inr rfl) [] [vb (decide ((0 : Int) ≤ r1))] [] (by kernel_rfl) trivial (.one (.rfl _ rfl))

theorem c_slices_EqualFunc_api_Field_api_Value_api_Field_api_Value_of_value_of_2 : ∀ (k0 : Nat) (p1 : (List GField)) (p2 : (List GValue)) (r : Bool), slices_EqualFunc_api_Field_api_Value_api_Field_api_Value_of_value_of_2 k0 p1 p2 = some r → PC Tryd.prog 82 [vl eField p1, vl eValue p2, .one (.pv (.fn 83 []))] (vb r)
  | 0, _, _, r, h => by rw [slices_EqualFunc_api_Field_api_Value_api_Field_api_Value_of_value_of_2.eq_1] at h; cases h
  | k0 + 1, p1, p2, r, h => by
    rw [slices_EqualFunc_api_Field_api_Value_api_Field_api_Value_of_value_of_2.eq_2] at h
    refine PC.of (n := 32) (fn := Tryd.f82) (c := cd Tryd.f82 []) (by kernel_rfl) (by kernel_rfl) (by kernel_rfl) (Nat.le_of_ble_eq_true rfl) ?_
    refine XW.seq (x := cd Tryd.f82 [0]) (y := cd Tryd.f82 [1]) (by kernel_rfl) fun K1 hK1 => ?_
    refine XW.reg (by kernel_rfl) ?_
    refine XO.go [8, 9] 1 [0,1,2] [] [(0, vl eField p1), (1, vl eValue p2), (2, .one (.pv (.fn 83 [])))] [] [] (by kernel_rfl) trivial ?_
    refine XO.done (by kernel_rfl) ?_
    refine hK1 _ _ ?_
    refine XW.seq (x := cd Tryd.f82 [1,0]) (y := cd Tryd.f82 [1,1]) (by kernel_rfl) fun K2 hK2 => ?_
    refine XW.seq (x := cd Tryd.f82 [1,0,0]) (y := cd Tryd.f82 [1,0,1]) (by kernel_rfl) fun K3 hK3 => ?_
    refine XW.reg (by kernel_rfl) ?_
    refine XO.go [8, 9] 2 [0,1,2,11] [] [(0, vl eField p1), (1, vl eValue p2), (2, .one (.pv (.fn 83 []))), (11, vi ((eField.els p1).length : Int))] [] [] (by kernel_rfl) trivial ?_
    rw [eField.len p1]
    refine XO.go [8, 9] 2 [0,1,2,11,13] [] [(0, vl eField p1), (1, vl eValue p2), (2, .one (.pv (.fn 83 []))), (11, vi (p1.length : Int)), (13, vi ((eValue.els p2).length : Int))] [] [] (by kernel_rfl) trivial ?_
    rw [eValue.len p2]
    refine XO.go [8, 9] 1 [0,1,2,14] [] [(0, vl eField p1), (1, vl eValue p2), (2, .one (.pv (.fn 83 []))), (14, vb ((p1.length : Int) != (p2.length : Int)))] [] [] (by kernel_rfl) trivial ?_
    refine XO.done (by kernel_rfl) ?_
    refine hK3 _ _ ?_
    refine XW.cond (x := .tmp 14) (a := cd Tryd.f82 [1,0,1,0]) (b := cd Tryd.f82 [1,0,1,1]) (t := ((p1.length : Int) != (p2.length : Int))) (by kernel_rfl) (by kernel_rfl) (fun b4 => ?_) (fun b4 => ?_)
    · have h := ift_t b4 h
      refine XW.seq (x := cd Tryd.f82 [1,0,1,0,0]) (y := cd Tryd.f82 [1,0,1,0,1]) (by kernel_rfl) fun K5 hK5 => ?_
      refine XW.reg (by kernel_rfl) ?_
      refine XO.go [8, 9] 1 [6] [] [(6, vb false)] [] [] (by kernel_rfl) trivial ?_
      refine XO.done (by kernel_rfl) ?_
      refine hK5 _ _ ?_
      refine XW.ret (by kernel_rfl) ?_
      obtain rfl := Option.some.inj h
      exact FinP.fin (.inr rfl) [] [vb false] [] (by kernel_rfl) trivial (.one (.rfl _ rfl))
    · have h := ift_f b4 h
      refine XW.skip (by kernel_rfl) ?_
      refine hK2 _ _ ?_
      refine XW.seq (x := cd Tryd.f82 [1,1,0]) (y := cd Tryd.f82 [1,1,1]) (by kernel_rfl) fun K6 hK6 => ?_
      have hJ1 : ∀ (_ : Unit), slices_EqualFunc_api_Field_api_Value_api_Field_api_Value_of_value_of_2_j1 = some r → ∀ fr1 st1, Sub 32 0 [] fr1 st1 [] [] → K6 fr1 st1 := by
        intro _ h fr1 st1 hS
        unfold slices_EqualFunc_api_Field_api_Value_api_Field_api_Value_of_value_of_2_j1 at h
        refine hK6 _ _ (XW.sub hS ?_)
        refine XW.seq (x := cd Tryd.f82 [1,1,1,0]) (y := cd Tryd.f82 [1,1,1,1]) (by kernel_rfl) fun K20 hK20 => ?_
        refine XW.reg (by kernel_rfl) ?_
        refine XO.go [8, 9] 1 [6] [] [(6, vb true)] [] [] (by kernel_rfl) trivial ?_
        refine XO.done (by kernel_rfl) ?_
        refine hK20 _ _ ?_
        refine XW.ret (by kernel_rfl) ?_
        obtain rfl := Option.some.inj h
        exact FinP.fin (.inr rfl) [] [vb true] [] (by kernel_rfl) trivial (.one (.rfl _ rfl))
      refine XW.seq (x := cd Tryd.f82 [1,1,0,0]) (y := cd Tryd.f82 [1,1,0,1]) (by kernel_rfl) fun K7 hK7 => ?_
      refine XW.reg (by kernel_rfl) ?_
      refine XO.go [8, 9] 2 [1,2,15,16] [] [(1, vl eValue p2), (2, .one (.pv (.fn 83 []))), (15, vl eField p1), (16, vi ((eField.els p1).length : Int))] [] [] (by kernel_rfl) trivial ?_
      rw [eField.len p1]
      refine XO.go [8, 9] 1 [1,2,15,16,17] [] [(1, vl eValue p2), (2, .one (.pv (.fn 83 []))), (15, vl eField p1), (16, vi (p1.length : Int)), (17, vi (0 : Int))] [] [] (by kernel_rfl) trivial ?_
      refine XO.done (by kernel_rfl) ?_
      refine hK7 _ _ ?_
      refine XW.block (id := 0) (x := cd Tryd.f82 [1,1,0,1,0]) (by kernel_rfl) ?_
      refine XW.rounds' BIG (x := cd Tryd.f82 [1,1,0,1,0,0]) (by kernel_rfl) fun Q1 hQ1 => ?_
      have hL1 : ∀ (k1 : Nat) (x1 : Int), slices_EqualFunc_api_Field_api_Value_api_Field_api_Value_of_value_of_2_l1 (value_of_2 k0) p1 p2 k1 x1 = some r → XR Tryd.prog 32 0 [] (cd Tryd.f82 [1,1,0,1,0,0]) Q1 k1 [(1, vl eValue p2), (2, .one (.pv (.fn 83 []))), (15, vl eField p1), (16, vi (p1.length : Int)), (17, vi x1)] [] := by
        intro k1
        induction k1 with
        | zero => intro x1 h; rw [slices_EqualFunc_api_Field_api_Value_api_Field_api_Value_of_value_of_2_l1.eq_1] at h; cases h
        | succ k1 ih1 =>
          intro x1 h
          rw [slices_EqualFunc_api_Field_api_Value_api_Field_api_Value_of_value_of_2_l1.eq_2] at h
          refine XW.seq (x := cd Tryd.f82 [1,1,0,1,0,0,0]) (y := cd Tryd.f82 [1,1,0,1,0,0,1]) (by kernel_rfl) fun K8 hK8 => ?_
          refine XW.reg (by kernel_rfl) ?_
          refine XO.go [8, 9] 1 [1,2,15,16,17,18] [] [(1, vl eValue p2), (2, .one (.pv (.fn 83 []))), (15, vl eField p1), (16, vi (p1.length : Int)), (17, vi x1), (18, vb (decide (x1 < (p1.length : Int))))] [] [] (by kernel_rfl) trivial ?_
          refine XO.done (by kernel_rfl) ?_
          refine hK8 _ _ ?_
          refine XW.seq (x := cd Tryd.f82 [1,1,0,1,0,0,1,0]) (y := cd Tryd.f82 [1,1,0,1,0,0,1,1]) (by kernel_rfl) fun K9 hK9 => ?_
          refine XW.cond (x := .tmp 18) (a := cd Tryd.f82 [1,1,0,1,0,0,1,0,0]) (b := cd Tryd.f82 [1,1,0,1,0,0,1,0,1]) (t := (decide (x1 < (p1.length : Int)))) (by kernel_rfl) (by kernel_rfl) (fun b10 => ?_) (fun b10 => ?_)
          · have h := ift_t b10 h
            refine XW.skip (by kernel_rfl) ?_
            refine hK9 _ _ ?_
            refine XW.seq (x := cd Tryd.f82 [1,1,0,1,0,0,1,1,0]) (y := cd Tryd.f82 [1,1,0,1,0,0,1,1,1]) (by kernel_rfl) fun K11 hK11 => ?_
            refine XW.block (id := 1) (x := cd Tryd.f82 [1,1,0,1,0,0,1,1,0,0]) (by kernel_rfl) ?_
            refine XW.seq (x := cd Tryd.f82 [1,1,0,1,0,0,1,1,0,0,0]) (y := cd Tryd.f82 [1,1,0,1,0,0,1,1,0,0,1]) (by kernel_rfl) fun K12 hK12 => ?_
            obtain ⟨e1, a13, h⟩ := bnd_some h
            refine XW.reg (by kernel_rfl) ?_
            refine XO.go [8, 9] 6 [1,2,7,8,15,16,17] [[pi e1.id, .s (.string e1.name), .s (.bool e1.need), pi e1.type.kind, pi e1.type.scale, .ro (eField.els e1.type.fields)]] [(1, vl eValue p2), (2, .one (.pv (.fn 83 []))), (7, vi x1), (8, .one (.pt 0 0 0 0)), (15, vl eField p1), (16, vi (p1.length : Int)), (17, vi x1)] [.box [ci e1.id, cst e1.name, cb e1.need, ci e1.type.kind, ci e1.type.scale, cl eField e1.type.fields]] [0 ≤ x1 ∧ x1 < ((eField.els p1).length : Int) ∧ elemsOk 6 (eField.els p1), (eField.els p1)[x1.toNat]? = some [pi e1.id, .s (.string e1.name), .s (.bool e1.need), pi e1.type.kind, pi e1.type.scale, .ro (eField.els e1.type.fields)]] (by kernel_rfl) (⟨eField.inb a13, ((eField.get a13).trans (by rcases e1 with ⟨_, _, _, ⟨_, _, _⟩⟩; rfl)), trivial⟩) ?_
            refine XO.done (by kernel_rfl) ?_
            refine hK12 _ _ ?_
            refine XW.seq (x := cd Tryd.f82 [1,1,0,1,0,0,1,1,0,0,1,0]) (y := cd Tryd.f82 [1,1,0,1,0,0,1,1,0,0,1,1]) (by kernel_rfl) fun K14 hK14 => ?_
            obtain ⟨e2, a15, h⟩ := bnd_some h
            refine XW.reg (by kernel_rfl) ?_
            refine XO.go [8, 9] 6 [1,2,8,9,15,16,17] [[pi e2.kind, pi e2.n, pi e2.scale, .s (.string e2.s), .ro (eValue.els e2.items)]] [(1, vl eValue p2), (2, .one (.pv (.fn 83 []))), (8, .one (.pt 0 0 0 0)), (9, .one (.pt 1 0 0 0)), (15, vl eField p1), (16, vi (p1.length : Int)), (17, vi x1)] [.box [ci e1.id, cst e1.name, cb e1.need, ci e1.type.kind, ci e1.type.scale, cl eField e1.type.fields], .box [ci e2.kind, ci e2.n, ci e2.scale, cst e2.s, cl eValue e2.items]] [0 ≤ x1 ∧ x1 < ((eValue.els p2).length : Int) ∧ elemsOk 5 (eValue.els p2), (eValue.els p2)[x1.toNat]? = some [pi e2.kind, pi e2.n, pi e2.scale, .s (.string e2.s), .ro (eValue.els e2.items)]] (by kernel_rfl) (⟨eValue.inb a15, ((eValue.get a15).trans (by cases e2; rfl)), trivial⟩) ?_
            refine XO.done (by kernel_rfl) ?_
            refine hK14 _ _ ?_
            refine XW.seq (x := cd Tryd.f82 [1,1,0,1,0,0,1,1,0,0,1,1,0]) (y := cd Tryd.f82 [1,1,0,1,0,0,1,1,0,0,1,1,1]) (by kernel_rfl) fun K16 hK16 => ?_
            obtain ⟨r1, c17, h⟩ := bnd_some h
            refine XW.reg (by kernel_rfl) ?_
            refine XO.go [8, 9] 3 [1,2,15,16,17,26,27,28] [] [(1, vl eValue p2), (2, .one (.pv (.fn 83 []))), (15, vl eField p1), (16, vi (p1.length : Int)), (17, vi x1), (26, .one (.pv (.fn 83 []))), (27, .ag [ci e1.id, cst e1.name, cb e1.need, ci e1.type.kind, ci e1.type.scale, cl eField e1.type.fields]), (28, .ag [ci e2.kind, ci e2.n, ci e2.scale, cst e2.s, cl eValue e2.items])] [.box [ci e1.id, cst e1.name, cb e1.need, ci e1.type.kind, ci e1.type.scale, cl eField e1.type.fields], .box [ci e2.kind, ci e2.n, ci e2.scale, cst e2.s, cl eValue e2.items]] [] (by kernel_rfl) trivial ?_
            refine XO.cal 83 [.ag [ci e1.id, cst e1.name, cb e1.need, ci e1.type.kind, ci e1.type.scale, cl eField e1.type.fields], .ag [ci e2.kind, ci e2.n, ci e2.scale, cst e2.s, cl eValue e2.items]] (vb r1) [(29, vb r1), (1, vl eValue p2), (2, .one (.pv (.fn 83 []))), (15, vl eField p1), (16, vi (p1.length : Int)), (17, vi x1), (26, .one (.pv (.fn 83 []))), (27, .ag [ci e1.id, cst e1.name, cb e1.need, ci e1.type.kind, ci e1.type.scale, cl eField e1.type.fields]), (28, .ag [ci e2.kind, ci e2.n, ci e2.scale, cst e2.s, cl eValue e2.items])] (by kernel_rfl) (c_value_of_2 k0 _ _ _ c17) rfl rfl (by kernel_rfl) ?_
            refine XO.go [8, 9] 1 [1,2,15,16,17,30] [] [(1, vl eValue p2), (2, .one (.pv (.fn 83 []))), (15, vl eField p1), (16, vi (p1.length : Int)), (17, vi x1), (30, vb (!r1))] [.box [ci e1.id, cst e1.name, cb e1.need, ci e1.type.kind, ci e1.type.scale, cl eField e1.type.fields], .box [ci e2.kind, ci e2.n, ci e2.scale, cst e2.s, cl eValue e2.items]] [] (by kernel_rfl) trivial ?_
            refine XO.done (by kernel_rfl) ?_
            refine hK16 _ _ ?_
            refine XW.cond (x := .tmp 30) (a := cd Tryd.f82 [1,1,0,1,0,0,1,1,0,0,1,1,1,0]) (b := cd Tryd.f82 [1,1,0,1,0,0,1,1,0,0,1,1,1,1]) (t := (!r1)) (by kernel_rfl) (by kernel_rfl) (fun b18 => ?_) (fun b18 => ?_)
            · have h := ift_t b18 h
              refine XW.seq (x := cd Tryd.f82 [1,1,0,1,0,0,1,1,0,0,1,1,1,0,0]) (y := cd Tryd.f82 [1,1,0,1,0,0,1,1,0,0,1,1,1,0,1]) (by kernel_rfl) fun K19 hK19 => ?_
              refine XW.reg (by kernel_rfl) ?_
              refine XO.go [8, 9] 1 [6] [] [(6, vb false)] [.box [ci e1.id, cst e1.name, cb e1.need, ci e1.type.kind, ci e1.type.scale, cl eField e1.type.fields], .box [ci e2.kind, ci e2.n, ci e2.scale, cst e2.s, cl eValue e2.items]] [] (by kernel_rfl) trivial ?_
              refine XO.done (by kernel_rfl) ?_
              refine hK19 _ _ ?_
              refine XW.ret (by kernel_rfl) ?_
              refine hQ1 _ _ _ ?_
              obtain rfl := Option.some.inj h
              exact FinP.fin (.inr rfl) [] [vb false] [] (by kernel_rfl) trivial (.one (.rfl _ rfl))
            · have h := ift_f b18 h
              refine XW.skip (by kernel_rfl) ?_
              refine hK11 _ _ ?_
              refine XW.reg (by kernel_rfl) ?_
              refine XO.go [8, 9] 2 [1,2,15,16,17] [] [(1, vl eValue p2), (2, .one (.pv (.fn 83 []))), (15, vl eField p1), (16, vi (p1.length : Int)), (17, vi (IntKind.i64.wrap (x1 + (1 : Int))))] [.box [ci e1.id, cst e1.name, cb e1.need, ci e1.type.kind, ci e1.type.scale, cl eField e1.type.fields], .box [ci e2.kind, ci e2.n, ci e2.scale, cst e2.s, cl eValue e2.items]] [] (by kernel_rfl) trivial ?_
              refine XO.done (by kernel_rfl) ?_
              exact XR.sub (Sub.trans (Sub.pick (fr' := [(1, vl eValue p2), (2, .one (.pv (.fn 83 []))), (15, vl eField p1), (16, vi (p1.length : Int)), (17, vi (IntKind.i64.wrap (x1 + (1 : Int))))]) [1,2,15,16,17] (by kernel_rfl)) (Sub.take (fr' := [(1, vl eValue p2), (2, .one (.pv (.fn 83 []))), (15, vl eField p1), (16, vi (p1.length : Int)), (17, vi (IntKind.i64.wrap (x1 + (1 : Int))))]) 0 (Nat.zero_le _) (by kernel_rfl) (by kernel_rfl))) (ih1 (IntKind.i64.wrap (x1 + (1 : Int))) h)
          · have h := ift_f b10 h
            refine XW.exit (id := 0) (by kernel_rfl) ?_
            refine hQ1 _ _ _ ?_
            exact hJ1 () h _ _ (Sub.pick [] (by kernel_rfl))
      exact XR.sub (Sub.pick [1,2,15,16,17] (by kernel_rfl)) (hL1 BIG (0 : Int) h)

theorem c_slices_IndexFunc_api_Value_api_Value_of_value_of_1 : ∀ (k0 : Nat) (p1 : (List GValue)) (p2 : Int) (p3 : Int) (p4 : (List GField)) (r : Int), slices_IndexFunc_api_Value_api_Value_of_value_of_1 k0 p1 p2 p3 p4 = some r → PC Tryd.prog 86 [vl eValue p1, .one (.fn 81 [.pv (.rp [[pi p2, pi p3, .ro (eField.els p4)]] 0 0)])] (vi r)
  | 0, _, _, _, _, r, h => by rw [slices_IndexFunc_api_Value_api_Value_of_value_of_1.eq_1] at h; cases h
  | k0 + 1, p1, p2, p3, p4, r, h => by
    rw [slices_IndexFunc_api_Value_api_Value_of_value_of_1.eq_2] at h
    refine PC.of (n := 19) (fn := Tryd.f86) (c := cd Tryd.f86 []) (by kernel_rfl) (by kernel_rfl) (by kernel_rfl) (Nat.le_of_ble_eq_true rfl) ?_
    refine XW.seq (x := cd Tryd.f86 [0]) (y := cd Tryd.f86 [1]) (by kernel_rfl) fun K1 hK1 => ?_
    refine XW.reg (by kernel_rfl) ?_
    refine XO.go [] 1 [0,1] [] [(0, vl eValue p1), (1, .one (.fn 81 [.pv (.rp [[pi p2, pi p3, .ro (eField.els p4)]] 0 0)]))] [] [] (by kernel_rfl) trivial ?_
    refine XO.done (by kernel_rfl) ?_
    refine hK1 _ _ ?_
    refine XW.seq (x := cd Tryd.f86 [1,0]) (y := cd Tryd.f86 [1,1]) (by kernel_rfl) fun K2 hK2 => ?_
    have hJ1 : ∀ (_ : Unit), slices_IndexFunc_api_Value_api_Value_of_value_of_1_j1 = some r → ∀ fr1 st1, Sub 19 0 [] fr1 st1 [] [] → K2 fr1 st1 := by
      intro _ h fr1 st1 hS
      unfold slices_IndexFunc_api_Value_api_Value_of_value_of_1_j1 at h
      refine hK2 _ _ (XW.sub hS ?_)
      refine XW.seq (x := cd Tryd.f86 [1,1,0]) (y := cd Tryd.f86 [1,1,1]) (by kernel_rfl) fun K14 hK14 => ?_
      refine XW.reg (by kernel_rfl) ?_
      refine XO.go [] 1 [4] [] [(4, vi (-1 : Int))] [] [] (by kernel_rfl) trivial ?_
      refine XO.done (by kernel_rfl) ?_
      refine hK14 _ _ ?_
      refine XW.ret (by kernel_rfl) ?_
      obtain rfl := Option.some.inj h
      exact FinP.fin (.inr rfl) [] [vi (-1 : Int)] [] (by kernel_rfl) trivial (.one (.rfl _ rfl))
    refine XW.seq (x := cd Tryd.f86 [1,0,0]) (y := cd Tryd.f86 [1,0,1]) (by kernel_rfl) fun K3 hK3 => ?_
    refine XW.reg (by kernel_rfl) ?_
    refine XO.go [] 2 [0,1,7] [] [(0, vl eValue p1), (1, .one (.fn 81 [.pv (.rp [[pi p2, pi p3, .ro (eField.els p4)]] 0 0)])), (7, vi ((eValue.els p1).length : Int))] [] [] (by kernel_rfl) trivial ?_
    rw [eValue.len p1]
    refine XO.go [] 1 [0,1,7,8] [] [(0, vl eValue p1), (1, .one (.fn 81 [.pv (.rp [[pi p2, pi p3, .ro (eField.els p4)]] 0 0)])), (7, vi (p1.length : Int)), (8, vi (0 : Int))] [] [] (by kernel_rfl) trivial ?_
    refine XO.done (by kernel_rfl) ?_
    refine hK3 _ _ ?_
    refine XW.block (id := 0) (x := cd Tryd.f86 [1,0,1,0]) (by kernel_rfl) ?_
    refine XW.rounds' BIG (x := cd Tryd.f86 [1,0,1,0,0]) (by kernel_rfl) fun Q1 hQ1 => ?_
    have hL1 : ∀ (k1 : Nat) (x1 : Int), slices_IndexFunc_api_Value_api_Value_of_value_of_1_l1 (value_of_1_s k0) p1 p2 p3 p4 k1 x1 = some r → XR Tryd.prog 19 0 [] (cd Tryd.f86 [1,0,1,0,0]) Q1 k1 [(0, vl eValue p1), (1, .one (.fn 81 [.pv (.rp [[pi p2, pi p3, .ro (eField.els p4)]] 0 0)])), (7, vi (p1.length : Int)), (8, vi x1)] [] := by
      intro k1
      induction k1 with
      | zero => intro x1 h; rw [slices_IndexFunc_api_Value_api_Value_of_value_of_1_l1.eq_1] at h; cases h
      | succ k1 ih1 =>
        intro x1 h
        rw [slices_IndexFunc_api_Value_api_Value_of_value_of_1_l1.eq_2] at h
        refine XW.seq (x := cd Tryd.f86 [1,0,1,0,0,0]) (y := cd Tryd.f86 [1,0,1,0,0,1]) (by kernel_rfl) fun K4 hK4 => ?_
        refine XW.reg (by kernel_rfl) ?_
        refine XO.go [] 1 [0,1,7,8,9] [] [(0, vl eValue p1), (1, .one (.fn 81 [.pv (.rp [[pi p2, pi p3, .ro (eField.els p4)]] 0 0)])), (7, vi (p1.length : Int)), (8, vi x1), (9, vb (decide (x1 < (p1.length : Int))))] [] [] (by kernel_rfl) trivial ?_
        refine XO.done (by kernel_rfl) ?_
        refine hK4 _ _ ?_
        refine XW.seq (x := cd Tryd.f86 [1,0,1,0,0,1,0]) (y := cd Tryd.f86 [1,0,1,0,0,1,1]) (by kernel_rfl) fun K5 hK5 => ?_
        refine XW.cond (x := .tmp 9) (a := cd Tryd.f86 [1,0,1,0,0,1,0,0]) (b := cd Tryd.f86 [1,0,1,0,0,1,0,1]) (t := (decide (x1 < (p1.length : Int)))) (by kernel_rfl) (by kernel_rfl) (fun b6 => ?_) (fun b6 => ?_)
        · have h := ift_t b6 h
          refine XW.skip (by kernel_rfl) ?_
          refine hK5 _ _ ?_
          refine XW.seq (x := cd Tryd.f86 [1,0,1,0,0,1,1,0]) (y := cd Tryd.f86 [1,0,1,0,0,1,1,1]) (by kernel_rfl) fun K7 hK7 => ?_
          refine XW.block (id := 1) (x := cd Tryd.f86 [1,0,1,0,0,1,1,0,0]) (by kernel_rfl) ?_
          refine XW.seq (x := cd Tryd.f86 [1,0,1,0,0,1,1,0,0,0]) (y := cd Tryd.f86 [1,0,1,0,0,1,1,0,0,1]) (by kernel_rfl) fun K8 hK8 => ?_
          refine XW.reg (by kernel_rfl) ?_
          refine XO.go [] 2 [0,1,5,7,8] [] [(0, vl eValue p1), (1, .one (.fn 81 [.pv (.rp [[pi p2, pi p3, .ro (eField.els p4)]] 0 0)])), (5, vi x1), (7, vi (p1.length : Int)), (8, vi x1)] [] [] (by kernel_rfl) trivial ?_
          refine XO.done (by kernel_rfl) ?_
          refine hK8 _ _ ?_
          refine XW.seq (x := cd Tryd.f86 [1,0,1,0,0,1,1,0,0,1,0]) (y := cd Tryd.f86 [1,0,1,0,0,1,1,0,0,1,1]) (by kernel_rfl) fun K9 hK9 => ?_
          obtain ⟨e1, a10, h⟩ := bnd_some h
          obtain ⟨r1, c11, h⟩ := bnd_some h
          refine XW.reg (by kernel_rfl) ?_
          refine XO.go [] 5 [0,1,5,7,8,11,15] [[pi e1.kind, pi e1.n, pi e1.scale, .s (.string e1.s), .ro (eValue.els e1.items)]] [(0, vl eValue p1), (1, .one (.fn 81 [.pv (.rp [[pi p2, pi p3, .ro (eField.els p4)]] 0 0)])), (5, vi x1), (7, vi (p1.length : Int)), (8, vi x1), (11, .one (.fn 81 [.pv (.rp [[pi p2, pi p3, .ro (eField.els p4)]] 0 0)])), (15, .ag [ci e1.kind, ci e1.n, ci e1.scale, cst e1.s, cl eValue e1.items])] [] [0 ≤ x1 ∧ x1 < ((eValue.els p1).length : Int) ∧ elemsOk 5 (eValue.els p1), (eValue.els p1)[x1.toNat]? = some [pi e1.kind, pi e1.n, pi e1.scale, .s (.string e1.s), .ro (eValue.els e1.items)]] (by kernel_rfl) (⟨eValue.inb a10, ((eValue.get a10).trans (by cases e1; rfl)), trivial⟩) ?_
          refine XO.cal 81 [.ag [ci e1.kind, ci e1.n, ci e1.scale, cst e1.s, cl eValue e1.items], .one (.pv (.rp [[pi p2, pi p3, .ro (eField.els p4)]] 0 0))] (vb r1) [(16, vb r1), (0, vl eValue p1), (1, .one (.fn 81 [.pv (.rp [[pi p2, pi p3, .ro (eField.els p4)]] 0 0)])), (5, vi x1), (7, vi (p1.length : Int)), (8, vi x1), (11, .one (.fn 81 [.pv (.rp [[pi p2, pi p3, .ro (eField.els p4)]] 0 0)])), (15, .ag [ci e1.kind, ci e1.n, ci e1.scale, cst e1.s, cl eValue e1.items])] (by kernel_rfl) (c_value_of_1_s k0 _ _ _ _ _ c11) rfl rfl (by kernel_rfl) ?_
          refine XO.done (by kernel_rfl) ?_
          refine hK9 _ _ ?_
          refine XW.cond (x := .tmp 16) (a := cd Tryd.f86 [1,0,1,0,0,1,1,0,0,1,1,0]) (b := cd Tryd.f86 [1,0,1,0,0,1,1,0,0,1,1,1]) (t := r1) (by kernel_rfl) (by kernel_rfl) (fun b12 => ?_) (fun b12 => ?_)
          · have h := ift_t b12 h
            refine XW.seq (x := cd Tryd.f86 [1,0,1,0,0,1,1,0,0,1,1,0,0]) (y := cd Tryd.f86 [1,0,1,0,0,1,1,0,0,1,1,0,1]) (by kernel_rfl) fun K13 hK13 => ?_
            refine XW.reg (by kernel_rfl) ?_
            refine XO.go [] 2 [4] [] [(4, vi x1)] [] [] (by kernel_rfl) trivial ?_
            refine XO.done (by kernel_rfl) ?_
            refine hK13 _ _ ?_
            refine XW.ret (by kernel_rfl) ?_
            refine hQ1 _ _ _ ?_
            obtain rfl := Option.some.inj h
            exact FinP.fin (.inr rfl) [] [vi x1] [] (by kernel_rfl) trivial (.one (.rfl _ rfl))
          · have h := ift_f b12 h
            refine XW.skip (by kernel_rfl) ?_
            refine hK7 _ _ ?_
            refine XW.reg (by kernel_rfl) ?_
            refine XO.go [] 2 [0,1,7,8] [] [(0, vl eValue p1), (1, .one (.fn 81 [.pv (.rp [[pi p2, pi p3, .ro (eField.els p4)]] 0 0)])), (7, vi (p1.length : Int)), (8, vi (IntKind.i64.wrap (x1 + (1 : Int))))] [] [] (by kernel_rfl) trivial ?_
            refine XO.done (by kernel_rfl) ?_
            exact XR.sub (Sub.pick [0,1,7,8] (by kernel_rfl)) (ih1 (IntKind.i64.wrap (x1 + (1 : Int))) h)
        · have h := ift_f b6 h
          refine XW.exit (id := 0) (by kernel_rfl) ?_
          refine hQ1 _ _ _ ?_
          exact hJ1 () h _ _ (Sub.pick [] (by kernel_rfl))
    exact XR.sub (Sub.pick [0,1,7,8] (by kernel_rfl)) (hL1 BIG (0 : Int) h)

theorem c_value_of : ∀ (k0 : Nat) (p1 : GType) (p2 : GValue) (r : Bool), value_of k0 p1 p2 = some r → PC Tryd.prog 34 [.ag [ci p1.kind, ci p1.scale, cl eField p1.fields], .ag [ci p2.kind, ci p2.n, ci p2.scale, cst p2.s, cl eValue p2.items]] (vb r)
  | 0, _, _, r, h => by rw [value_of.eq_1] at h; cases h
  | k0 + 1, p1, p2, r, h => by
    rw [value_of.eq_2] at h
    refine PC.of (n := 42) (fn := Tryd.f34) (c := cd Tryd.f34 []) (by kernel_rfl) (by kernel_rfl) (by kernel_rfl) (Nat.le_of_ble_eq_true rfl) ?_
    refine XW.seq (x := cd Tryd.f34 [0]) (y := cd Tryd.f34 [1]) (by kernel_rfl) fun K1 hK1 => ?_
    refine XW.reg (by kernel_rfl) ?_
    refine XO.go [] 3 [2,3] [] [(2, .one (.pv (.rp [[pi p1.kind, pi p1.scale, .ro (eField.els p1.fields)]] 0 0))), (3, .one (.pv (.rp [[pi p2.kind, pi p2.n, pi p2.scale, .s (.string p2.s), .ro (eValue.els p2.items)]] 0 0)))] [] [] (by kernel_rfl) trivial ?_
    refine XO.done (by kernel_rfl) ?_
    refine hK1 _ _ ?_
    refine XW.seq (x := cd Tryd.f34 [1,0]) (y := cd Tryd.f34 [1,1]) (by kernel_rfl) fun K2 hK2 => ?_
    refine XW.block (id := 0) (x := cd Tryd.f34 [1,0,0]) (by kernel_rfl) ?_
    refine XW.seq (x := cd Tryd.f34 [1,0,0,0]) (y := cd Tryd.f34 [1,0,0,1]) (by kernel_rfl) fun K3 hK3 => ?_
    refine XW.reg (by kernel_rfl) ?_
    refine XO.go [] 4 [2,3,5] [[pi p2.kind, pi p2.n, pi p2.scale, .s (.string p2.s), .ro (eValue.els p2.items)]] [(2, .one (.pv (.rp [[pi p1.kind, pi p1.scale, .ro (eField.els p1.fields)]] 0 0))), (3, .one (.pv (.rp [[pi p2.kind, pi p2.n, pi p2.scale, .s (.string p2.s), .ro (eValue.els p2.items)]] 0 0))), (5, vb (p2.kind == (0 : Int)))] [] [([[pi p2.kind, pi p2.n, pi p2.scale, .s (.string p2.s), .ro (eValue.els p2.items)]] : List (List PV))[0]? = some [pi p2.kind, pi p2.n, pi p2.scale, .s (.string p2.s), .ro (eValue.els p2.items)]] (by kernel_rfl) (⟨rfl, trivial⟩) ?_
    refine XO.done (by kernel_rfl) ?_
    refine hK3 _ _ ?_
    refine XW.cond (x := .tmp 5) (a := cd Tryd.f34 [1,0,0,1,0]) (b := cd Tryd.f34 [1,0,0,1,1]) (t := (p2.kind == (0 : Int))) (by kernel_rfl) (by kernel_rfl) (fun b4 => ?_) (fun b4 => ?_)
    · have h := ift_t b4 h
      refine XW.seq (x := cd Tryd.f34 [1,0,0,1,0,0]) (y := cd Tryd.f34 [1,0,0,1,0,1]) (by kernel_rfl) fun K5 hK5 => ?_
      refine XW.reg (by kernel_rfl) ?_
      refine XO.go [] 1 [4] [] [(4, vb true)] [] [] (by kernel_rfl) trivial ?_
      refine XO.done (by kernel_rfl) ?_
      refine hK5 _ _ ?_
      refine XW.ret (by kernel_rfl) ?_
      obtain rfl := Option.some.inj h
      exact FinP.fin (.inr rfl) [] [vb true] [] (by kernel_rfl) trivial (.one (.rfl _ rfl))
    · have h := ift_f b4 h
      refine XW.seq (x := cd Tryd.f34 [1,0,0,1,1,0]) (y := cd Tryd.f34 [1,0,0,1,1,1]) (by kernel_rfl) fun K6 hK6 => ?_
      refine XW.reg (by kernel_rfl) ?_
      refine XO.go [] 6 [2,3,9] [[pi p2.kind, pi p2.n, pi p2.scale, .s (.string p2.s), .ro (eValue.els p2.items)], [pi p1.kind, pi p1.scale, .ro (eField.els p1.fields)]] [(2, .one (.pv (.rp [[pi p1.kind, pi p1.scale, .ro (eField.els p1.fields)]] 0 0))), (3, .one (.pv (.rp [[pi p2.kind, pi p2.n, pi p2.scale, .s (.string p2.s), .ro (eValue.els p2.items)]] 0 0))), (9, vb (p2.kind != p1.kind))] [] [([[pi p2.kind, pi p2.n, pi p2.scale, .s (.string p2.s), .ro (eValue.els p2.items)]] : List (List PV))[0]? = some [pi p2.kind, pi p2.n, pi p2.scale, .s (.string p2.s), .ro (eValue.els p2.items)], ([[pi p1.kind, pi p1.scale, .ro (eField.els p1.fields)]] : List (List PV))[0]? = some [pi p1.kind, pi p1.scale, .ro (eField.els p1.fields)]] (by kernel_rfl) (⟨rfl, rfl, trivial⟩) ?_
      refine XO.done (by kernel_rfl) ?_
      refine hK6 _ _ ?_
      refine XW.cond (x := .tmp 9) (a := cd Tryd.f34 [1,0,0,1,1,1,0]) (b := cd Tryd.f34 [1,0,0,1,1,1,1]) (t := (p2.kind != p1.kind)) (by kernel_rfl) (by kernel_rfl) (fun b7 => ?_) (fun b7 => ?_)
      · have h := ift_t b7 h
        refine XW.seq (x := cd Tryd.f34 [1,0,0,1,1,1,0,0]) (y := cd Tryd.f34 [1,0,0,1,1,1,0,1]) (by kernel_rfl) fun K8 hK8 => ?_
        refine XW.reg (by kernel_rfl) ?_
        refine XO.go [] 1 [4] [] [(4, vb false)] [] [] (by kernel_rfl) trivial ?_
        refine XO.done (by kernel_rfl) ?_
        refine hK8 _ _ ?_
        refine XW.ret (by kernel_rfl) ?_
        obtain rfl := Option.some.inj h
        exact FinP.fin (.inr rfl) [] [vb false] [] (by kernel_rfl) trivial (.one (.rfl _ rfl))
      · have h := ift_f b7 h
        refine XW.seq (x := cd Tryd.f34 [1,0,0,1,1,1,1,0]) (y := cd Tryd.f34 [1,0,0,1,1,1,1,1]) (by kernel_rfl) fun K9 hK9 => ?_
        refine XW.reg (by kernel_rfl) ?_
        refine XO.go [] 4 [2,3,15] [[pi p2.kind, pi p2.n, pi p2.scale, .s (.string p2.s), .ro (eValue.els p2.items)]] [(2, .one (.pv (.rp [[pi p1.kind, pi p1.scale, .ro (eField.els p1.fields)]] 0 0))), (3, .one (.pv (.rp [[pi p2.kind, pi p2.n, pi p2.scale, .s (.string p2.s), .ro (eValue.els p2.items)]] 0 0))), (15, vb (p2.kind == (3 : Int)))] [] [([[pi p2.kind, pi p2.n, pi p2.scale, .s (.string p2.s), .ro (eValue.els p2.items)]] : List (List PV))[0]? = some [pi p2.kind, pi p2.n, pi p2.scale, .s (.string p2.s), .ro (eValue.els p2.items)]] (by kernel_rfl) (⟨rfl, trivial⟩) ?_
        refine XO.done (by kernel_rfl) ?_
        refine hK9 _ _ ?_
        refine XW.cond (x := .tmp 15) (a := cd Tryd.f34 [1,0,0,1,1,1,1,1,0]) (b := cd Tryd.f34 [1,0,0,1,1,1,1,1,1]) (t := (p2.kind == (3 : Int))) (by kernel_rfl) (by kernel_rfl) (fun b10 => ?_) (fun b10 => ?_)
        · have h := ift_t b10 h
          refine XW.seq (x := cd Tryd.f34 [1,0,0,1,1,1,1,1,0,0]) (y := cd Tryd.f34 [1,0,0,1,1,1,1,1,0,1]) (by kernel_rfl) fun K11 hK11 => ?_
          refine XW.reg (by kernel_rfl) ?_
          refine XO.go [] 6 [4] [[pi p2.kind, pi p2.n, pi p2.scale, .s (.string p2.s), .ro (eValue.els p2.items)], [pi p1.kind, pi p1.scale, .ro (eField.els p1.fields)]] [(4, vb (p2.scale == p1.scale))] [] [([[pi p2.kind, pi p2.n, pi p2.scale, .s (.string p2.s), .ro (eValue.els p2.items)]] : List (List PV))[0]? = some [pi p2.kind, pi p2.n, pi p2.scale, .s (.string p2.s), .ro (eValue.els p2.items)], ([[pi p1.kind, pi p1.scale, .ro (eField.els p1.fields)]] : List (List PV))[0]? = some [pi p1.kind, pi p1.scale, .ro (eField.els p1.fields)]] (by kernel_rfl) (⟨rfl, rfl, trivial⟩) ?_
          refine XO.done (by kernel_rfl) ?_
          refine hK11 _ _ ?_
          refine XW.ret (by kernel_rfl) ?_
          obtain rfl := Option.some.inj h
          exact FinP.fin (.inr rfl) [] [vb (p2.scale == p1.scale)] [] (by kernel_rfl) trivial (.one (.rfl _ rfl))
        · have h := ift_f b10 h
          refine XW.seq (x := cd Tryd.f34 [1,0,0,1,1,1,1,1,1,0]) (y := cd Tryd.f34 [1,0,0,1,1,1,1,1,1,1]) (by kernel_rfl) fun K12 hK12 => ?_
          refine XW.reg (by kernel_rfl) ?_
          refine XO.go [] 4 [2,3,24] [[pi p2.kind, pi p2.n, pi p2.scale, .s (.string p2.s), .ro (eValue.els p2.items)]] [(2, .one (.pv (.rp [[pi p1.kind, pi p1.scale, .ro (eField.els p1.fields)]] 0 0))), (3, .one (.pv (.rp [[pi p2.kind, pi p2.n, pi p2.scale, .s (.string p2.s), .ro (eValue.els p2.items)]] 0 0))), (24, vb (p2.kind == (6 : Int)))] [] [([[pi p2.kind, pi p2.n, pi p2.scale, .s (.string p2.s), .ro (eValue.els p2.items)]] : List (List PV))[0]? = some [pi p2.kind, pi p2.n, pi p2.scale, .s (.string p2.s), .ro (eValue.els p2.items)]] (by kernel_rfl) (⟨rfl, trivial⟩) ?_
          refine XO.done (by kernel_rfl) ?_
          refine hK12 _ _ ?_
          refine XW.cond (x := .tmp 24) (a := cd Tryd.f34 [1,0,0,1,1,1,1,1,1,1,0]) (b := cd Tryd.f34 [1,0,0,1,1,1,1,1,1,1,1]) (t := (p2.kind == (6 : Int))) (by kernel_rfl) (by kernel_rfl) (fun b13 => ?_) (fun b13 => ?_)
          · have h := ift_t b13 h
            refine XW.seq (x := cd Tryd.f34 [1,0,0,1,1,1,1,1,1,1,0,0]) (y := cd Tryd.f34 [1,0,0,1,1,1,1,1,1,1,0,1]) (by kernel_rfl) fun K14 hK14 => ?_
            obtain ⟨r1, c15, h⟩ := bnd_some h
            refine XW.reg (by kernel_rfl) ?_
            refine XO.go [] 3 [29,30] [[pi p2.kind, pi p2.n, pi p2.scale, .s (.string p2.s), .ro (eValue.els p2.items)]] [(29, vl eValue p2.items), (30, .one (.fn 81 [.pv (.rp [[pi p1.kind, pi p1.scale, .ro (eField.els p1.fields)]] 0 0)]))] [] [([[pi p2.kind, pi p2.n, pi p2.scale, .s (.string p2.s), .ro (eValue.els p2.items)]] : List (List PV))[0]? = some [pi p2.kind, pi p2.n, pi p2.scale, .s (.string p2.s), .ro (eValue.els p2.items)]] (by kernel_rfl) (⟨rfl, trivial⟩) ?_
            refine XO.cal 39 [vl eValue p2.items, .one (.fn 81 [.pv (.rp [[pi p1.kind, pi p1.scale, .ro (eField.els p1.fields)]] 0 0)])] (vb r1) [(31, vb r1), (29, vl eValue p2.items), (30, .one (.fn 81 [.pv (.rp [[pi p1.kind, pi p1.scale, .ro (eField.els p1.fields)]] 0 0)]))] (by kernel_rfl) (c_slices_ContainsFunc_api_Value_api_Value_of_value_of_1 k0 _ _ _ _ _ c15) rfl rfl (by kernel_rfl) ?_
            refine XO.go [] 2 [4] [] [(4, vb (!r1))] [] [] (by kernel_rfl) trivial ?_
            refine XO.done (by kernel_rfl) ?_
            refine hK14 _ _ ?_
            refine XW.ret (by kernel_rfl) ?_
            obtain rfl := Option.some.inj h
            exact FinP.fin (.inr rfl) [] [vb (!r1)] [] (by kernel_rfl) trivial (.one (.rfl _ rfl))
          · have h := ift_f b13 h
            refine XW.seq (x := cd Tryd.f34 [1,0,0,1,1,1,1,1,1,1,1,0]) (y := cd Tryd.f34 [1,0,0,1,1,1,1,1,1,1,1,1]) (by kernel_rfl) fun K16 hK16 => ?_
            refine XW.reg (by kernel_rfl) ?_
            refine XO.go [] 4 [2,3,33] [[pi p2.kind, pi p2.n, pi p2.scale, .s (.string p2.s), .ro (eValue.els p2.items)]] [(2, .one (.pv (.rp [[pi p1.kind, pi p1.scale, .ro (eField.els p1.fields)]] 0 0))), (3, .one (.pv (.rp [[pi p2.kind, pi p2.n, pi p2.scale, .s (.string p2.s), .ro (eValue.els p2.items)]] 0 0))), (33, vb (p2.kind == (7 : Int)))] [] [([[pi p2.kind, pi p2.n, pi p2.scale, .s (.string p2.s), .ro (eValue.els p2.items)]] : List (List PV))[0]? = some [pi p2.kind, pi p2.n, pi p2.scale, .s (.string p2.s), .ro (eValue.els p2.items)]] (by kernel_rfl) (⟨rfl, trivial⟩) ?_
            refine XO.done (by kernel_rfl) ?_
            refine hK16 _ _ ?_
            refine XW.cond (x := .tmp 33) (a := cd Tryd.f34 [1,0,0,1,1,1,1,1,1,1,1,1,0]) (b := cd Tryd.f34 [1,0,0,1,1,1,1,1,1,1,1,1,1]) (t := (p2.kind == (7 : Int))) (by kernel_rfl) (by kernel_rfl) (fun b17 => ?_) (fun b17 => ?_)
            · have h := ift_t b17 h
              refine XW.seq (x := cd Tryd.f34 [1,0,0,1,1,1,1,1,1,1,1,1,0,0]) (y := cd Tryd.f34 [1,0,0,1,1,1,1,1,1,1,1,1,0,1]) (by kernel_rfl) fun K18 hK18 => ?_
              obtain ⟨r2, c19, h⟩ := bnd_some h
              refine XW.reg (by kernel_rfl) ?_
              refine XO.go [] 4 [38,40] [[pi p1.kind, pi p1.scale, .ro (eField.els p1.fields)], [pi p2.kind, pi p2.n, pi p2.scale, .s (.string p2.s), .ro (eValue.els p2.items)]] [(38, vl eField p1.fields), (40, vl eValue p2.items)] [] [([[pi p1.kind, pi p1.scale, .ro (eField.els p1.fields)]] : List (List PV))[0]? = some [pi p1.kind, pi p1.scale, .ro (eField.els p1.fields)], ([[pi p2.kind, pi p2.n, pi p2.scale, .s (.string p2.s), .ro (eValue.els p2.items)]] : List (List PV))[0]? = some [pi p2.kind, pi p2.n, pi p2.scale, .s (.string p2.s), .ro (eValue.els p2.items)]] (by kernel_rfl) (⟨rfl, rfl, trivial⟩) ?_
              refine XO.cal 82 [vl eField p1.fields, vl eValue p2.items, .one (.pv (.fn 83 []))] (vb r2) [(41, vb r2), (38, vl eField p1.fields), (40, vl eValue p2.items)] (by kernel_rfl) (c_slices_EqualFunc_api_Field_api_Value_api_Field_api_Value_of_value_of_2 k0 _ _ _ c19) rfl rfl (by kernel_rfl) ?_
              refine XO.go [] 1 [4] [] [(4, vb r2)] [] [] (by kernel_rfl) trivial ?_
              refine XO.done (by kernel_rfl) ?_
              refine hK18 _ _ ?_
              refine XW.ret (by kernel_rfl) ?_
              obtain rfl := Option.some.inj h
              exact FinP.fin (.inr rfl) [] [vb r2] [] (by kernel_rfl) trivial (.one (.rfl _ rfl))
            · have h := ift_f b17 h
              refine XW.skip (by kernel_rfl) ?_
              refine hK2 _ _ ?_
              refine XW.seq (x := cd Tryd.f34 [1,1,0]) (y := cd Tryd.f34 [1,1,1]) (by kernel_rfl) fun K20 hK20 => ?_
              refine XW.reg (by kernel_rfl) ?_
              refine XO.go [] 1 [4] [] [(4, vb true)] [] [] (by kernel_rfl) trivial ?_
              refine XO.done (by kernel_rfl) ?_
              refine hK20 _ _ ?_
              refine XW.ret (by kernel_rfl) ?_
              obtain rfl := Option.some.inj h
              exact FinP.fin (.inr rfl) [] [vb true] [] (by kernel_rfl) trivial (.one (.rfl _ rfl))

theorem c_value_of_1_s : ∀ (k0 : Nat) (p1 : GValue) (p2 : Int) (p3 : Int) (p4 : (List GField)) (r : Bool), value_of_1_s k0 p1 p2 p3 p4 = some r → PC Tryd.prog 81 [.ag [ci p1.kind, ci p1.n, ci p1.scale, cst p1.s, cl eValue p1.items], .one (.pv (.rp [[pi p2, pi p3, .ro (eField.els p4)]] 0 0))] (vb r)
  | 0, _, _, _, _, r, h => by rw [value_of_1_s.eq_1] at h; cases h
  | k0 + 1, p1, p2, p3, p4, r, h => by
    rw [value_of_1_s.eq_2] at h
    refine PC.of (n := 12) (fn := Tryd.f81) (c := cd Tryd.f81 []) (by kernel_rfl) (by kernel_rfl) (by kernel_rfl) (Nat.le_of_ble_eq_true rfl) ?_
    refine XW.seq (x := cd Tryd.f81 [0]) (y := cd Tryd.f81 [1]) (by kernel_rfl) fun K1 hK1 => ?_
    refine XW.reg (by kernel_rfl) ?_
    refine XO.go [] 2 [1,2] [] [(1, .one (.pv (.rp [[pi p2, pi p3, .ro (eField.els p4)]] 0 0))), (2, .one (.pv (.rp [[pi p1.kind, pi p1.n, pi p1.scale, .s (.string p1.s), .ro (eValue.els p1.items)]] 0 0)))] [] [] (by kernel_rfl) trivial ?_
    refine XO.done (by kernel_rfl) ?_
    refine hK1 _ _ ?_
    refine XW.seq (x := cd Tryd.f81 [1,0]) (y := cd Tryd.f81 [1,1]) (by kernel_rfl) fun K2 hK2 => ?_
    obtain ⟨e1, a3, h⟩ := bnd_some h
    obtain ⟨r1, c4, h⟩ := bnd_some h
    refine XW.drwS 6 [(9, .ag [ci p1.kind, ci p1.n, ci p1.scale, cst p1.s, cl eValue p1.items]), (8, .ag [ci e1.type.kind, ci e1.type.scale, cl eField e1.type.fields]), (7, .one (.pv (.rp (eField.els p4) ((0 : Int).toNat) 3))), (6, .one (.pv (.rp (eField.els p4) ((0 : Int).toNat) 0))), (5, vl eField p4), (4, .one (.pv (.rp [[pi p2, pi p3, .ro (eField.els p4)]] 0 2))), (1, .one (.pv (.rp [[pi p2, pi p3, .ro (eField.els p4)]] 0 0))), (2, .one (.pv (.rp [[pi p1.kind, pi p1.n, pi p1.scale, .s (.string p1.s), .ro (eValue.els p1.items)]] 0 0)))] (by kernel_rfl) (by kernel_rfl) ?_ ?_
    · refine DX.go 6 [[pi p2, pi p3, .ro (eField.els p4)], [pi e1.id, .s (.string e1.name), .s (.bool e1.need), pi e1.type.kind, pi e1.type.scale, .ro (eField.els e1.type.fields)], [pi p1.kind, pi p1.n, pi p1.scale, .s (.string p1.s), .ro (eValue.els p1.items)]] [(9, .ag [ci p1.kind, ci p1.n, ci p1.scale, cst p1.s, cl eValue p1.items]), (8, .ag [ci e1.type.kind, ci e1.type.scale, cl eField e1.type.fields]), (7, .one (.pv (.rp (eField.els p4) ((0 : Int).toNat) 3))), (6, .one (.pv (.rp (eField.els p4) ((0 : Int).toNat) 0))), (5, vl eField p4), (4, .one (.pv (.rp [[pi p2, pi p3, .ro (eField.els p4)]] 0 2))), (1, .one (.pv (.rp [[pi p2, pi p3, .ro (eField.els p4)]] 0 0))), (2, .one (.pv (.rp [[pi p1.kind, pi p1.n, pi p1.scale, .s (.string p1.s), .ro (eValue.els p1.items)]] 0 0)))] [([[pi p2, pi p3, .ro (eField.els p4)]] : List (List PV))[0]? = some [pi p2, pi p3, .ro (eField.els p4)], 0 ≤ (0 : Int) ∧ (0 : Int) < ((eField.els p4).length : Int) ∧ elemsOk 6 (eField.els p4), (eField.els p4)[(0 : Int).toNat]? = some [pi e1.id, .s (.string e1.name), .s (.bool e1.need), pi e1.type.kind, pi e1.type.scale, .ro (eField.els e1.type.fields)], ([[pi p1.kind, pi p1.n, pi p1.scale, .s (.string p1.s), .ro (eValue.els p1.items)]] : List (List PV))[0]? = some [pi p1.kind, pi p1.n, pi p1.scale, .s (.string p1.s), .ro (eValue.els p1.items)]] (by kernel_rfl) (⟨rfl, eField.inb a3, ((eField.get a3).trans (by rcases e1 with ⟨_, _, _, ⟨_, _, _⟩⟩; rfl)), rfl, trivial⟩) ?_
      exact DX.done (by kernel_rfl)
    refine XO.cal 34 [.ag [ci e1.type.kind, ci e1.type.scale, cl eField e1.type.fields], .ag [ci p1.kind, ci p1.n, ci p1.scale, cst p1.s, cl eValue p1.items]] (vb r1) [(10, vb r1), (9, .ag [ci p1.kind, ci p1.n, ci p1.scale, cst p1.s, cl eValue p1.items]), (8, .ag [ci e1.type.kind, ci e1.type.scale, cl eField e1.type.fields]), (7, .one (.pv (.rp (eField.els p4) ((0 : Int).toNat) 3))), (6, .one (.pv (.rp (eField.els p4) ((0 : Int).toNat) 0))), (5, vl eField p4), (4, .one (.pv (.rp [[pi p2, pi p3, .ro (eField.els p4)]] 0 2))), (1, .one (.pv (.rp [[pi p2, pi p3, .ro (eField.els p4)]] 0 0))), (2, .one (.pv (.rp [[pi p1.kind, pi p1.n, pi p1.scale, .s (.string p1.s), .ro (eValue.els p1.items)]] 0 0)))] (by kernel_rfl) (c_value_of k0 _ _ _ c4) rfl rfl (by kernel_rfl) ?_
    refine XO.go [] 2 [3] [] [(3, vb (!r1))] [] [] (by kernel_rfl) trivial ?_
    refine XO.done (by kernel_rfl) ?_
    refine hK2 _ _ ?_
    refine XW.ret (by kernel_rfl) ?_
    obtain rfl := Option.some.inj h
    exact FinP.fin (.inr rfl) [] [vb (!r1)] [] (by kernel_rfl) trivial (.one (.rfl _ rfl))

theorem c_value_of_2 : ∀ (k0 : Nat) (p1 : GField) (p2 : GValue) (r : Bool), value_of_2 k0 p1 p2 = some r → PC Tryd.prog 83 [.ag [ci p1.id, cst p1.name, cb p1.need, ci p1.type.kind, ci p1.type.scale, cl eField p1.type.fields], .ag [ci p2.kind, ci p2.n, ci p2.scale, cst p2.s, cl eValue p2.items]] (vb r)
  | 0, _, _, r, h => by rw [value_of_2.eq_1] at h; cases h
  | k0 + 1, p1, p2, r, h => by
    rw [value_of_2.eq_2] at h
    refine PC.of (n := 9) (fn := Tryd.f83) (c := cd Tryd.f83 []) (by kernel_rfl) (by kernel_rfl) (by kernel_rfl) (Nat.le_of_ble_eq_true rfl) ?_
    refine XW.seq (x := cd Tryd.f83 [0]) (y := cd Tryd.f83 [1]) (by kernel_rfl) fun K1 hK1 => ?_
    refine XW.reg (by kernel_rfl) ?_
    refine XO.go [] 3 [2,3] [] [(2, .one (.pv (.rp [[pi p1.id, .s (.string p1.name), .s (.bool p1.need), pi p1.type.kind, pi p1.type.scale, .ro (eField.els p1.type.fields)]] 0 0))), (3, .one (.pv (.rp [[pi p2.kind, pi p2.n, pi p2.scale, .s (.string p2.s), .ro (eValue.els p2.items)]] 0 0)))] [] [] (by kernel_rfl) trivial ?_
    refine XO.done (by kernel_rfl) ?_
    refine hK1 _ _ ?_
    refine XW.seq (x := cd Tryd.f83 [1,0]) (y := cd Tryd.f83 [1,1]) (by kernel_rfl) fun K2 hK2 => ?_
    obtain ⟨r1, c3, h⟩ := bnd_some h
    refine XW.reg (by kernel_rfl) ?_
    refine XO.go [] 3 [6,7] [[pi p1.id, .s (.string p1.name), .s (.bool p1.need), pi p1.type.kind, pi p1.type.scale, .ro (eField.els p1.type.fields)], [pi p2.kind, pi p2.n, pi p2.scale, .s (.string p2.s), .ro (eValue.els p2.items)]] [(6, .ag [ci p1.type.kind, ci p1.type.scale, cl eField p1.type.fields]), (7, .ag [ci p2.kind, ci p2.n, ci p2.scale, cst p2.s, cl eValue p2.items])] [] [([[pi p1.id, .s (.string p1.name), .s (.bool p1.need), pi p1.type.kind, pi p1.type.scale, .ro (eField.els p1.type.fields)]] : List (List PV))[0]? = some [pi p1.id, .s (.string p1.name), .s (.bool p1.need), pi p1.type.kind, pi p1.type.scale, .ro (eField.els p1.type.fields)], ([[pi p2.kind, pi p2.n, pi p2.scale, .s (.string p2.s), .ro (eValue.els p2.items)]] : List (List PV))[0]? = some [pi p2.kind, pi p2.n, pi p2.scale, .s (.string p2.s), .ro (eValue.els p2.items)]] (by kernel_rfl) (⟨rfl, rfl, trivial⟩) ?_
    refine XO.cal 34 [.ag [ci p1.type.kind, ci p1.type.scale, cl eField p1.type.fields], .ag [ci p2.kind, ci p2.n, ci p2.scale, cst p2.s, cl eValue p2.items]] (vb r1) [(8, vb r1), (6, .ag [ci p1.type.kind, ci p1.type.scale, cl eField p1.type.fields]), (7, .ag [ci p2.kind, ci p2.n, ci p2.scale, cst p2.s, cl eValue p2.items])] (by kernel_rfl) (c_value_of k0 _ _ _ c3) rfl rfl (by kernel_rfl) ?_
    refine XO.go [] 1 [4] [] [(4, vb r1)] [] [] (by kernel_rfl) trivial ?_
    refine XO.done (by kernel_rfl) ?_
    refine hK2 _ _ ?_
    refine XW.ret (by kernel_rfl) ?_
    obtain rfl := Option.some.inj h
    exact FinP.fin (.inr rfl) [] [vb r1] [] (by kernel_rfl) trivial (.one (.rfl _ rfl))

end

def value_field_j1 (p1 : GType) (x1 : Int) : Option GField :=
    bnd (at? p1.fields x1) fun e1 =>
    some e1

def value_field (p1 : GType) (p2 : Int) : Option GField :=
    ift (p1.kind == (6 : Int))
      (value_field_j1 p1 (0 : Int))
      (value_field_j1 p1 p2)


theorem c_value_field (p1 : GType) (p2 : Int) (r : GField) (h : value_field p1 p2 = some r) : PC Tryd.prog 84 [.ag [ci p1.kind, ci p1.scale, cl eField p1.fields], vi p2] (.ag [ci r.id, cst r.name, cb r.need, ci r.type.kind, ci r.type.scale, cl eField r.type.fields]) := by
  unfold value_field at h
  refine PC.of (n := 13) (fn := Tryd.f84) (c := cd Tryd.f84 []) (by kernel_rfl) (by kernel_rfl) (by kernel_rfl) (Nat.le_of_ble_eq_true rfl) ?_
  refine XW.seq (x := cd Tryd.f84 [0]) (y := cd Tryd.f84 [1]) (by kernel_rfl) fun K1 hK1 => ?_
  refine XW.reg (by kernel_rfl) ?_
  refine XO.go [4] 2 [1,2,4] [] [(1, vi p2), (2, .one (.pv (.rp [[pi p1.kind, pi p1.scale, .ro (eField.els p1.fields)]] 0 0))), (4, .one (.pt 0 0 0 0))] [.box [ci (0 : Int), cst ByteArray.empty, cb false, ci (0 : Int), ci (0 : Int), .pv (.s (.slice none 0 0))]] [] (by kernel_rfl) trivial ?_
  refine XO.done (by kernel_rfl) ?_
  refine hK1 _ _ ?_
  refine XW.seq (x := cd Tryd.f84 [1,0]) (y := cd Tryd.f84 [1,1]) (by kernel_rfl) fun K2 hK2 => ?_
  have hJ1 : ∀ (x1 : Int), value_field_j1 p1 x1 = some r → ∀ fr1 st1, Sub 13 0 [] fr1 st1 [(1, vi x1), (2, .one (.pv (.rp [[pi p1.kind, pi p1.scale, .ro (eField.els p1.fields)]] 0 0))), (4, .one (.pt 0 0 0 0))] [.box [ci (0 : Int), cst ByteArray.empty, cb false, ci (0 : Int), ci (0 : Int), .pv (.s (.slice none 0 0))]] → K2 fr1 st1 := by
    intro x1 h fr1 st1 hS
    unfold value_field_j1 at h
    refine hK2 _ _ (XW.sub hS ?_)
    refine XW.seq (x := cd Tryd.f84 [1,1,0]) (y := cd Tryd.f84 [1,1,1]) (by kernel_rfl) fun K5 hK5 => ?_
    obtain ⟨e1, a6, h⟩ := bnd_some h
    refine XW.reg (by kernel_rfl) ?_
    refine XO.go [4] 6 [4] [[pi p1.kind, pi p1.scale, .ro (eField.els p1.fields)], [pi e1.id, .s (.string e1.name), .s (.bool e1.need), pi e1.type.kind, pi e1.type.scale, .ro (eField.els e1.type.fields)]] [(4, .one (.pt 0 0 0 0))] [.box [ci e1.id, cst e1.name, cb e1.need, ci e1.type.kind, ci e1.type.scale, cl eField e1.type.fields]] [([[pi p1.kind, pi p1.scale, .ro (eField.els p1.fields)]] : List (List PV))[0]? = some [pi p1.kind, pi p1.scale, .ro (eField.els p1.fields)], 0 ≤ x1 ∧ x1 < ((eField.els p1.fields).length : Int) ∧ elemsOk 6 (eField.els p1.fields), (eField.els p1.fields)[x1.toNat]? = some [pi e1.id, .s (.string e1.name), .s (.bool e1.need), pi e1.type.kind, pi e1.type.scale, .ro (eField.els e1.type.fields)]] (by kernel_rfl) (⟨rfl, eField.inb a6, ((eField.get a6).trans (by rcases e1 with ⟨_, _, _, ⟨_, _, _⟩⟩; rfl)), trivial⟩) ?_
    refine XO.done (by kernel_rfl) ?_
    refine hK5 _ _ ?_
    refine XW.ret (by kernel_rfl) ?_
    obtain rfl := Option.some.inj h
    exact FinP.fin (.inr rfl) [] [.ag [ci e1.id, cst e1.name, cb e1.need, ci e1.type.kind, ci e1.type.scale, cl eField e1.type.fields]] [] (by kernel_rfl) trivial (.ag (.cons (.rfl _ rfl) (.cons (.rfl _ rfl) (.cons (.rfl _ rfl) (.cons (.rfl _ rfl) (.cons (.rfl _ rfl) (.cons (.rfl _ rfl) .nil)))))))
  refine XW.seq (x := cd Tryd.f84 [1,0,0]) (y := cd Tryd.f84 [1,0,1]) (by kernel_rfl) fun K3 hK3 => ?_
  refine XW.reg (by kernel_rfl) ?_
  refine XO.go [4] 3 [1,2,4,7] [[pi p1.kind, pi p1.scale, .ro (eField.els p1.fields)]] [(1, vi p2), (2, .one (.pv (.rp [[pi p1.kind, pi p1.scale, .ro (eField.els p1.fields)]] 0 0))), (4, .one (.pt 0 0 0 0)), (7, vb (p1.kind == (6 : Int)))] [.box [ci (0 : Int), cst ByteArray.empty, cb false, ci (0 : Int), ci (0 : Int), .pv (.s (.slice none 0 0))]] [([[pi p1.kind, pi p1.scale, .ro (eField.els p1.fields)]] : List (List PV))[0]? = some [pi p1.kind, pi p1.scale, .ro (eField.els p1.fields)]] (by kernel_rfl) (⟨rfl, trivial⟩) ?_
  refine XO.done (by kernel_rfl) ?_
  refine hK3 _ _ ?_
  refine XW.cond (x := .tmp 7) (a := cd Tryd.f84 [1,0,1,0]) (b := cd Tryd.f84 [1,0,1,1]) (t := (p1.kind == (6 : Int))) (by kernel_rfl) (by kernel_rfl) (fun b4 => ?_) (fun b4 => ?_)
  · have h := ift_t b4 h
    refine XW.reg (by kernel_rfl) ?_
    refine XO.go [4] 1 [1,2,4] [] [(1, vi (0 : Int)), (2, .one (.pv (.rp [[pi p1.kind, pi p1.scale, .ro (eField.els p1.fields)]] 0 0))), (4, .one (.pt 0 0 0 0))] [.box [ci (0 : Int), cst ByteArray.empty, cb false, ci (0 : Int), ci (0 : Int), .pv (.s (.slice none 0 0))]] [] (by kernel_rfl) trivial ?_
    refine XO.done (by kernel_rfl) ?_
    exact hJ1 (0 : Int) h _ _ (Sub.pick [1,2,4] (by kernel_rfl))
  · have h := ift_f b4 h
    refine XW.skip (by kernel_rfl) ?_
    exact hJ1 p2 h _ _ (Sub.pick [1,2,4] (by kernel_rfl))

def value_lacks_j1 (rec1 : Int → Option Bool) (x1 : Int) (x2 : Bool) : Option Bool :=
    ift x2
      (some true)
      (rec1 (IntKind.i64.wrap (x1 + (1 : Int))))

def value_lacks_j2 : Option Bool :=
    some false

def value_lacks_l1 (q_value_lacks : GType → GValue → Option Bool) (p1 : GType) (p2 : GValue) : Nat → Int → Option Bool
  | 0, _ => none
  | k1 + 1, x1 =>
    ift (decide (x1 < (p2.items.length : Int)))
      (bnd (at? p2.items x1) fun e1 =>
       bnd (value_field p1 x1) fun r1 =>
       ift (e1.kind == (0 : Int))
         (ift r1.need
            (value_lacks_j1 (value_lacks_l1 q_value_lacks p1 p2 k1) x1 true)
            (bnd (q_value_lacks r1.type e1) fun r2 =>
             value_lacks_j1 (value_lacks_l1 q_value_lacks p1 p2 k1) x1 r2))
         (bnd (q_value_lacks r1.type e1) fun r3 =>
          value_lacks_j1 (value_lacks_l1 q_value_lacks p1 p2 k1) x1 r3))
      (value_lacks_j2)

def value_lacks : Nat → GType → GValue → Option Bool
  | 0, _, _ => none
  | k0 + 1, p1, p2 =>
    value_lacks_l1 (value_lacks k0) p1 p2 BIG (0 : Int)


theorem c_value_lacks : ∀ (k0 : Nat) (p1 : GType) (p2 : GValue) (r : Bool), value_lacks k0 p1 p2 = some r → PC Tryd.prog 35 [.ag [ci p1.kind, ci p1.scale, cl eField p1.fields], .ag [ci p2.kind, ci p2.n, ci p2.scale, cst p2.s, cl eValue p2.items]] (vb r)
  | 0, _, _, r, h => by rw [value_lacks.eq_1] at h; cases h
  | k0 + 1, p1, p2, r, h => by
    rw [value_lacks.eq_2] at h
    refine PC.of (n := 33) (fn := Tryd.f35) (c := cd Tryd.f35 []) (by kernel_rfl) (by kernel_rfl) (by kernel_rfl) (Nat.le_of_ble_eq_true rfl) ?_
    refine XW.seq (x := cd Tryd.f35 [0]) (y := cd Tryd.f35 [1]) (by kernel_rfl) fun K1 hK1 => ?_
    refine XW.reg (by kernel_rfl) ?_
    refine XO.go [6, 7] 3 [2,3] [] [(2, .one (.pv (.rp [[pi p1.kind, pi p1.scale, .ro (eField.els p1.fields)]] 0 0))), (3, .one (.pv (.rp [[pi p2.kind, pi p2.n, pi p2.scale, .s (.string p2.s), .ro (eValue.els p2.items)]] 0 0)))] [] [] (by kernel_rfl) trivial ?_
    refine XO.done (by kernel_rfl) ?_
    refine hK1 _ _ ?_
    refine XW.seq (x := cd Tryd.f35 [1,0]) (y := cd Tryd.f35 [1,1]) (by kernel_rfl) fun K2 hK2 => ?_
    have hJ2 : ∀ (_ : Unit), value_lacks_j2 = some r → ∀ fr1 st1, Sub 33 0 [] fr1 st1 [] [] → K2 fr1 st1 := by
      intro _ h fr1 st1 hS
      unfold value_lacks_j2 at h
      refine hK2 _ _ (XW.sub hS ?_)
      refine XW.seq (x := cd Tryd.f35 [1,1,0]) (y := cd Tryd.f35 [1,1,1]) (by kernel_rfl) fun K19 hK19 => ?_
      refine XW.reg (by kernel_rfl) ?_
      refine XO.go [6, 7] 1 [4] [] [(4, vb false)] [] [] (by kernel_rfl) trivial ?_
      refine XO.done (by kernel_rfl) ?_
      refine hK19 _ _ ?_
      refine XW.ret (by kernel_rfl) ?_
      obtain rfl := Option.some.inj h
      exact FinP.fin (.inr rfl) [] [vb false] [] (by kernel_rfl) trivial (.one (.rfl _ rfl))
    refine XW.seq (x := cd Tryd.f35 [1,0,0]) (y := cd Tryd.f35 [1,0,1]) (by kernel_rfl) fun K3 hK3 => ?_
    refine XW.reg (by kernel_rfl) ?_
    refine XO.go [6, 7] 3 [2,9,10] [[pi p2.kind, pi p2.n, pi p2.scale, .s (.string p2.s), .ro (eValue.els p2.items)]] [(2, .one (.pv (.rp [[pi p1.kind, pi p1.scale, .ro (eField.els p1.fields)]] 0 0))), (9, vl eValue p2.items), (10, vi ((eValue.els p2.items).length : Int))] [] [([[pi p2.kind, pi p2.n, pi p2.scale, .s (.string p2.s), .ro (eValue.els p2.items)]] : List (List PV))[0]? = some [pi p2.kind, pi p2.n, pi p2.scale, .s (.string p2.s), .ro (eValue.els p2.items)]] (by kernel_rfl) (⟨rfl, trivial⟩) ?_
    rw [eValue.len p2.items]
    refine XO.go [6, 7] 1 [2,9,10,11] [] [(2, .one (.pv (.rp [[pi p1.kind, pi p1.scale, .ro (eField.els p1.fields)]] 0 0))), (9, vl eValue p2.items), (10, vi (p2.items.length : Int)), (11, vi (0 : Int))] [] [] (by kernel_rfl) trivial ?_
    refine XO.done (by kernel_rfl) ?_
    refine hK3 _ _ ?_
    refine XW.block (id := 0) (x := cd Tryd.f35 [1,0,1,0]) (by kernel_rfl) ?_
    refine XW.rounds' BIG (x := cd Tryd.f35 [1,0,1,0,0]) (by kernel_rfl) fun Q1 hQ1 => ?_
    have hL1 : ∀ (k1 : Nat) (x1 : Int), value_lacks_l1 (value_lacks k0) p1 p2 k1 x1 = some r → XR Tryd.prog 33 0 [] (cd Tryd.f35 [1,0,1,0,0]) Q1 k1 [(2, .one (.pv (.rp [[pi p1.kind, pi p1.scale, .ro (eField.els p1.fields)]] 0 0))), (9, vl eValue p2.items), (10, vi (p2.items.length : Int)), (11, vi x1)] [] := by
      intro k1
      induction k1 with
      | zero => intro x1 h; rw [value_lacks_l1.eq_1] at h; cases h
      | succ k1 ih1 =>
        intro x1 h
        rw [value_lacks_l1.eq_2] at h
        refine XW.seq (x := cd Tryd.f35 [1,0,1,0,0,0]) (y := cd Tryd.f35 [1,0,1,0,0,1]) (by kernel_rfl) fun K4 hK4 => ?_
        refine XW.reg (by kernel_rfl) ?_
        refine XO.go [6, 7] 1 [2,9,10,11,12] [] [(2, .one (.pv (.rp [[pi p1.kind, pi p1.scale, .ro (eField.els p1.fields)]] 0 0))), (9, vl eValue p2.items), (10, vi (p2.items.length : Int)), (11, vi x1), (12, vb (decide (x1 < (p2.items.length : Int))))] [] [] (by kernel_rfl) trivial ?_
        refine XO.done (by kernel_rfl) ?_
        refine hK4 _ _ ?_
        refine XW.seq (x := cd Tryd.f35 [1,0,1,0,0,1,0]) (y := cd Tryd.f35 [1,0,1,0,0,1,1]) (by kernel_rfl) fun K5 hK5 => ?_
        refine XW.cond (x := .tmp 12) (a := cd Tryd.f35 [1,0,1,0,0,1,0,0]) (b := cd Tryd.f35 [1,0,1,0,0,1,0,1]) (t := (decide (x1 < (p2.items.length : Int)))) (by kernel_rfl) (by kernel_rfl) (fun b6 => ?_) (fun b6 => ?_)
        · have h := ift_t b6 h
          refine XW.skip (by kernel_rfl) ?_
          refine hK5 _ _ ?_
          refine XW.seq (x := cd Tryd.f35 [1,0,1,0,0,1,1,0]) (y := cd Tryd.f35 [1,0,1,0,0,1,1,1]) (by kernel_rfl) fun K7 hK7 => ?_
          refine XW.block (id := 1) (x := cd Tryd.f35 [1,0,1,0,0,1,1,0,0]) (by kernel_rfl) ?_
          refine XW.seq (x := cd Tryd.f35 [1,0,1,0,0,1,1,0,0,0]) (y := cd Tryd.f35 [1,0,1,0,0,1,1,0,0,1]) (by kernel_rfl) fun K8 hK8 => ?_
          obtain ⟨e1, a9, h⟩ := bnd_some h
          refine XW.reg (by kernel_rfl) ?_
          refine XO.go [6, 7] 6 [2,5,6,9,10,11] [[pi e1.kind, pi e1.n, pi e1.scale, .s (.string e1.s), .ro (eValue.els e1.items)]] [(2, .one (.pv (.rp [[pi p1.kind, pi p1.scale, .ro (eField.els p1.fields)]] 0 0))), (5, vi x1), (6, .one (.pt 0 0 0 0)), (9, vl eValue p2.items), (10, vi (p2.items.length : Int)), (11, vi x1)] [.box [ci e1.kind, ci e1.n, ci e1.scale, cst e1.s, cl eValue e1.items]] [0 ≤ x1 ∧ x1 < ((eValue.els p2.items).length : Int) ∧ elemsOk 5 (eValue.els p2.items), (eValue.els p2.items)[x1.toNat]? = some [pi e1.kind, pi e1.n, pi e1.scale, .s (.string e1.s), .ro (eValue.els e1.items)]] (by kernel_rfl) (⟨eValue.inb a9, ((eValue.get a9).trans (by cases e1; rfl)), trivial⟩) ?_
          refine XO.done (by kernel_rfl) ?_
          refine hK8 _ _ ?_
          refine XW.seq (x := cd Tryd.f35 [1,0,1,0,0,1,1,0,0,1,0]) (y := cd Tryd.f35 [1,0,1,0,0,1,1,0,0,1,1]) (by kernel_rfl) fun K10 hK10 => ?_
          obtain ⟨r1, c11, h⟩ := bnd_some h
          refine XW.reg (by kernel_rfl) ?_
          refine XO.go [6, 7] 2 [2,6,9,10,11,16,17] [[pi p1.kind, pi p1.scale, .ro (eField.els p1.fields)]] [(2, .one (.pv (.rp [[pi p1.kind, pi p1.scale, .ro (eField.els p1.fields)]] 0 0))), (6, .one (.pt 0 0 0 0)), (9, vl eValue p2.items), (10, vi (p2.items.length : Int)), (11, vi x1), (16, .ag [ci p1.kind, ci p1.scale, cl eField p1.fields]), (17, vi x1)] [.box [ci e1.kind, ci e1.n, ci e1.scale, cst e1.s, cl eValue e1.items]] [([[pi p1.kind, pi p1.scale, .ro (eField.els p1.fields)]] : List (List PV))[0]? = some [pi p1.kind, pi p1.scale, .ro (eField.els p1.fields)]] (by kernel_rfl) (⟨rfl, trivial⟩) ?_
          refine XO.cal 84 [.ag [ci p1.kind, ci p1.scale, cl eField p1.fields], vi x1] (.ag [ci r1.id, cst r1.name, cb r1.need, ci r1.type.kind, ci r1.type.scale, cl eField r1.type.fields]) [(18, .ag [ci r1.id, cst r1.name, cb r1.need, ci r1.type.kind, ci r1.type.scale, cl eField r1.type.fields]), (2, .one (.pv (.rp [[pi p1.kind, pi p1.scale, .ro (eField.els p1.fields)]] 0 0))), (6, .one (.pt 0 0 0 0)), (9, vl eValue p2.items), (10, vi (p2.items.length : Int)), (11, vi x1), (16, .ag [ci p1.kind, ci p1.scale, cl eField p1.fields]), (17, vi x1)] (by kernel_rfl) (c_value_field _ _ _ c11) rfl rfl (by kernel_rfl) ?_
          refine XO.go [6, 7] 2 [2,6,7,9,10,11] [] [(2, .one (.pv (.rp [[pi p1.kind, pi p1.scale, .ro (eField.els p1.fields)]] 0 0))), (6, .one (.pt 0 0 0 0)), (7, .one (.pt 1 0 0 0)), (9, vl eValue p2.items), (10, vi (p2.items.length : Int)), (11, vi x1)] [.box [ci e1.kind, ci e1.n, ci e1.scale, cst e1.s, cl eValue e1.items], .box [ci r1.id, cst r1.name, cb r1.need, ci r1.type.kind, ci r1.type.scale, cl eField r1.type.fields]] [] (by kernel_rfl) trivial ?_
          refine XO.done (by kernel_rfl) ?_
          refine hK10 _ _ ?_
          refine XW.seq (x := cd Tryd.f35 [1,0,1,0,0,1,1,0,0,1,1,0]) (y := cd Tryd.f35 [1,0,1,0,0,1,1,0,0,1,1,1]) (by kernel_rfl) fun K12 hK12 => ?_
          have hJ1 : ∀ (x2 : Bool), value_lacks_j1 (value_lacks_l1 (value_lacks k0) p1 p2 k1) x1 x2 = some r → ∀ fr1 st1, Sub 33 0 [] fr1 st1 [(2, .one (.pv (.rp [[pi p1.kind, pi p1.scale, .ro (eField.els p1.fields)]] 0 0))), (9, vl eValue p2.items), (10, vi (p2.items.length : Int)), (11, vi x1), (31, vb x2)] [.box [ci e1.kind, ci e1.n, ci e1.scale, cst e1.s, cl eValue e1.items], .box [ci r1.id, cst r1.name, cb r1.need, ci r1.type.kind, ci r1.type.scale, cl eField r1.type.fields]] → K12 fr1 st1 := by
            intro x2 h fr1 st1 hS
            unfold value_lacks_j1 at h
            refine hK12 _ _ (XW.sub hS ?_)
            refine XW.cond (x := .tmp 31) (a := cd Tryd.f35 [1,0,1,0,0,1,1,0,0,1,1,1,0]) (b := cd Tryd.f35 [1,0,1,0,0,1,1,0,0,1,1,1,1]) (t := x2) (by kernel_rfl) (by kernel_rfl) (fun b17 => ?_) (fun b17 => ?_)
            · have h := ift_t b17 h
              refine XW.seq (x := cd Tryd.f35 [1,0,1,0,0,1,1,0,0,1,1,1,0,0]) (y := cd Tryd.f35 [1,0,1,0,0,1,1,0,0,1,1,1,0,1]) (by kernel_rfl) fun K18 hK18 => ?_
              refine XW.reg (by kernel_rfl) ?_
              refine XO.go [6, 7] 1 [4] [] [(4, vb true)] [.box [ci e1.kind, ci e1.n, ci e1.scale, cst e1.s, cl eValue e1.items], .box [ci r1.id, cst r1.name, cb r1.need, ci r1.type.kind, ci r1.type.scale, cl eField r1.type.fields]] [] (by kernel_rfl) trivial ?_
              refine XO.done (by kernel_rfl) ?_
              refine hK18 _ _ ?_
              refine XW.ret (by kernel_rfl) ?_
              refine hQ1 _ _ _ ?_
              obtain rfl := Option.some.inj h
              exact FinP.fin (.inr rfl) [] [vb true] [] (by kernel_rfl) trivial (.one (.rfl _ rfl))
            · have h := ift_f b17 h
              refine XW.skip (by kernel_rfl) ?_
              refine hK7 _ _ ?_
              refine XW.reg (by kernel_rfl) ?_
              refine XO.go [6, 7] 2 [2,9,10,11] [] [(2, .one (.pv (.rp [[pi p1.kind, pi p1.scale, .ro (eField.els p1.fields)]] 0 0))), (9, vl eValue p2.items), (10, vi (p2.items.length : Int)), (11, vi (IntKind.i64.wrap (x1 + (1 : Int))))] [.box [ci e1.kind, ci e1.n, ci e1.scale, cst e1.s, cl eValue e1.items], .box [ci r1.id, cst r1.name, cb r1.need, ci r1.type.kind, ci r1.type.scale, cl eField r1.type.fields]] [] (by kernel_rfl) trivial ?_
              refine XO.done (by kernel_rfl) ?_
              exact XR.sub (Sub.trans (Sub.pick (fr' := [(2, .one (.pv (.rp [[pi p1.kind, pi p1.scale, .ro (eField.els p1.fields)]] 0 0))), (9, vl eValue p2.items), (10, vi (p2.items.length : Int)), (11, vi (IntKind.i64.wrap (x1 + (1 : Int))))]) [2,9,10,11] (by kernel_rfl)) (Sub.take (fr' := [(2, .one (.pv (.rp [[pi p1.kind, pi p1.scale, .ro (eField.els p1.fields)]] 0 0))), (9, vl eValue p2.items), (10, vi (p2.items.length : Int)), (11, vi (IntKind.i64.wrap (x1 + (1 : Int))))]) 0 (Nat.zero_le _) (by kernel_rfl) (by kernel_rfl))) (ih1 (IntKind.i64.wrap (x1 + (1 : Int))) h)
          rcases Bool.eq_false_or_eq_true (e1.kind == (0 : Int)) with b13 | b13
          · have h := ift_t b13 h
            rcases Bool.eq_false_or_eq_true r1.need with b14 | b14
            · have h := ift_t b14 h
              refine XW.reg (by kernel_rfl) ?_
              refine XO.go [6, 7] 4 [2,6,7,9,10,11,22] [] [(2, .one (.pv (.rp [[pi p1.kind, pi p1.scale, .ro (eField.els p1.fields)]] 0 0))), (6, .one (.pt 0 0 0 0)), (7, .one (.pt 1 0 0 0)), (9, vl eValue p2.items), (10, vi (p2.items.length : Int)), (11, vi x1), (22, vb (e1.kind == (0 : Int)))] [.box [ci e1.kind, ci e1.n, ci e1.scale, cst e1.s, cl eValue e1.items], .box [ci r1.id, cst r1.name, cb r1.need, ci r1.type.kind, ci r1.type.scale, cl eField r1.type.fields]] [] (by kernel_rfl) trivial ?_
              refine XO.setb 22 true (B := (e1.kind == (0 : Int))) rfl b13 ?_
              refine XO.go [6, 7] 4 [2,6,7,9,10,11,26] [] [(2, .one (.pv (.rp [[pi p1.kind, pi p1.scale, .ro (eField.els p1.fields)]] 0 0))), (6, .one (.pt 0 0 0 0)), (7, .one (.pt 1 0 0 0)), (9, vl eValue p2.items), (10, vi (p2.items.length : Int)), (11, vi x1), (26, vb r1.need)] [.box [ci e1.kind, ci e1.n, ci e1.scale, cst e1.s, cl eValue e1.items], .box [ci r1.id, cst r1.name, cb r1.need, ci r1.type.kind, ci r1.type.scale, cl eField r1.type.fields]] [] (by kernel_rfl) trivial ?_
              refine XO.setb 26 true (B := r1.need) rfl b14 ?_
              refine XO.go [6, 7] 5 [2,9,10,11,31] [] [(2, .one (.pv (.rp [[pi p1.kind, pi p1.scale, .ro (eField.els p1.fields)]] 0 0))), (9, vl eValue p2.items), (10, vi (p2.items.length : Int)), (11, vi x1), (31, vb true)] [.box [ci e1.kind, ci e1.n, ci e1.scale, cst e1.s, cl eValue e1.items], .box [ci r1.id, cst r1.name, cb r1.need, ci r1.type.kind, ci r1.type.scale, cl eField r1.type.fields]] [] (by kernel_rfl) trivial ?_
              refine XO.done (by kernel_rfl) ?_
              exact hJ1 true h _ _ (Sub.pick [2,9,10,11,31] (by kernel_rfl))
            · have h := ift_f b14 h
              obtain ⟨r2, c15, h⟩ := bnd_some h
              refine XW.reg (by kernel_rfl) ?_
              refine XO.go [6, 7] 4 [2,6,7,9,10,11,22] [] [(2, .one (.pv (.rp [[pi p1.kind, pi p1.scale, .ro (eField.els p1.fields)]] 0 0))), (6, .one (.pt 0 0 0 0)), (7, .one (.pt 1 0 0 0)), (9, vl eValue p2.items), (10, vi (p2.items.length : Int)), (11, vi x1), (22, vb (e1.kind == (0 : Int)))] [.box [ci e1.kind, ci e1.n, ci e1.scale, cst e1.s, cl eValue e1.items], .box [ci r1.id, cst r1.name, cb r1.need, ci r1.type.kind, ci r1.type.scale, cl eField r1.type.fields]] [] (by kernel_rfl) trivial ?_
              refine XO.setb 22 true (B := (e1.kind == (0 : Int))) rfl b13 ?_
              refine XO.go [6, 7] 4 [2,6,7,9,10,11,26] [] [(2, .one (.pv (.rp [[pi p1.kind, pi p1.scale, .ro (eField.els p1.fields)]] 0 0))), (6, .one (.pt 0 0 0 0)), (7, .one (.pt 1 0 0 0)), (9, vl eValue p2.items), (10, vi (p2.items.length : Int)), (11, vi x1), (26, vb r1.need)] [.box [ci e1.kind, ci e1.n, ci e1.scale, cst e1.s, cl eValue e1.items], .box [ci r1.id, cst r1.name, cb r1.need, ci r1.type.kind, ci r1.type.scale, cl eField r1.type.fields]] [] (by kernel_rfl) trivial ?_
              refine XO.setb 26 false (B := r1.need) rfl b14 ?_
              refine XO.go [6, 7] 3 [2,9,10,11,26,28,29] [] [(2, .one (.pv (.rp [[pi p1.kind, pi p1.scale, .ro (eField.els p1.fields)]] 0 0))), (9, vl eValue p2.items), (10, vi (p2.items.length : Int)), (11, vi x1), (26, vb false), (28, .ag [ci r1.type.kind, ci r1.type.scale, cl eField r1.type.fields]), (29, .ag [ci e1.kind, ci e1.n, ci e1.scale, cst e1.s, cl eValue e1.items])] [.box [ci e1.kind, ci e1.n, ci e1.scale, cst e1.s, cl eValue e1.items], .box [ci r1.id, cst r1.name, cb r1.need, ci r1.type.kind, ci r1.type.scale, cl eField r1.type.fields]] [] (by kernel_rfl) trivial ?_
              refine XO.cal 35 [.ag [ci r1.type.kind, ci r1.type.scale, cl eField r1.type.fields], .ag [ci e1.kind, ci e1.n, ci e1.scale, cst e1.s, cl eValue e1.items]] (vb r2) [(30, vb r2), (2, .one (.pv (.rp [[pi p1.kind, pi p1.scale, .ro (eField.els p1.fields)]] 0 0))), (9, vl eValue p2.items), (10, vi (p2.items.length : Int)), (11, vi x1), (26, vb false), (28, .ag [ci r1.type.kind, ci r1.type.scale, cl eField r1.type.fields]), (29, .ag [ci e1.kind, ci e1.n, ci e1.scale, cst e1.s, cl eValue e1.items])] (by kernel_rfl) (c_value_lacks k0 _ _ _ c15) rfl rfl (by kernel_rfl) ?_
              refine XO.go [6, 7] 1 [2,9,10,11,31] [] [(2, .one (.pv (.rp [[pi p1.kind, pi p1.scale, .ro (eField.els p1.fields)]] 0 0))), (9, vl eValue p2.items), (10, vi (p2.items.length : Int)), (11, vi x1), (31, vb r2)] [.box [ci e1.kind, ci e1.n, ci e1.scale, cst e1.s, cl eValue e1.items], .box [ci r1.id, cst r1.name, cb r1.need, ci r1.type.kind, ci r1.type.scale, cl eField r1.type.fields]] [] (by kernel_rfl) trivial ?_
              refine XO.done (by kernel_rfl) ?_
              exact hJ1 r2 h _ _ (Sub.pick [2,9,10,11,31] (by kernel_rfl))
          · have h := ift_f b13 h
            obtain ⟨r3, c16, h⟩ := bnd_some h
            refine XW.reg (by kernel_rfl) ?_
            refine XO.go [6, 7] 4 [2,6,7,9,10,11,22] [] [(2, .one (.pv (.rp [[pi p1.kind, pi p1.scale, .ro (eField.els p1.fields)]] 0 0))), (6, .one (.pt 0 0 0 0)), (7, .one (.pt 1 0 0 0)), (9, vl eValue p2.items), (10, vi (p2.items.length : Int)), (11, vi x1), (22, vb (e1.kind == (0 : Int)))] [.box [ci e1.kind, ci e1.n, ci e1.scale, cst e1.s, cl eValue e1.items], .box [ci r1.id, cst r1.name, cb r1.need, ci r1.type.kind, ci r1.type.scale, cl eField r1.type.fields]] [] (by kernel_rfl) trivial ?_
            refine XO.setb 22 false (B := (e1.kind == (0 : Int))) rfl b13 ?_
            refine XO.go [6, 7] 7 [2,9,10,11,26,28,29] [] [(2, .one (.pv (.rp [[pi p1.kind, pi p1.scale, .ro (eField.els p1.fields)]] 0 0))), (9, vl eValue p2.items), (10, vi (p2.items.length : Int)), (11, vi x1), (26, vb false), (28, .ag [ci r1.type.kind, ci r1.type.scale, cl eField r1.type.fields]), (29, .ag [ci e1.kind, ci e1.n, ci e1.scale, cst e1.s, cl eValue e1.items])] [.box [ci e1.kind, ci e1.n, ci e1.scale, cst e1.s, cl eValue e1.items], .box [ci r1.id, cst r1.name, cb r1.need, ci r1.type.kind, ci r1.type.scale, cl eField r1.type.fields]] [] (by kernel_rfl) trivial ?_
            refine XO.cal 35 [.ag [ci r1.type.kind, ci r1.type.scale, cl eField r1.type.fields], .ag [ci e1.kind, ci e1.n, ci e1.scale, cst e1.s, cl eValue e1.items]] (vb r3) [(30, vb r3), (2, .one (.pv (.rp [[pi p1.kind, pi p1.scale, .ro (eField.els p1.fields)]] 0 0))), (9, vl eValue p2.items), (10, vi (p2.items.length : Int)), (11, vi x1), (26, vb false), (28, .ag [ci r1.type.kind, ci r1.type.scale, cl eField r1.type.fields]), (29, .ag [ci e1.kind, ci e1.n, ci e1.scale, cst e1.s, cl eValue e1.items])] (by kernel_rfl) (c_value_lacks k0 _ _ _ c16) rfl rfl (by kernel_rfl) ?_
            refine XO.go [6, 7] 1 [2,9,10,11,31] [] [(2, .one (.pv (.rp [[pi p1.kind, pi p1.scale, .ro (eField.els p1.fields)]] 0 0))), (9, vl eValue p2.items), (10, vi (p2.items.length : Int)), (11, vi x1), (31, vb r3)] [.box [ci e1.kind, ci e1.n, ci e1.scale, cst e1.s, cl eValue e1.items], .box [ci r1.id, cst r1.name, cb r1.need, ci r1.type.kind, ci r1.type.scale, cl eField r1.type.fields]] [] (by kernel_rfl) trivial ?_
            refine XO.done (by kernel_rfl) ?_
            exact hJ1 r3 h _ _ (Sub.pick [2,9,10,11,31] (by kernel_rfl))
        · have h := ift_f b6 h
          refine XW.exit (id := 0) (by kernel_rfl) ?_
          refine hQ1 _ _ _ ?_
          exact hJ2 () h _ _ (Sub.pick [] (by kernel_rfl))
    exact XR.sub (Sub.pick [2,9,10,11] (by kernel_rfl)) (hL1 BIG (0 : Int) h)

def value_Check (p1 : GType) (p2 : GValue) : Option Int :=
    bnd (value_CheckType p1) fun r1 =>
    ift (r1 != (0 : Int))
      (some r1)
      (bnd (value_Sound p2) fun r2 =>
       ift (!r2)
         (some (1 : Int))
         (bnd (value_of BIG p1 p2) fun r3 =>
          ift (!r3)
            (some (2 : Int))
            (bnd (value_lacks BIG p1 p2) fun r4 =>
             ift r4
               (some (9 : Int))
               (some (0 : Int)))))


theorem c_value_Check (p1 : GType) (p2 : GValue) (r : Int) (h : value_Check p1 p2 = some r) : PC Tryd.prog 12 [.ag [ci p1.kind, ci p1.scale, cl eField p1.fields], .ag [ci p2.kind, ci p2.n, ci p2.scale, cst p2.s, cl eValue p2.items]] (vi r) := by
  unfold value_Check at h
  refine PC.of (n := 24) (fn := Tryd.f12) (c := cd Tryd.f12 []) (by kernel_rfl) (by kernel_rfl) (by kernel_rfl) (Nat.le_of_ble_eq_true rfl) ?_
  refine XW.seq (x := cd Tryd.f12 [0]) (y := cd Tryd.f12 [1]) (by kernel_rfl) fun K1 hK1 => ?_
  refine XW.reg (by kernel_rfl) ?_
  refine XO.go [] 3 [2,3] [] [(2, .one (.pv (.rp [[pi p1.kind, pi p1.scale, .ro (eField.els p1.fields)]] 0 0))), (3, .one (.pv (.rp [[pi p2.kind, pi p2.n, pi p2.scale, .s (.string p2.s), .ro (eValue.els p2.items)]] 0 0)))] [] [] (by kernel_rfl) trivial ?_
  refine XO.done (by kernel_rfl) ?_
  refine hK1 _ _ ?_
  refine XW.seq (x := cd Tryd.f12 [1,0]) (y := cd Tryd.f12 [1,1]) (by kernel_rfl) fun K2 hK2 => ?_
  refine XW.seq (x := cd Tryd.f12 [1,0,0]) (y := cd Tryd.f12 [1,0,1]) (by kernel_rfl) fun K3 hK3 => ?_
  obtain ⟨r1, c4, h⟩ := bnd_some h
  refine XW.reg (by kernel_rfl) ?_
  refine XO.go [] 1 [2,3,6] [[pi p1.kind, pi p1.scale, .ro (eField.els p1.fields)]] [(2, .one (.pv (.rp [[pi p1.kind, pi p1.scale, .ro (eField.els p1.fields)]] 0 0))), (3, .one (.pv (.rp [[pi p2.kind, pi p2.n, pi p2.scale, .s (.string p2.s), .ro (eValue.els p2.items)]] 0 0))), (6, .ag [ci p1.kind, ci p1.scale, cl eField p1.fields])] [] [([[pi p1.kind, pi p1.scale, .ro (eField.els p1.fields)]] : List (List PV))[0]? = some [pi p1.kind, pi p1.scale, .ro (eField.els p1.fields)]] (by kernel_rfl) (⟨rfl, trivial⟩) ?_
  refine XO.cal 33 [.ag [ci p1.kind, ci p1.scale, cl eField p1.fields]] (vi r1) [(7, vi r1), (2, .one (.pv (.rp [[pi p1.kind, pi p1.scale, .ro (eField.els p1.fields)]] 0 0))), (3, .one (.pv (.rp [[pi p2.kind, pi p2.n, pi p2.scale, .s (.string p2.s), .ro (eValue.els p2.items)]] 0 0))), (6, .ag [ci p1.kind, ci p1.scale, cl eField p1.fields])] (by kernel_rfl) (c_value_CheckType _ _ c4) rfl rfl (by kernel_rfl) ?_
  refine XO.go [] 1 [2,3,5] [] [(2, .one (.pv (.rp [[pi p1.kind, pi p1.scale, .ro (eField.els p1.fields)]] 0 0))), (3, .one (.pv (.rp [[pi p2.kind, pi p2.n, pi p2.scale, .s (.string p2.s), .ro (eValue.els p2.items)]] 0 0))), (5, vi r1)] [] [] (by kernel_rfl) trivial ?_
  refine XO.done (by kernel_rfl) ?_
  refine hK3 _ _ ?_
  refine XW.seq (x := cd Tryd.f12 [1,0,1,0]) (y := cd Tryd.f12 [1,0,1,1]) (by kernel_rfl) fun K5 hK5 => ?_
  refine XW.reg (by kernel_rfl) ?_
  refine XO.go [] 2 [2,3,5,9] [] [(2, .one (.pv (.rp [[pi p1.kind, pi p1.scale, .ro (eField.els p1.fields)]] 0 0))), (3, .one (.pv (.rp [[pi p2.kind, pi p2.n, pi p2.scale, .s (.string p2.s), .ro (eValue.els p2.items)]] 0 0))), (5, vi r1), (9, vb (r1 != (0 : Int)))] [] [] (by kernel_rfl) trivial ?_
  refine XO.done (by kernel_rfl) ?_
  refine hK5 _ _ ?_
  refine XW.cond (x := .tmp 9) (a := cd Tryd.f12 [1,0,1,1,0]) (b := cd Tryd.f12 [1,0,1,1,1]) (t := (r1 != (0 : Int))) (by kernel_rfl) (by kernel_rfl) (fun b6 => ?_) (fun b6 => ?_)
  · have h := ift_t b6 h
    refine XW.seq (x := cd Tryd.f12 [1,0,1,1,0,0]) (y := cd Tryd.f12 [1,0,1,1,0,1]) (by kernel_rfl) fun K7 hK7 => ?_
    refine XW.reg (by kernel_rfl) ?_
    refine XO.go [] 2 [4] [] [(4, vi r1)] [] [] (by kernel_rfl) trivial ?_
    refine XO.done (by kernel_rfl) ?_
    refine hK7 _ _ ?_
    refine XW.ret (by kernel_rfl) ?_
    obtain rfl := Option.some.inj h
    exact FinP.fin (.inr rfl) [] [vi r1] [] (by kernel_rfl) trivial (.one (.rfl _ rfl))
  · have h := ift_f b6 h
    refine XW.skip (by kernel_rfl) ?_
    refine hK2 _ _ ?_
    refine XW.seq (x := cd Tryd.f12 [1,1,0]) (y := cd Tryd.f12 [1,1,1]) (by kernel_rfl) fun K8 hK8 => ?_
    refine XW.block (id := 0) (x := cd Tryd.f12 [1,1,0,0]) (by kernel_rfl) ?_
    refine XW.seq (x := cd Tryd.f12 [1,1,0,0,0]) (y := cd Tryd.f12 [1,1,0,0,1]) (by kernel_rfl) fun K9 hK9 => ?_
    obtain ⟨r2, c10, h⟩ := bnd_some h
    refine XW.reg (by kernel_rfl) ?_
    refine XO.go [] 1 [2,3,12] [[pi p2.kind, pi p2.n, pi p2.scale, .s (.string p2.s), .ro (eValue.els p2.items)]] [(2, .one (.pv (.rp [[pi p1.kind, pi p1.scale, .ro (eField.els p1.fields)]] 0 0))), (3, .one (.pv (.rp [[pi p2.kind, pi p2.n, pi p2.scale, .s (.string p2.s), .ro (eValue.els p2.items)]] 0 0))), (12, .ag [ci p2.kind, ci p2.n, ci p2.scale, cst p2.s, cl eValue p2.items])] [] [([[pi p2.kind, pi p2.n, pi p2.scale, .s (.string p2.s), .ro (eValue.els p2.items)]] : List (List PV))[0]? = some [pi p2.kind, pi p2.n, pi p2.scale, .s (.string p2.s), .ro (eValue.els p2.items)]] (by kernel_rfl) (⟨rfl, trivial⟩) ?_
    refine XO.cal 9 [.ag [ci p2.kind, ci p2.n, ci p2.scale, cst p2.s, cl eValue p2.items]] (vb r2) [(13, vb r2), (2, .one (.pv (.rp [[pi p1.kind, pi p1.scale, .ro (eField.els p1.fields)]] 0 0))), (3, .one (.pv (.rp [[pi p2.kind, pi p2.n, pi p2.scale, .s (.string p2.s), .ro (eValue.els p2.items)]] 0 0))), (12, .ag [ci p2.kind, ci p2.n, ci p2.scale, cst p2.s, cl eValue p2.items])] (by kernel_rfl) (c_value_Sound _ _ c10) rfl rfl (by kernel_rfl) ?_
    refine XO.go [] 2 [2,3,11] [] [(2, .one (.pv (.rp [[pi p1.kind, pi p1.scale, .ro (eField.els p1.fields)]] 0 0))), (3, .one (.pv (.rp [[pi p2.kind, pi p2.n, pi p2.scale, .s (.string p2.s), .ro (eValue.els p2.items)]] 0 0))), (11, vb (!r2))] [] [] (by kernel_rfl) trivial ?_
    refine XO.done (by kernel_rfl) ?_
    refine hK9 _ _ ?_
    refine XW.cond (x := .tmp 11) (a := cd Tryd.f12 [1,1,0,0,1,0]) (b := cd Tryd.f12 [1,1,0,0,1,1]) (t := (!r2)) (by kernel_rfl) (by kernel_rfl) (fun b11 => ?_) (fun b11 => ?_)
    · have h := ift_t b11 h
      refine XW.seq (x := cd Tryd.f12 [1,1,0,0,1,0,0]) (y := cd Tryd.f12 [1,1,0,0,1,0,1]) (by kernel_rfl) fun K12 hK12 => ?_
      refine XW.reg (by kernel_rfl) ?_
      refine XO.go [] 1 [4] [] [(4, vi (1 : Int))] [] [] (by kernel_rfl) trivial ?_
      refine XO.done (by kernel_rfl) ?_
      refine hK12 _ _ ?_
      refine XW.ret (by kernel_rfl) ?_
      obtain rfl := Option.some.inj h
      exact FinP.fin (.inr rfl) [] [vi (1 : Int)] [] (by kernel_rfl) trivial (.one (.rfl _ rfl))
    · have h := ift_f b11 h
      refine XW.seq (x := cd Tryd.f12 [1,1,0,0,1,1,0]) (y := cd Tryd.f12 [1,1,0,0,1,1,1]) (by kernel_rfl) fun K13 hK13 => ?_
      obtain ⟨r3, c14, h⟩ := bnd_some h
      refine XW.reg (by kernel_rfl) ?_
      refine XO.go [] 2 [2,3,16,17] [[pi p1.kind, pi p1.scale, .ro (eField.els p1.fields)], [pi p2.kind, pi p2.n, pi p2.scale, .s (.string p2.s), .ro (eValue.els p2.items)]] [(2, .one (.pv (.rp [[pi p1.kind, pi p1.scale, .ro (eField.els p1.fields)]] 0 0))), (3, .one (.pv (.rp [[pi p2.kind, pi p2.n, pi p2.scale, .s (.string p2.s), .ro (eValue.els p2.items)]] 0 0))), (16, .ag [ci p1.kind, ci p1.scale, cl eField p1.fields]), (17, .ag [ci p2.kind, ci p2.n, ci p2.scale, cst p2.s, cl eValue p2.items])] [] [([[pi p1.kind, pi p1.scale, .ro (eField.els p1.fields)]] : List (List PV))[0]? = some [pi p1.kind, pi p1.scale, .ro (eField.els p1.fields)], ([[pi p2.kind, pi p2.n, pi p2.scale, .s (.string p2.s), .ro (eValue.els p2.items)]] : List (List PV))[0]? = some [pi p2.kind, pi p2.n, pi p2.scale, .s (.string p2.s), .ro (eValue.els p2.items)]] (by kernel_rfl) (⟨rfl, rfl, trivial⟩) ?_
      refine XO.cal 34 [.ag [ci p1.kind, ci p1.scale, cl eField p1.fields], .ag [ci p2.kind, ci p2.n, ci p2.scale, cst p2.s, cl eValue p2.items]] (vb r3) [(18, vb r3), (2, .one (.pv (.rp [[pi p1.kind, pi p1.scale, .ro (eField.els p1.fields)]] 0 0))), (3, .one (.pv (.rp [[pi p2.kind, pi p2.n, pi p2.scale, .s (.string p2.s), .ro (eValue.els p2.items)]] 0 0))), (16, .ag [ci p1.kind, ci p1.scale, cl eField p1.fields]), (17, .ag [ci p2.kind, ci p2.n, ci p2.scale, cst p2.s, cl eValue p2.items])] (by kernel_rfl) (c_value_of BIG _ _ _ c14) rfl rfl (by kernel_rfl) ?_
      refine XO.go [] 2 [2,3,15] [] [(2, .one (.pv (.rp [[pi p1.kind, pi p1.scale, .ro (eField.els p1.fields)]] 0 0))), (3, .one (.pv (.rp [[pi p2.kind, pi p2.n, pi p2.scale, .s (.string p2.s), .ro (eValue.els p2.items)]] 0 0))), (15, vb (!r3))] [] [] (by kernel_rfl) trivial ?_
      refine XO.done (by kernel_rfl) ?_
      refine hK13 _ _ ?_
      refine XW.cond (x := .tmp 15) (a := cd Tryd.f12 [1,1,0,0,1,1,1,0]) (b := cd Tryd.f12 [1,1,0,0,1,1,1,1]) (t := (!r3)) (by kernel_rfl) (by kernel_rfl) (fun b15 => ?_) (fun b15 => ?_)
      · have h := ift_t b15 h
        refine XW.seq (x := cd Tryd.f12 [1,1,0,0,1,1,1,0,0]) (y := cd Tryd.f12 [1,1,0,0,1,1,1,0,1]) (by kernel_rfl) fun K16 hK16 => ?_
        refine XW.reg (by kernel_rfl) ?_
        refine XO.go [] 1 [4] [] [(4, vi (2 : Int))] [] [] (by kernel_rfl) trivial ?_
        refine XO.done (by kernel_rfl) ?_
        refine hK16 _ _ ?_
        refine XW.ret (by kernel_rfl) ?_
        obtain rfl := Option.some.inj h
        exact FinP.fin (.inr rfl) [] [vi (2 : Int)] [] (by kernel_rfl) trivial (.one (.rfl _ rfl))
      · have h := ift_f b15 h
        refine XW.seq (x := cd Tryd.f12 [1,1,0,0,1,1,1,1,0]) (y := cd Tryd.f12 [1,1,0,0,1,1,1,1,1]) (by kernel_rfl) fun K17 hK17 => ?_
        obtain ⟨r4, c18, h⟩ := bnd_some h
        refine XW.reg (by kernel_rfl) ?_
        refine XO.go [] 2 [21,22] [[pi p1.kind, pi p1.scale, .ro (eField.els p1.fields)], [pi p2.kind, pi p2.n, pi p2.scale, .s (.string p2.s), .ro (eValue.els p2.items)]] [(21, .ag [ci p1.kind, ci p1.scale, cl eField p1.fields]), (22, .ag [ci p2.kind, ci p2.n, ci p2.scale, cst p2.s, cl eValue p2.items])] [] [([[pi p1.kind, pi p1.scale, .ro (eField.els p1.fields)]] : List (List PV))[0]? = some [pi p1.kind, pi p1.scale, .ro (eField.els p1.fields)], ([[pi p2.kind, pi p2.n, pi p2.scale, .s (.string p2.s), .ro (eValue.els p2.items)]] : List (List PV))[0]? = some [pi p2.kind, pi p2.n, pi p2.scale, .s (.string p2.s), .ro (eValue.els p2.items)]] (by kernel_rfl) (⟨rfl, rfl, trivial⟩) ?_
        refine XO.cal 35 [.ag [ci p1.kind, ci p1.scale, cl eField p1.fields], .ag [ci p2.kind, ci p2.n, ci p2.scale, cst p2.s, cl eValue p2.items]] (vb r4) [(23, vb r4), (21, .ag [ci p1.kind, ci p1.scale, cl eField p1.fields]), (22, .ag [ci p2.kind, ci p2.n, ci p2.scale, cst p2.s, cl eValue p2.items])] (by kernel_rfl) (c_value_lacks BIG _ _ _ c18) rfl rfl (by kernel_rfl) ?_
        refine XO.go [] 1 [20] [] [(20, vb r4)] [] [] (by kernel_rfl) trivial ?_
        refine XO.done (by kernel_rfl) ?_
        refine hK17 _ _ ?_
        refine XW.cond (x := .tmp 20) (a := cd Tryd.f12 [1,1,0,0,1,1,1,1,1,0]) (b := cd Tryd.f12 [1,1,0,0,1,1,1,1,1,1]) (t := r4) (by kernel_rfl) (by kernel_rfl) (fun b19 => ?_) (fun b19 => ?_)
        · have h := ift_t b19 h
          refine XW.seq (x := cd Tryd.f12 [1,1,0,0,1,1,1,1,1,0,0]) (y := cd Tryd.f12 [1,1,0,0,1,1,1,1,1,0,1]) (by kernel_rfl) fun K20 hK20 => ?_
          refine XW.reg (by kernel_rfl) ?_
          refine XO.go [] 1 [4] [] [(4, vi (9 : Int))] [] [] (by kernel_rfl) trivial ?_
          refine XO.done (by kernel_rfl) ?_
          refine hK20 _ _ ?_
          refine XW.ret (by kernel_rfl) ?_
          obtain rfl := Option.some.inj h
          exact FinP.fin (.inr rfl) [] [vi (9 : Int)] [] (by kernel_rfl) trivial (.one (.rfl _ rfl))
        · have h := ift_f b19 h
          refine XW.skip (by kernel_rfl) ?_
          refine hK8 _ _ ?_
          refine XW.seq (x := cd Tryd.f12 [1,1,1,0]) (y := cd Tryd.f12 [1,1,1,1]) (by kernel_rfl) fun K21 hK21 => ?_
          refine XW.reg (by kernel_rfl) ?_
          refine XO.go [] 1 [4] [] [(4, vi (0 : Int))] [] [] (by kernel_rfl) trivial ?_
          refine XO.done (by kernel_rfl) ?_
          refine hK21 _ _ ?_
          refine XW.ret (by kernel_rfl) ?_
          obtain rfl := Option.some.inj h
          exact FinP.fin (.inr rfl) [] [vi (0 : Int)] [] (by kernel_rfl) trivial (.one (.rfl _ rfl))

def ref1_Leaf_j1 (x1 : Bool) : Option Bool :=
    some x1

def ref1_Leaf (p1 : Int) : Option Bool :=
    ift (p1 != (6 : Int))
      (ref1_Leaf_j1 (p1 != (7 : Int)))
      (ref1_Leaf_j1 false)


theorem c_ref1_Leaf (p1 : Int) (r : Bool) (h : ref1_Leaf p1 = some r) : PC Tryd.prog 73 [vi p1] (vb r) := by
  unfold ref1_Leaf at h
  refine PC.of (n := 9) (fn := Tryd.f73) (c := cd Tryd.f73 []) (by kernel_rfl) (by kernel_rfl) (by kernel_rfl) (Nat.le_of_ble_eq_true rfl) ?_
  refine XW.seq (x := cd Tryd.f73 [0]) (y := cd Tryd.f73 [1]) (by kernel_rfl) fun K1 hK1 => ?_
  refine XW.reg (by kernel_rfl) ?_
  refine XO.go [] 1 [0] [] [(0, vi p1)] [] [] (by kernel_rfl) trivial ?_
  refine XO.done (by kernel_rfl) ?_
  refine hK1 _ _ ?_
  refine XW.seq (x := cd Tryd.f73 [1,0]) (y := cd Tryd.f73 [1,1]) (by kernel_rfl) fun K2 hK2 => ?_
  have hJ1 : ∀ (x1 : Bool), ref1_Leaf_j1 x1 = some r → ∀ fr1 st1, Sub 9 0 [] fr1 st1 [(2, vb x1)] [] → K2 fr1 st1 := by
    intro x1 h fr1 st1 hS
    unfold ref1_Leaf_j1 at h
    refine hK2 _ _ (XW.sub hS ?_)
    refine XW.ret (by kernel_rfl) ?_
    obtain rfl := Option.some.inj h
    exact FinP.fin (.inr rfl) [] [vb x1] [] (by kernel_rfl) trivial (.one (.rfl _ rfl))
  rcases Bool.eq_false_or_eq_true (p1 != (6 : Int)) with b3 | b3
  · have h := ift_t b3 h
    refine XW.reg (by kernel_rfl) ?_
    refine XO.go [] 3 [0,5] [] [(0, vi p1), (5, vb (p1 != (6 : Int)))] [] [] (by kernel_rfl) trivial ?_
    refine XO.setb 5 true (B := (p1 != (6 : Int))) rfl b3 ?_
    refine XO.go [] 4 [2] [] [(2, vb (p1 != (7 : Int)))] [] [] (by kernel_rfl) trivial ?_
    refine XO.done (by kernel_rfl) ?_
    exact hJ1 (p1 != (7 : Int)) h _ _ (Sub.pick [2] (by kernel_rfl))
  · have h := ift_f b3 h
    refine XW.reg (by kernel_rfl) ?_
    refine XO.go [] 3 [0,5] [] [(0, vi p1), (5, vb (p1 != (6 : Int)))] [] [] (by kernel_rfl) trivial ?_
    refine XO.setb 5 false (B := (p1 != (6 : Int))) rfl b3 ?_
    refine XO.go [] 4 [2] [] [(2, vb false)] [] [] (by kernel_rfl) trivial ?_
    refine XO.done (by kernel_rfl) ?_
    exact hJ1 false h _ _ (Sub.pick [2] (by kernel_rfl))

def ref1_Name_j4 (rec1 : Int → Option Bool) (x2 : Int) (x5 : Bool) : Option Bool :=
    ift x5
      (some false)
      (rec1 (IntKind.i64.wrap (x2 + (1 : Int))))

def ref1_Name_j3 (rec1 : Int → Option Bool) (x2 : Int) (x3 : Bool) (x4 : Bool) : Option Bool :=
    ift (!x3)
      (ift (x2 == (0 : Int))
         (ref1_Name_j4 rec1 x2 true)
         (ref1_Name_j4 rec1 x2 (!x4)))
      (ref1_Name_j4 rec1 x2 false)

def ref1_Name_j2 (rec1 : Int → Option Bool) (p1 : ByteArray) (x2 : Int) (x3 : Bool) : Option Bool :=
    grd (0 ≤ x2 ∧ x2 < (p1.size : Int)) <|
    ift (((p1.data.toList.getD x2.toNat 0).toNat : Int) == (95 : Int))
      (ref1_Name_j3 rec1 x2 x3 true)
      (grd (0 ≤ x2 ∧ x2 < (p1.size : Int)) <|
       bnd (some (decide ((48 : Int) ≤ ((p1.data.toList.getD x2.toNat 0).toNat : Int)))) fun y3 =>
       ift y3
         (grd (0 ≤ x2 ∧ x2 < (p1.size : Int)) <|
          bnd (some (decide (((p1.data.toList.getD x2.toNat 0).toNat : Int) ≤ (57 : Int)))) fun y4 =>
          ref1_Name_j3 rec1 x2 x3 y4)
         (ref1_Name_j3 rec1 x2 x3 false))

def ref1_Name_j5 : Option Bool :=
    some true

def ref1_Name_l1 (p1 : ByteArray) : Nat → Int → Option Bool
  | 0, _ => none
  | k1 + 1, x2 =>
    ift (decide (x2 < (p1.size : Int)))
      (grd (0 ≤ x2 ∧ x2 < (p1.size : Int)) <|
       bnd (some (decide ((97 : Int) ≤ ((p1.data.toList.getD x2.toNat 0).toNat : Int)))) fun y1 =>
       ift y1
         (grd (0 ≤ x2 ∧ x2 < (p1.size : Int)) <|
          bnd (some (decide (((p1.data.toList.getD x2.toNat 0).toNat : Int) ≤ (122 : Int)))) fun y2 =>
          ref1_Name_j2 (ref1_Name_l1 p1 k1) p1 x2 y2)
         (ref1_Name_j2 (ref1_Name_l1 p1 k1) p1 x2 false))
      (ref1_Name_j5)

def ref1_Name_j1 (p1 : ByteArray) (x1 : Bool) : Option Bool :=
    ift x1
      (some false)
      (ref1_Name_l1 p1 BIG (0 : Int))

def ref1_Name (p1 : ByteArray) : Option Bool :=
    ift (decide ((p1.size : Int) < (1 : Int)))
      (ref1_Name_j1 p1 true)
      (ref1_Name_j1 p1 (decide ((24 : Int) < (p1.size : Int))))


theorem c_ref1_Name (p1 : ByteArray) (r : Bool) (h : ref1_Name p1 = some r) : PC Tryd.prog 131 [vs p1] (vb r) := by
  unfold ref1_Name at h
  refine PC.of (n := 56) (fn := Tryd.f131) (c := cd Tryd.f131 []) (by kernel_rfl) (by kernel_rfl) (by kernel_rfl) (Nat.le_of_ble_eq_true rfl) ?_
  refine XW.seq (x := cd Tryd.f131 [0]) (y := cd Tryd.f131 [1]) (by kernel_rfl) fun K1 hK1 => ?_
  refine XW.reg (by kernel_rfl) ?_
  refine XO.go [] 1 [0] [] [(0, vs p1)] [] [] (by kernel_rfl) trivial ?_
  refine XO.done (by kernel_rfl) ?_
  refine hK1 _ _ ?_
  refine XW.seq (x := cd Tryd.f131 [1,0]) (y := cd Tryd.f131 [1,1]) (by kernel_rfl) fun K2 hK2 => ?_
  refine XW.seq (x := cd Tryd.f131 [1,0,0]) (y := cd Tryd.f131 [1,0,1]) (by kernel_rfl) fun K3 hK3 => ?_
  have hJ1 : ∀ (x1 : Bool), ref1_Name_j1 p1 x1 = some r → ∀ fr1 st1, Sub 56 0 [] fr1 st1 [(0, vs p1), (13, vb x1)] [] → K3 fr1 st1 := by
    intro x1 h fr1 st1 hS
    unfold ref1_Name_j1 at h
    refine hK3 _ _ (XW.sub hS ?_)
    refine XW.cond (x := .tmp 13) (a := cd Tryd.f131 [1,0,1,0]) (b := cd Tryd.f131 [1,0,1,1]) (t := x1) (by kernel_rfl) (by kernel_rfl) (fun b5 => ?_) (fun b5 => ?_)
    · have h := ift_t b5 h
      refine XW.seq (x := cd Tryd.f131 [1,0,1,0,0]) (y := cd Tryd.f131 [1,0,1,0,1]) (by kernel_rfl) fun K6 hK6 => ?_
      refine XW.reg (by kernel_rfl) ?_
      refine XO.go [] 1 [2] [] [(2, vb false)] [] [] (by kernel_rfl) trivial ?_
      refine XO.done (by kernel_rfl) ?_
      refine hK6 _ _ ?_
      refine XW.ret (by kernel_rfl) ?_
      obtain rfl := Option.some.inj h
      exact FinP.fin (.inr rfl) [] [vb false] [] (by kernel_rfl) trivial (.one (.rfl _ rfl))
    · have h := ift_f b5 h
      refine XW.skip (by kernel_rfl) ?_
      refine hK2 _ _ ?_
      refine XW.seq (x := cd Tryd.f131 [1,1,0]) (y := cd Tryd.f131 [1,1,1]) (by kernel_rfl) fun K7 hK7 => ?_
      have hJ5 : ∀ (_ : Unit), ref1_Name_j5 = some r → ∀ fr1 st1, Sub 56 0 [] fr1 st1 [] [] → K7 fr1 st1 := by
        intro _ h fr1 st1 hS
        unfold ref1_Name_j5 at h
        refine hK7 _ _ (XW.sub hS ?_)
        refine XW.seq (x := cd Tryd.f131 [1,1,1,0]) (y := cd Tryd.f131 [1,1,1,1]) (by kernel_rfl) fun K32 hK32 => ?_
        refine XW.reg (by kernel_rfl) ?_
        refine XO.go [] 1 [2] [] [(2, vb true)] [] [] (by kernel_rfl) trivial ?_
        refine XO.done (by kernel_rfl) ?_
        refine hK32 _ _ ?_
        refine XW.ret (by kernel_rfl) ?_
        obtain rfl := Option.some.inj h
        exact FinP.fin (.inr rfl) [] [vb true] [] (by kernel_rfl) trivial (.one (.rfl _ rfl))
      refine XW.seq (x := cd Tryd.f131 [1,1,0,0]) (y := cd Tryd.f131 [1,1,0,1]) (by kernel_rfl) fun K8 hK8 => ?_
      refine XW.reg (by kernel_rfl) ?_
      refine XO.go [] 1 [0,3] [] [(0, vs p1), (3, vi (0 : Int))] [] [] (by kernel_rfl) trivial ?_
      refine XO.done (by kernel_rfl) ?_
      refine hK8 _ _ ?_
      refine XW.block (id := 0) (x := cd Tryd.f131 [1,1,0,1,0]) (by kernel_rfl) ?_
      refine XW.rounds' BIG (x := cd Tryd.f131 [1,1,0,1,0,0]) (by kernel_rfl) fun Q1 hQ1 => ?_
      have hL1 : ∀ (k1 : Nat) (x2 : Int), ref1_Name_l1 p1 k1 x2 = some r → XR Tryd.prog 56 0 [] (cd Tryd.f131 [1,1,0,1,0,0]) Q1 k1 [(0, vs p1), (3, vi x2)] [] := by
        intro k1
        induction k1 with
        | zero => intro x2 h; rw [ref1_Name_l1.eq_1] at h; cases h
        | succ k1 ih1 =>
          intro x2 h
          rw [ref1_Name_l1.eq_2] at h
          refine XW.seq (x := cd Tryd.f131 [1,1,0,1,0,0,0]) (y := cd Tryd.f131 [1,1,0,1,0,0,1]) (by kernel_rfl) fun K9 hK9 => ?_
          refine XW.seq (x := cd Tryd.f131 [1,1,0,1,0,0,0,0]) (y := cd Tryd.f131 [1,1,0,1,0,0,0,1]) (by kernel_rfl) fun K10 hK10 => ?_
          refine XW.reg (by kernel_rfl) ?_
          refine XO.go [] 4 [0,3,17] [] [(0, vs p1), (3, vi x2), (17, vb (decide (x2 < (p1.size : Int))))] [] [] (by kernel_rfl) trivial ?_
          refine XO.done (by kernel_rfl) ?_
          refine hK10 _ _ ?_
          refine XW.cond (x := .tmp 17) (a := cd Tryd.f131 [1,1,0,1,0,0,0,1,0]) (b := cd Tryd.f131 [1,1,0,1,0,0,0,1,1]) (t := (decide (x2 < (p1.size : Int)))) (by kernel_rfl) (by kernel_rfl) (fun b11 => ?_) (fun b11 => ?_)
          · have h := ift_t b11 h
            refine XW.skip (by kernel_rfl) ?_
            refine hK9 _ _ ?_
            refine XW.seq (x := cd Tryd.f131 [1,1,0,1,0,0,1,0]) (y := cd Tryd.f131 [1,1,0,1,0,0,1,1]) (by kernel_rfl) fun K12 hK12 => ?_
            refine XW.block (id := 1) (x := cd Tryd.f131 [1,1,0,1,0,0,1,0,0]) (by kernel_rfl) ?_
            refine XW.seq (x := cd Tryd.f131 [1,1,0,1,0,0,1,0,0,0]) (y := cd Tryd.f131 [1,1,0,1,0,0,1,0,0,1]) (by kernel_rfl) fun K13 hK13 => ?_
            have hJ2 : ∀ (x3 : Bool), ref1_Name_j2 (ref1_Name_l1 p1 k1) p1 x2 x3 = some r → ∀ fr1 st1, Sub 56 0 [] fr1 st1 [(0, vs p1), (3, vi x2), (4, vb x3)] [] → K13 fr1 st1 := by
              intro x3 h fr1 st1 hS
              unfold ref1_Name_j2 at h
              refine hK13 _ _ (XW.sub hS ?_)
              refine XW.seq (x := cd Tryd.f131 [1,1,0,1,0,0,1,0,0,1,0]) (y := cd Tryd.f131 [1,1,0,1,0,0,1,0,0,1,1]) (by kernel_rfl) fun K19 hK19 => ?_
              have hJ3 : ∀ (x4 : Bool), ref1_Name_j3 (ref1_Name_l1 p1 k1) x2 x3 x4 = some r → ∀ fr1 st1, Sub 56 0 [] fr1 st1 [(0, vs p1), (3, vi x2), (4, vb x3), (5, vb x4)] [] → K19 fr1 st1 := by
                intro x4 h fr1 st1 hS
                unfold ref1_Name_j3 at h
                refine hK19 _ _ (XW.sub hS ?_)
                refine XW.seq (x := cd Tryd.f131 [1,1,0,1,0,0,1,0,0,1,1,0]) (y := cd Tryd.f131 [1,1,0,1,0,0,1,0,0,1,1,1]) (by kernel_rfl) fun K27 hK27 => ?_
                have hJ4 : ∀ (x5 : Bool), ref1_Name_j4 (ref1_Name_l1 p1 k1) x2 x5 = some r → ∀ fr1 st1, Sub 56 0 [] fr1 st1 [(0, vs p1), (3, vi x2), (55, vb x5)] [] → K27 fr1 st1 := by
                  intro x5 h fr1 st1 hS
                  unfold ref1_Name_j4 at h
                  refine hK27 _ _ (XW.sub hS ?_)
                  refine XW.cond (x := .tmp 55) (a := cd Tryd.f131 [1,1,0,1,0,0,1,0,0,1,1,1,0]) (b := cd Tryd.f131 [1,1,0,1,0,0,1,0,0,1,1,1,1]) (t := x5) (by kernel_rfl) (by kernel_rfl) (fun b30 => ?_) (fun b30 => ?_)
                  · have h := ift_t b30 h
                    refine XW.seq (x := cd Tryd.f131 [1,1,0,1,0,0,1,0,0,1,1,1,0,0]) (y := cd Tryd.f131 [1,1,0,1,0,0,1,0,0,1,1,1,0,1]) (by kernel_rfl) fun K31 hK31 => ?_
                    refine XW.reg (by kernel_rfl) ?_
                    refine XO.go [] 1 [2] [] [(2, vb false)] [] [] (by kernel_rfl) trivial ?_
                    refine XO.done (by kernel_rfl) ?_
                    refine hK31 _ _ ?_
                    refine XW.ret (by kernel_rfl) ?_
                    refine hQ1 _ _ _ ?_
                    obtain rfl := Option.some.inj h
                    exact FinP.fin (.inr rfl) [] [vb false] [] (by kernel_rfl) trivial (.one (.rfl _ rfl))
                  · have h := ift_f b30 h
                    refine XW.skip (by kernel_rfl) ?_
                    refine hK12 _ _ ?_
                    refine XW.reg (by kernel_rfl) ?_
                    refine XO.go [] 3 [0,3] [] [(0, vs p1), (3, vi (IntKind.i64.wrap (x2 + (1 : Int))))] [] [] (by kernel_rfl) trivial ?_
                    refine XO.done (by kernel_rfl) ?_
                    exact XR.sub (Sub.pick [0,3] (by kernel_rfl)) (ih1 (IntKind.i64.wrap (x2 + (1 : Int))) h)
                rcases Bool.eq_false_or_eq_true (!x3) with b28 | b28
                · have h := ift_t b28 h
                  rcases Bool.eq_false_or_eq_true (x2 == (0 : Int)) with b29 | b29
                  · have h := ift_t b29 h
                    refine XW.reg (by kernel_rfl) ?_
                    refine XO.go [] 3 [0,3,5,48] [] [(0, vs p1), (3, vi x2), (5, vb x4), (48, vb (!x3))] [] [] (by kernel_rfl) trivial ?_
                    refine XO.setb 48 true (B := (!x3)) rfl b28 ?_
                    refine XO.go [] 3 [0,3,5,48,51] [] [(0, vs p1), (3, vi x2), (5, vb x4), (48, vb true), (51, vb (x2 == (0 : Int)))] [] [] (by kernel_rfl) trivial ?_
                    refine XO.setb 51 true (B := (x2 == (0 : Int))) rfl b29 ?_
                    refine XO.go [] 4 [0,3,55] [] [(0, vs p1), (3, vi x2), (55, vb true)] [] [] (by kernel_rfl) trivial ?_
                    refine XO.done (by kernel_rfl) ?_
                    exact hJ4 true h _ _ (Sub.pick [0,3,55] (by kernel_rfl))
                  · have h := ift_f b29 h
                    refine XW.reg (by kernel_rfl) ?_
                    refine XO.go [] 3 [0,3,5,48] [] [(0, vs p1), (3, vi x2), (5, vb x4), (48, vb (!x3))] [] [] (by kernel_rfl) trivial ?_
                    refine XO.setb 48 true (B := (!x3)) rfl b28 ?_
                    refine XO.go [] 3 [0,3,5,48,51] [] [(0, vs p1), (3, vi x2), (5, vb x4), (48, vb true), (51, vb (x2 == (0 : Int)))] [] [] (by kernel_rfl) trivial ?_
                    refine XO.setb 51 false (B := (x2 == (0 : Int))) rfl b29 ?_
                    refine XO.go [] 4 [0,3,55] [] [(0, vs p1), (3, vi x2), (55, vb (!x4))] [] [] (by kernel_rfl) trivial ?_
                    refine XO.done (by kernel_rfl) ?_
                    exact hJ4 (!x4) h _ _ (Sub.pick [0,3,55] (by kernel_rfl))
                · have h := ift_f b28 h
                  refine XW.reg (by kernel_rfl) ?_
                  refine XO.go [] 3 [0,3,5,48] [] [(0, vs p1), (3, vi x2), (5, vb x4), (48, vb (!x3))] [] [] (by kernel_rfl) trivial ?_
                  refine XO.setb 48 false (B := (!x3)) rfl b28 ?_
                  refine XO.go [] 7 [0,3,55] [] [(0, vs p1), (3, vi x2), (55, vb false)] [] [] (by kernel_rfl) trivial ?_
                  refine XO.done (by kernel_rfl) ?_
                  exact hJ4 false h _ _ (Sub.pick [0,3,55] (by kernel_rfl))
              obtain ⟨g20, h⟩ := grd_some h
              rcases Bool.eq_false_or_eq_true (((p1.data.toList.getD x2.toNat 0).toNat : Int) == (95 : Int)) with b21 | b21
              · have h := ift_t b21 h
                refine XW.reg (by kernel_rfl) ?_
                refine XO.go [] 5 [0,3,4,34] [] [(0, vs p1), (3, vi x2), (4, vb x3), (34, vb (((p1.data.toList.getD x2.toNat 0).toNat : Int) == (95 : Int)))] [] [0 ≤ x2 ∧ x2 < (p1.size : Int)] (by kernel_rfl) (⟨g20, trivial⟩) ?_
                refine XO.setb 34 true (B := (((p1.data.toList.getD x2.toNat 0).toNat : Int) == (95 : Int))) rfl b21 ?_
                refine XO.go [] 12 [0,3,4,5] [] [(0, vs p1), (3, vi x2), (4, vb x3), (5, vb true)] [] [] (by kernel_rfl) trivial ?_
                refine XO.done (by kernel_rfl) ?_
                exact hJ3 true h _ _ (Sub.pick [0,3,4,5] (by kernel_rfl))
              · have h := ift_f b21 h
                obtain ⟨g22, h⟩ := grd_some h
                obtain ⟨y3, hy23, h⟩ := bnd_some h
                rcases Bool.eq_false_or_eq_true y3 with b24 | b24
                · have h := ift_t b24 h
                  obtain ⟨g25, h⟩ := grd_some h
                  obtain ⟨y4, hy26, h⟩ := bnd_some h
                  refine XW.reg (by kernel_rfl) ?_
                  refine XO.go [] 5 [0,3,4,34] [] [(0, vs p1), (3, vi x2), (4, vb x3), (34, vb (((p1.data.toList.getD x2.toNat 0).toNat : Int) == (95 : Int)))] [] [0 ≤ x2 ∧ x2 < (p1.size : Int)] (by kernel_rfl) (⟨g20, trivial⟩) ?_
                  refine XO.setb 34 false (B := (((p1.data.toList.getD x2.toNat 0).toNat : Int) == (95 : Int))) rfl b21 ?_
                  refine XO.go [] 4 [0,3,4,34,38] [] [(0, vs p1), (3, vi x2), (4, vb x3), (34, vb false), (38, vb (decide ((48 : Int) ≤ ((p1.data.toList.getD x2.toNat 0).toNat : Int))))] [] [0 ≤ x2 ∧ x2 < (p1.size : Int)] (by kernel_rfl) (⟨g22, trivial⟩) ?_
                  rw [show (decide ((48 : Int) ≤ ((p1.data.toList.getD x2.toNat 0).toNat : Int))) = y3 from Option.some.inj hy23]
                  refine XO.go [] 1 [0,3,4,34,39] [] [(0, vs p1), (3, vi x2), (4, vb x3), (34, vb false), (39, vb y3)] [] [] (by kernel_rfl) trivial ?_
                  refine XO.setb 39 true (B := y3) rfl b24 ?_
                  refine XO.go [] 4 [0,3,4,34,39,43] [] [(0, vs p1), (3, vi x2), (4, vb x3), (34, vb false), (39, vb true), (43, vb (decide (((p1.data.toList.getD x2.toNat 0).toNat : Int) ≤ (57 : Int))))] [] [0 ≤ x2 ∧ x2 < (p1.size : Int)] (by kernel_rfl) (⟨g25, trivial⟩) ?_
                  rw [show (decide (((p1.data.toList.getD x2.toNat 0).toNat : Int) ≤ (57 : Int))) = y4 from Option.some.inj hy26]
                  refine XO.go [] 3 [0,3,4,5] [] [(0, vs p1), (3, vi x2), (4, vb x3), (5, vb y4)] [] [] (by kernel_rfl) trivial ?_
                  refine XO.done (by kernel_rfl) ?_
                  exact hJ3 y4 h _ _ (Sub.pick [0,3,4,5] (by kernel_rfl))
                · have h := ift_f b24 h
                  refine XW.reg (by kernel_rfl) ?_
                  refine XO.go [] 5 [0,3,4,34] [] [(0, vs p1), (3, vi x2), (4, vb x3), (34, vb (((p1.data.toList.getD x2.toNat 0).toNat : Int) == (95 : Int)))] [] [0 ≤ x2 ∧ x2 < (p1.size : Int)] (by kernel_rfl) (⟨g20, trivial⟩) ?_
                  refine XO.setb 34 false (B := (((p1.data.toList.getD x2.toNat 0).toNat : Int) == (95 : Int))) rfl b21 ?_
                  refine XO.go [] 4 [0,3,4,34,38] [] [(0, vs p1), (3, vi x2), (4, vb x3), (34, vb false), (38, vb (decide ((48 : Int) ≤ ((p1.data.toList.getD x2.toNat 0).toNat : Int))))] [] [0 ≤ x2 ∧ x2 < (p1.size : Int)] (by kernel_rfl) (⟨g22, trivial⟩) ?_
                  rw [show (decide ((48 : Int) ≤ ((p1.data.toList.getD x2.toNat 0).toNat : Int))) = y3 from Option.some.inj hy23]
                  refine XO.go [] 1 [0,3,4,34,39] [] [(0, vs p1), (3, vi x2), (4, vb x3), (34, vb false), (39, vb y3)] [] [] (by kernel_rfl) trivial ?_
                  refine XO.setb 39 false (B := y3) rfl b24 ?_
                  refine XO.go [] 7 [0,3,4,5] [] [(0, vs p1), (3, vi x2), (4, vb x3), (5, vb false)] [] [] (by kernel_rfl) trivial ?_
                  refine XO.done (by kernel_rfl) ?_
                  exact hJ3 false h _ _ (Sub.pick [0,3,4,5] (by kernel_rfl))
            obtain ⟨g14, h⟩ := grd_some h
            obtain ⟨y1, hy15, h⟩ := bnd_some h
            rcases Bool.eq_false_or_eq_true y1 with b16 | b16
            · have h := ift_t b16 h
              obtain ⟨g17, h⟩ := grd_some h
              obtain ⟨y2, hy18, h⟩ := bnd_some h
              refine XW.reg (by kernel_rfl) ?_
              refine XO.go [] 4 [0,3,23] [] [(0, vs p1), (3, vi x2), (23, vb (decide ((97 : Int) ≤ ((p1.data.toList.getD x2.toNat 0).toNat : Int))))] [] [0 ≤ x2 ∧ x2 < (p1.size : Int)] (by kernel_rfl) (⟨g14, trivial⟩) ?_
              rw [show (decide ((97 : Int) ≤ ((p1.data.toList.getD x2.toNat 0).toNat : Int))) = y1 from Option.some.inj hy15]
              refine XO.go [] 1 [0,3,24] [] [(0, vs p1), (3, vi x2), (24, vb y1)] [] [] (by kernel_rfl) trivial ?_
              refine XO.setb 24 true (B := y1) rfl b16 ?_
              refine XO.go [] 4 [0,3,24,28] [] [(0, vs p1), (3, vi x2), (24, vb true), (28, vb (decide (((p1.data.toList.getD x2.toNat 0).toNat : Int) ≤ (122 : Int))))] [] [0 ≤ x2 ∧ x2 < (p1.size : Int)] (by kernel_rfl) (⟨g17, trivial⟩) ?_
              rw [show (decide (((p1.data.toList.getD x2.toNat 0).toNat : Int) ≤ (122 : Int))) = y2 from Option.some.inj hy18]
              refine XO.go [] 2 [0,3,4] [] [(0, vs p1), (3, vi x2), (4, vb y2)] [] [] (by kernel_rfl) trivial ?_
              refine XO.done (by kernel_rfl) ?_
              exact hJ2 y2 h _ _ (Sub.pick [0,3,4] (by kernel_rfl))
            · have h := ift_f b16 h
              refine XW.reg (by kernel_rfl) ?_
              refine XO.go [] 4 [0,3,23] [] [(0, vs p1), (3, vi x2), (23, vb (decide ((97 : Int) ≤ ((p1.data.toList.getD x2.toNat 0).toNat : Int))))] [] [0 ≤ x2 ∧ x2 < (p1.size : Int)] (by kernel_rfl) (⟨g14, trivial⟩) ?_
              rw [show (decide ((97 : Int) ≤ ((p1.data.toList.getD x2.toNat 0).toNat : Int))) = y1 from Option.some.inj hy15]
              refine XO.go [] 1 [0,3,24] [] [(0, vs p1), (3, vi x2), (24, vb y1)] [] [] (by kernel_rfl) trivial ?_
              refine XO.setb 24 false (B := y1) rfl b16 ?_
              refine XO.go [] 6 [0,3,4] [] [(0, vs p1), (3, vi x2), (4, vb false)] [] [] (by kernel_rfl) trivial ?_
              refine XO.done (by kernel_rfl) ?_
              exact hJ2 false h _ _ (Sub.pick [0,3,4] (by kernel_rfl))
          · have h := ift_f b11 h
            refine XW.exit (id := 0) (by kernel_rfl) ?_
            refine hQ1 _ _ _ ?_
            exact hJ5 () h _ _ (Sub.pick [] (by kernel_rfl))
      exact XR.sub (Sub.pick [0,3] (by kernel_rfl)) (hL1 BIG (0 : Int) h)
  rcases Bool.eq_false_or_eq_true (decide ((p1.size : Int) < (1 : Int))) with b4 | b4
  · have h := ift_t b4 h
    refine XW.reg (by kernel_rfl) ?_
    refine XO.go [] 4 [0,9] [] [(0, vs p1), (9, vb (decide ((p1.size : Int) < (1 : Int))))] [] [] (by kernel_rfl) trivial ?_
    refine XO.setb 9 true (B := (decide ((p1.size : Int) < (1 : Int)))) rfl b4 ?_
    refine XO.go [] 4 [0,13] [] [(0, vs p1), (13, vb true)] [] [] (by kernel_rfl) trivial ?_
    refine XO.done (by kernel_rfl) ?_
    exact hJ1 true h _ _ (Sub.pick [0,13] (by kernel_rfl))
  · have h := ift_f b4 h
    refine XW.reg (by kernel_rfl) ?_
    refine XO.go [] 4 [0,9] [] [(0, vs p1), (9, vb (decide ((p1.size : Int) < (1 : Int))))] [] [] (by kernel_rfl) trivial ?_
    refine XO.setb 9 false (B := (decide ((p1.size : Int) < (1 : Int)))) rfl b4 ?_
    refine XO.go [] 4 [0,13] [] [(0, vs p1), (13, vb (decide ((24 : Int) < (p1.size : Int))))] [] [] (by kernel_rfl) trivial ?_
    refine XO.done (by kernel_rfl) ?_
    exact hJ1 (decide ((24 : Int) < (p1.size : Int))) h _ _ (Sub.pick [0,13] (by kernel_rfl))


end Go.Proofs.YtdkmclmdemngfaaDoor
