/- Printed by a program: what the functions compute, and the proofs of their contracts. Printed by a program: what the functions compute, and the proofs of their contracts. -/
import Derived.Test.YtdkmclmdemngfaaDoorGeB
namespace Go.Proofs.YtdkmclmdemngfaaDoor
open Go.SX Go
set_option linter.unusedVariables false
set_option linter.unusedSimpArgs false
set_option maxRecDepth 100000
set_option maxHeartbeats 8000000

def value_leaf_j1 (x1 : Bool) : Option Bool :=
    some x1

def value_leaf (p1 : GType) : Option Bool :=
    ift (p1.kind != (6 : Int))
      (value_leaf_j1 (p1.kind != (7 : Int)))
      (value_leaf_j1 false)

abbrev qa2414 (p1 : GType) : List PV := [pi p1.kind, pi p1.scale, .ro (eField.els p1.fields)]

theorem c_value_leaf (p1 : GType) (r : Bool) (h : value_leaf p1 = some r) : PC Tryd.prog 116 [.ag [ci p1.kind, ci p1.scale, cl eField p1.fields]] (vb r) := by
 unfold value_leaf at h
 refine zF 11 Tryd.f116 (zq fun K1 hK1 => zr (zg [] 2 [1] (zd (hK1 _ _ (zq fun K2 hK2 => ?_)))))
 have hJ1 : ∀ (x1 : Bool), value_leaf_j1 x1 = some r → ∀ fr1 st1, Sub 11 0 [] fr1 st1 [(2, vb x1)] [] → K2 fr1 st1 := by
  intro x1 h fr1 st1 hS
  unfold value_leaf_j1 at h
  refine hK2 _ _ (XW.sub hS ?_)
  refine ze ?_
  obtain rfl := Option.some.inj h
  exact zf [vb x1] (.one (.rfl _ rfl))
 rcases zW h with ⟨b3, h⟩ | ⟨b3, h⟩
 ·exact zr (zu [] 4 [1,6] [(qa2414 p1)] (zt 6 b3 (zv [] 5 [2] [(qa2414 p1)] [(2, vb (p1.kind != (7 : Int)))] [] (zd (hJ1 (p1.kind != (7 : Int)) h _ _ (zk [2]))))))
 ·exact zr (zu [] 4 [1,6] [(qa2414 p1)] (zt 6 b3 (zg [] 5 [2] (zd (hJ1 false h _ _ (zk [2]))))))

def value_Name_1_j1 (x1 : Bool) : Option Bool :=
    some x1

def value_Name_1 (p1 : Int) : Option Bool :=
    ift (decide (p1 < (97 : Int)))
      (ift (decide (p1 < (48 : Int)))
         (value_Name_1_j1 (p1 != (95 : Int)))
         (ift (decide ((57 : Int) < p1))
            (value_Name_1_j1 (p1 != (95 : Int)))
            (value_Name_1_j1 false)))
      (ift (decide ((122 : Int) < p1))
         (ift (decide (p1 < (48 : Int)))
            (value_Name_1_j1 (p1 != (95 : Int)))
            (ift (decide ((57 : Int) < p1))
               (value_Name_1_j1 (p1 != (95 : Int)))
               (value_Name_1_j1 false)))
         (value_Name_1_j1 false))

abbrev qa2420 (p1 : Int) : Fr := [(0, vk .i32 p1), (9, vb (decide ((122 : Int) < p1)))]

theorem c_value_Name_1 (p1 : Int) (r : Bool) (h : value_Name_1 p1 = some r) : PC Tryd.prog 134 [vk .i32 p1] (vb r) := by
 unfold value_Name_1 at h
 refine zF 21 Tryd.f134 (zq fun K1 hK1 => zr (zg [] 1 [0] (zd (hK1 _ _ (zq fun K2 hK2 => ?_)))))
 have hJ1 : ∀ (x1 : Bool), value_Name_1_j1 x1 = some r → ∀ fr1 st1, Sub 21 0 [] fr1 st1 [(2, vb x1)] [] → K2 fr1 st1 := by
  intro x1 h fr1 st1 hS
  unfold value_Name_1_j1 at h
  refine hK2 _ _ (XW.sub hS ?_)
  refine ze ?_
  obtain rfl := Option.some.inj h
  exact zf [vb x1] (.one (.rfl _ rfl))
 rcases zW h with ⟨b3, h⟩ | ⟨b3, h⟩
 ·rcases zW h with ⟨b4, h⟩ | ⟨b4, h⟩
  ·exact zr (zg [] 3 [0,5] (zt 5 b3 (zv [] 7 [0,9,12] [] [(0, vk .i32 p1), (9, vb true), (12, vb (decide (p1 < (48 : Int))))] [] (zt 12 b4 (zg [] 9 [2] (zd (hJ1 (p1 != (95 : Int)) h _ _ (zk [2]))))))))
  ·rcases zW h with ⟨b5, h⟩ | ⟨b5, h⟩
   ·refine zr (zg [] 3 [0,5] (zt 5 b3 (zv [] 7 [0,9,12] [] [(0, vk .i32 p1), (9, vb true), (12, vb (decide (p1 < (48 : Int))))] [] (zt 12 b4 (zg [] 5 [0,17] (zt 17 b5 (zg [] 4 [2] ?_)))))))
    exact zd (hJ1 (p1 != (95 : Int)) h _ _ (zk [2]))
   ·refine zr (zv [] 3 [0,5] [] [(0, vk .i32 p1), (5, vb (decide (p1 < (97 : Int))))] [] (zt 5 b3 (zg [] 7 [0,9,12] (zt 12 b4 (zg [] 5 [0,17] (zt 17 b5 (zv [] 4 [2] [] [(2, vb false)] [] ?_)))))))
    exact zd (hJ1 false h _ _ (zk [2]))
 ·rcases zW h with ⟨b6, h⟩ | ⟨b6, h⟩
  ·rcases zW h with ⟨b7, h⟩ | ⟨b7, h⟩
   ·refine zr (zg [] 3 [0,5] (zt 5 b3 (zv [] 4 [0,9] [] (qa2420 p1) [] (zt 9 b6 (zg [] 3 [0,9,12] (zt 12 b7 (zg [] 9 [2] ?_)))))))
    exact zd (hJ1 (p1 != (95 : Int)) h _ _ (zk [2]))
   ·rcases zW h with ⟨b8, h⟩ | ⟨b8, h⟩
    ·refine zr (zv [] 3 [0,5] [] [(0, vk .i32 p1), (5, vb (decide (p1 < (97 : Int))))] [] (zt 5 b3 (zg [] 4 [0,9] (zt 9 b6 (zg [] 3 [0,9,12] (zt 12 b7 (zv [] 5 [0,17] [] [(0, vk .i32 p1), (17, vb (decide ((57 : Int) < p1)))] [] ?_)))))))
     exact zt 17 b8 (zg [] 4 [2] (zd (hJ1 (p1 != (95 : Int)) h _ _ (zk [2]))))
    ·refine zr (zg [] 3 [0,5] (zt 5 b3 (zv [] 4 [0,9] [] (qa2420 p1) [] (zt 9 b6 (zg [] 3 [0,9,12] (zt 12 b7 (zg [] 5 [0,17] ?_)))))))
     exact zt 17 b8 (zv [] 4 [2] [] [(2, vb false)] [] (zd (hJ1 false h _ _ (zk [2]))))
  ·exact zr (zg [] 3 [0,5] (zt 5 b3 (zv [] 4 [0,9] [] (qa2420 p1) [] (zt 9 b6 (zg [] 12 [2] (zd (hJ1 false h _ _ (zk [2]))))))))

def strings_indexFunc_of_value_Name_1_j1 : Option Int :=
    some (-1 : Int)

def strings_indexFunc_of_value_Name_1_l1 (p1 : ByteArray) (p2 : Bool) : Nat → Nat → Option Int
  | 0, _ => none
  | k1 + 1, z1 =>
    ift (decide (z1 < p1.size))
      (bnd (value_Name_1 (Int.ofNat (Utf8.decode p1 z1).1)) fun r1 =>
       ift (r1 == p2)
         (some (Int.ofNat z1))
         ((strings_indexFunc_of_value_Name_1_l1 p1 p2 k1) (z1 + (Utf8.decode p1 z1).2)))
      (strings_indexFunc_of_value_Name_1_j1)

def strings_indexFunc_of_value_Name_1 (p1 : ByteArray) (p2 : Bool) : Option Int :=
    strings_indexFunc_of_value_Name_1_l1 p1 p2 BIG 0


theorem c_strings_indexFunc_of_value_Name_1 (p1 : ByteArray) (p2 : Bool) (r : Int) (h : strings_indexFunc_of_value_Name_1 p1 p2 = some r) : PC Tryd.prog 137 [vs p1, .one (.pv (.fn 134 [])), vb p2] (vi r) := by
 unfold strings_indexFunc_of_value_Name_1 at h
 refine zF 21 Tryd.f137 (zq fun K1 hK1 => zr (zg [] 1 [0,1,2] (zd (hK1 _ _ (zq fun K2 hK2 => ?_)))))
 have hJ1 : ∀ (_ : Unit), strings_indexFunc_of_value_Name_1_j1 = some r → ∀ fr1 st1, Sub 21 0 [] fr1 st1 [] [] → K2 fr1 st1 := by
  intro _ h fr1 st1 hS
  unfold strings_indexFunc_of_value_Name_1_j1 at h
  refine hK2 _ _ (XW.sub hS ?_)
  refine zq fun K13 hK13 => zr (zg [] 1 [6] (zd (hK13 _ _ (ze ?_))))
  obtain rfl := Option.some.inj h
  exact zf [vi (-1 : Int)] (.one (.rfl _ rfl))
 refine zq fun K3 hK3 => zr (zv [] 1 [1,2,9] [] [(1, .one (.pv (.fn 134 []))), (2, vb p2), (9, vs p1)] [] (XO.rng p1 [(10, .one (.pt 0 0 0 0)), (1, .one (.pv (.fn 134 []))), (2, vb p2), (9, vs p1)] [.raw (.stringIter p1 0)] (by kernel_rfl) (by kernel_rfl) (by kernel_rfl) (zd (hK3 _ _ (zb 0 (XW.rounds' BIG (x := cd Tryd.f137 [1,0,1,0,0]) (by kernel_rfl) fun Q1 hQ1 => ?_))))))
 have hL1 : ∀ (k1 : Nat) (z1 : Nat), strings_indexFunc_of_value_Name_1_l1 p1 p2 k1 z1 = some r → XR Tryd.prog 21 0 [] (cd Tryd.f137 [1,0,1,0,0]) Q1 k1 [(1, .one (.pv (.fn 134 []))), (2, vb p2), (10, .one (.pt 0 0 0 0))] [.raw (.stringIter p1 z1)] := by
  intro k1
  induction k1 with
  | zero => intro z1 h; rw [strings_indexFunc_of_value_Name_1_l1.eq_1] at h; cases h
  | succ k1 ih1 =>
   intro z1 h
   rw [strings_indexFunc_of_value_Name_1_l1.eq_2] at h
   refine zq fun K4 hK4 => ?_
   rcases zW h with ⟨b5, h⟩ | ⟨b5, h⟩
   ·refine zr (XO.nxt 0 p1 z1 [(11, .tp [vb true, vi (Int.ofNat z1), vk .i32 (Int.ofNat (Utf8.decode p1 z1).1)]), (1, .one (.pv (.fn 134 []))), (2, vb p2), (10, .one (.pt 0 0 0 0))] [.raw (.stringIter p1 (z1 + (Utf8.decode p1 z1).2))] (by kernel_rfl) (by kernel_rfl) (by kernel_rfl) (by kernel_rfl) b5 (zg [] 1 [1,2,10,11,12] (zd (hK4 _ _ (zq fun K6 hK6 => zc true (fun _ => ?_) (fun hx => by cases hx))))))
    refine zs (hK6 _ _ (zb 1 (zq fun K7 hK7 => zr (zg [] 4 [1,2,7,8,10] (zd (hK7 _ _ ?_))))))
    refine zq fun K8 hK8 => ?_
    obtain ⟨r1, c9, h⟩ := zB h
    refine zr (zv [] 2 [1,2,7,10,15,16] [] [(1, .one (.pv (.fn 134 []))), (2, vb p2), (7, vi (Int.ofNat z1)), (10, .one (.pt 0 0 0 0)), (15, .one (.pv (.fn 134 []))), (16, vk .i32 (Int.ofNat (Utf8.decode p1 z1).1))] [.raw (.stringIter p1 (z1 + (Utf8.decode p1 z1).2))] (za (c_value_Name_1 _ _ c9) (zg [] 2 [1,2,7,10,19] (zd (hK8 _ _ (zC h (fun b10 h => ?_) (fun b10 h => ?_)))))))
    ·refine zq fun K11 hK11 => zr (zv [] 2 [6] [] [(6, vi (Int.ofNat z1))] [.raw (.stringIter p1 (z1 + (Utf8.decode p1 z1).2))] (zd (hK11 _ _ (ze (hQ1 _ _ _ ?_)))))
     obtain rfl := Option.some.inj h
     exact zf [vi (Int.ofNat z1)] (.one (.rfl _ rfl))
    ·exact zs (XR.sub (zk [1,2,10]) (ih1 (z1 + (Utf8.decode p1 z1).2) h))
   ·refine zr (XO.nxtE 0 p1 z1 [(11, .tp [vb false]), (1, .one (.pv (.fn 134 []))), (2, vb p2), (10, .one (.pt 0 0 0 0))] (by kernel_rfl) (by kernel_rfl) (by kernel_rfl) b5 (zv [] 1 [1,2,10,11,12] [] [(1, .one (.pv (.fn 134 []))), (2, vb p2), (10, .one (.pt 0 0 0 0)), (11, .tp [vb false]), (12, vb false)] [.raw (.stringIter p1 z1)] (zd (hK4 _ _ (zq fun K12 hK12 => zc false (fun hx => by cases hx) (fun _ => ?_))))))
    exact zx 0 (hQ1 _ _ _ (hJ1 () h _ _ (Sub.trans (Sub.pick (fr' := []) [] (by kernel_rfl)) (Sub.take (fr' := []) 0 (Nat.zero_le _) (by kernel_rfl) (by kernel_rfl)))))
 exact XR.sub (zk [1,2,10]) (hL1 BIG 0 h)

def strings_IndexFunc_of_value_Name_1 (p1 : ByteArray) : Option Int :=
    bnd (strings_indexFunc_of_value_Name_1 p1 true) fun r1 =>
    some r1


theorem c_strings_IndexFunc_of_value_Name_1 (p1 : ByteArray) (r : Int) (h : strings_IndexFunc_of_value_Name_1 p1 = some r) : PC Tryd.prog 136 [vs p1, .one (.pv (.fn 134 []))] (vi r) := by
 unfold strings_IndexFunc_of_value_Name_1 at h
 refine zF 8 Tryd.f136 (zq fun K1 hK1 => zr (zg [] 1 [0,1] (zd (hK1 _ _ (zq fun K2 hK2 => ?_)))))
 obtain ⟨r1, c3, h⟩ := zB h
 refine zr (zg [] 2 [5,6] (zl 137 [vs p1, .one (.pv (.fn 134 [])), vb true] (vi r1) [(7, vi r1), (5, vs p1), (6, .one (.pv (.fn 134 [])))] (c_strings_indexFunc_of_value_Name_1 _ _ _ c3) (zg [] 1 [4] (zd (hK2 _ _ (ze ?_))))))
 obtain rfl := Option.some.inj h
 exact zf [vi r1] (.one (.rfl _ rfl))

def strings_ContainsFunc_of_value_Name_1 (p1 : ByteArray) : Option Bool :=
    bnd (strings_IndexFunc_of_value_Name_1 p1) fun r1 =>
    some (decide ((0 : Int) ≤ r1))


theorem c_strings_ContainsFunc_of_value_Name_1 (p1 : ByteArray) (r : Bool) (h : strings_ContainsFunc_of_value_Name_1 p1 = some r) : PC Tryd.prog 135 [vs p1, .one (.pv (.fn 134 []))] (vb r) := by
 unfold strings_ContainsFunc_of_value_Name_1 at h
 refine zF 9 Tryd.f135 (zq fun K1 hK1 => zr (zg [] 1 [0,1] (zd (hK1 _ _ (zq fun K2 hK2 => ?_)))))
 obtain ⟨r1, c3, h⟩ := zB h
 refine zr (zg [] 2 [5,6] (zl 136 [vs p1, .one (.pv (.fn 134 []))] (vi r1) [(7, vi r1), (5, vs p1), (6, .one (.pv (.fn 134 [])))] (c_strings_IndexFunc_of_value_Name_1 _ _ c3) (zg [] 2 [4] (zd (hK2 _ _ (ze ?_))))))
 obtain rfl := Option.some.inj h
 exact zf [vb (decide ((0 : Int) ≤ r1))] (.one (.rfl _ rfl))

def value_Name_j1 (p1 : ByteArray) (x1 : Bool) : Option Bool :=
    ift x1
      (some false)
      (bnd (strings_ContainsFunc_of_value_Name_1 p1) fun r1 =>
       some (!r1))

def value_Name (p1 : ByteArray) : Option Bool :=
    ift (p1.toList == (ByteArray.mk #[]).toList)
      (value_Name_j1 p1 true)
      (ift (decide ((24 : Int) < (p1.size : Int)))
         (value_Name_j1 p1 true)
         (grd (0 ≤ (0 : Int) ∧ (0 : Int) < (p1.size : Int)) <|
          bnd (some (decide (((p1.data.toList.getD (0 : Int).toNat 0).toNat : Int) < (97 : Int)))) fun y1 =>
          ift y1
            (value_Name_j1 p1 true)
            (grd (0 ≤ (0 : Int) ∧ (0 : Int) < (p1.size : Int)) <|
             bnd (some (decide ((122 : Int) < ((p1.data.toList.getD (0 : Int).toNat 0).toNat : Int)))) fun y2 =>
             value_Name_j1 p1 y2)))


theorem c_value_Name (p1 : ByteArray) (r : Bool) (h : value_Name p1 = some r) : PC Tryd.prog 129 [vs p1] (vb r) := by
 unfold value_Name at h
 refine zF 25 Tryd.f129 (zq fun K1 hK1 => zr (zg [] 1 [0] (zd (hK1 _ _ (zq fun K2 hK2 => zq fun K3 hK3 => ?_)))))
 have hJ1 : ∀ (x1 : Bool), value_Name_j1 p1 x1 = some r → ∀ fr1 st1, Sub 25 0 [] fr1 st1 [(0, vs p1), (20, vb x1)] [] → K3 fr1 st1 := by
  intro x1 h fr1 st1 hS
  unfold value_Name_j1 at h
  refine hK3 _ _ (XW.sub hS ?_)
  refine zC h (fun b11 h => ?_) (fun b11 h => ?_)
  ·refine zq fun K12 hK12 => zr (zg [] 1 [2] (zd (hK12 _ _ (ze ?_))))
   obtain rfl := Option.some.inj h
   exact zf [vb false] (.one (.rfl _ rfl))
  ·refine zs (hK2 _ _ (zq fun K13 hK13 => zr (zg [] 1 [0,3] (zd (hK13 _ _ (zq fun K14 hK14 => ?_))))))
   obtain ⟨r1, c15, h⟩ := zB h
   refine zr (zv [] 2 [21,22] [] [(21, vs p1), (22, .one (.pv (.fn 134 [])))] [] (za (c_strings_ContainsFunc_of_value_Name_1 _ _ c15) (zg [] 2 [2] (zd (hK14 _ _ (ze ?_))))))
   obtain rfl := Option.some.inj h
   exact zf [vb (!r1)] (.one (.rfl _ rfl))
 rcases zW h with ⟨b4, h⟩ | ⟨b4, h⟩
 ·exact zr (zg [] 3 [0,6] (zt 6 b4 (zv [] 14 [0,20] [] [(0, vs p1), (20, vb true)] [] (zd (hJ1 true h _ _ (zk [0,20]))))))
 ·rcases zW h with ⟨b5, h⟩ | ⟨b5, h⟩
  ·exact zr (zg [] 3 [0,6] (zt 6 b4 (zg [] 5 [0,11] (zt 11 b5 (zv [] 9 [0,20] [] [(0, vs p1), (20, vb true)] [] (zd (hJ1 true h _ _ (zk [0,20]))))))))
  ·obtain ⟨g6, h⟩ := zG h
   obtain ⟨y1, hy7, h⟩ := zB h
   rcases zW h with ⟨b8, h⟩ | ⟨b8, h⟩
   ·refine zr (zg [] 3 [0,6] (zt 6 b4 (zg [] 5 [0,11] (zt 11 b5 (zp [] 3 [0,11,14] [] [(0, vs p1), (11, vb false), (14, vb (decide (((p1.data.toList.getD (0 : Int).toNat 0).toNat : Int) < (97 : Int))))] [] [0 ≤ (0 : Int) ∧ (0 : Int) < (p1.size : Int)] (⟨g6, trivial⟩) ?_)))))
    rw [show (decide (((p1.data.toList.getD (0 : Int).toNat 0).toNat : Int) < (97 : Int))) = y1 from Option.some.inj hy7]
    exact zg [] 2 [0,16] (zt 16 b8 (zg [] 4 [0,20] (zd (hJ1 true h _ _ (zk [0,20])))))
   ·obtain ⟨g9, h⟩ := zG h
    obtain ⟨y2, hy10, h⟩ := zB h
    refine zr (zv [] 3 [0,6] [] [(0, vs p1), (6, vb (p1.toList == (ByteArray.mk #[]).toList))] [] (zt 6 b4 (zg [] 5 [0,11] (zt 11 b5 (zp [] 3 [0,11,14] [] [(0, vs p1), (11, vb false), (14, vb (decide (((p1.data.toList.getD (0 : Int).toNat 0).toNat : Int) < (97 : Int))))] [] [0 ≤ (0 : Int) ∧ (0 : Int) < (p1.size : Int)] (⟨g6, trivial⟩) ?_)))))
    rw [show (decide (((p1.data.toList.getD (0 : Int).toNat 0).toNat : Int) < (97 : Int))) = y1 from Option.some.inj hy7]
    refine zg [] 2 [0,16] (zt 16 b8 (zp [] 3 [0,16,19] [] [(0, vs p1), (16, vb false), (19, vb (decide ((122 : Int) < ((p1.data.toList.getD (0 : Int).toNat 0).toNat : Int))))] [] [0 ≤ (0 : Int) ∧ (0 : Int) < (p1.size : Int)] (⟨g9, trivial⟩) ?_))
    rw [show (decide ((122 : Int) < ((p1.data.toList.getD (0 : Int).toNat 0).toNat : Int))) = y2 from Option.some.inj hy10]
    exact zg [] 1 [0,20] (zd (hJ1 y2 h _ _ (zk [0,20])))

def value_fields_1 (p1 : GField) : Option Bool :=
    bnd (value_Name p1.name) fun r1 =>
    some (!r1)


theorem c_value_fields_1 (p1 : GField) (r : Bool) (h : value_fields_1 p1 = some r) : PC Tryd.prog 128 [.ag [ci p1.id, cst p1.name, cb p1.need, ci p1.type.kind, ci p1.type.scale, cl eField p1.type.fields]] (vb r) := by
 unfold value_fields_1 at h
 refine zF 7 Tryd.f128 (zq fun K1 hK1 => zr (zg [] 2 [1] (zd (hK1 _ _ (zq fun K2 hK2 => ?_)))))
 obtain ⟨r1, c3, h⟩ := zB h
 refine zr (zu [] 2 [4] [[pi p1.id, .s (.string p1.name), .s (.bool p1.need), pi p1.type.kind, pi p1.type.scale, .ro (eField.els p1.type.fields)]] (zl 129 [vs p1.name] (vb r1) [(5, vb r1), (4, vs p1.name)] (c_value_Name _ _ c3) (zg [] 2 [2] (zd (hK2 _ _ (ze ?_))))))
 obtain rfl := Option.some.inj h
 exact zf [vb (!r1)] (.one (.rfl _ rfl))

def slices_IndexFunc_api_Field_api_Field_of_value_fields_1_j1 : Option Int :=
    some (-1 : Int)

def slices_IndexFunc_api_Field_api_Field_of_value_fields_1_l1 (p1 : (List GField)) : Nat → Int → Option Int
  | 0, _ => none
  | k1 + 1, x1 =>
    ift (decide (x1 < (p1.length : Int)))
      (bnd (at? p1 x1) fun e1 =>
       bnd (value_fields_1 e1) fun r1 =>
       ift r1
         (some x1)
         ((slices_IndexFunc_api_Field_api_Field_of_value_fields_1_l1 p1 k1) (IntKind.i64.wrap (x1 + (1 : Int)))))
      (slices_IndexFunc_api_Field_api_Field_of_value_fields_1_j1)

def slices_IndexFunc_api_Field_api_Field_of_value_fields_1 (p1 : (List GField)) : Option Int :=
    slices_IndexFunc_api_Field_api_Field_of_value_fields_1_l1 p1 BIG (0 : Int)

abbrev qa2439 (e1 : GField) : List PV := [pi e1.id, .s (.string e1.name), .s (.bool e1.need), pi e1.type.kind, pi e1.type.scale, .ro (eField.els e1.type.fields)]

theorem c_slices_IndexFunc_api_Field_api_Field_of_value_fields_1 (p1 : (List GField)) (r : Int) (h : slices_IndexFunc_api_Field_api_Field_of_value_fields_1 p1 = some r) : PC Tryd.prog 133 [vl eField p1, .one (.pv (.fn 128 []))] (vi r) := by
 unfold slices_IndexFunc_api_Field_api_Field_of_value_fields_1 at h
 refine zF 19 Tryd.f133 (zq fun K1 hK1 => zr (zg [] 1 [0,1] (zd (hK1 _ _ (zq fun K2 hK2 => ?_)))))
 have hJ1 : ∀ (_ : Unit), slices_IndexFunc_api_Field_api_Field_of_value_fields_1_j1 = some r → ∀ fr1 st1, Sub 19 0 [] fr1 st1 [] [] → K2 fr1 st1 := by
  intro _ h fr1 st1 hS
  unfold slices_IndexFunc_api_Field_api_Field_of_value_fields_1_j1 at h
  refine hK2 _ _ (XW.sub hS ?_)
  refine zq fun K14 hK14 => zr (zg [] 1 [4] (zd (hK14 _ _ (ze ?_))))
  obtain rfl := Option.some.inj h
  exact zf [vi (-1 : Int)] (.one (.rfl _ rfl))
 refine zq fun K3 hK3 => zr (zv [] 2 [0,1,7] [] [(0, vl eField p1), (1, .one (.pv (.fn 128 []))), (7, vi ((eField.els p1).length : Int))] [] ?_)
 rw [eField.len p1]
 refine zg [] 1 [0,1,7,8] (zd (hK3 _ _ (zb 0 (XW.rounds' BIG (x := cd Tryd.f133 [1,0,1,0,0]) (by kernel_rfl) fun Q1 hQ1 => ?_))))
 have hL1 : ∀ (k1 : Nat) (x1 : Int), slices_IndexFunc_api_Field_api_Field_of_value_fields_1_l1 p1 k1 x1 = some r → XR Tryd.prog 19 0 [] (cd Tryd.f133 [1,0,1,0,0]) Q1 k1 [(0, vl eField p1), (1, .one (.pv (.fn 128 []))), (7, vi (p1.length : Int)), (8, vi x1)] [] := by
  intro k1
  induction k1 with
  | zero => intro x1 h; rw [slices_IndexFunc_api_Field_api_Field_of_value_fields_1_l1.eq_1] at h; cases h
  | succ k1 ih1 =>
   intro x1 h
   rw [slices_IndexFunc_api_Field_api_Field_of_value_fields_1_l1.eq_2] at h
   refine zq fun K4 hK4 => zr (zg [] 1 [0,1,7,8,9] (zd (hK4 _ _ (zq fun K5 hK5 => zC h (fun b6 h => ?_) (fun b6 h => ?_)))))
   ·refine zs (hK5 _ _ (zq fun K7 hK7 => zb 1 (zq fun K8 hK8 => zr (zg [] 2 [0,1,5,7,8] (zd ?_)))))
    refine hK8 _ _ (zq fun K9 hK9 => ?_)
    obtain ⟨e1, a10, h⟩ := zB h
    obtain ⟨r1, c11, h⟩ := zB h
    refine zr ?_
    refine zp [] 5 [0,1,5,7,8,11,15] [(qa2439 e1)] [(0, vl eField p1), (1, .one (.pv (.fn 128 []))), (5, vi x1), (7, vi (p1.length : Int)), (8, vi x1), (11, .one (.pv (.fn 128 []))), (15, .ag [ci e1.id, cst e1.name, cb e1.need, ci e1.type.kind, ci e1.type.scale, cl eField e1.type.fields])] [] [0 ≤ x1 ∧ x1 < ((eField.els p1).length : Int) ∧ elemsOk 6 (eField.els p1), (eField.els p1)[x1.toNat]? = some (qa2439 e1)] (⟨eField.inb a10, ((eField.get a10).trans (by rcases e1 with ⟨_, _, _, ⟨_, _, _⟩⟩; rfl)), trivial⟩) ?_
    refine za (c_value_fields_1 _ _ c11) (zd (hK9 _ _ (zC h (fun b12 h => ?_) (fun b12 h => ?_))))
    ·refine zq fun K13 hK13 => zr (zg [] 2 [4] (zd (hK13 _ _ (ze (hQ1 _ _ _ ?_)))))
     obtain rfl := Option.some.inj h
     exact zf [vi x1] (.one (.rfl _ rfl))
    ·exact zs (hK7 _ _ (zr (zv [] 2 [0,1,7,8] [] [(0, vl eField p1), (1, .one (.pv (.fn 128 []))), (7, vi (p1.length : Int)), (8, vi (IntKind.i64.wrap (x1 + (1 : Int))))] [] (zd (XR.sub (zk [0,1,7,8]) (ih1 (IntKind.i64.wrap (x1 + (1 : Int))) h))))))
   ·exact zx 0 (hQ1 _ _ _ (hJ1 () h _ _ (zk [])))
 exact XR.sub (zk [0,1,7,8]) (hL1 BIG (0 : Int) h)

def slices_ContainsFunc_api_Field_api_Field_of_value_fields_1 (p1 : (List GField)) : Option Bool :=
    bnd (slices_IndexFunc_api_Field_api_Field_of_value_fields_1 p1) fun r1 =>
    some (decide ((0 : Int) ≤ r1))


theorem c_slices_ContainsFunc_api_Field_api_Field_of_value_fields_1 (p1 : (List GField)) (r : Bool) (h : slices_ContainsFunc_api_Field_api_Field_of_value_fields_1 p1 = some r) : PC Tryd.prog 127 [vl eField p1, .one (.pv (.fn 128 []))] (vb r) := by
 unfold slices_ContainsFunc_api_Field_api_Field_of_value_fields_1 at h
 refine zF 9 Tryd.f127 (zq fun K1 hK1 => zr (zg [] 1 [0,1] (zd (hK1 _ _ (zq fun K2 hK2 => ?_)))))
 obtain ⟨r1, c3, h⟩ := zB h
 refine zr (zg [] 2 [5,6] (zl 133 [vl eField p1, .one (.pv (.fn 128 []))] (vi r1) [(7, vi r1), (5, vl eField p1), (6, .one (.pv (.fn 128 [])))] (c_slices_IndexFunc_api_Field_api_Field_of_value_fields_1 _ _ c3) (zg [] 2 [4] (zd (hK2 _ _ (ze ?_))))))
 obtain rfl := Option.some.inj h
 exact zf [vb (decide ((0 : Int) ≤ r1))] (.one (.rfl _ rfl))

def value_fields_2 (p1 : GField) (p2 : GField) : Option (Bool × GField) :=
    some ((p1.name.toList == p2.name.toList), p2)

abbrev qa2445 (p2 : GField) : List CV := [ci p2.id, cst p2.name, cb p2.need, ci p2.type.kind, ci p2.type.scale, cl eField p2.type.fields]

theorem c_value_fields_2 (p1 : GField) (p2 : GField) (r : (Bool × GField)) (h : value_fields_2 p1 p2 = some r) : MC Tryd.prog 130 [.ag [ci p1.id, cst p1.name, cb p1.need, ci p1.type.kind, ci p1.type.scale, cl eField p1.type.fields], .one (.pt 0 0 0 0)] [.box (qa2445 p2)] (vb r.1) [.box [ci r.2.id, cst r.2.name, cb r.2.need, ci r.2.type.kind, ci r.2.type.scale, cl eField r.2.type.fields]] := by
 unfold value_fields_2 at h
 refine MC.of 1 (n := 9) (fn := Tryd.f130) (c := cd Tryd.f130 []) (by kernel_rfl) (by kernel_rfl) (by kernel_rfl) (Nat.le_of_ble_eq_true rfl) rfl (zq fun K1 hK1 => zr (zg [] 2 [1,2] (zd (hK1 _ _ (zq fun K2 hK2 => zr ?_)))))
 refine zv [] 6 [3] [[pi p1.id, .s (.string p1.name), .s (.bool p1.need), pi p1.type.kind, pi p1.type.scale, .ro (eField.els p1.type.fields)]] [(3, vb (p1.name.toList == p2.name.toList))] [.box (qa2445 p2)] (zd (hK2 _ _ (ze ?_)))
 obtain rfl := Option.some.inj h
 exact FinM.fin (.inr rfl) [] [vb (p1.name.toList == p2.name.toList)] [] (by kernel_rfl) trivial (by kernel_rfl) (by kernel_rfl) (.one (.rfl _ rfl))

def slices_IndexFunc_api_Field_api_Field_of_value_fields_2_j1 (z7 : Int) (z8 : ByteArray) (z9 : Bool) (z10 : Int) (z11 : Int) (z12 : List GField) : Option (Int × GField) :=
    some ((-1 : Int), (FieldP.mk z7 z8 z9 (GType.mk z10 z11 z12)))

def slices_IndexFunc_api_Field_api_Field_of_value_fields_2_l1 (p1 : (List GField)) : Nat → Int → ByteArray → Bool → Int → Int → List GField → Int → Option (Int × GField)
  | 0, _, _, _, _, _, _, _ => none
  | k1 + 1, z1, z2, z3, z4, z5, z6, x1 =>
    ift (decide (x1 < (p1.length : Int)))
      (bnd (at? p1 x1) fun e1 =>
       bnd (value_fields_2 e1 (FieldP.mk z1 z2 z3 (GType.mk z4 z5 z6))) fun r1 =>
       ift r1.1
         (some (x1, r1.2))
         ((slices_IndexFunc_api_Field_api_Field_of_value_fields_2_l1 p1 k1) r1.2.id r1.2.name r1.2.need r1.2.type.kind r1.2.type.scale r1.2.type.fields (IntKind.i64.wrap (x1 + (1 : Int)))))
      (slices_IndexFunc_api_Field_api_Field_of_value_fields_2_j1 z1 z2 z3 z4 z5 z6)

def slices_IndexFunc_api_Field_api_Field_of_value_fields_2 (p1 : (List GField)) (p2 : GField) : Option (Int × GField) :=
    slices_IndexFunc_api_Field_api_Field_of_value_fields_2_l1 p1 BIG p2.id p2.name p2.need p2.type.kind p2.type.scale p2.type.fields (0 : Int)

abbrev qa2457 (e1 : GField) : List PV := [pi e1.id, .s (.string e1.name), .s (.bool e1.need), pi e1.type.kind, pi e1.type.scale, .ro (eField.els e1.type.fields)]
abbrev qa2458 (e1 : GField) : List CV := [ci e1.id, cst e1.name, cb e1.need, ci e1.type.kind, ci e1.type.scale, cl eField e1.type.fields]
abbrev qa2459 (r1 : (Bool × GField)) : List CV := [ci r1.2.id, cst r1.2.name, cb r1.2.need, ci r1.2.type.kind, ci r1.2.type.scale, cl eField r1.2.type.fields]

theorem c_slices_IndexFunc_api_Field_api_Field_of_value_fields_2 (p1 : (List GField)) (p2 : GField) (r : (Int × GField)) (h : slices_IndexFunc_api_Field_api_Field_of_value_fields_2 p1 p2 = some r) : MC Tryd.prog 133 [vl eField p1, .one (.fn 130 [.pt 0 0 0 0])] [.box [ci p2.id, cst p2.name, cb p2.need, ci p2.type.kind, ci p2.type.scale, cl eField p2.type.fields]] (vi r.1) [.box [ci r.2.id, cst r.2.name, cb r.2.need, ci r.2.type.kind, ci r.2.type.scale, cl eField r.2.type.fields]] := by
 unfold slices_IndexFunc_api_Field_api_Field_of_value_fields_2 at h
 refine MC.of 1 (n := 19) (fn := Tryd.f133) (c := cd Tryd.f133 []) (by kernel_rfl) (by kernel_rfl) (by kernel_rfl) (Nat.le_of_ble_eq_true rfl) rfl (zq fun K1 hK1 => zr (zg [] 1 [0,1] (zd (hK1 _ _ (zq fun K2 hK2 => ?_)))))
 have hJ1 : ∀ (z7 : Int) (z8 : ByteArray) (z9 : Bool) (z10 : Int) (z11 : Int) (z12 : List GField), slices_IndexFunc_api_Field_api_Field_of_value_fields_2_j1 z7 z8 z9 z10 z11 z12 = some r → ∀ fr1 st1, Sub 19 1 [] fr1 st1 [] [.box [ci z7, cst z8, cb z9, ci z10, ci z11, cl eField z12]] → K2 fr1 st1 := by
  intro z7 z8 z9 z10 z11 z12 h fr1 st1 hS
  unfold slices_IndexFunc_api_Field_api_Field_of_value_fields_2_j1 at h
  refine hK2 _ _ (XW.sub hS ?_)
  refine zq fun K14 hK14 => zr (zv [] 1 [4] [] [(4, vi (-1 : Int))] [.box [ci z7, cst z8, cb z9, ci z10, ci z11, cl eField z12]] (zd (hK14 _ _ (ze ?_))))
  obtain rfl := Option.some.inj h
  exact FinM.fin (.inr rfl) [] [vi (-1 : Int)] [] (by kernel_rfl) trivial (by kernel_rfl) (by kernel_rfl) (.one (.rfl _ rfl))
 refine zq fun K3 hK3 => zr (zv [] 2 [0,1,7] [] [(0, vl eField p1), (1, .one (.fn 130 [.pt 0 0 0 0])), (7, vi ((eField.els p1).length : Int))] [.box [ci p2.id, cst p2.name, cb p2.need, ci p2.type.kind, ci p2.type.scale, cl eField p2.type.fields]] ?_)
 rw [eField.len p1]
 refine zg [] 1 [0,1,7,8] (zd (hK3 _ _ (zb 0 (XW.rounds' BIG (x := cd Tryd.f133 [1,0,1,0,0]) (by kernel_rfl) fun Q1 hQ1 => ?_))))
 have hL1 : ∀ (k1 : Nat) (z1 : Int) (z2 : ByteArray) (z3 : Bool) (z4 : Int) (z5 : Int) (z6 : List GField) (x1 : Int), slices_IndexFunc_api_Field_api_Field_of_value_fields_2_l1 p1 k1 z1 z2 z3 z4 z5 z6 x1 = some r → XR Tryd.prog 19 1 [] (cd Tryd.f133 [1,0,1,0,0]) Q1 k1 [(0, vl eField p1), (1, .one (.fn 130 [.pt 0 0 0 0])), (7, vi (p1.length : Int)), (8, vi x1)] [.box [ci z1, cst z2, cb z3, ci z4, ci z5, cl eField z6]] := by
  intro k1
  induction k1 with
  | zero => intro z1 z2 z3 z4 z5 z6 x1 h; rw [slices_IndexFunc_api_Field_api_Field_of_value_fields_2_l1.eq_1] at h; cases h
  | succ k1 ih1 =>
   intro z1 z2 z3 z4 z5 z6 x1 h
   rw [slices_IndexFunc_api_Field_api_Field_of_value_fields_2_l1.eq_2] at h
   refine zq fun K4 hK4 => zr (zg [] 1 [0,1,7,8,9] (zd (hK4 _ _ (zq fun K5 hK5 => zC h (fun b6 h => ?_) (fun b6 h => ?_)))))
   ·refine zs (hK5 _ _ (zq fun K7 hK7 => zb 1 (zq fun K8 hK8 => zr (zg [] 2 [0,1,5,7,8] (zd ?_)))))
    refine hK8 _ _ (zq fun K9 hK9 => ?_)
    obtain ⟨e1, a10, h⟩ := zB h
    obtain ⟨r1, c11, h⟩ := zB h
    refine zr ?_
    refine zp [] 5 [0,1,5,7,8,11,15] [(qa2457 e1)] [(0, vl eField p1), (1, .one (.fn 130 [.pt 0 0 0 0])), (5, vi x1), (7, vi (p1.length : Int)), (8, vi x1), (11, .one (.fn 130 [.pt 0 0 0 0])), (15, .ag (qa2458 e1))] [.box [ci z1, cst z2, cb z3, ci z4, ci z5, cl eField z6]] [0 ≤ x1 ∧ x1 < ((eField.els p1).length : Int) ∧ elemsOk 6 (eField.els p1), (eField.els p1)[x1.toNat]? = some (qa2457 e1)] (⟨eField.inb a10, ((eField.get a10).trans (by rcases e1 with ⟨_, _, _, ⟨_, _, _⟩⟩; rfl)), trivial⟩) ?_
    refine XO.calm 130 [.ag (qa2458 e1), .one (.pt 0 0 0 0)] [.box [ci z1, cst z2, cb z3, ci z4, ci z5, cl eField z6]] [.box (qa2459 r1)] (vb r1.1) [0] [(16, vb r1.1), (0, vl eField p1), (1, .one (.fn 130 [.pt 0 0 0 0])), (5, vi x1), (7, vi (p1.length : Int)), (8, vi x1), (11, .one (.fn 130 [.pt 0 0 0 0])), (15, .ag (qa2458 e1))] [.box (qa2459 r1)] (by kernel_rfl) (c_value_fields_2 _ _ _ c11) (by kernel_rfl) (by kernel_rfl) (by kernel_rfl) (by kernel_rfl) ?_
    refine zd (hK9 _ _ (zC h (fun b12 h => ?_) (fun b12 h => ?_)))
    ·refine zq fun K13 hK13 => zr (zv [] 2 [4] [] [(4, vi x1)] [.box (qa2459 r1)] (zd (hK13 _ _ (ze (hQ1 _ _ _ ?_)))))
     obtain rfl := Option.some.inj h
     exact FinM.fin (.inr rfl) [] [vi x1] [] (by kernel_rfl) trivial (by kernel_rfl) (by kernel_rfl) (.one (.rfl _ rfl))
    ·exact zs (hK7 _ _ (zr (zg [] 2 [0,1,7,8] (zd (XR.sub (zk [0,1,7,8]) (ih1 r1.2.id r1.2.name r1.2.need r1.2.type.kind r1.2.type.scale r1.2.type.fields (IntKind.i64.wrap (x1 + (1 : Int))) h))))))
   ·exact zx 0 (hQ1 _ _ _ (hJ1 z1 z2 z3 z4 z5 z6 h _ _ (zk [])))
 exact XR.sub (zk [0,1,7,8]) (hL1 BIG p2.id p2.name p2.need p2.type.kind p2.type.scale p2.type.fields (0 : Int) h)

def slices_ContainsFunc_api_Field_api_Field_of_value_fields_2 (p1 : (List GField)) (p2 : GField) : Option (Bool × GField) :=
    bnd (slices_IndexFunc_api_Field_api_Field_of_value_fields_2 p1 p2) fun r1 =>
    some ((decide ((0 : Int) ≤ r1.1)), r1.2)

abbrev qa2468 (p2 : GField) : List CV := [ci p2.id, cst p2.name, cb p2.need, ci p2.type.kind, ci p2.type.scale, cl eField p2.type.fields]
abbrev qa2471 (r1 : (Int × GField)) : List CV := [ci r1.2.id, cst r1.2.name, cb r1.2.need, ci r1.2.type.kind, ci r1.2.type.scale, cl eField r1.2.type.fields]

theorem c_slices_ContainsFunc_api_Field_api_Field_of_value_fields_2 (p1 : (List GField)) (p2 : GField) (r : (Bool × GField)) (h : slices_ContainsFunc_api_Field_api_Field_of_value_fields_2 p1 p2 = some r) : MC Tryd.prog 127 [vl eField p1, .one (.fn 130 [.pt 0 0 0 0])] [.box (qa2468 p2)] (vb r.1) [.box [ci r.2.id, cst r.2.name, cb r.2.need, ci r.2.type.kind, ci r.2.type.scale, cl eField r.2.type.fields]] := by
 unfold slices_ContainsFunc_api_Field_api_Field_of_value_fields_2 at h
 refine MC.of 1 (n := 9) (fn := Tryd.f127) (c := cd Tryd.f127 []) (by kernel_rfl) (by kernel_rfl) (by kernel_rfl) (Nat.le_of_ble_eq_true rfl) rfl (zq fun K1 hK1 => zr (zg [] 1 [0,1] (zd (hK1 _ _ (zq fun K2 hK2 => ?_)))))
 obtain ⟨r1, c3, h⟩ := zB h
 refine zr (zv [] 2 [5,6] [] [(5, vl eField p1), (6, .one (.fn 130 [.pt 0 0 0 0]))] [.box (qa2468 p2)] ?_)
 refine XO.calm 133 [vl eField p1, .one (.fn 130 [.pt 0 0 0 0])] [.box (qa2468 p2)] [.box (qa2471 r1)] (vi r1.1) [0] [(7, vi r1.1), (5, vl eField p1), (6, .one (.fn 130 [.pt 0 0 0 0]))] [.box (qa2471 r1)] (by kernel_rfl) (c_slices_IndexFunc_api_Field_api_Field_of_value_fields_2 _ _ _ c3) (by kernel_rfl) (by kernel_rfl) (by kernel_rfl) (by kernel_rfl) ?_
 refine zv [] 2 [4] [] [(4, vb (decide ((0 : Int) ≤ r1.1)))] [.box (qa2471 r1)] (zd (hK2 _ _ (ze ?_)))
 obtain rfl := Option.some.inj h
 exact FinM.fin (.inr rfl) [] [vb (decide ((0 : Int) ≤ r1.1))] [] (by kernel_rfl) trivial (by kernel_rfl) (by kernel_rfl) (.one (.rfl _ rfl))

def value_fields_j1 (x1 : Bool) : Option Int :=
    ift x1
      (some (1 : Int))
      (some (0 : Int))

def value_fields_j2 : Option Int :=
    some (0 : Int)

def value_fields_l1 (p1 : GType) : Nat → Int → Option Int
  | 0, _ => none
  | k1 + 1, x2 =>
    ift (decide (x2 < (p1.fields.length : Int)))
      (bnd (at? p1.fields x2) fun e2 =>
       grd (0 ≤ (0 : Int) ∧ (0 : Int) ≤ x2 ∧ x2 ≤ (p1.fields.length : Int)) <|
       bnd (slices_ContainsFunc_api_Field_api_Field_of_value_fields_2 ((p1.fields.drop (0 : Int).toNat).take (x2.toNat - (0 : Int).toNat)) e2) fun r2 =>
       ift r2.1
         (some (5 : Int))
         ((value_fields_l1 p1 k1) (IntKind.i64.wrap (x2 + (1 : Int)))))
      (value_fields_j2)

def value_fields (p1 : GType) : Option Int :=
    ift (p1.kind == (6 : Int))
      (ift ((p1.fields.length : Int) != (1 : Int))
         (value_fields_j1 true)
         (bnd (at? p1.fields (0 : Int)) fun e1 =>
          value_fields_j1 (!(e1.name.toList == (ByteArray.mk #[]).toList))))
      (ift (p1.kind != (7 : Int))
         (ift (decide ((0 : Int) < (p1.fields.length : Int)))
            (some (1 : Int))
            (some (0 : Int)))
         (ift ((p1.fields.length : Int) == (0 : Int))
            (some (1 : Int))
            (bnd (slices_ContainsFunc_api_Field_api_Field_of_value_fields_1 p1.fields) fun r1 =>
             ift r1
               (some (4 : Int))
               (value_fields_l1 p1 BIG (0 : Int)))))

abbrev qa2478 (p1 : GType) : List PV := [pi p1.kind, pi p1.scale, .ro (eField.els p1.fields)]
abbrev qa2480 (e1 : GField) : List PV := [pi e1.id, .s (.string e1.name), .s (.bool e1.need), pi e1.type.kind, pi e1.type.scale, .ro (eField.els e1.type.fields)]
abbrev qa2482 (e2 : GField) : List PV := [pi e2.id, .s (.string e2.name), .s (.bool e2.need), pi e2.type.kind, pi e2.type.scale, .ro (eField.els e2.type.fields)]
abbrev qa2483 (e2 : GField) : List CV := [ci e2.id, cst e2.name, cb e2.need, ci e2.type.kind, ci e2.type.scale, cl eField e2.type.fields]
abbrev qa2484 (r2 : (Bool × GField)) : List CV := [ci r2.2.id, cst r2.2.name, cb r2.2.need, ci r2.2.type.kind, ci r2.2.type.scale, cl eField r2.2.type.fields]
abbrev qa2492 (p1 : GType) (x2 : Int) : Fr := [(1, .one (.pv (.rp [(qa2478 p1)] 0 0))), (38, vl eField p1.fields), (39, vi (p1.fields.length : Int)), (40, vi (IntKind.i64.wrap (x2 + (1 : Int))))]

theorem c_value_fields (p1 : GType) (r : Int) (h : value_fields p1 = some r) : PC Tryd.prog 117 [.ag [ci p1.kind, ci p1.scale, cl eField p1.fields]] (vi r) := by
 unfold value_fields at h
 refine zF 52 Tryd.f117 (zq fun K1 hK1 => zr (zg [4] 2 [1] (zd (hK1 _ _ (zq fun K2 hK2 => zb 0 ?_)))))
 refine zq fun K3 hK3 => zr (zu [4] 4 [1,5] [(qa2478 p1)] (zd (hK3 _ _ (zC h (fun b4 h => ?_) (fun b4 h => ?_)))))
 ·refine zq fun K5 hK5 => zq fun K6 hK6 => ?_
  have hJ1 : ∀ (x1 : Bool), value_fields_j1 x1 = some r → ∀ fr1 st1, Sub 52 0 [] fr1 st1 [(20, vb x1)] [] → K6 fr1 st1 := by
   intro x1 h fr1 st1 hS
   unfold value_fields_j1 at h
   refine hK6 _ _ (XW.sub hS ?_)
   refine zC h (fun b9 h => ?_) (fun b9 h => ?_)
   ·refine zq fun K10 hK10 => zr (zg [4] 1 [2] (zd (hK10 _ _ (ze ?_))))
    obtain rfl := Option.some.inj h
    exact zf [vi (1 : Int)] (.one (.rfl _ rfl))
   ·refine zs (hK5 _ _ (zq fun K11 hK11 => zr (zg [4] 1 [2] (zd (hK11 _ _ (ze ?_))))))
    obtain rfl := Option.some.inj h
    exact zf [vi (0 : Int)] (.one (.rfl _ rfl))
  rcases zW h with ⟨b7, h⟩ | ⟨b7, h⟩
  ·refine zr (zv [4] 3 [1,11] [[pi p1.kind, pi p1.scale, .ro (eField.els p1.fields)]] [(1, .one (.pv (.rp [[pi p1.kind, pi p1.scale, .ro (eField.els p1.fields)]] 0 0))), (11, vi ((eField.els p1.fields).length : Int))] [] ?_)
   rw [eField.len p1.fields]
   exact zg [4] 2 [1,13] (zt 13 b7 (zg [4] 7 [20] (zd (hJ1 true h _ _ (zk [20])))))
  ·obtain ⟨e1, a8, h⟩ := zB h
   refine zr (zv [4] 3 [1,11] [[pi p1.kind, pi p1.scale, .ro (eField.els p1.fields)]] [(1, .one (.pv (.rp [[pi p1.kind, pi p1.scale, .ro (eField.els p1.fields)]] 0 0))), (11, vi ((eField.els p1.fields).length : Int))] [] ?_)
   rw [eField.len p1.fields]
   refine zg [4] 2 [1,13] (zt 13 b7 ?_)
   refine zo [4] 7 [20] [(qa2478 p1), (qa2480 e1)] [([(qa2478 p1)] : List (List PV))[0]? = some (qa2478 p1), 0 ≤ (0 : Int) ∧ (0 : Int) < ((eField.els p1.fields).length : Int) ∧ elemsOk 6 (eField.els p1.fields), (eField.els p1.fields)[(0 : Int).toNat]? = some (qa2480 e1)] (⟨rfl, eField.inb a8, ((eField.get a8).trans (by rcases e1 with ⟨_, _, _, ⟨_, _, _⟩⟩; rfl)), trivial⟩) ?_
   exact zd (hJ1 (!(e1.name.toList == (ByteArray.mk #[]).toList)) h _ _ (zk [20]))
 ·refine zq fun K12 hK12 => zr (zv [4] 4 [1,21] [(qa2478 p1)] [(1, .one (.pv (.rp [(qa2478 p1)] 0 0))), (21, vb (p1.kind != (7 : Int)))] [] (zd (hK12 _ _ (zC h (fun b13 h => ?_) (fun b13 h => ?_)))))
  ·refine zq fun K14 hK14 => zq fun K15 hK15 => zr (zv [4] 3 [27] [[pi p1.kind, pi p1.scale, .ro (eField.els p1.fields)]] [(27, vi ((eField.els p1.fields).length : Int))] [] ?_)
   rw [eField.len p1.fields]
   refine zg [4] 1 [28] (zd (hK15 _ _ (zC h (fun b16 h => ?_) (fun b16 h => ?_))))
   ·refine zq fun K17 hK17 => zr (zg [4] 1 [2] (zd (hK17 _ _ (ze ?_))))
    obtain rfl := Option.some.inj h
    exact zf [vi (1 : Int)] (.one (.rfl _ rfl))
   ·refine zs (hK14 _ _ (zq fun K18 hK18 => zr (zv [4] 1 [2] [] [(2, vi (0 : Int))] [] (zd (hK18 _ _ (ze ?_))))))
    obtain rfl := Option.some.inj h
    exact zf [vi (0 : Int)] (.one (.rfl _ rfl))
  ·refine zq fun K19 hK19 => zr (zv [4] 3 [1,32] [[pi p1.kind, pi p1.scale, .ro (eField.els p1.fields)]] [(1, .one (.pv (.rp [[pi p1.kind, pi p1.scale, .ro (eField.els p1.fields)]] 0 0))), (32, vi ((eField.els p1.fields).length : Int))] [] ?_)
   rw [eField.len p1.fields]
   refine zg [4] 2 [1,29] (zd (hK19 _ _ (zC h (fun b20 h => ?_) (fun b20 h => ?_))))
   ·refine zq fun K21 hK21 => zr (zg [4] 1 [2] (zd (hK21 _ _ (ze ?_))))
    obtain rfl := Option.some.inj h
    exact zf [vi (1 : Int)] (.one (.rfl _ rfl))
   ·refine zs (hK2 _ _ (zq fun K22 hK22 => zq fun K23 hK23 => ?_))
    obtain ⟨r1, c24, h⟩ := zB h
    refine zr (zv [4] 2 [1,35] [(qa2478 p1)] [(1, .one (.pv (.rp [(qa2478 p1)] 0 0))), (35, vl eField p1.fields)] [] (za (c_slices_ContainsFunc_api_Field_api_Field_of_value_fields_1 _ _ c24) (zd (hK23 _ _ (zC h (fun b25 h => ?_) (fun b25 h => ?_))))))
    ·refine zq fun K26 hK26 => zr (zg [4] 1 [2] (zd (hK26 _ _ (ze ?_))))
     obtain rfl := Option.some.inj h
     exact zf [vi (4 : Int)] (.one (.rfl _ rfl))
    ·refine zs (hK22 _ _ (zq fun K27 hK27 => ?_))
     have hJ2 : ∀ (_ : Unit), value_fields_j2 = some r → ∀ fr1 st1, Sub 52 0 [] fr1 st1 [] [] → K27 fr1 st1 := by
      intro _ h fr1 st1 hS
      unfold value_fields_j2 at h
      refine hK27 _ _ (XW.sub hS ?_)
      refine zq fun K40 hK40 => zr (zg [4] 1 [2] (zd (hK40 _ _ (ze ?_))))
      obtain rfl := Option.some.inj h
      exact zf [vi (0 : Int)] (.one (.rfl _ rfl))
     refine zq fun K28 hK28 => zr (zv [4] 3 [1,38,39] [[pi p1.kind, pi p1.scale, .ro (eField.els p1.fields)]] [(1, .one (.pv (.rp [[pi p1.kind, pi p1.scale, .ro (eField.els p1.fields)]] 0 0))), (38, vl eField p1.fields), (39, vi ((eField.els p1.fields).length : Int))] [] ?_)
     rw [eField.len p1.fields]
     refine zg [4] 1 [1,38,39,40] (zd (hK28 _ _ (zb 1 (XW.rounds' BIG (x := cd Tryd.f117 [1,1,1,0,1,0,0]) (by kernel_rfl) fun Q1 hQ1 => ?_))))
     have hL1 : ∀ (k1 : Nat) (x2 : Int), value_fields_l1 p1 k1 x2 = some r → XR Tryd.prog 52 0 [] (cd Tryd.f117 [1,1,1,0,1,0,0]) Q1 k1 [(1, .one (.pv (.rp [(qa2478 p1)] 0 0))), (38, vl eField p1.fields), (39, vi (p1.fields.length : Int)), (40, vi x2)] [] := by
      intro k1
      induction k1 with
      | zero => intro x2 h; rw [value_fields_l1.eq_1] at h; cases h
      | succ k1 ih1 =>
       intro x2 h
       rw [value_fields_l1.eq_2] at h
       refine zq fun K29 hK29 => zr (zg [4] 1 [1,38,39,40,41] (zd (hK29 _ _ (zq fun K30 hK30 => zC h (fun b31 h => ?_) (fun b31 h => ?_)))))
       ·refine zs (hK30 _ _ (zq fun K32 hK32 => zb 2 (zq fun K33 hK33 => ?_)))
        obtain ⟨e2, a34, h⟩ := zB h
        refine zr (zo [4] 6 [1,3,4,38,39,40] [(qa2482 e2)] [0 ≤ x2 ∧ x2 < ((eField.els p1.fields).length : Int) ∧ elemsOk 6 (eField.els p1.fields), (eField.els p1.fields)[x2.toNat]? = some (qa2482 e2)] (⟨eField.inb a34, ((eField.get a34).trans (by rcases e2 with ⟨_, _, _, ⟨_, _, _⟩⟩; rfl)), trivial⟩) (zd (hK33 _ _ (zq fun K35 hK35 => ?_))))
        obtain ⟨g36, h⟩ := zG h
        obtain ⟨r2, c37, h⟩ := zB h
        refine zr ?_
        refine zp [4] 4 [1,4,38,39,40,48] [[pi p1.kind, pi p1.scale, .ro (eField.els p1.fields)]] [(1, .one (.pv (.rp [[pi p1.kind, pi p1.scale, .ro (eField.els p1.fields)]] 0 0))), (4, .one (.pt 0 0 0 0)), (38, vl eField p1.fields), (39, vi (p1.fields.length : Int)), (40, vi x2), (48, .one (.pv (.ro (((eField.els p1.fields).drop (0 : Int).toNat).take (x2.toNat - (0 : Int).toNat)))))] [.box [ci e2.id, cst e2.name, cb e2.need, ci e2.type.kind, ci e2.type.scale, cl eField e2.type.fields]] [([[pi p1.kind, pi p1.scale, .ro (eField.els p1.fields)]] : List (List PV))[0]? = some [pi p1.kind, pi p1.scale, .ro (eField.els p1.fields)], (0 ≤ (0 : Int) ∧ (0 : Int) ≤ x2 ∧ x2 ≤ ((eField.els p1.fields).length : Int)) ∧ elemsOk 6 (eField.els p1.fields)] (⟨rfl, eField.cutOk g36, trivial⟩) ?_
        rw [show ((eField.els p1.fields).drop (0 : Int).toNat).take (x2.toNat - (0 : Int).toNat) = eField.els ((p1.fields.drop (0 : Int).toNat).take (x2.toNat - (0 : Int).toNat)) from eField.cut _ _ _]
        refine zv [4] 1 [1,38,39,40,48,49] [] [(1, .one (.pv (.rp [(qa2478 p1)] 0 0))), (38, vl eField p1.fields), (39, vi (p1.fields.length : Int)), (40, vi x2), (48, vl eField ((p1.fields.drop (0 : Int).toNat).take (x2.toNat - (0 : Int).toNat))), (49, .one (.fn 130 [.pt 0 0 0 0]))] [.box (qa2483 e2)] ?_
        refine XO.calm 127 [vl eField ((p1.fields.drop (0 : Int).toNat).take (x2.toNat - (0 : Int).toNat)), .one (.fn 130 [.pt 0 0 0 0])] [.box (qa2483 e2)] [.box (qa2484 r2)] (vb r2.1) [0] [(50, vb r2.1), (1, .one (.pv (.rp [(qa2478 p1)] 0 0))), (38, vl eField p1.fields), (39, vi (p1.fields.length : Int)), (40, vi x2), (48, vl eField ((p1.fields.drop (0 : Int).toNat).take (x2.toNat - (0 : Int).toNat))), (49, .one (.fn 130 [.pt 0 0 0 0]))] [.box (qa2484 r2)] (by kernel_rfl) (c_slices_ContainsFunc_api_Field_api_Field_of_value_fields_2 _ _ _ c37) (by kernel_rfl) (by kernel_rfl) (by kernel_rfl) (by kernel_rfl) ?_
        refine zd (hK35 _ _ (zC h (fun b38 h => ?_) (fun b38 h => ?_)))
        ·refine zq fun K39 hK39 => zr (zg [4] 1 [2] (zd (hK39 _ _ (ze (hQ1 _ _ _ ?_)))))
         obtain rfl := Option.some.inj h
         exact zf [vi (5 : Int)] (.one (.rfl _ rfl))
        ·refine zs (hK32 _ _ (zr (zg [4] 2 [1,38,39,40] (zd ?_))))
         exact XR.sub (Sub.trans (Sub.pick (fr' := (qa2492 p1 x2)) [1,38,39,40] (by kernel_rfl)) (Sub.take (fr' := (qa2492 p1 x2)) 0 (Nat.zero_le _) (by kernel_rfl) (by kernel_rfl))) (ih1 (IntKind.i64.wrap (x2 + (1 : Int))) h)
       ·exact zx 1 (hQ1 _ _ _ (hJ2 () h _ _ (zk [])))
     exact XR.sub (zk [1,38,39,40]) (hL1 BIG (0 : Int) h)

def value_checker_check_j5 (z3 : Int) : Option (Int × GChecker) :=
    some ((0 : Int), (GChecker.mk z3))

def value_checker_check_l1 (q_value_checker_check : GType → Int → GChecker → Option (Int × GChecker)) (p1 : GType) (p2 : Int) : Nat → Int → Int → Option (Int × GChecker)
  | 0, _, _ => none
  | k1 + 1, z2, x4 =>
    ift (decide (x4 < (p1.fields.length : Int)))
      (bnd (at? p1.fields x4) fun e1 =>
       bnd (q_value_checker_check e1.type (IntKind.i64.wrap (p2 + (1 : Int))) (GChecker.mk z2)) fun r4 =>
       ift (r4.1 != (0 : Int))
         (some (r4.1, r4.2))
         ((value_checker_check_l1 q_value_checker_check p1 p2 k1) r4.2.leaves (IntKind.i64.wrap (x4 + (1 : Int)))))
      (value_checker_check_j5 z2)

def value_checker_check_j4 (q_value_checker_check : GType → Int → GChecker → Option (Int × GChecker)) (p1 : GType) (p2 : Int) (z1 : Int) (x3 : Bool) : Option (Int × GChecker) :=
    ift x3
      (some ((1 : Int), (GChecker.mk z1)))
      (bnd (value_fields p1) fun r3 =>
       ift (r3 != (0 : Int))
         (some (r3, (GChecker.mk z1)))
         (value_checker_check_l1 q_value_checker_check p1 p2 BIG z1 (0 : Int)))

def value_checker_check_j3 (q_value_checker_check : GType → Int → GChecker → Option (Int × GChecker)) (p1 : GType) (p2 : Int) (z1 : Int) (x2 : Bool) : Option (Int × GChecker) :=
    ift x2
      (some ((3 : Int), (GChecker.mk z1)))
      (ift (p1.scale != (0 : Int))
         (ift (p1.kind != (3 : Int))
            (value_checker_check_j4 q_value_checker_check p1 p2 z1 true)
            (ift (decide (p1.scale < (0 : Int)))
               (value_checker_check_j4 q_value_checker_check p1 p2 z1 true)
               (value_checker_check_j4 q_value_checker_check p1 p2 z1 (decide ((12 : Int) < p1.scale)))))
         (value_checker_check_j4 q_value_checker_check p1 p2 z1 false))

def value_checker_check_j2 (q_value_checker_check : GType → Int → GChecker → Option (Int × GChecker)) (p1 : GType) (p2 : Int) (z1 : Int) : Option (Int × GChecker) :=
    ift (decide (p1.kind < (1 : Int)))
      (value_checker_check_j3 q_value_checker_check p1 p2 z1 true)
      (value_checker_check_j3 q_value_checker_check p1 p2 z1 (decide ((7 : Int) < p1.kind)))

def value_checker_check_j1 (q_value_checker_check : GType → Int → GChecker → Option (Int × GChecker)) (p1 : GType) (p2 : Int) (p3 : GChecker) (x1 : Bool) : Option (Int × GChecker) :=
    ift x1
      (some ((7 : Int), p3))
      (bnd (value_leaf p1) fun r2 =>
       ift r2
         (value_checker_check_j2 q_value_checker_check p1 p2 (IntKind.i64.wrap (p3.leaves + (1 : Int))))
         (value_checker_check_j2 q_value_checker_check p1 p2 p3.leaves))

def value_checker_check : Nat → GType → Int → GChecker → Option (Int × GChecker)
  | 0, _, _, _ => none
  | k0 + 1, p1, p2, p3 =>
    ift (decide ((4 : Int) < p2))
      (value_checker_check_j1 (value_checker_check k0) p1 p2 p3 true)
      (bnd (value_leaf p1) fun r1 =>
       ift r1
         (value_checker_check_j1 (value_checker_check k0) p1 p2 p3 (p3.leaves == (40 : Int)))
         (value_checker_check_j1 (value_checker_check k0) p1 p2 p3 false))

abbrev qa2496 (p1 : GType) : List PV := [pi p1.kind, pi p1.scale, .ro (eField.els p1.fields)]
abbrev qa2506 (e1 : GField) : List PV := [pi e1.id, .s (.string e1.name), .s (.bool e1.need), pi e1.type.kind, pi e1.type.scale, .ro (eField.els e1.type.fields)]
abbrev qa2507 (e1 : GField) : List CV := [ci e1.type.kind, ci e1.type.scale, cl eField e1.type.fields]
abbrev qa2508 (e1 : GField) : List CV := [ci e1.id, cst e1.name, cb e1.need, ci e1.type.kind, ci e1.type.scale, cl eField e1.type.fields]
abbrev qa2511 (p1 : GType) (p2 : Int) (x4 : Int) : Fr := [(0, .one (.pt 0 0 0 0)), (2, vi p2), (67, vl eField p1.fields), (68, vi (p1.fields.length : Int)), (69, vi (IntKind.i64.wrap (x4 + (1 : Int))))]

theorem c_value_checker_check : ∀ (k0 : Nat) (p1 : GType) (p2 : Int) (p3 : GChecker) (r : (Int × GChecker)), value_checker_check k0 p1 p2 p3 = some r → MC Tryd.prog 80 [.one (.pt 0 0 0 0), .ag [ci p1.kind, ci p1.scale, cl eField p1.fields], vi p2] [.box [ci p3.leaves]] (vi r.1) [.box [ci r.2.leaves]]
 | 0, _, _, _, r, h => by rw [value_checker_check.eq_1] at h; cases h
 | k0 + 1, p1, p2, p3, r, h => by
  rw [value_checker_check.eq_2] at h
  refine MC.of 1 (n := 83) (fn := Tryd.f80) (c := cd Tryd.f80 []) (by kernel_rfl) (by kernel_rfl) (by kernel_rfl) (Nat.le_of_ble_eq_true rfl) rfl (zq fun K1 hK1 => zr (zg [9] 2 [0,2,4] (zd (hK1 _ _ (zq fun K2 hK2 => zq fun K3 hK3 => ?_)))))
  have hJ1 : ∀ (x1 : Bool), value_checker_check_j1 (value_checker_check k0) p1 p2 p3 x1 = some r → ∀ fr1 st1, Sub 83 1 [] fr1 st1 [(0, .one (.pt 0 0 0 0)), (2, vi p2), (4, .one (.pv (.rp [(qa2496 p1)] 0 0))), (23, vb x1)] [.box [ci p3.leaves]] → K3 fr1 st1 := by
   intro x1 h fr1 st1 hS
   unfold value_checker_check_j1 at h
   refine hK3 _ _ (XW.sub hS ?_)
   refine zC h (fun b7 h => ?_) (fun b7 h => ?_)
   ·refine zq fun K8 hK8 => zr (zv [9] 1 [6] [] [(6, vi (7 : Int))] [.box [ci p3.leaves]] (zd (hK8 _ _ (ze ?_))))
    obtain rfl := Option.some.inj h
    exact FinM.fin (.inr rfl) [] [vi (7 : Int)] [] (by kernel_rfl) trivial (by kernel_rfl) (by kernel_rfl) (.one (.rfl _ rfl))
   ·refine zs (hK2 _ _ (zq fun K9 hK9 => ?_))
    have hJ2 : ∀ (z1 : Int), value_checker_check_j2 (value_checker_check k0) p1 p2 z1 = some r → ∀ fr1 st1, Sub 83 1 [] fr1 st1 [(0, .one (.pt 0 0 0 0)), (2, vi p2), (4, .one (.pv (.rp [(qa2496 p1)] 0 0)))] [.box [ci z1]] → K9 fr1 st1 := by
     intro z1 h fr1 st1 hS
     unfold value_checker_check_j2 at h
     refine hK9 _ _ (XW.sub hS ?_)
     refine zq fun K13 hK13 => zb 0 (zq fun K14 hK14 => ?_)
     have hJ3 : ∀ (x2 : Bool), value_checker_check_j3 (value_checker_check k0) p1 p2 z1 x2 = some r → ∀ fr1 st1, Sub 83 1 [] fr1 st1 [(0, .one (.pt 0 0 0 0)), (2, vi p2), (4, .one (.pv (.rp [(qa2496 p1)] 0 0))), (33, vb x2)] [.box [ci z1]] → K14 fr1 st1 := by
      intro x2 h fr1 st1 hS
      unfold value_checker_check_j3 at h
      refine hK14 _ _ (XW.sub hS ?_)
      refine zC h (fun b16 h => ?_) (fun b16 h => ?_)
      ·refine zq fun K17 hK17 => zr (zv [9] 1 [6] [] [(6, vi (3 : Int))] [.box [ci z1]] (zd (hK17 _ _ (ze ?_))))
       obtain rfl := Option.some.inj h
       exact FinM.fin (.inr rfl) [] [vi (3 : Int)] [] (by kernel_rfl) trivial (by kernel_rfl) (by kernel_rfl) (.one (.rfl _ rfl))
      ·refine zq fun K18 hK18 => ?_
       have hJ4 : ∀ (x3 : Bool), value_checker_check_j4 (value_checker_check k0) p1 p2 z1 x3 = some r → ∀ fr1 st1, Sub 83 1 [] fr1 st1 [(0, .one (.pt 0 0 0 0)), (2, vi p2), (4, .one (.pv (.rp [(qa2496 p1)] 0 0))), (42, vb x3)] [.box [ci z1]] → K18 fr1 st1 := by
        intro x3 h fr1 st1 hS
        unfold value_checker_check_j4 at h
        refine hK18 _ _ (XW.sub hS ?_)
        refine zC h (fun b22 h => ?_) (fun b22 h => ?_)
        ·refine zq fun K23 hK23 => zr (zv [9] 1 [6] [] [(6, vi (1 : Int))] [.box [ci z1]] (zd (hK23 _ _ (ze ?_))))
         obtain rfl := Option.some.inj h
         exact FinM.fin (.inr rfl) [] [vi (1 : Int)] [] (by kernel_rfl) trivial (by kernel_rfl) (by kernel_rfl) (.one (.rfl _ rfl))
        ·refine zs (hK13 _ _ (zq fun K24 hK24 => zq fun K25 hK25 => ?_))
         obtain ⟨r3, c26, h⟩ := zB h
         refine zr (zu [9] 1 [0,2,4,61] [(qa2496 p1)] (za (c_value_fields _ _ c26) (zv [9] 1 [0,2,4,7] [] [(0, .one (.pt 0 0 0 0)), (2, vi p2), (4, .one (.pv (.rp [(qa2496 p1)] 0 0))), (7, vi r3)] [.box [ci z1]] (zd (hK25 _ _ (zq fun K27 hK27 => zr ?_))))))
         refine zg [9] 2 [0,2,4,7,64] (zd (hK27 _ _ (zC h (fun b28 h => ?_) (fun b28 h => ?_))))
         ·refine zq fun K29 hK29 => zr (zv [9] 2 [6] [] [(6, vi r3)] [.box [ci z1]] (zd (hK29 _ _ (ze ?_))))
          obtain rfl := Option.some.inj h
          exact FinM.fin (.inr rfl) [] [vi r3] [] (by kernel_rfl) trivial (by kernel_rfl) (by kernel_rfl) (.one (.rfl _ rfl))
         ·refine zs (hK24 _ _ (zq fun K30 hK30 => ?_))
          have hJ5 : ∀ (z3 : Int), value_checker_check_j5 z3 = some r → ∀ fr1 st1, Sub 83 1 [] fr1 st1 [] [.box [ci z3]] → K30 fr1 st1 := by
           intro z3 h fr1 st1 hS
           unfold value_checker_check_j5 at h
           refine hK30 _ _ (XW.sub hS ?_)
           refine zq fun K43 hK43 => zr (zv [9] 1 [6] [] [(6, vi (0 : Int))] [.box [ci z3]] (zd (hK43 _ _ (ze ?_))))
           obtain rfl := Option.some.inj h
           exact FinM.fin (.inr rfl) [] [vi (0 : Int)] [] (by kernel_rfl) trivial (by kernel_rfl) (by kernel_rfl) (.one (.rfl _ rfl))
          refine zq fun K31 hK31 => zr (zv [9] 3 [0,2,67,68] [[pi p1.kind, pi p1.scale, .ro (eField.els p1.fields)]] [(0, .one (.pt 0 0 0 0)), (2, vi p2), (67, vl eField p1.fields), (68, vi ((eField.els p1.fields).length : Int))] [.box [ci z1]] ?_)
          rw [eField.len p1.fields]
          refine zg [9] 1 [0,2,67,68,69] (zd (hK31 _ _ (zb 1 (XW.rounds' BIG (x := cd Tryd.f80 [1,1,1,1,1,0,1,0,0]) (by kernel_rfl) fun Q1 hQ1 => ?_))))
          have hL1 : ∀ (k1 : Nat) (z2 : Int) (x4 : Int), value_checker_check_l1 (value_checker_check k0) p1 p2 k1 z2 x4 = some r → XR Tryd.prog 83 1 [] (cd Tryd.f80 [1,1,1,1,1,0,1,0,0]) Q1 k1 [(0, .one (.pt 0 0 0 0)), (2, vi p2), (67, vl eField p1.fields), (68, vi (p1.fields.length : Int)), (69, vi x4)] [.box [ci z2]] := by
           intro k1
           induction k1 with
           | zero => intro z2 x4 h; rw [value_checker_check_l1.eq_1] at h; cases h
           | succ k1 ih1 =>
            intro z2 x4 h
            rw [value_checker_check_l1.eq_2] at h
            refine zq fun K32 hK32 => zr (zg [9] 1 [0,2,67,68,69,70] (zd (hK32 _ _ (zq fun K33 hK33 => zC h (fun b34 h => ?_) (fun b34 h => ?_)))))
            ·refine zs (hK33 _ _ (zq fun K35 hK35 => zb 2 (zq fun K36 hK36 => ?_)))
             obtain ⟨e1, a37, h⟩ := zB h
             refine zr (zo [9] 4 [0,2,9,67,68,69] [(qa2506 e1)] [0 ≤ x4 ∧ x4 < ((eField.els p1.fields).length : Int) ∧ elemsOk 6 (eField.els p1.fields), (eField.els p1.fields)[x4.toNat]? = some (qa2506 e1)] (⟨eField.inb a37, ((eField.get a37).trans (by rcases e1 with ⟨_, _, _, ⟨_, _, _⟩⟩; rfl)), trivial⟩) (zd (hK36 _ _ (zq fun K38 hK38 => ?_))))
             obtain ⟨r4, c39, h⟩ := zB h
             refine zr (zv [9] 5 [0,2,67,68,69,73,75,77] [] [(0, .one (.pt 0 0 0 0)), (2, vi p2), (67, vl eField p1.fields), (68, vi (p1.fields.length : Int)), (69, vi x4), (73, .one (.pt 0 0 0 0)), (75, .ag (qa2507 e1)), (77, vi (IntKind.i64.wrap (p2 + (1 : Int))))] [.box [ci z2], .box (qa2508 e1)] ?_)
             refine XO.calm 80 [.one (.pt 0 0 0 0), .ag (qa2507 e1), vi (IntKind.i64.wrap (p2 + (1 : Int)))] [.box [ci z2]] [.box [ci r4.2.leaves]] (vi r4.1) [0] [(78, vi r4.1), (0, .one (.pt 0 0 0 0)), (2, vi p2), (67, vl eField p1.fields), (68, vi (p1.fields.length : Int)), (69, vi x4), (73, .one (.pt 0 0 0 0)), (75, .ag (qa2507 e1)), (77, vi (IntKind.i64.wrap (p2 + (1 : Int))))] [.box [ci r4.2.leaves], .box (qa2508 e1)] (by kernel_rfl) (c_value_checker_check k0 _ _ _ _ c39) (by kernel_rfl) (by kernel_rfl) (by kernel_rfl) (by kernel_rfl) ?_
             refine zg [9] 1 [0,2,10,67,68,69] (zd (hK38 _ _ (zq fun K40 hK40 => zr (zg [9] 2 [0,2,10,67,68,69,80] (zd (hK40 _ _ ?_))))))
             refine zC h (fun b41 h => ?_) (fun b41 h => ?_)
             ·refine zq fun K42 hK42 => zr (zv [9] 2 [6] [] [(6, vi r4.1)] [.box [ci r4.2.leaves], .box (qa2508 e1)] (zd (hK42 _ _ (ze (hQ1 _ _ _ ?_)))))
              obtain rfl := Option.some.inj h
              exact FinM.fin (.inr rfl) [] [vi r4.1] [] (by kernel_rfl) trivial (by kernel_rfl) (by kernel_rfl) (.one (.rfl _ rfl))
             ·exact zs (hK35 _ _ (zr (zg [9] 2 [0,2,67,68,69] (zd (XR.sub (Sub.trans (Sub.pick (fr' := (qa2511 p1 p2 x4)) [0,2,67,68,69] (by kernel_rfl)) (Sub.take (fr' := (qa2511 p1 p2 x4)) 1 (by decide) (by kernel_rfl) (by kernel_rfl))) (ih1 r4.2.leaves (IntKind.i64.wrap (x4 + (1 : Int))) h))))))
            ·exact zx 1 (hQ1 _ _ _ (hJ5 z2 h _ _ (zk [])))
          exact XR.sub (zk [0,2,67,68,69]) (hL1 BIG z1 (0 : Int) h)
       rcases zW h with ⟨b19, h⟩ | ⟨b19, h⟩
       ·rcases zW h with ⟨b20, h⟩ | ⟨b20, h⟩
        ·exact zr (zu [9] 4 [0,2,4,46] [(qa2496 p1)] (zt 46 b19 (zu [9] 4 [0,2,4,46,50] [(qa2496 p1)] (zt 50 b20 (zv [9] 11 [0,2,4,42] [] [(0, .one (.pt 0 0 0 0)), (2, vi p2), (4, .one (.pv (.rp [(qa2496 p1)] 0 0))), (42, vb true)] [.box [ci z1]] (zd (hJ4 true h _ _ (zk [0,2,4,42]))))))))
        ·rcases zW h with ⟨b21, h⟩ | ⟨b21, h⟩
         ·refine zr (zu [9] 4 [0,2,4,46] [(qa2496 p1)] (zt 46 b19 (zu [9] 4 [0,2,4,46,50] [(qa2496 p1)] (zt 50 b20 (zv [9] 5 [0,2,4,46,55] [(qa2496 p1)] [(0, .one (.pt 0 0 0 0)), (2, vi p2), (4, .one (.pv (.rp [(qa2496 p1)] 0 0))), (46, vb true), (55, vb (decide (p1.scale < (0 : Int))))] [.box [ci z1]] (zt 55 b21 (zg [9] 6 [0,2,4,42] ?_)))))))
          exact zd (hJ4 true h _ _ (zk [0,2,4,42]))
         ·refine zr (zu [9] 4 [0,2,4,46] [(qa2496 p1)] (zt 46 b19 (zv [9] 4 [0,2,4,46,50] [(qa2496 p1)] [(0, .one (.pt 0 0 0 0)), (2, vi p2), (4, .one (.pv (.rp [(qa2496 p1)] 0 0))), (46, vb true), (50, vb (p1.kind != (3 : Int)))] [.box [ci z1]] (zt 50 b20 (zu [9] 5 [0,2,4,46,55] [(qa2496 p1)] (zt 55 b21 (zu [9] 6 [0,2,4,42] [(qa2496 p1)] ?_)))))))
          exact zd (hJ4 (decide ((12 : Int) < p1.scale)) h _ _ (zk [0,2,4,42]))
       ·exact zr (zu [9] 4 [0,2,4,46] [(qa2496 p1)] (zt 46 b19 (zg [9] 15 [0,2,4,42] (zd (hJ4 false h _ _ (zk [0,2,4,42]))))))
     rcases zW h with ⟨b15, h⟩ | ⟨b15, h⟩
     ·exact zr (zu [9] 4 [0,2,4,37] [(qa2496 p1)] (zt 37 b15 (zg [9] 5 [0,2,4,33] (zd (hJ3 true h _ _ (zk [0,2,4,33]))))))
     ·exact zr (zv [9] 4 [0,2,4,37] [(qa2496 p1)] [(0, .one (.pt 0 0 0 0)), (2, vi p2), (4, .one (.pv (.rp [(qa2496 p1)] 0 0))), (37, vb (decide (p1.kind < (1 : Int))))] [.box [ci z1]] (zt 37 b15 (zu [9] 5 [0,2,4,33] [(qa2496 p1)] (zd (hJ3 (decide ((7 : Int) < p1.kind)) h _ _ (zk [0,2,4,33]))))))
    refine zq fun K10 hK10 => ?_
    obtain ⟨r2, c11, h⟩ := zB h
    refine zr (zu [9] 1 [0,2,4,24] [(qa2496 p1)] (za (c_value_leaf _ _ c11) (zd (hK10 _ _ (zC h (fun b12 h => ?_) (fun b12 h => ?_))))))
    ·exact zr (zv [9] 8 [0,2,4] [] [(0, .one (.pt 0 0 0 0)), (2, vi p2), (4, .one (.pv (.rp [(qa2496 p1)] 0 0)))] [.box [ci (IntKind.i64.wrap (p3.leaves + (1 : Int)))]] (zd (hJ2 (IntKind.i64.wrap (p3.leaves + (1 : Int))) h _ _ (zk [0,2,4]))))
    ·exact zs (hJ2 p3.leaves h _ _ (zk [0,2,4]))
  rcases zW h with ⟨b4, h⟩ | ⟨b4, h⟩
  ·exact zr (zg [9] 3 [0,2,4,13] (zt 13 b4 (zv [9] 10 [0,2,4,23] [] [(0, .one (.pt 0 0 0 0)), (2, vi p2), (4, .one (.pv (.rp [(qa2496 p1)] 0 0))), (23, vb true)] [.box [ci p3.leaves]] (zd (hJ1 true h _ _ (zk [0,2,4,23]))))))
  ·obtain ⟨r1, c5, h⟩ := zB h
   rcases zW h with ⟨b6, h⟩ | ⟨b6, h⟩
   ·refine zr (zg [9] 3 [0,2,4,13] (zt 13 b4 (zu [9] 1 [0,2,4,13,14] [(qa2496 p1)] (zl 116 [.ag [ci p1.kind, ci p1.scale, cl eField p1.fields]] (vb r1) [(15, vb r1), (0, .one (.pt 0 0 0 0)), (2, vi p2), (4, .one (.pv (.rp [(qa2496 p1)] 0 0))), (13, vb false), (14, .ag [ci p1.kind, ci p1.scale, cl eField p1.fields])] (c_value_leaf _ _ c5) (zg [9] 1 [0,2,4,13,16] (zt 16 b6 (zg [9] 7 [0,2,4,23] ?_)))))))
    exact zd (hJ1 (p3.leaves == (40 : Int)) h _ _ (zk [0,2,4,23]))
   ·refine zr (zv [9] 3 [0,2,4,13] [] [(0, .one (.pt 0 0 0 0)), (2, vi p2), (4, .one (.pv (.rp [(qa2496 p1)] 0 0))), (13, vb (decide ((4 : Int) < p2)))] [.box [ci p3.leaves]] (zt 13 b4 (zu [9] 1 [0,2,4,13,14] [(qa2496 p1)] (za (c_value_leaf _ _ c5) (zv [9] 1 [0,2,4,13,16] [] [(0, .one (.pt 0 0 0 0)), (2, vi p2), (4, .one (.pv (.rp [(qa2496 p1)] 0 0))), (13, vb false), (16, vb r1)] [.box [ci p3.leaves]] (zt 16 b6 (zg [9] 7 [0,2,4,23] ?_)))))))
    exact zd (hJ1 false h _ _ (zk [0,2,4,23]))

def value_CheckType (p1 : GType) : Option Int :=
    bnd (value_checker_check BIG p1 (1 : Int) (GChecker.mk (0 : Int))) fun r1 =>
    some r1.1

abbrev qa2537 (p1 : GType) : List CV := [ci p1.kind, ci p1.scale, cl eField p1.fields]

theorem c_value_CheckType (p1 : GType) (r : Int) (h : value_CheckType p1 = some r) : PC Tryd.prog 33 [.ag (qa2537 p1)] (vi r) := by
 unfold value_CheckType at h
 refine zF 9 Tryd.f33 (zq fun K1 hK1 => zr (zg [5] 2 [1] (zd (hK1 _ _ (zq fun K2 hK2 => zr ?_)))))
 refine zg [5] 3 [1,3] (zd (hK2 _ _ (zq fun K3 hK3 => ?_)))
 obtain ⟨r1, c4, h⟩ := zB h
 refine zr (zv [5] 2 [6,7] [[pi p1.kind, pi p1.scale, .ro (eField.els p1.fields)]] [(6, .one (.pt 0 0 0 0)), (7, .ag (qa2537 p1))] [.box [ci (0 : Int)]] (XO.calm 80 [.one (.pt 0 0 0 0), .ag (qa2537 p1), vi (1 : Int)] [.box [ci (0 : Int)]] [.box [ci r1.2.leaves]] (vi r1.1) [0] [(8, vi r1.1), (6, .one (.pt 0 0 0 0)), (7, .ag (qa2537 p1))] [.box [ci r1.2.leaves]] (by kernel_rfl) (c_value_checker_check BIG _ _ _ _ c4) (by kernel_rfl) (by kernel_rfl) (by kernel_rfl) (by kernel_rfl) ?_))
 refine zg [5] 1 [2] (zd (hK3 _ _ (ze ?_)))
 obtain rfl := Option.some.inj h
 exact zf [vi r1.1] (.one (.rfl _ rfl))

def value_Result_j1 (p1 : Int) (p2 : GType) (p3 : GType) (x1 : Bool) : Option (GType × Int) :=
    ift x1
      (some ((GType.mk (0 : Int) (0 : Int) []), (3 : Int)))
      (bnd (at? [p2, p3] (0 : Int)) fun e1 =>
       bnd (value_CheckType e1) fun r1 =>
       ift (r1 != (0 : Int))
         (some ((GType.mk (0 : Int) (0 : Int) []), r1))
         (bnd (at? [p2, p3] (1 : Int)) fun e2 =>
          bnd (value_CheckType e2) fun r2 =>
          ift (r2 != (0 : Int))
            (some ((GType.mk (0 : Int) (0 : Int) []), r2))
            (bnd (value_result p1 p2 p3) fun r3 =>
             ift (!r3.2)
               (some ((GType.mk (0 : Int) (0 : Int) []), (2 : Int)))
               (some (r3.1, (0 : Int))))))

def value_Result (p1 : Int) (p2 : GType) (p3 : GType) : Option (GType × Int) :=
    ift (decide (p1 < (1 : Int)))
      (value_Result_j1 p1 p2 p3 true)
      (value_Result_j1 p1 p2 p3 (decide ((7 : Int) < p1)))

abbrev qa2548 (p2 : GType) : List PV := [pi p2.kind, pi p2.scale, .ro (eField.els p2.fields)]
abbrev qa2549 (p3 : GType) : List PV := [pi p3.kind, pi p3.scale, .ro (eField.els p3.fields)]
abbrev qa2550 : List CV := [ci (0 : Int), ci (0 : Int), .pv (.s (.slice none 0 0))]
abbrev qa2552 (e1 : GType) : List CV := [ci e1.kind, ci e1.scale, cl eField e1.fields]
abbrev qa2554 (e2 : GType) : List CV := [ci e2.kind, ci e2.scale, cl eField e2.fields]
abbrev qa2555 (r3 : (GType × Bool)) : List CV := [ci r3.1.kind, ci r3.1.scale, cl eField r3.1.fields]

theorem c_value_Result (p1 : Int) (p2 : GType) (p3 : GType) (r : (GType × Int)) (h : value_Result p1 p2 p3 = some r) : PC Tryd.prog 25 [vi p1, .ag [ci p2.kind, ci p2.scale, cl eField p2.fields], .ag [ci p3.kind, ci p3.scale, cl eField p3.fields]] (.tp [.ag [ci r.1.kind, ci r.1.scale, cl eField r.1.fields], vi r.2]) := by
 unfold value_Result at h
 refine zF 46 Tryd.f25 (zq fun K1 hK1 => zr (zg [6, 9, 11] 4 [0,4,5,6] (zd (hK1 _ _ (zq fun K2 hK2 => zq fun K3 hK3 => ?_)))))
 have hJ1 : ∀ (x1 : Bool), value_Result_j1 p1 p2 p3 x1 = some r → ∀ fr1 st1, Sub 46 0 [] fr1 st1 [(0, vi p1), (4, .one (.pv (.rp [(qa2548 p2)] 0 0))), (5, .one (.pv (.rp [(qa2549 p3)] 0 0))), (6, .one (.pt 0 0 0 0)), (18, vb x1)] [.box qa2550] → K3 fr1 st1 := by
  intro x1 h fr1 st1 hS
  unfold value_Result_j1 at h
  refine hK3 _ _ (XW.sub hS ?_)
  refine zC h (fun b5 h => ?_) (fun b5 h => ?_)
  ·refine zq fun K6 hK6 => zr (zg [6, 9, 11] 3 [6,7] (zd (hK6 _ _ (ze ?_))))
   obtain rfl := Option.some.inj h
   exact zf [.ag qa2550, vi (3 : Int)] (.tpc (.ag (.cons (.rfl _ rfl) (.cons (.rfl _ rfl) (.cons (.nl) .nil)))) (.tpc (.one (.rfl _ rfl)) (.tp0)))
  ·refine zs (hK2 _ _ (zq fun K7 hK7 => zq fun K8 hK8 => zr ?_))
   refine zv [6, 9, 11] 3 [0,4,5,6,22] [[pi p2.kind, pi p2.scale, .ro (eField.els p2.fields)], [pi p3.kind, pi p3.scale, .ro (eField.els p3.fields)]] [(0, vi p1), (4, .one (.pv (.rp [[pi p2.kind, pi p2.scale, .ro (eField.els p2.fields)]] 0 0))), (5, .one (.pv (.rp [[pi p3.kind, pi p3.scale, .ro (eField.els p3.fields)]] 0 0))), (6, .one (.pt 0 0 0 0)), (22, .one (.pv (.ro [[pi p2.kind, pi p2.scale, .ro (eField.els p2.fields)], [pi p3.kind, pi p3.scale, .ro (eField.els p3.fields)]])))] [.box [ci (0 : Int), ci (0 : Int), .pv (.s (.slice none 0 0))]] ?_
   rw [show ([[pi p2.kind, pi p2.scale, .ro (eField.els p2.fields)], [pi p3.kind, pi p3.scale, .ro (eField.els p3.fields)]] : List (List PV)) = eType.els [p2, p3] from by cases p2; cases p3; rfl]
   refine zg [6, 9, 11] 2 [0,4,5,6,22,23,24] (zd (hK8 _ _ (zb 0 (XW.rounds' 3 (x := cd Tryd.f25 [1,1,0,1,0,0]) (by kernel_rfl) fun Q1 hQ1 => XR.one (zq fun K9 hK9 => zr ?_)))))
   refine zg [6, 9, 11] 1 [0,4,5,6,22,23,24,25] (zd (hK9 _ _ (zq fun K10 hK10 => zc true (fun _ => ?_) (fun hx => by cases hx))))
   refine zs (hK10 _ _ (zq fun K11 hK11 => zb 1 (zq fun K12 hK12 => ?_)))
   obtain ⟨e1, a13, h⟩ := zB h
   refine zr ?_
   refine zp [6, 9, 11] 4 [0,4,5,6,9,22,23,24] [[pi e1.kind, pi e1.scale, .ro (eField.els e1.fields)]] [(0, vi p1), (4, .one (.pv (.rp [(qa2548 p2)] 0 0))), (5, .one (.pv (.rp [(qa2549 p3)] 0 0))), (6, .one (.pt 0 0 0 0)), (9, .one (.pt 1 0 0 0)), (22, vl eType [p2, p3]), (23, vi (2 : Int)), (24, vi (0 : Int))] [.box qa2550, .box (qa2552 e1)] [0 ≤ (0 : Int) ∧ (0 : Int) < ((eType.els [p2, p3]).length : Int) ∧ elemsOk 3 (eType.els [p2, p3]), (eType.els [p2, p3])[(0 : Int).toNat]? = some [pi e1.kind, pi e1.scale, .ro (eField.els e1.fields)]] (⟨eType.inb a13, ((eType.get a13).trans (by cases e1; rfl)), trivial⟩) ?_
   refine zd (hK12 _ _ (zq fun K14 hK14 => ?_))
   obtain ⟨r1, c15, h⟩ := zB h
   refine zr (zg [6, 9, 11] 1 [0,4,5,6,22,23,24,28] (za (c_value_CheckType _ _ c15) (zv [6, 9, 11] 1 [0,4,5,6,10,22,23,24] [] [(0, vi p1), (4, .one (.pv (.rp [(qa2548 p2)] 0 0))), (5, .one (.pv (.rp [(qa2549 p3)] 0 0))), (6, .one (.pt 0 0 0 0)), (10, vi r1), (22, vl eType [p2, p3]), (23, vi (2 : Int)), (24, vi (0 : Int))] [.box qa2550, .box (qa2552 e1)] (zd (hK14 _ _ (zq fun K16 hK16 => zr ?_))))))
   refine zg [6, 9, 11] 2 [0,4,5,6,10,22,23,24,31] (zd (hK16 _ _ (zC h (fun b17 h => ?_) (fun b17 h => ?_))))
   ·refine zq fun K18 hK18 => zr (zg [6, 9, 11] 4 [6,7] (zd (hK18 _ _ (ze (hQ1 _ _ _ ?_)))))
    obtain rfl := Option.some.inj h
    exact zf [.ag qa2550, vi r1] (.tpc (.ag (.cons (.rfl _ rfl) (.cons (.rfl _ rfl) (.cons (.nl) .nil)))) (.tpc (.one (.rfl _ rfl)) (.tp0)))
   ·refine zs (hK11 _ _ (zr (zv [6, 9, 11] 2 [0,4,5,6,22,23,24] [] [(0, vi p1), (4, .one (.pv (.rp [(qa2548 p2)] 0 0))), (5, .one (.pv (.rp [(qa2549 p3)] 0 0))), (6, .one (.pt 0 0 0 0)), (22, vl eType [p2, p3]), (23, vi (2 : Int)), (24, vi (1 : Int))] [.box qa2550, .box (qa2552 e1)] (zd (XR.one (zq fun K19 hK19 => zr ?_))))))
    refine zg [6, 9, 11] 1 [0,4,5,6,22,23,24,25] (zd (hK19 _ _ (zq fun K20 hK20 => zc true (fun _ => ?_) (fun hx => by cases hx))))
    refine zs (hK20 _ _ (zq fun K21 hK21 => zb 1 (zq fun K22 hK22 => ?_)))
    obtain ⟨e2, a23, h⟩ := zB h
    refine zr (zo [6, 9, 11] 4 [0,4,5,6,9,22,23,24] [[pi e2.kind, pi e2.scale, .ro (eField.els e2.fields)]] [0 ≤ (1 : Int) ∧ (1 : Int) < ((eType.els [p2, p3]).length : Int) ∧ elemsOk 3 (eType.els [p2, p3]), (eType.els [p2, p3])[(1 : Int).toNat]? = some [pi e2.kind, pi e2.scale, .ro (eField.els e2.fields)]] (⟨eType.inb a23, ((eType.get a23).trans (by cases e2; rfl)), trivial⟩) (zd (hK22 _ _ (zq fun K24 hK24 => ?_))))
    obtain ⟨r2, c25, h⟩ := zB h
    refine zr (zv [6, 9, 11] 1 [0,4,5,6,22,23,24,28] [] [(0, vi p1), (4, .one (.pv (.rp [(qa2548 p2)] 0 0))), (5, .one (.pv (.rp [(qa2549 p3)] 0 0))), (6, .one (.pt 0 0 0 0)), (22, vl eType [p2, p3]), (23, vi (2 : Int)), (24, vi (1 : Int)), (28, .ag (qa2554 e2))] [.box qa2550, .box (qa2552 e1), .box (qa2554 e2)] (za (c_value_CheckType _ _ c25) ?_))
    refine zg [6, 9, 11] 1 [0,4,5,6,10,22,23,24] (zd (hK24 _ _ (zq fun K26 hK26 => zr ?_)))
    refine zv [6, 9, 11] 2 [0,4,5,6,10,22,23,24,31] [] [(0, vi p1), (4, .one (.pv (.rp [(qa2548 p2)] 0 0))), (5, .one (.pv (.rp [(qa2549 p3)] 0 0))), (6, .one (.pt 0 0 0 0)), (10, vi r2), (22, vl eType [p2, p3]), (23, vi (2 : Int)), (24, vi (1 : Int)), (31, vb (r2 != (0 : Int)))] [.box qa2550, .box (qa2552 e1), .box (qa2554 e2)] (zd (hK26 _ _ (zC h (fun b27 h => ?_) (fun b27 h => ?_))))
    ·refine zq fun K28 hK28 => zr (zg [6, 9, 11] 4 [6,7] (zd (hK28 _ _ (ze (hQ1 _ _ _ ?_)))))
     obtain rfl := Option.some.inj h
     exact zf [.ag qa2550, vi r2] (.tpc (.ag (.cons (.rfl _ rfl) (.cons (.rfl _ rfl) (.cons (.nl) .nil)))) (.tpc (.one (.rfl _ rfl)) (.tp0)))
    ·refine zs (hK21 _ _ (zr (zv [6, 9, 11] 2 [0,4,5,6,22,23,24] [] [(0, vi p1), (4, .one (.pv (.rp [(qa2548 p2)] 0 0))), (5, .one (.pv (.rp [(qa2549 p3)] 0 0))), (6, .one (.pt 0 0 0 0)), (22, vl eType [p2, p3]), (23, vi (2 : Int)), (24, vi (2 : Int))] [.box qa2550, .box (qa2552 e1), .box (qa2554 e2)] (zd (XR.one (zq fun K29 hK29 => zr ?_))))))
     refine zg [6, 9, 11] 1 [0,4,5,6,22,23,24,25] (zd (hK29 _ _ (zq fun K30 hK30 => zc false (fun hx => by cases hx) (fun _ => ?_))))
     refine zx 0 (hQ1 _ _ _ (hK7 _ _ (zq fun K31 hK31 => ?_)))
     obtain ⟨r3, c32, h⟩ := zB h
     refine zr (zu [6, 9, 11] 3 [6,36,37,38] [(qa2548 p2), (qa2549 p3)] ?_)
     refine zl 59 [vi p1, .ag [ci p2.kind, ci p2.scale, cl eField p2.fields], .ag [ci p3.kind, ci p3.scale, cl eField p3.fields]] (.tp [.ag (qa2555 r3), vb r3.2]) [(39, .tp [.ag (qa2555 r3), vb r3.2]), (6, .one (.pt 0 0 0 0)), (36, vi p1), (37, .ag [ci p2.kind, ci p2.scale, cl eField p2.fields]), (38, .ag [ci p3.kind, ci p3.scale, cl eField p3.fields])] (c_value_result _ _ _ _ c32) (zg [6, 9, 11] 6 [6,11,12] (zd (hK31 _ _ (zq fun K33 hK33 => zq fun K34 hK34 => zr (zg [6, 9, 11] 2 [6,11,43] ?_)))))
     refine zd (hK34 _ _ (zC h (fun b35 h => ?_) (fun b35 h => ?_)))
     ·refine zq fun K36 hK36 => zr (zv [6, 9, 11] 3 [6,7] [] [(6, .one (.pt 0 0 0 0)), (7, vi (2 : Int))] [.box qa2550, .box (qa2552 e1), .box (qa2554 e2), .box (qa2555 r3)] (zd (hK36 _ _ (ze ?_))))
      obtain rfl := Option.some.inj h
      exact zf [.ag qa2550, vi (2 : Int)] (.tpc (.ag (.cons (.rfl _ rfl) (.cons (.rfl _ rfl) (.cons (.nl) .nil)))) (.tpc (.one (.rfl _ rfl)) (.tp0)))
     ·refine zs (hK33 _ _ (zq fun K37 hK37 => zr (zg [6, 9, 11] 3 [6,7] (zd (hK37 _ _ (ze ?_))))))
      obtain rfl := Option.some.inj h
      exact zf [.ag (qa2555 r3), vi (0 : Int)] (.tpc (.ag (.cons (.rfl _ rfl) (.cons (.rfl _ rfl) (.cons (.rfl _ rfl) .nil)))) (.tpc (.one (.rfl _ rfl)) (.tp0)))
 rcases zW h with ⟨b4, h⟩ | ⟨b4, h⟩
 ·exact zr (zg [6, 9, 11] 3 [0,4,5,6,15] (zt 15 b4 (zv [6, 9, 11] 3 [0,4,5,6,18] [] [(0, vi p1), (4, .one (.pv (.rp [(qa2548 p2)] 0 0))), (5, .one (.pv (.rp [(qa2549 p3)] 0 0))), (6, .one (.pt 0 0 0 0)), (18, vb true)] [.box qa2550] (zd (hJ1 true h _ _ (zk [0,4,5,6,18]))))))
 ·exact zr (zg [6, 9, 11] 3 [0,4,5,6,15] (zt 15 b4 (zg [6, 9, 11] 3 [0,4,5,6,18] (zd (hJ1 (decide ((7 : Int) < p1)) h _ _ (zk [0,4,5,6,18]))))))

def ref1_Leaf_j1 (x1 : Bool) : Option Bool :=
    some x1

def ref1_Leaf (p1 : Int) : Option Bool :=
    ift (p1 != (6 : Int))
      (ref1_Leaf_j1 (p1 != (7 : Int)))
      (ref1_Leaf_j1 false)


theorem c_ref1_Leaf (p1 : Int) (r : Bool) (h : ref1_Leaf p1 = some r) : PC Tryd.prog 73 [vi p1] (vb r) := by
 unfold ref1_Leaf at h
 refine zF 9 Tryd.f73 (zq fun K1 hK1 => zr (zg [] 1 [0] (zd (hK1 _ _ (zq fun K2 hK2 => ?_)))))
 have hJ1 : ∀ (x1 : Bool), ref1_Leaf_j1 x1 = some r → ∀ fr1 st1, Sub 9 0 [] fr1 st1 [(2, vb x1)] [] → K2 fr1 st1 := by
  intro x1 h fr1 st1 hS
  unfold ref1_Leaf_j1 at h
  refine hK2 _ _ (XW.sub hS ?_)
  refine ze ?_
  obtain rfl := Option.some.inj h
  exact zf [vb x1] (.one (.rfl _ rfl))
 rcases zW h with ⟨b3, h⟩ | ⟨b3, h⟩
 ·exact zr (zg [] 3 [0,5] (zt 5 b3 (zv [] 4 [2] [] [(2, vb (p1 != (7 : Int)))] [] (zd (hJ1 (p1 != (7 : Int)) h _ _ (zk [2]))))))
 ·exact zr (zg [] 3 [0,5] (zt 5 b3 (zg [] 4 [2] (zd (hJ1 false h _ _ (zk [2]))))))

def ref1_Name_j4 (rec1 : Int → Option Bool) (x2 : Int) (x5 : Bool) : Option Bool :=
    ift x5
      (some false)
      (rec1 (IntKind.i64.wrap (x2 + (1 : Int))))

def ref1_Name_j3 (rec1 : Int → Option Bool) (x2 : Int) (x3 : Bool) (x4 : Bool) : Option Bool :=
    ift (!x3)
      (ift (x2 == (0 : Int))
         (ref1_Name_j4 rec1 x2 true)
         (ref1_Name_j4 rec1 x2 (!x4)))
      (ref1_Name_j4 rec1 x2 false)

def ref1_Name_j2 (rec1 : Int → Option Bool) (p1 : ByteArray) (x2 : Int) (x3 : Bool) : Option Bool :=
    grd (0 ≤ x2 ∧ x2 < (p1.size : Int)) <|
    ift (((p1.data.toList.getD x2.toNat 0).toNat : Int) == (95 : Int))
      (ref1_Name_j3 rec1 x2 x3 true)
      (grd (0 ≤ x2 ∧ x2 < (p1.size : Int)) <|
       bnd (some (decide ((48 : Int) ≤ ((p1.data.toList.getD x2.toNat 0).toNat : Int)))) fun y3 =>
       ift y3
         (grd (0 ≤ x2 ∧ x2 < (p1.size : Int)) <|
          bnd (some (decide (((p1.data.toList.getD x2.toNat 0).toNat : Int) ≤ (57 : Int)))) fun y4 =>
          ref1_Name_j3 rec1 x2 x3 y4)
         (ref1_Name_j3 rec1 x2 x3 false))

def ref1_Name_j5 : Option Bool :=
    some true

def ref1_Name_l1 (p1 : ByteArray) : Nat → Int → Option Bool
  | 0, _ => none
  | k1 + 1, x2 =>
    ift (decide (x2 < (p1.size : Int)))
      (grd (0 ≤ x2 ∧ x2 < (p1.size : Int)) <|
       bnd (some (decide ((97 : Int) ≤ ((p1.data.toList.getD x2.toNat 0).toNat : Int)))) fun y1 =>
       ift y1
         (grd (0 ≤ x2 ∧ x2 < (p1.size : Int)) <|
          bnd (some (decide (((p1.data.toList.getD x2.toNat 0).toNat : Int) ≤ (122 : Int)))) fun y2 =>
          ref1_Name_j2 (ref1_Name_l1 p1 k1) p1 x2 y2)
         (ref1_Name_j2 (ref1_Name_l1 p1 k1) p1 x2 false))
      (ref1_Name_j5)

def ref1_Name_j1 (p1 : ByteArray) (x1 : Bool) : Option Bool :=
    ift x1
      (some false)
      (ref1_Name_l1 p1 BIG (0 : Int))

def ref1_Name (p1 : ByteArray) : Option Bool :=
    ift (decide ((p1.size : Int) < (1 : Int)))
      (ref1_Name_j1 p1 true)
      (ref1_Name_j1 p1 (decide ((24 : Int) < (p1.size : Int))))


theorem c_ref1_Name (p1 : ByteArray) (r : Bool) (h : ref1_Name p1 = some r) : PC Tryd.prog 131 [vs p1] (vb r) := by
 unfold ref1_Name at h
 refine zF 56 Tryd.f131 (zq fun K1 hK1 => zr (zg [] 1 [0] (zd (hK1 _ _ (zq fun K2 hK2 => zq fun K3 hK3 => ?_)))))
 have hJ1 : ∀ (x1 : Bool), ref1_Name_j1 p1 x1 = some r → ∀ fr1 st1, Sub 56 0 [] fr1 st1 [(0, vs p1), (13, vb x1)] [] → K3 fr1 st1 := by
  intro x1 h fr1 st1 hS
  unfold ref1_Name_j1 at h
  refine hK3 _ _ (XW.sub hS ?_)
  refine zC h (fun b5 h => ?_) (fun b5 h => ?_)
  ·refine zq fun K6 hK6 => zr (zg [] 1 [2] (zd (hK6 _ _ (ze ?_))))
   obtain rfl := Option.some.inj h
   exact zf [vb false] (.one (.rfl _ rfl))
  ·refine zs (hK2 _ _ (zq fun K7 hK7 => ?_))
   have hJ5 : ∀ (_ : Unit), ref1_Name_j5 = some r → ∀ fr1 st1, Sub 56 0 [] fr1 st1 [] [] → K7 fr1 st1 := by
    intro _ h fr1 st1 hS
    unfold ref1_Name_j5 at h
    refine hK7 _ _ (XW.sub hS ?_)
    refine zq fun K32 hK32 => zr (zg [] 1 [2] (zd (hK32 _ _ (ze ?_))))
    obtain rfl := Option.some.inj h
    exact zf [vb true] (.one (.rfl _ rfl))
   refine zq fun K8 hK8 => zr (zg [] 1 [0,3] (zd (hK8 _ _ (zb 0 (XW.rounds' BIG (x := cd Tryd.f131 [1,1,0,1,0,0]) (by kernel_rfl) fun Q1 hQ1 => ?_)))))
   have hL1 : ∀ (k1 : Nat) (x2 : Int), ref1_Name_l1 p1 k1 x2 = some r → XR Tryd.prog 56 0 [] (cd Tryd.f131 [1,1,0,1,0,0]) Q1 k1 [(0, vs p1), (3, vi x2)] [] := by
    intro k1
    induction k1 with
    | zero => intro x2 h; rw [ref1_Name_l1.eq_1] at h; cases h
    | succ k1 ih1 =>
     intro x2 h
     rw [ref1_Name_l1.eq_2] at h
     refine zq fun K9 hK9 => zq fun K10 hK10 => zr (zg [] 4 [0,3,17] (zd (hK10 _ _ (zC h (fun b11 h => ?_) (fun b11 h => ?_)))))
     ·refine zs (hK9 _ _ (zq fun K12 hK12 => zb 1 (zq fun K13 hK13 => ?_)))
      have hJ2 : ∀ (x3 : Bool), ref1_Name_j2 (ref1_Name_l1 p1 k1) p1 x2 x3 = some r → ∀ fr1 st1, Sub 56 0 [] fr1 st1 [(0, vs p1), (3, vi x2), (4, vb x3)] [] → K13 fr1 st1 := by
       intro x3 h fr1 st1 hS
       unfold ref1_Name_j2 at h
       refine hK13 _ _ (XW.sub hS ?_)
       refine zq fun K19 hK19 => ?_
       have hJ3 : ∀ (x4 : Bool), ref1_Name_j3 (ref1_Name_l1 p1 k1) x2 x3 x4 = some r → ∀ fr1 st1, Sub 56 0 [] fr1 st1 [(0, vs p1), (3, vi x2), (4, vb x3), (5, vb x4)] [] → K19 fr1 st1 := by
        intro x4 h fr1 st1 hS
        unfold ref1_Name_j3 at h
        refine hK19 _ _ (XW.sub hS ?_)
        refine zq fun K27 hK27 => ?_
        have hJ4 : ∀ (x5 : Bool), ref1_Name_j4 (ref1_Name_l1 p1 k1) x2 x5 = some r → ∀ fr1 st1, Sub 56 0 [] fr1 st1 [(0, vs p1), (3, vi x2), (55, vb x5)] [] → K27 fr1 st1 := by
         intro x5 h fr1 st1 hS
         unfold ref1_Name_j4 at h
         refine hK27 _ _ (XW.sub hS ?_)
         refine zC h (fun b30 h => ?_) (fun b30 h => ?_)
         ·refine zq fun K31 hK31 => zr (zg [] 1 [2] (zd (hK31 _ _ (ze (hQ1 _ _ _ ?_)))))
          obtain rfl := Option.some.inj h
          exact zf [vb false] (.one (.rfl _ rfl))
         ·exact zs (hK12 _ _ (zr (zg [] 3 [0,3] (zd (XR.sub (zk [0,3]) (ih1 (IntKind.i64.wrap (x2 + (1 : Int))) h))))))
        rcases zW h with ⟨b28, h⟩ | ⟨b28, h⟩
        ·rcases zW h with ⟨b29, h⟩ | ⟨b29, h⟩
         ·exact zr (zg [] 3 [0,3,5,48] (zt 48 b28 (zg [] 3 [0,3,5,48,51] (zt 51 b29 (zv [] 4 [0,3,55] [] [(0, vs p1), (3, vi x2), (55, vb true)] [] (zd (hJ4 true h _ _ (zk [0,3,55]))))))))
         ·exact zr (zg [] 3 [0,3,5,48] (zt 48 b28 (zg [] 3 [0,3,5,48,51] (zt 51 b29 (zv [] 4 [0,3,55] [] [(0, vs p1), (3, vi x2), (55, vb (!x4))] [] (zd (hJ4 (!x4) h _ _ (zk [0,3,55]))))))))
        ·exact zr (zg [] 3 [0,3,5,48] (zt 48 b28 (zg [] 7 [0,3,55] (zd (hJ4 false h _ _ (zk [0,3,55]))))))
       obtain ⟨g20, h⟩ := zG h
       rcases zW h with ⟨b21, h⟩ | ⟨b21, h⟩
       ·exact zr (zo [] 5 [0,3,4,34] [] [0 ≤ x2 ∧ x2 < (p1.size : Int)] (⟨g20, trivial⟩) (zt 34 b21 (zg [] 12 [0,3,4,5] (zd (hJ3 true h _ _ (zk [0,3,4,5]))))))
       ·obtain ⟨g22, h⟩ := zG h
        obtain ⟨y3, hy23, h⟩ := zB h
        rcases zW h with ⟨b24, h⟩ | ⟨b24, h⟩
        ·obtain ⟨g25, h⟩ := zG h
         obtain ⟨y4, hy26, h⟩ := zB h
         refine zr (zp [] 5 [0,3,4,34] [] [(0, vs p1), (3, vi x2), (4, vb x3), (34, vb (((p1.data.toList.getD x2.toNat 0).toNat : Int) == (95 : Int)))] [] [0 ≤ x2 ∧ x2 < (p1.size : Int)] (⟨g20, trivial⟩) (zt 34 b21 (zp [] 4 [0,3,4,34,38] [] [(0, vs p1), (3, vi x2), (4, vb x3), (34, vb false), (38, vb (decide ((48 : Int) ≤ ((p1.data.toList.getD x2.toNat 0).toNat : Int))))] [] [0 ≤ x2 ∧ x2 < (p1.size : Int)] (⟨g22, trivial⟩) ?_)))
         rw [show (decide ((48 : Int) ≤ ((p1.data.toList.getD x2.toNat 0).toNat : Int))) = y3 from Option.some.inj hy23]
         refine zg [] 1 [0,3,4,34,39] (zt 39 b24 (zp [] 4 [0,3,4,34,39,43] [] [(0, vs p1), (3, vi x2), (4, vb x3), (34, vb false), (39, vb true), (43, vb (decide (((p1.data.toList.getD x2.toNat 0).toNat : Int) ≤ (57 : Int))))] [] [0 ≤ x2 ∧ x2 < (p1.size : Int)] (⟨g25, trivial⟩) ?_))
         rw [show (decide (((p1.data.toList.getD x2.toNat 0).toNat : Int) ≤ (57 : Int))) = y4 from Option.some.inj hy26]
         exact zg [] 3 [0,3,4,5] (zd (hJ3 y4 h _ _ (zk [0,3,4,5])))
        ·refine zr (zo [] 5 [0,3,4,34] [] [0 ≤ x2 ∧ x2 < (p1.size : Int)] (⟨g20, trivial⟩) (zt 34 b21 (zp [] 4 [0,3,4,34,38] [] [(0, vs p1), (3, vi x2), (4, vb x3), (34, vb false), (38, vb (decide ((48 : Int) ≤ ((p1.data.toList.getD x2.toNat 0).toNat : Int))))] [] [0 ≤ x2 ∧ x2 < (p1.size : Int)] (⟨g22, trivial⟩) ?_)))
         rw [show (decide ((48 : Int) ≤ ((p1.data.toList.getD x2.toNat 0).toNat : Int))) = y3 from Option.some.inj hy23]
         exact zg [] 1 [0,3,4,34,39] (zt 39 b24 (zg [] 7 [0,3,4,5] (zd (hJ3 false h _ _ (zk [0,3,4,5])))))
      obtain ⟨g14, h⟩ := zG h
      obtain ⟨y1, hy15, h⟩ := zB h
      rcases zW h with ⟨b16, h⟩ | ⟨b16, h⟩
      ·obtain ⟨g17, h⟩ := zG h
       obtain ⟨y2, hy18, h⟩ := zB h
       refine zr (zp [] 4 [0,3,23] [] [(0, vs p1), (3, vi x2), (23, vb (decide ((97 : Int) ≤ ((p1.data.toList.getD x2.toNat 0).toNat : Int))))] [] [0 ≤ x2 ∧ x2 < (p1.size : Int)] (⟨g14, trivial⟩) ?_)
       rw [show (decide ((97 : Int) ≤ ((p1.data.toList.getD x2.toNat 0).toNat : Int))) = y1 from Option.some.inj hy15]
       refine zg [] 1 [0,3,24] (zt 24 b16 (zp [] 4 [0,3,24,28] [] [(0, vs p1), (3, vi x2), (24, vb true), (28, vb (decide (((p1.data.toList.getD x2.toNat 0).toNat : Int) ≤ (122 : Int))))] [] [0 ≤ x2 ∧ x2 < (p1.size : Int)] (⟨g17, trivial⟩) ?_))
       rw [show (decide (((p1.data.toList.getD x2.toNat 0).toNat : Int) ≤ (122 : Int))) = y2 from Option.some.inj hy18]
       exact zg [] 2 [0,3,4] (zd (hJ2 y2 h _ _ (zk [0,3,4])))
      ·refine zr (zp [] 4 [0,3,23] [] [(0, vs p1), (3, vi x2), (23, vb (decide ((97 : Int) ≤ ((p1.data.toList.getD x2.toNat 0).toNat : Int))))] [] [0 ≤ x2 ∧ x2 < (p1.size : Int)] (⟨g14, trivial⟩) ?_)
       rw [show (decide ((97 : Int) ≤ ((p1.data.toList.getD x2.toNat 0).toNat : Int))) = y1 from Option.some.inj hy15]
       exact zg [] 1 [0,3,24] (zt 24 b16 (zg [] 6 [0,3,4] (zd (hJ2 false h _ _ (zk [0,3,4])))))
     ·exact zx 0 (hQ1 _ _ _ (hJ5 () h _ _ (zk [])))
   exact XR.sub (zk [0,3]) (hL1 BIG (0 : Int) h)
 rcases zW h with ⟨b4, h⟩ | ⟨b4, h⟩
 ·exact zr (zg [] 4 [0,9] (zt 9 b4 (zv [] 4 [0,13] [] [(0, vs p1), (13, vb true)] [] (zd (hJ1 true h _ _ (zk [0,13]))))))
 ·exact zr (zg [] 4 [0,9] (zt 9 b4 (zg [] 4 [0,13] (zd (hJ1 (decide ((24 : Int) < (p1.size : Int))) h _ _ (zk [0,13]))))))

def ref1_shape_j5 (rec2 : Int → Option Int) (x5 : Int) : Option Int :=
    rec2 (IntKind.i64.wrap (x5 + (1 : Int)))

def ref1_shape_l3 (rec2 : Int → Option Int) (p1 : GType) (x5 : Int) : Nat → Int → Option Int
  | 0, _ => none
  | k3 + 1, x6 =>
    ift (decide (x6 < x5))
      (bnd (at? p1.fields x6) fun e3 =>
       bnd (at? p1.fields x5) fun e4 =>
       ift (e3.name.toList == e4.name.toList)
         (some (5 : Int))
         ((ref1_shape_l3 rec2 p1 x5 k3) (IntKind.i64.wrap (x6 + (1 : Int)))))
      (ref1_shape_j5 rec2 x5)

def ref1_shape_j6 : Option Int :=
    some (0 : Int)

def ref1_shape_l2 (p1 : GType) : Nat → Int → Option Int
  | 0, _ => none
  | k2 + 1, x5 =>
    ift (decide (x5 < (p1.fields.length : Int)))
      (ref1_shape_l3 (ref1_shape_l2 p1 k2) p1 x5 BIG (0 : Int))
      (ref1_shape_j6)

def ref1_shape_j4 (p1 : GType) : Option Int :=
    ref1_shape_l2 p1 BIG (0 : Int)

def ref1_shape_l1 (p1 : GType) : Nat → Int → Option Int
  | 0, _ => none
  | k1 + 1, x4 =>
    ift (decide (x4 < (p1.fields.length : Int)))
      (bnd (at? p1.fields x4) fun e2 =>
       bnd (ref1_Name e2.name) fun r5 =>
       ift (!r5)
         (some (4 : Int))
         ((ref1_shape_l1 p1 k1) (IntKind.i64.wrap (x4 + (1 : Int)))))
      (ref1_shape_j4 p1)

def ref1_shape_j3 (p1 : GType) (x3 : Bool) : Option Int :=
    ift x3
      (some (1 : Int))
      (ift (p1.kind != (7 : Int))
         (some (0 : Int))
         (ref1_shape_l1 p1 BIG (0 : Int)))

def ref1_shape_j2 (p1 : GType) (x2 : Bool) : Option Int :=
    ift x2
      (some (1 : Int))
      (ift (p1.kind == (7 : Int))
         (ift ((p1.fields.length : Int) == (0 : Int))
            (ref1_shape_j3 p1 true)
            (bnd (ref1_Leaf p1.kind) fun r3 =>
             ift r3
               (ref1_shape_j3 p1 (decide ((0 : Int) < (p1.fields.length : Int))))
               (ref1_shape_j3 p1 false)))
         (bnd (ref1_Leaf p1.kind) fun r4 =>
          ift r4
            (ref1_shape_j3 p1 (decide ((0 : Int) < (p1.fields.length : Int))))
            (ref1_shape_j3 p1 false)))

def ref1_shape_j1 (p1 : GType) (x1 : Bool) : Option Int :=
    ift x1
      (some (1 : Int))
      (ift (p1.kind == (6 : Int))
         (ift ((p1.fields.length : Int) != (1 : Int))
            (ref1_shape_j2 p1 true)
            (bnd (at? p1.fields (0 : Int)) fun e1 =>
             ref1_shape_j2 p1 (!(e1.name.toList == (ByteArray.mk #[]).toList))))
         (ref1_shape_j2 p1 false))

def ref1_shape (p1 : GType) : Option Int :=
    bnd (ref1_within p1.kind (1 : Int) (7 : Int)) fun r1 =>
    ift (!r1)
      (some (3 : Int))
      (ift (p1.kind == (3 : Int))
         (bnd (ref1_within p1.scale (0 : Int) (12 : Int)) fun r2 =>
          ift (!r2)
            (ref1_shape_j1 p1 true)
            (ift (p1.kind != (3 : Int))
               (ref1_shape_j1 p1 (p1.scale != (0 : Int)))
               (ref1_shape_j1 p1 false)))
         (ift (p1.kind != (3 : Int))
            (ref1_shape_j1 p1 (p1.scale != (0 : Int)))
            (ref1_shape_j1 p1 false)))

abbrev qa2581 (p1 : GType) : List PV := [pi p1.kind, pi p1.scale, .ro (eField.els p1.fields)]
abbrev qa2583 (e3 : GField) : List PV := [pi e3.id, .s (.string e3.name), .s (.bool e3.need), pi e3.type.kind, pi e3.type.scale, .ro (eField.els e3.type.fields)]
abbrev qa2584 (e4 : GField) : List PV := [pi e4.id, .s (.string e4.name), .s (.bool e4.need), pi e4.type.kind, pi e4.type.scale, .ro (eField.els e4.type.fields)]
abbrev qa2586 (e2 : GField) : List PV := [pi e2.id, .s (.string e2.name), .s (.bool e2.need), pi e2.type.kind, pi e2.type.scale, .ro (eField.els e2.type.fields)]
abbrev qa2588 (e1 : GField) : List PV := [pi e1.id, .s (.string e1.name), .s (.bool e1.need), pi e1.type.kind, pi e1.type.scale, .ro (eField.els e1.type.fields)]
abbrev qa2603 (p1 : GType) : Fr := [(1, .one (.pv (.rp [(qa2581 p1)] 0 0))), (13, vb (p1.kind == (3 : Int)))]
abbrev qa2606 (p1 : GType) : Fr := [(1, .one (.pv (.rp [(qa2581 p1)] 0 0))), (19, vb false), (23, vb (p1.kind != (3 : Int)))]

theorem c_ref1_shape (p1 : GType) (r : Int) (h : ref1_shape p1 = some r) : PC Tryd.prog 118 [.ag [ci p1.kind, ci p1.scale, cl eField p1.fields]] (vi r) := by
 unfold ref1_shape at h
 refine zF 109 Tryd.f118 (zq fun K1 hK1 => zr (zg [] 2 [1] (zd (hK1 _ _ (zq fun K2 hK2 => zq fun K3 hK3 => ?_)))))
 obtain ⟨r1, c4, h⟩ := zB h
 refine zr (zu [] 2 [1,7] [(qa2581 p1)] (zl 68 [vi p1.kind, vi (1 : Int), vi (7 : Int)] (vb r1) [(8, vb r1), (1, .one (.pv (.rp [(qa2581 p1)] 0 0))), (7, vi p1.kind)] (c_ref1_within _ _ _ _ c4) (zg [] 1 [1,9] (zd (hK3 _ _ (zC h (fun b5 h => ?_) (fun b5 h => ?_)))))))
 ·refine zq fun K6 hK6 => zr (zg [] 1 [2] (zd (hK6 _ _ (ze ?_))))
  obtain rfl := Option.some.inj h
  exact zf [vi (3 : Int)] (.one (.rfl _ rfl))
 ·refine zs (hK2 _ _ (zq fun K7 hK7 => zq fun K8 hK8 => ?_))
  have hJ1 : ∀ (x1 : Bool), ref1_shape_j1 p1 x1 = some r → ∀ fr1 st1, Sub 109 0 [] fr1 st1 [(1, .one (.pv (.rp [(qa2581 p1)] 0 0))), (28, vb x1)] [] → K8 fr1 st1 := by
   intro x1 h fr1 st1 hS
   unfold ref1_shape_j1 at h
   refine hK8 _ _ (XW.sub hS ?_)
   refine zC h (fun b14 h => ?_) (fun b14 h => ?_)
   ·refine zq fun K15 hK15 => zr (zg [] 1 [2] (zd (hK15 _ _ (ze ?_))))
    obtain rfl := Option.some.inj h
    exact zf [vi (1 : Int)] (.one (.rfl _ rfl))
   ·refine zs (hK7 _ _ (zq fun K16 hK16 => zq fun K17 hK17 => ?_))
    have hJ2 : ∀ (x2 : Bool), ref1_shape_j2 p1 x2 = some r → ∀ fr1 st1, Sub 109 0 [] fr1 st1 [(1, .one (.pv (.rp [(qa2581 p1)] 0 0))), (45, vb x2)] [] → K17 fr1 st1 := by
     intro x2 h fr1 st1 hS
     unfold ref1_shape_j2 at h
     refine hK17 _ _ (XW.sub hS ?_)
     refine zC h (fun b21 h => ?_) (fun b21 h => ?_)
     ·refine zq fun K22 hK22 => zr (zg [] 1 [2] (zd (hK22 _ _ (ze ?_))))
      obtain rfl := Option.some.inj h
      exact zf [vi (1 : Int)] (.one (.rfl _ rfl))
     ·refine zs (hK16 _ _ (zq fun K23 hK23 => zq fun K24 hK24 => ?_))
      have hJ3 : ∀ (x3 : Bool), ref1_shape_j3 p1 x3 = some r → ∀ fr1 st1, Sub 109 0 [] fr1 st1 [(1, .one (.pv (.rp [(qa2581 p1)] 0 0))), (65, vb x3)] [] → K24 fr1 st1 := by
       intro x3 h fr1 st1 hS
       unfold ref1_shape_j3 at h
       refine hK24 _ _ (XW.sub hS ?_)
       refine zC h (fun b31 h => ?_) (fun b31 h => ?_)
       ·refine zq fun K32 hK32 => zr (zg [] 1 [2] (zd (hK32 _ _ (ze ?_))))
        obtain rfl := Option.some.inj h
        exact zf [vi (1 : Int)] (.one (.rfl _ rfl))
       ·refine zs (hK23 _ _ (zq fun K33 hK33 => zq fun K34 hK34 => zr (zu [] 3 [1,68] [(qa2581 p1)] (zd (hK34 _ _ ?_)))))
        refine zC h (fun b35 h => ?_) (fun b35 h => ?_)
        ·refine zq fun K36 hK36 => zr (zv [] 1 [2] [] [(2, vi (0 : Int))] [] (zd (hK36 _ _ (ze ?_))))
         obtain rfl := Option.some.inj h
         exact zf [vi (0 : Int)] (.one (.rfl _ rfl))
        ·refine zs (hK33 _ _ (zq fun K37 hK37 => ?_))
         have hJ4 : ∀ (_ : Unit), ref1_shape_j4 p1 = some r → ∀ fr1 st1, Sub 109 0 [] fr1 st1 [(1, .one (.pv (.rp [(qa2581 p1)] 0 0)))] [] → K37 fr1 st1 := by
          intro _ h fr1 st1 hS
          unfold ref1_shape_j4 at h
          refine hK37 _ _ (XW.sub hS ?_)
          refine zq fun K49 hK49 => ?_
          have hJ6 : ∀ (_ : Unit), ref1_shape_j6 = some r → ∀ fr1 st1, Sub 109 0 [] fr1 st1 [] [] → K49 fr1 st1 := by
           intro _ h fr1 st1 hS
           unfold ref1_shape_j6 at h
           refine hK49 _ _ (XW.sub hS ?_)
           refine zq fun K66 hK66 => zr (zg [] 1 [2] (zd (hK66 _ _ (ze ?_))))
           obtain rfl := Option.some.inj h
           exact zf [vi (0 : Int)] (.one (.rfl _ rfl))
          refine zq fun K50 hK50 => zr (zv [] 3 [1,86] [[pi p1.kind, pi p1.scale, .ro (eField.els p1.fields)]] [(1, .one (.pv (.rp [[pi p1.kind, pi p1.scale, .ro (eField.els p1.fields)]] 0 0))), (86, vi ((eField.els p1.fields).length : Int))] [] ?_)
          rw [eField.len p1.fields]
          refine zg [] 1 [1,86,87] (zd (hK50 _ _ (zb 2 (XW.rounds' BIG (x := cd Tryd.f118 [1,1,1,1,1,1,1,0,1,0,0]) (by kernel_rfl) fun Q2 hQ2 => ?_))))
          have hL2 : ∀ (k2 : Nat) (x5 : Int), ref1_shape_l2 p1 k2 x5 = some r → XR Tryd.prog 109 0 [] (cd Tryd.f118 [1,1,1,1,1,1,1,0,1,0,0]) Q2 k2 [(1, .one (.pv (.rp [(qa2581 p1)] 0 0))), (86, vi (p1.fields.length : Int)), (87, vi x5)] [] := by
           intro k2
           induction k2 with
           | zero => intro x5 h; rw [ref1_shape_l2.eq_1] at h; cases h
           | succ k2 ih2 =>
            intro x5 h
            rw [ref1_shape_l2.eq_2] at h
            refine zq fun K51 hK51 => zr (zg [] 1 [1,86,87,88] (zd (hK51 _ _ (zq fun K52 hK52 => zC h (fun b53 h => ?_) (fun b53 h => ?_)))))
            ·refine zs (hK52 _ _ (zq fun K54 hK54 => ?_))
             have hJ5 : ∀ (_ : Unit), ref1_shape_j5 (ref1_shape_l2 p1 k2) x5 = some r → ∀ fr1 st1, Sub 109 0 [] fr1 st1 [(1, .one (.pv (.rp [(qa2581 p1)] 0 0))), (86, vi (p1.fields.length : Int)), (87, vi x5)] [] → K54 fr1 st1 := by
              intro _ h fr1 st1 hS
              unfold ref1_shape_j5 at h
              refine hK54 _ _ (XW.sub hS ?_)
              exact zr (zg [] 2 [1,86,87] (zd (XR.sub (zk [1,86,87]) (ih2 (IntKind.i64.wrap (x5 + (1 : Int))) h))))
             refine zb 3 (zq fun K55 hK55 => zr (zg [] 2 [1,4,86,87] (zd (hK55 _ _ (zq fun K56 hK56 => zr ?_)))))
             refine zv [] 1 [1,4,5,86,87] [] [(1, .one (.pv (.rp [[pi p1.kind, pi p1.scale, .ro (eField.els p1.fields)]] 0 0))), (4, vi x5), (5, vi (0 : Int)), (86, vi (p1.fields.length : Int)), (87, vi x5)] [] (zd (hK56 _ _ (zb 4 (XW.rounds' BIG (x := cd Tryd.f118 [1,1,1,1,1,1,1,0,1,0,0,1,1,0,0,1,1,0,0]) (by kernel_rfl) fun Q3 hQ3 => ?_))))
             have hL3 : ∀ (k3 : Nat) (x6 : Int), ref1_shape_l3 (ref1_shape_l2 p1 k2) p1 x5 k3 x6 = some r → XR Tryd.prog 109 0 [] (cd Tryd.f118 [1,1,1,1,1,1,1,0,1,0,0,1,1,0,0,1,1,0,0]) Q3 k3 [(1, .one (.pv (.rp [(qa2581 p1)] 0 0))), (4, vi x5), (5, vi x6), (86, vi (p1.fields.length : Int)), (87, vi x5)] [] := by
              intro k3
              induction k3 with
              | zero => intro x6 h; rw [ref1_shape_l3.eq_1] at h; cases h
              | succ k3 ih3 =>
               intro x6 h
               rw [ref1_shape_l3.eq_2] at h
               refine zq fun K57 hK57 => zq fun K58 hK58 => zr (zg [] 3 [1,4,5,86,87,92] (zd (hK58 _ _ (zC h (fun b59 h => ?_) (fun b59 h => ?_)))))
               ·refine zs (hK57 _ _ (zq fun K60 hK60 => zb 5 (zq fun K61 hK61 => ?_)))
                obtain ⟨e3, a62, h⟩ := zB h
                obtain ⟨e4, a63, h⟩ := zB h
                refine zw 12 [(106, vs e4.name), (105, .one (.pv (.rp (eField.els p1.fields) x5.toNat 1))), (104, .one (.pv (.rp (eField.els p1.fields) x5.toNat 0))), (103, vi x5), (102, vl eField p1.fields), (101, .one (.pv (.rp [(qa2581 p1)] 0 2))), (100, vs e3.name), (99, .one (.pv (.rp (eField.els p1.fields) x6.toNat 1))), (98, .one (.pv (.rp (eField.els p1.fields) x6.toNat 0))), (97, vi x6), (96, vl eField p1.fields), (95, .one (.pv (.rp [(qa2581 p1)] 0 2))), (1, .one (.pv (.rp [(qa2581 p1)] 0 0))), (4, vi x5), (5, vi x6), (86, vi (p1.fields.length : Int)), (87, vi x5), (92, vb (decide (x6 < x5)))] ?_ ?_
                ·refine zyo 12 [(qa2581 p1), (qa2583 e3), (qa2581 p1), (qa2584 e4)] [([(qa2581 p1)] : List (List PV))[0]? = some (qa2581 p1), 0 ≤ x6 ∧ x6 < ((eField.els p1.fields).length : Int) ∧ elemsOk 6 (eField.els p1.fields), (eField.els p1.fields)[x6.toNat]? = some (qa2583 e3), ([(qa2581 p1)] : List (List PV))[0]? = some (qa2581 p1), 0 ≤ x5 ∧ x5 < ((eField.els p1.fields).length : Int) ∧ elemsOk 6 (eField.els p1.fields), (eField.els p1.fields)[x5.toNat]? = some (qa2584 e4)] (⟨rfl, eField.inb a62, ((eField.get a62).trans (by rcases e3 with ⟨_, _, _, ⟨_, _, _⟩⟩; rfl)), rfl, eField.inb a63, ((eField.get a63).trans (by rcases e4 with ⟨_, _, _, ⟨_, _, _⟩⟩; rfl)), trivial⟩) ?_
                 exact zyd
                refine zg [] 1 [1,4,5,86,87,107] (zd (hK61 _ _ (zC h (fun b64 h => ?_) (fun b64 h => ?_))))
                ·refine zq fun K65 hK65 => zr (zv [] 1 [2] [] [(2, vi (5 : Int))] [] (zd (hK65 _ _ (ze (hQ3 _ _ _ (hQ2 _ _ _ ?_))))))
                 obtain rfl := Option.some.inj h
                 exact zf [vi (5 : Int)] (.one (.rfl _ rfl))
                ·exact zs (hK60 _ _ (zr (zg [] 3 [1,4,5,86,87] (zd (XR.sub (zk [1,4,5,86,87]) (ih3 (IntKind.i64.wrap (x6 + (1 : Int))) h))))))
               ·exact zx 4 (hQ3 _ _ _ (hJ5 () h _ _ (zk [1,86,87])))
             exact XR.sub (zk [1,4,5,86,87]) (hL3 BIG (0 : Int) h)
            ·exact zx 2 (hQ2 _ _ _ (hJ6 () h _ _ (zk [])))
          exact XR.sub (zk [1,86,87]) (hL2 BIG (0 : Int) h)
         refine zq fun K38 hK38 => zr (zv [] 3 [1,71] [[pi p1.kind, pi p1.scale, .ro (eField.els p1.fields)]] [(1, .one (.pv (.rp [[pi p1.kind, pi p1.scale, .ro (eField.els p1.fields)]] 0 0))), (71, vi ((eField.els p1.fields).length : Int))] [] ?_)
         rw [eField.len p1.fields]
         refine zg [] 1 [1,71,72] (zd (hK38 _ _ (zb 0 (XW.rounds' BIG (x := cd Tryd.f118 [1,1,1,1,1,1,0,1,0,0]) (by kernel_rfl) fun Q1 hQ1 => ?_))))
         have hL1 : ∀ (k1 : Nat) (x4 : Int), ref1_shape_l1 p1 k1 x4 = some r → XR Tryd.prog 109 0 [] (cd Tryd.f118 [1,1,1,1,1,1,0,1,0,0]) Q1 k1 [(1, .one (.pv (.rp [(qa2581 p1)] 0 0))), (71, vi (p1.fields.length : Int)), (72, vi x4)] [] := by
          intro k1
          induction k1 with
          | zero => intro x4 h; rw [ref1_shape_l1.eq_1] at h; cases h
          | succ k1 ih1 =>
           intro x4 h
           rw [ref1_shape_l1.eq_2] at h
           refine zq fun K39 hK39 => zr (zg [] 1 [1,71,72,73] (zd (hK39 _ _ (zq fun K40 hK40 => zC h (fun b41 h => ?_) (fun b41 h => ?_)))))
           ·refine zs (hK40 _ _ (zq fun K42 hK42 => zb 1 (zq fun K43 hK43 => zr (zg [] 2 [1,3,71,72] (zd ?_)))))
            refine hK43 _ _ (zq fun K44 hK44 => ?_)
            obtain ⟨e2, a45, h⟩ := zB h
            obtain ⟨r5, c46, h⟩ := zB h
            refine zr ?_
            refine zp [] 6 [1,71,72,80] [(qa2581 p1), (qa2586 e2)] [(1, .one (.pv (.rp [(qa2581 p1)] 0 0))), (71, vi (p1.fields.length : Int)), (72, vi x4), (80, vs e2.name)] [] [([(qa2581 p1)] : List (List PV))[0]? = some (qa2581 p1), 0 ≤ x4 ∧ x4 < ((eField.els p1.fields).length : Int) ∧ elemsOk 6 (eField.els p1.fields), (eField.els p1.fields)[x4.toNat]? = some (qa2586 e2)] (⟨rfl, eField.inb a45, ((eField.get a45).trans (by rcases e2 with ⟨_, _, _, ⟨_, _, _⟩⟩; rfl)), trivial⟩) ?_
            refine za (c_ref1_Name _ _ c46) (zg [] 1 [1,71,72,82] (zd (hK44 _ _ (zC h (fun b47 h => ?_) (fun b47 h => ?_)))))
            ·refine zq fun K48 hK48 => zr (zv [] 1 [2] [] [(2, vi (4 : Int))] [] (zd (hK48 _ _ (ze (hQ1 _ _ _ ?_)))))
             obtain rfl := Option.some.inj h
             exact zf [vi (4 : Int)] (.one (.rfl _ rfl))
            ·exact zs (hK42 _ _ (zr (zg [] 2 [1,71,72] (zd (XR.sub (zk [1,71,72]) (ih1 (IntKind.i64.wrap (x4 + (1 : Int))) h))))))
           ·exact zx 0 (hQ1 _ _ _ (hJ4 () h _ _ (zk [1])))
         exact XR.sub (zk [1,71,72]) (hL1 BIG (0 : Int) h)
      rcases zW h with ⟨b25, h⟩ | ⟨b25, h⟩
      ·rcases zW h with ⟨b26, h⟩ | ⟨b26, h⟩
       ·refine zr (zu [] 4 [1,49] [[pi p1.kind, pi p1.scale, .ro (eField.els p1.fields)]] (zt 49 b25 (zv [] 3 [1,49,52] [[pi p1.kind, pi p1.scale, .ro (eField.els p1.fields)]] [(1, .one (.pv (.rp [[pi p1.kind, pi p1.scale, .ro (eField.els p1.fields)]] 0 0))), (49, vb true), (52, vi ((eField.els p1.fields).length : Int))] [] ?_)))
        rw [eField.len p1.fields]
        exact zg [] 3 [1,55] (zt 55 b26 (zg [] 10 [1,65] (zd (hJ3 true h _ _ (zk [1,65])))))
       ·obtain ⟨r3, c27, h⟩ := zB h
        rcases zW h with ⟨b28, h⟩ | ⟨b28, h⟩
        ·refine zr (zv [] 4 [1,49] [[pi p1.kind, pi p1.scale, .ro (eField.els p1.fields)]] [(1, .one (.pv (.rp [[pi p1.kind, pi p1.scale, .ro (eField.els p1.fields)]] 0 0))), (49, vb (p1.kind == (7 : Int)))] [] (zt 49 b25 (zv [] 3 [1,49,52] [[pi p1.kind, pi p1.scale, .ro (eField.els p1.fields)]] [(1, .one (.pv (.rp [[pi p1.kind, pi p1.scale, .ro (eField.els p1.fields)]] 0 0))), (49, vb true), (52, vi ((eField.els p1.fields).length : Int))] [] ?_)))
         rw [eField.len p1.fields]
         refine zg [] 3 [1,55] (zt 55 b26 (zu [] 2 [1,55,57] [[pi p1.kind, pi p1.scale, .ro (eField.els p1.fields)]] (zl 73 [vi p1.kind] (vb r3) [(58, vb r3), (1, .one (.pv (.rp [[pi p1.kind, pi p1.scale, .ro (eField.els p1.fields)]] 0 0))), (55, vb false), (57, vi p1.kind)] (c_ref1_Leaf _ _ c27) (zg [] 1 [1,55,59] (zt 59 b28 (zv [] 3 [1,55,59,62] [[pi p1.kind, pi p1.scale, .ro (eField.els p1.fields)]] [(1, .one (.pv (.rp [[pi p1.kind, pi p1.scale, .ro (eField.els p1.fields)]] 0 0))), (55, vb false), (59, vb true), (62, vi ((eField.els p1.fields).length : Int))] [] ?_))))))
         rw [eField.len p1.fields]
         exact zg [] 3 [1,65] (zd (hJ3 (decide ((0 : Int) < (p1.fields.length : Int))) h _ _ (zk [1,65])))
        ·refine zr (zu [] 4 [1,49] [[pi p1.kind, pi p1.scale, .ro (eField.els p1.fields)]] (zt 49 b25 (zv [] 3 [1,49,52] [[pi p1.kind, pi p1.scale, .ro (eField.els p1.fields)]] [(1, .one (.pv (.rp [[pi p1.kind, pi p1.scale, .ro (eField.els p1.fields)]] 0 0))), (49, vb true), (52, vi ((eField.els p1.fields).length : Int))] [] ?_)))
         rw [eField.len p1.fields]
         refine zg [] 3 [1,55] (zt 55 b26 (zu [] 2 [1,55,57] [(qa2581 p1)] (zl 73 [vi p1.kind] (vb r3) [(58, vb r3), (1, .one (.pv (.rp [(qa2581 p1)] 0 0))), (55, vb false), (57, vi p1.kind)] (c_ref1_Leaf _ _ c27) (zg [] 1 [1,55,59] (zt 59 b28 (zg [] 6 [1,65] (zd ?_)))))))
         exact hJ3 false h _ _ (zk [1,65])
      ·obtain ⟨r4, c29, h⟩ := zB h
       rcases zW h with ⟨b30, h⟩ | ⟨b30, h⟩
       ·refine zr (zu [] 4 [1,49] [[pi p1.kind, pi p1.scale, .ro (eField.els p1.fields)]] (zt 49 b25 (zv [] 8 [1,55,57] [[pi p1.kind, pi p1.scale, .ro (eField.els p1.fields)]] [(1, .one (.pv (.rp [[pi p1.kind, pi p1.scale, .ro (eField.els p1.fields)]] 0 0))), (55, vb false), (57, vi p1.kind)] [] (za (c_ref1_Leaf _ _ c29) (zg [] 1 [1,55,59] (zt 59 b30 (zv [] 3 [1,55,59,62] [[pi p1.kind, pi p1.scale, .ro (eField.els p1.fields)]] [(1, .one (.pv (.rp [[pi p1.kind, pi p1.scale, .ro (eField.els p1.fields)]] 0 0))), (55, vb false), (59, vb true), (62, vi ((eField.els p1.fields).length : Int))] [] ?_)))))))
        rw [eField.len p1.fields]
        exact zg [] 3 [1,65] (zd (hJ3 (decide ((0 : Int) < (p1.fields.length : Int))) h _ _ (zk [1,65])))
       ·refine zr (zu [] 4 [1,49] [(qa2581 p1)] (zt 49 b25 (zv [] 8 [1,55,57] [(qa2581 p1)] [(1, .one (.pv (.rp [(qa2581 p1)] 0 0))), (55, vb false), (57, vi p1.kind)] [] (za (c_ref1_Leaf _ _ c29) (zg [] 1 [1,55,59] (zt 59 b30 (zv [] 6 [1,65] [] [(1, .one (.pv (.rp [(qa2581 p1)] 0 0))), (65, vb false)] [] ?_)))))))
        exact zd (hJ3 false h _ _ (zk [1,65]))
    rcases zW h with ⟨b18, h⟩ | ⟨b18, h⟩
    ·rcases zW h with ⟨b19, h⟩ | ⟨b19, h⟩
     ·refine zr (zu [] 4 [1,32] [[pi p1.kind, pi p1.scale, .ro (eField.els p1.fields)]] (zt 32 b18 (zv [] 3 [1,32,35] [[pi p1.kind, pi p1.scale, .ro (eField.els p1.fields)]] [(1, .one (.pv (.rp [[pi p1.kind, pi p1.scale, .ro (eField.els p1.fields)]] 0 0))), (32, vb true), (35, vi ((eField.els p1.fields).length : Int))] [] ?_)))
      rw [eField.len p1.fields]
      exact zg [] 2 [1,32,37] (zt 37 b19 (zg [] 8 [1,45] (zd (hJ2 true h _ _ (zk [1,45])))))
     ·obtain ⟨e1, a20, h⟩ := zB h
      refine zr (zv [] 4 [1,32] [[pi p1.kind, pi p1.scale, .ro (eField.els p1.fields)]] [(1, .one (.pv (.rp [[pi p1.kind, pi p1.scale, .ro (eField.els p1.fields)]] 0 0))), (32, vb (p1.kind == (6 : Int)))] [] (zt 32 b18 (zv [] 3 [1,32,35] [[pi p1.kind, pi p1.scale, .ro (eField.els p1.fields)]] [(1, .one (.pv (.rp [[pi p1.kind, pi p1.scale, .ro (eField.els p1.fields)]] 0 0))), (32, vb true), (35, vi ((eField.els p1.fields).length : Int))] [] ?_)))
      rw [eField.len p1.fields]
      refine zg [] 2 [1,32,37] (zt 37 b19 ?_)
      refine zo [] 8 [1,45] [(qa2581 p1), (qa2588 e1)] [([(qa2581 p1)] : List (List PV))[0]? = some (qa2581 p1), 0 ≤ (0 : Int) ∧ (0 : Int) < ((eField.els p1.fields).length : Int) ∧ elemsOk 6 (eField.els p1.fields), (eField.els p1.fields)[(0 : Int).toNat]? = some (qa2588 e1)] (⟨rfl, eField.inb a20, ((eField.get a20).trans (by rcases e1 with ⟨_, _, _, ⟨_, _, _⟩⟩; rfl)), trivial⟩) ?_
      exact zd (hJ2 (!(e1.name.toList == (ByteArray.mk #[]).toList)) h _ _ (zk [1,45]))
    ·exact zr (zu [] 4 [1,32] [(qa2581 p1)] (zt 32 b18 (zv [] 13 [1,45] [] [(1, .one (.pv (.rp [(qa2581 p1)] 0 0))), (45, vb false)] [] (zd (hJ2 false h _ _ (zk [1,45]))))))
  rcases zW h with ⟨b9, h⟩ | ⟨b9, h⟩
  ·obtain ⟨r2, c10, h⟩ := zB h
   rcases zW h with ⟨b11, h⟩ | ⟨b11, h⟩
   ·refine zr (zv [] 4 [1,13] [(qa2581 p1)] (qa2603 p1) [] (zt 13 b9 (zu [] 2 [1,13,15] [(qa2581 p1)] (za (c_ref1_within _ _ _ _ c10) (zv [] 3 [1,19] [] [(1, .one (.pv (.rp [(qa2581 p1)] 0 0))), (19, vb (!r2))] [] (zt 19 b11 (zg [] 9 [1,28] ?_)))))))
    exact zd (hJ1 true h _ _ (zk [1,28]))
   ·rcases zW h with ⟨b12, h⟩ | ⟨b12, h⟩
    ·refine zr (zu [] 4 [1,13] [(qa2581 p1)] (zt 13 b9 (zv [] 2 [1,13,15] [(qa2581 p1)] [(1, .one (.pv (.rp [(qa2581 p1)] 0 0))), (13, vb true), (15, vi p1.scale)] [] (za (c_ref1_within _ _ _ _ c10) (zg [] 3 [1,19] (zt 19 b11 (zv [] 4 [1,19,23] [(qa2581 p1)] (qa2606 p1) [] ?_)))))))
     exact zt 23 b12 (zu [] 5 [1,28] [(qa2581 p1)] (zd (hJ1 (p1.scale != (0 : Int)) h _ _ (zk [1,28]))))
    ·refine zr (zu [] 4 [1,13] [(qa2581 p1)] (zt 13 b9 (zv [] 2 [1,13,15] [(qa2581 p1)] [(1, .one (.pv (.rp [(qa2581 p1)] 0 0))), (13, vb true), (15, vi p1.scale)] [] (za (c_ref1_within _ _ _ _ c10) (zg [] 3 [1,19] (zt 19 b11 (zv [] 4 [1,19,23] [(qa2581 p1)] (qa2606 p1) [] ?_)))))))
     exact zt 23 b12 (zg [] 5 [1,28] (zd (hJ1 false h _ _ (zk [1,28]))))
  ·rcases zW h with ⟨b13, h⟩ | ⟨b13, h⟩
   ·exact zr (zv [] 4 [1,13] [(qa2581 p1)] (qa2603 p1) [] (zt 13 b9 (zu [] 10 [1,19,23] [(qa2581 p1)] (zt 23 b13 (zu [] 5 [1,28] [(qa2581 p1)] (zd (hJ1 (p1.scale != (0 : Int)) h _ _ (zk [1,28]))))))))
   ·exact zr (zv [] 4 [1,13] [(qa2581 p1)] (qa2603 p1) [] (zt 13 b9 (zu [] 10 [1,19,23] [(qa2581 p1)] (zt 23 b13 (zg [] 5 [1,28] (zd (hJ1 false h _ _ (zk [1,28]))))))))

def ref1_checkType_j2 (z3 : Int) : Option (Int × Int) :=
    some ((0 : Int), z3)

def ref1_checkType_l1 (q_ref1_checkType : GType → Int → Int → Option (Int × Int)) (p1 : GType) (p2 : Int) : Nat → Int → Int → Option (Int × Int)
  | 0, _, _ => none
  | k1 + 1, z2, x1 =>
    ift (decide (x1 < (p1.fields.length : Int)))
      (bnd (at? p1.fields x1) fun e1 =>
       bnd (q_ref1_checkType e1.type (IntKind.i64.wrap (p2 + (1 : Int))) z2) fun r3 =>
       ift (r3.1 != (0 : Int))
         (some (r3.1, r3.2))
         ((ref1_checkType_l1 q_ref1_checkType p1 p2 k1) r3.2 (IntKind.i64.wrap (x1 + (1 : Int)))))
      (ref1_checkType_j2 z2)

def ref1_checkType_j1 (q_ref1_checkType : GType → Int → Int → Option (Int × Int)) (p1 : GType) (p2 : Int) (z1 : Int) : Option (Int × Int) :=
    bnd (ref1_shape p1) fun r2 =>
    ift (r2 != (0 : Int))
      (some (r2, z1))
      (ref1_checkType_l1 q_ref1_checkType p1 p2 BIG z1 (0 : Int))

def ref1_checkType : Nat → GType → Int → Int → Option (Int × Int)
  | 0, _, _, _ => none
  | k0 + 1, p1, p2, p3 =>
    ift (decide ((4 : Int) < p2))
      (some ((7 : Int), p3))
      (bnd (ref1_Leaf p1.kind) fun r1 =>
       ift r1
         (ift (p3 == (40 : Int))
            (some ((7 : Int), p3))
            (ref1_checkType_j1 (ref1_checkType k0) p1 p2 (IntKind.i64.wrap (p3 + (1 : Int)))))
         (ref1_checkType_j1 (ref1_checkType k0) p1 p2 p3))

abbrev qa2611 (p1 : GType) : List PV := [pi p1.kind, pi p1.scale, .ro (eField.els p1.fields)]
abbrev qa2617 (e1 : GField) : List PV := [pi e1.id, .s (.string e1.name), .s (.bool e1.need), pi e1.type.kind, pi e1.type.scale, .ro (eField.els e1.type.fields)]
abbrev qa2618 (e1 : GField) : List CV := [ci e1.type.kind, ci e1.type.scale, cl eField e1.type.fields]

theorem c_ref1_checkType : ∀ (k0 : Nat) (p1 : GType) (p2 : Int) (p3 : Int) (r : (Int × Int)), ref1_checkType k0 p1 p2 p3 = some r → MC Tryd.prog 85 [.ag [ci p1.kind, ci p1.scale, cl eField p1.fields], vi p2, .one (.pt 0 0 0 0)] [.box [ci p3]] (vi r.1) [.box [ci r.2]]
 | 0, _, _, _, r, h => by rw [ref1_checkType.eq_1] at h; cases h
 | k0 + 1, p1, p2, p3, r, h => by
  rw [ref1_checkType.eq_2] at h
  refine MC.of 1 (n := 49) (fn := Tryd.f85) (c := cd Tryd.f85 []) (by kernel_rfl) (by kernel_rfl) (by kernel_rfl) (Nat.le_of_ble_eq_true rfl) rfl (zq fun K1 hK1 => zr (zg [] 2 [1,2,3] (zd (hK1 _ _ (zq fun K2 hK2 => zq fun K3 hK3 => ?_)))))
  refine zr (zg [] 2 [1,2,3,11] (zd (hK3 _ _ (zC h (fun b4 h => ?_) (fun b4 h => ?_)))))
  ·refine zq fun K5 hK5 => zr (zv [] 1 [6] [] [(6, vi (7 : Int))] [.box [ci p3]] (zd (hK5 _ _ (ze ?_))))
   obtain rfl := Option.some.inj h
   exact FinM.fin (.inr rfl) [] [vi (7 : Int)] [] (by kernel_rfl) trivial (by kernel_rfl) (by kernel_rfl) (.one (.rfl _ rfl))
  ·refine zs (hK2 _ _ (zq fun K6 hK6 => ?_))
   have hJ1 : ∀ (z1 : Int), ref1_checkType_j1 (ref1_checkType k0) p1 p2 z1 = some r → ∀ fr1 st1, Sub 49 1 [] fr1 st1 [(1, vi p2), (2, .one (.pt 0 0 0 0)), (3, .one (.pv (.rp [(qa2611 p1)] 0 0)))] [.box [ci z1]] → K6 fr1 st1 := by
    intro z1 h fr1 st1 hS
    unfold ref1_checkType_j1 at h
    refine hK6 _ _ (XW.sub hS ?_)
    refine zq fun K14 hK14 => zq fun K15 hK15 => ?_
    obtain ⟨r2, c16, h⟩ := zB h
    refine zr (zu [] 1 [1,2,3,24] [(qa2611 p1)] (za (c_ref1_shape _ _ c16) (zv [] 1 [1,2,3,7] [] [(1, vi p2), (2, .one (.pt 0 0 0 0)), (3, .one (.pv (.rp [(qa2611 p1)] 0 0))), (7, vi r2)] [.box [ci z1]] (zd (hK15 _ _ (zq fun K17 hK17 => zr ?_))))))
    refine zg [] 2 [1,2,3,7,27] (zd (hK17 _ _ (zC h (fun b18 h => ?_) (fun b18 h => ?_))))
    ·refine zq fun K19 hK19 => zr (zv [] 2 [6] [] [(6, vi r2)] [.box [ci z1]] (zd (hK19 _ _ (ze ?_))))
     obtain rfl := Option.some.inj h
     exact FinM.fin (.inr rfl) [] [vi r2] [] (by kernel_rfl) trivial (by kernel_rfl) (by kernel_rfl) (.one (.rfl _ rfl))
    ·refine zs (hK14 _ _ (zq fun K20 hK20 => ?_))
     have hJ2 : ∀ (z3 : Int), ref1_checkType_j2 z3 = some r → ∀ fr1 st1, Sub 49 1 [] fr1 st1 [] [.box [ci z3]] → K20 fr1 st1 := by
      intro z3 h fr1 st1 hS
      unfold ref1_checkType_j2 at h
      refine hK20 _ _ (XW.sub hS ?_)
      refine zq fun K33 hK33 => zr (zv [] 1 [6] [] [(6, vi (0 : Int))] [.box [ci z3]] (zd (hK33 _ _ (ze ?_))))
      obtain rfl := Option.some.inj h
      exact FinM.fin (.inr rfl) [] [vi (0 : Int)] [] (by kernel_rfl) trivial (by kernel_rfl) (by kernel_rfl) (.one (.rfl _ rfl))
     refine zq fun K21 hK21 => zr (zv [] 3 [1,2,3,31] [[pi p1.kind, pi p1.scale, .ro (eField.els p1.fields)]] [(1, vi p2), (2, .one (.pt 0 0 0 0)), (3, .one (.pv (.rp [[pi p1.kind, pi p1.scale, .ro (eField.els p1.fields)]] 0 0))), (31, vi ((eField.els p1.fields).length : Int))] [.box [ci z1]] ?_)
     rw [eField.len p1.fields]
     refine zg [] 1 [1,2,3,31,32] (zd (hK21 _ _ (zb 0 (XW.rounds' BIG (x := cd Tryd.f85 [1,1,1,1,0,1,0,0]) (by kernel_rfl) fun Q1 hQ1 => ?_))))
     have hL1 : ∀ (k1 : Nat) (z2 : Int) (x1 : Int), ref1_checkType_l1 (ref1_checkType k0) p1 p2 k1 z2 x1 = some r → XR Tryd.prog 49 1 [] (cd Tryd.f85 [1,1,1,1,0,1,0,0]) Q1 k1 [(1, vi p2), (2, .one (.pt 0 0 0 0)), (3, .one (.pv (.rp [(qa2611 p1)] 0 0))), (31, vi (p1.fields.length : Int)), (32, vi x1)] [.box [ci z2]] := by
      intro k1
      induction k1 with
      | zero => intro z2 x1 h; rw [ref1_checkType_l1.eq_1] at h; cases h
      | succ k1 ih1 =>
       intro z2 x1 h
       rw [ref1_checkType_l1.eq_2] at h
       refine zq fun K22 hK22 => zr (zg [] 1 [1,2,3,31,32,33] (zd (hK22 _ _ (zq fun K23 hK23 => zC h (fun b24 h => ?_) (fun b24 h => ?_)))))
       ·refine zs (hK23 _ _ (zq fun K25 hK25 => zb 1 (zq fun K26 hK26 => zr (zg [] 2 [1,2,3,8,31,32] (zd ?_)))))
        refine hK26 _ _ (zq fun K27 hK27 => ?_)
        obtain ⟨e1, a28, h⟩ := zB h
        obtain ⟨r3, c29, h⟩ := zB h
        refine zr ?_
        refine zp [] 9 [1,2,3,31,32,40,42,43] [(qa2611 p1), (qa2617 e1)] [(1, vi p2), (2, .one (.pt 0 0 0 0)), (3, .one (.pv (.rp [(qa2611 p1)] 0 0))), (31, vi (p1.fields.length : Int)), (32, vi x1), (40, .ag (qa2618 e1)), (42, vi (IntKind.i64.wrap (p2 + (1 : Int)))), (43, .one (.pt 0 0 0 0))] [.box [ci z2]] [([(qa2611 p1)] : List (List PV))[0]? = some (qa2611 p1), 0 ≤ x1 ∧ x1 < ((eField.els p1.fields).length : Int) ∧ elemsOk 6 (eField.els p1.fields), (eField.els p1.fields)[x1.toNat]? = some (qa2617 e1)] (⟨rfl, eField.inb a28, ((eField.get a28).trans (by rcases e1 with ⟨_, _, _, ⟨_, _, _⟩⟩; rfl)), trivial⟩) ?_
        refine XO.calm 85 [.ag (qa2618 e1), vi (IntKind.i64.wrap (p2 + (1 : Int))), .one (.pt 0 0 0 0)] [.box [ci z2]] [.box [ci r3.2]] (vi r3.1) [0] [(44, vi r3.1), (1, vi p2), (2, .one (.pt 0 0 0 0)), (3, .one (.pv (.rp [(qa2611 p1)] 0 0))), (31, vi (p1.fields.length : Int)), (32, vi x1), (40, .ag (qa2618 e1)), (42, vi (IntKind.i64.wrap (p2 + (1 : Int)))), (43, .one (.pt 0 0 0 0))] [.box [ci r3.2]] (by kernel_rfl) (c_ref1_checkType k0 _ _ _ _ c29) (by kernel_rfl) (by kernel_rfl) (by kernel_rfl) (by kernel_rfl) ?_
        refine zg [] 1 [1,2,3,9,31,32] (zd (hK27 _ _ (zq fun K30 hK30 => zr (zg [] 2 [1,2,3,9,31,32,46] (zd (hK30 _ _ ?_))))))
        refine zC h (fun b31 h => ?_) (fun b31 h => ?_)
        ·refine zq fun K32 hK32 => zr (zv [] 2 [6] [] [(6, vi r3.1)] [.box [ci r3.2]] (zd (hK32 _ _ (ze (hQ1 _ _ _ ?_)))))
         obtain rfl := Option.some.inj h
         exact FinM.fin (.inr rfl) [] [vi r3.1] [] (by kernel_rfl) trivial (by kernel_rfl) (by kernel_rfl) (.one (.rfl _ rfl))
        ·exact zs (hK25 _ _ (zr (zg [] 2 [1,2,3,31,32] (zd (XR.sub (zk [1,2,3,31,32]) (ih1 r3.2 (IntKind.i64.wrap (x1 + (1 : Int))) h))))))
       ·exact zx 0 (hQ1 _ _ _ (hJ2 z2 h _ _ (zk [])))
     exact XR.sub (zk [1,2,3,31,32]) (hL1 BIG z1 (0 : Int) h)
   refine zq fun K7 hK7 => ?_
   obtain ⟨r1, c8, h⟩ := zB h
   refine zr (zu [] 2 [1,2,3,13] [(qa2611 p1)] (za (c_ref1_Leaf _ _ c8) (zd (hK7 _ _ (zC h (fun b9 h => ?_) (fun b9 h => ?_))))))
   ·refine zq fun K10 hK10 => zq fun K11 hK11 => zr (zv [] 4 [1,2,3,18] [] [(1, vi p2), (2, .one (.pt 0 0 0 0)), (3, .one (.pv (.rp [(qa2611 p1)] 0 0))), (18, vb (p3 == (40 : Int)))] [.box [ci p3]] (zd (hK11 _ _ (zC h (fun b12 h => ?_) (fun b12 h => ?_)))))
    ·refine zq fun K13 hK13 => zr (zv [] 1 [6] [] [(6, vi (7 : Int))] [.box [ci p3]] (zd (hK13 _ _ (ze ?_))))
     obtain rfl := Option.some.inj h
     exact FinM.fin (.inr rfl) [] [vi (7 : Int)] [] (by kernel_rfl) trivial (by kernel_rfl) (by kernel_rfl) (.one (.rfl _ rfl))
    ·exact zs (hK10 _ _ (zr (zg [] 6 [1,2,3] (zd (hJ1 (IntKind.i64.wrap (p3 + (1 : Int))) h _ _ (zk [1,2,3]))))))
   ·exact zs (hJ1 p3 h _ _ (zk [1,2,3]))

def ref1_CheckType (p1 : GType) : Option Int :=
    bnd (ref1_checkType BIG p1 (1 : Int) (0 : Int)) fun r1 =>
    some r1.1

abbrev qa2633 (p1 : GType) : List CV := [ci p1.kind, ci p1.scale, cl eField p1.fields]

theorem c_ref1_CheckType (p1 : GType) (r : Int) (h : ref1_CheckType p1 = some r) : PC Tryd.prog 36 [.ag (qa2633 p1)] (vi r) := by
 unfold ref1_CheckType at h
 refine zF 6 Tryd.f36 (zq fun K1 hK1 => zr (zg [3] 2 [1] (zd (hK1 _ _ (zq fun K2 hK2 => zr ?_)))))
 refine zg [3] 2 [1,3] (zd (hK2 _ _ (zq fun K3 hK3 => ?_)))
 obtain ⟨r1, c4, h⟩ := zB h
 refine zr (zv [3] 1 [3,4] [[pi p1.kind, pi p1.scale, .ro (eField.els p1.fields)]] [(3, .one (.pt 0 0 0 0)), (4, .ag (qa2633 p1))] [.box [ci (0 : Int)]] (XO.calm 85 [.ag (qa2633 p1), vi (1 : Int), .one (.pt 0 0 0 0)] [.box [ci (0 : Int)]] [.box [ci r1.2]] (vi r1.1) [0] [(5, vi r1.1), (3, .one (.pt 0 0 0 0)), (4, .ag (qa2633 p1))] [.box [ci r1.2]] (by kernel_rfl) (c_ref1_checkType BIG _ _ _ _ c4) (by kernel_rfl) (by kernel_rfl) (by kernel_rfl) (by kernel_rfl) (zg [3] 1 [2] (zd (hK3 _ _ ?_)))))
 refine ze ?_
 obtain rfl := Option.some.inj h
 exact zf [vi r1.1] (.one (.rfl _ rfl))

def ref1_result_j2 (x2 : Bool) : Option (GType × Bool) :=
    some ((GType.mk (1 : Int) (0 : Int) []), x2)

def ref1_result_j8 (x8 : Int) : Option (GType × Bool) :=
    some ((GType.mk (3 : Int) x8 []), true)

def ref1_result_j7 (x7 : Int) : Option (GType × Bool) :=
    ift (decide ((12 : Int) < x7))
      (ref1_result_j8 (12 : Int))
      (ref1_result_j8 x7)

def ref1_result_j6 (p1 : Int) (x6 : Int) : Option (GType × Bool) :=
    ift (p1 == (4 : Int))
      (ref1_result_j7 (IntKind.i64.wrap (x6 + (4 : Int))))
      (ref1_result_j7 x6)

def ref1_result_j5 (p1 : Int) (p2 : GType) (p3 : GType) (x5 : Int) : Option (GType × Bool) :=
    ift (p1 == (3 : Int))
      (ref1_result_j6 p1 (IntKind.i64.wrap (p2.scale + p3.scale)))
      (ref1_result_j6 p1 x5)

def ref1_result_j10 (x10 : Bool) : Option (GType × Bool) :=
    some ((GType.mk (5 : Int) (0 : Int) []), x10)

def ref1_result_j12 (p1 : Int) (x12 : Bool) : Option (GType × Bool) :=
    ift x12
      (some ((GType.mk (2 : Int) (0 : Int) []), (p1 == (2 : Int))))
      (some ((GType.mk (0 : Int) (0 : Int) []), false))

def ref1_result_j11 (p1 : Int) (p2 : GType) (p3 : GType) (x11 : Bool) : Option (GType × Bool) :=
    ift x11
      (some ((GType.mk (5 : Int) (0 : Int) []), (p1 == (1 : Int))))
      (ift (p2.kind == (5 : Int))
         (ref1_result_j12 p1 (p3.kind == (5 : Int)))
         (ref1_result_j12 p1 false))

def ref1_result_j9 (p1 : Int) (p2 : GType) (p3 : GType) (x9 : Bool) : Option (GType × Bool) :=
    ift x9
      (ift (p1 == (1 : Int))
         (ref1_result_j10 true)
         (ref1_result_j10 (p1 == (2 : Int))))
      (ift (p2.kind == (2 : Int))
         (ref1_result_j11 p1 p2 p3 (p3.kind == (5 : Int)))
         (ref1_result_j11 p1 p2 p3 false))

def ref1_result_j4 (p1 : Int) (p2 : GType) (p3 : GType) (x4 : Bool) : Option (GType × Bool) :=
    ift x4
      (ift (decide (p2.scale < p3.scale))
         (ref1_result_j5 p1 p2 p3 p3.scale)
         (ref1_result_j5 p1 p2 p3 p2.scale))
      (ift (p2.kind == (5 : Int))
         (ref1_result_j9 p1 p2 p3 (p3.kind == (2 : Int)))
         (ref1_result_j9 p1 p2 p3 false))

def ref1_result_j3 (p1 : Int) (p2 : GType) (p3 : GType) (x3 : Bool) : Option (GType × Bool) :=
    ift x3
      (some (p2, true))
      (bnd (ref1_isNumber p2.kind) fun r1 =>
       ift r1
         (bnd (ref1_isNumber p3.kind) fun r2 =>
          ref1_result_j4 p1 p2 p3 r2)
         (ref1_result_j4 p1 p2 p3 false))

def ref1_result_j1 (p1 : Int) (p2 : GType) (p3 : GType) (x1 : Bool) : Option (GType × Bool) :=
    ift x1
      (ift (p2.kind == (1 : Int))
         (ref1_result_j2 (p3.kind == (1 : Int)))
         (ref1_result_j2 false))
      (ift (p2.kind == (2 : Int))
         (ref1_result_j3 p1 p2 p3 (p3.kind == (2 : Int)))
         (ref1_result_j3 p1 p2 p3 false))

def ref1_result (p1 : Int) (p2 : GType) (p3 : GType) : Option (GType × Bool) :=
    ift (p1 == (6 : Int))
      (ref1_result_j1 p1 p2 p3 true)
      (ref1_result_j1 p1 p2 p3 (p1 == (7 : Int)))

abbrev qa2644 (p2 : GType) : List PV := [pi p2.kind, pi p2.scale, .ro (eField.els p2.fields)]
abbrev qa2645 (p3 : GType) : List PV := [pi p3.kind, pi p3.scale, .ro (eField.els p3.fields)]
abbrev qa2646 : List CV := [ci (0 : Int), ci (0 : Int), .pv (.s (.slice none 0 0))]
abbrev qa2648 : List CV := [ci (1 : Int), ci (0 : Int), .pv (.s (.slice none 0 0))]
abbrev qa2655 : List CV := [ci (5 : Int), ci (0 : Int), .pv (.s (.slice none 0 0))]
abbrev qa2660 : St := [.box qa2646]
abbrev qa2662 (p1 : Int) (p2 : GType) (p3 : GType) (x1 : Bool) : Fr := [(26, vb (p3.kind == (1 : Int))), (25, vb (p3.kind == (1 : Int))), (24, vi p3.kind), (23, .one (.pv (.rp [(qa2645 p3)] 0 0))), (22, vb true), (21, vb (p2.kind == (1 : Int))), (20, vi p2.kind), (19, .one (.pv (.rp [(qa2644 p2)] 0 0))), (18, .ag qa2648), (0, vi p1), (4, .one (.pv (.rp [(qa2644 p2)] 0 0))), (5, .one (.pv (.rp [(qa2645 p3)] 0 0))), (6, .one (.pt 0 0 0 0)), (16, vb x1)]
abbrev qa2663 (p1 : Int) (p2 : GType) (p3 : GType) (x1 : Bool) : Fr := [(26, vb false), (25, .tp []), (24, .tp []), (23, .tp []), (22, vb false), (21, vb (p2.kind == (1 : Int))), (20, vi p2.kind), (19, .one (.pv (.rp [(qa2644 p2)] 0 0))), (18, .ag qa2648), (0, vi p1), (4, .one (.pv (.rp [(qa2644 p2)] 0 0))), (5, .one (.pv (.rp [(qa2645 p3)] 0 0))), (6, .one (.pt 0 0 0 0)), (16, vb x1)]
abbrev qa2675 (p1 : Int) (p2 : GType) (p3 : GType) (r1 : Bool) : Fr := [(40, vb r1), (0, vi p1), (4, .one (.pv (.rp [(qa2644 p2)] 0 0))), (5, .one (.pv (.rp [(qa2645 p3)] 0 0))), (6, .one (.pt 0 0 0 0)), (39, vi p2.kind)]

theorem c_ref1_result (p1 : Int) (p2 : GType) (p3 : GType) (r : (GType × Bool)) (h : ref1_result p1 p2 p3 = some r) : PC Tryd.prog 69 [vi p1, .ag [ci p2.kind, ci p2.scale, cl eField p2.fields], .ag [ci p3.kind, ci p3.scale, cl eField p3.fields]] (.tp [.ag [ci r.1.kind, ci r.1.scale, cl eField r.1.fields], vb r.2]) := by
 unfold ref1_result at h
 refine zF 110 Tryd.f69 (zq fun K1 hK1 => zr (zg [6] 4 [0,4,5,6] (zd (hK1 _ _ (zq fun K2 hK2 => ?_)))))
 have hJ1 : ∀ (x1 : Bool), ref1_result_j1 p1 p2 p3 x1 = some r → ∀ fr1 st1, Sub 110 0 [] fr1 st1 [(0, vi p1), (4, .one (.pv (.rp [(qa2644 p2)] 0 0))), (5, .one (.pv (.rp [(qa2645 p3)] 0 0))), (6, .one (.pt 0 0 0 0)), (8, vb x1)] qa2660 → K2 fr1 st1 := by
  intro x1 h fr1 st1 hS
  unfold ref1_result_j1 at h
  refine hK2 _ _ (XW.sub hS ?_)
  refine zq fun K4 hK4 => zb 0 (zq fun K5 hK5 => zr (zg [6] 2 [0,4,5,6,16] (zd (hK5 _ _ (zC h (fun b6 h => ?_) (fun b6 h => ?_))))))
  ·refine zq fun K7 hK7 => ?_
   have hJ2 : ∀ (x2 : Bool), ref1_result_j2 x2 = some r → ∀ fr1 st1, Sub 110 0 [] fr1 st1 [(6, .one (.pt 0 0 0 0)), (7, vb x2)] [.box qa2648] → K7 fr1 st1 := by
    intro x2 h fr1 st1 hS
    unfold ref1_result_j2 at h
    refine hK7 _ _ (XW.sub hS ?_)
    refine ze ?_
    obtain rfl := Option.some.inj h
    exact zf [.ag qa2648, vb x2] (.tpc (.ag (.cons (.rfl _ rfl) (.cons (.rfl _ rfl) (.cons (.nl) .nil)))) (.tpc (.one (.rfl _ rfl)) (.tp0)))
   rcases zW h with ⟨b8, h⟩ | ⟨b8, h⟩
   ·refine XW.drwG 10 [1] [([], []), ([], []), ([], []), ([], []), ([], []), ([], []), ([], []), ([], []), ([], []), ([0], [0])] (qa2662 p1 p2 p3 x1) [.box qa2648] (by kernel_rfl) (by kernel_rfl) ?_ ?_
    ·refine zgv 5 [[pi p2.kind, pi p2.scale, .ro (eField.els p2.fields)]] [(22, vb (p2.kind == (1 : Int))), (21, vb (p2.kind == (1 : Int))), (20, vi p2.kind), (19, .one (.pv (.rp [[pi p2.kind, pi p2.scale, .ro (eField.els p2.fields)]] 0 0))), (18, .ag [ci (1 : Int), ci (0 : Int), .pv (.s (.slice none 0 0))]), (0, vi p1), (4, .one (.pv (.rp [[pi p2.kind, pi p2.scale, .ro (eField.els p2.fields)]] 0 0))), (5, .one (.pv (.rp [[pi p3.kind, pi p3.scale, .ro (eField.els p3.fields)]] 0 0))), (6, .one (.pt 0 0 0 0)), (16, vb x1)] ?_
     refine GX.eq (fr1 := [(22, vb true), (21, vb (p2.kind == (1 : Int))), (20, vi p2.kind), (19, .one (.pv (.rp [[pi p2.kind, pi p2.scale, .ro (eField.els p2.fields)]] 0 0))), (18, .ag [ci (1 : Int), ci (0 : Int), .pv (.s (.slice none 0 0))]), (0, vi p1), (4, .one (.pv (.rp [[pi p2.kind, pi p2.scale, .ro (eField.els p2.fields)]] 0 0))), (5, .one (.pv (.rp [[pi p3.kind, pi p3.scale, .ro (eField.els p3.fields)]] 0 0))), (6, .one (.pt 0 0 0 0)), (16, vb x1)]) (by rw [b8]) ?_
     refine zgv 4 [(qa2645 p3)] (qa2662 p1 p2 p3 x1) ?_
     refine GY.wr [] (qa2662 p1 p2 p3 x1) [0] [.box qa2648] [] (by kernel_rfl) (by kernel_rfl) trivial ?_
     exact GY.done (by kernel_rfl) (by kernel_rfl)
    exact zg [6] 1 [6,7] (zd (hJ2 (p3.kind == (1 : Int)) h _ _ (zk [6,7])))
   ·refine XW.drwG 10 [1] [([], []), ([], []), ([], []), ([], []), ([], []), ([], []), ([], []), ([], []), ([], []), ([0], [0])] (qa2663 p1 p2 p3 x1) [.box qa2648] (by kernel_rfl) (by kernel_rfl) ?_ ?_
    ·refine zgv 5 [[pi p2.kind, pi p2.scale, .ro (eField.els p2.fields)]] [(22, vb (p2.kind == (1 : Int))), (21, vb (p2.kind == (1 : Int))), (20, vi p2.kind), (19, .one (.pv (.rp [[pi p2.kind, pi p2.scale, .ro (eField.els p2.fields)]] 0 0))), (18, .ag [ci (1 : Int), ci (0 : Int), .pv (.s (.slice none 0 0))]), (0, vi p1), (4, .one (.pv (.rp [[pi p2.kind, pi p2.scale, .ro (eField.els p2.fields)]] 0 0))), (5, .one (.pv (.rp [[pi p3.kind, pi p3.scale, .ro (eField.els p3.fields)]] 0 0))), (6, .one (.pt 0 0 0 0)), (16, vb x1)] ?_
     refine GX.eq (fr1 := [(22, vb false), (21, vb (p2.kind == (1 : Int))), (20, vi p2.kind), (19, .one (.pv (.rp [[pi p2.kind, pi p2.scale, .ro (eField.els p2.fields)]] 0 0))), (18, .ag [ci (1 : Int), ci (0 : Int), .pv (.s (.slice none 0 0))]), (0, vi p1), (4, .one (.pv (.rp [[pi p2.kind, pi p2.scale, .ro (eField.els p2.fields)]] 0 0))), (5, .one (.pv (.rp [[pi p3.kind, pi p3.scale, .ro (eField.els p3.fields)]] 0 0))), (6, .one (.pt 0 0 0 0)), (16, vb x1)]) (by rw [b8]) ?_
     refine zgv 4 [] (qa2663 p1 p2 p3 x1) ?_
     refine GY.wr [] (qa2663 p1 p2 p3 x1) [0] [.box qa2648] [] (by kernel_rfl) (by kernel_rfl) trivial ?_
     exact GY.done (by kernel_rfl) (by kernel_rfl)
    exact zv [6] 1 [6,7] [] [(6, .one (.pt 0 0 0 0)), (7, vb false)] [.box qa2648] (zd (hJ2 false h _ _ (zk [6,7])))
  ·refine zq fun K9 hK9 => ?_
   have hJ3 : ∀ (x3 : Bool), ref1_result_j3 p1 p2 p3 x3 = some r → ∀ fr1 st1, Sub 110 0 [] fr1 st1 [(0, vi p1), (4, .one (.pv (.rp [(qa2644 p2)] 0 0))), (5, .one (.pv (.rp [(qa2645 p3)] 0 0))), (6, .one (.pt 0 0 0 0)), (27, vb x3)] qa2660 → K9 fr1 st1 := by
    intro x3 h fr1 st1 hS
    unfold ref1_result_j3 at h
    refine hK9 _ _ (XW.sub hS ?_)
    refine zC h (fun b11 h => ?_) (fun b11 h => ?_)
    ·refine zq fun K12 hK12 => zr (zu [6] 3 [6,7] [(qa2644 p2)] (zd (hK12 _ _ (ze ?_))))
     obtain rfl := Option.some.inj h
     exact zf [.ag [ci p2.kind, ci p2.scale, cl eField p2.fields], vb true] (.tpc (.ag (.cons (.rfl _ rfl) (.cons (.rfl _ rfl) (.cons (.rfl _ rfl) .nil)))) (.tpc (.one (.rfl _ rfl)) (.tp0)))
    ·refine zq fun K13 hK13 => ?_
     have hJ4 : ∀ (x4 : Bool), ref1_result_j4 p1 p2 p3 x4 = some r → ∀ fr1 st1, Sub 110 0 [] fr1 st1 [(0, vi p1), (4, .one (.pv (.rp [(qa2644 p2)] 0 0))), (5, .one (.pv (.rp [(qa2645 p3)] 0 0))), (6, .one (.pt 0 0 0 0)), (37, vb x4)] qa2660 → K13 fr1 st1 := by
      intro x4 h fr1 st1 hS
      unfold ref1_result_j4 at h
      refine hK13 _ _ (XW.sub hS ?_)
      refine zC h (fun b17 h => ?_) (fun b17 h => ?_)
      ·refine zq fun K18 hK18 => zr (zu [6] 3 [0,4,5,6,9] [(qa2644 p2)] (zd (hK18 _ _ (zq fun K19 hK19 => ?_))))
       have hJ5 : ∀ (x5 : Int), ref1_result_j5 p1 p2 p3 x5 = some r → ∀ fr1 st1, Sub 110 0 [] fr1 st1 [(0, vi p1), (4, .one (.pv (.rp [(qa2644 p2)] 0 0))), (5, .one (.pv (.rp [(qa2645 p3)] 0 0))), (6, .one (.pt 0 0 0 0)), (9, vi x5)] qa2660 → K19 fr1 st1 := by
        intro x5 h fr1 st1 hS
        unfold ref1_result_j5 at h
        refine hK19 _ _ (XW.sub hS ?_)
        refine zq fun K22 hK22 => ?_
        have hJ6 : ∀ (x6 : Int), ref1_result_j6 p1 x6 = some r → ∀ fr1 st1, Sub 110 0 [] fr1 st1 [(0, vi p1), (6, .one (.pt 0 0 0 0)), (9, vi x6)] qa2660 → K22 fr1 st1 := by
         intro x6 h fr1 st1 hS
         unfold ref1_result_j6 at h
         refine hK22 _ _ (XW.sub hS ?_)
         refine zq fun K25 hK25 => ?_
         have hJ7 : ∀ (x7 : Int), ref1_result_j7 x7 = some r → ∀ fr1 st1, Sub 110 0 [] fr1 st1 [(6, .one (.pt 0 0 0 0)), (9, vi x7)] qa2660 → K25 fr1 st1 := by
          intro x7 h fr1 st1 hS
          unfold ref1_result_j7 at h
          refine hK25 _ _ (XW.sub hS ?_)
          refine zq fun K28 hK28 => ?_
          have hJ8 : ∀ (x8 : Int), ref1_result_j8 x8 = some r → ∀ fr1 st1, Sub 110 0 [] fr1 st1 [(6, .one (.pt 0 0 0 0)), (9, vi x8)] qa2660 → K28 fr1 st1 := by
           intro x8 h fr1 st1 hS
           unfold ref1_result_j8 at h
           refine hK28 _ _ (XW.sub hS ?_)
           refine zq fun K31 hK31 => zr (zg [6] 4 [6,7] (zd (hK31 _ _ (ze ?_))))
           obtain rfl := Option.some.inj h
           exact zf [.ag [ci (3 : Int), ci x8, .pv (.s (.slice none 0 0))], vb true] (.tpc (.ag (.cons (.rfl _ rfl) (.cons (.rfl _ rfl) (.cons (.nl) .nil)))) (.tpc (.one (.rfl _ rfl)) (.tp0)))
          refine zq fun K29 hK29 => zr (zg [6] 2 [6,9,66] (zd (hK29 _ _ (zC h (fun b30 h => ?_) (fun b30 h => ?_)))))
          ·exact zr (zg [6] 1 [6,9] (zd (hJ8 (12 : Int) h _ _ (zk [6,9]))))
          ·exact zs (hJ8 x7 h _ _ (zk [6,9]))
         refine zq fun K26 hK26 => zr (zg [6] 2 [6,9,62] (zd (hK26 _ _ (zC h (fun b27 h => ?_) (fun b27 h => ?_)))))
         ·exact zr (zg [6] 3 [6,9] (zd (hJ7 (IntKind.i64.wrap (x6 + (4 : Int))) h _ _ (zk [6,9]))))
         ·exact zs (hJ7 x6 h _ _ (zk [6,9]))
        refine zq fun K23 hK23 => zr (zg [6] 2 [0,4,5,6,9,55] (zd (hK23 _ _ (zC h (fun b24 h => ?_) (fun b24 h => ?_)))))
        ·exact zr (zu [6] 6 [0,6,9] [(qa2644 p2), (qa2645 p3)] (zd (hJ6 (IntKind.i64.wrap (p2.scale + p3.scale)) h _ _ (zk [0,6,9]))))
        ·exact zs (hJ6 x5 h _ _ (zk [0,6,9]))
       refine zq fun K20 hK20 => zr (zu [6] 4 [0,4,5,6,9,51] [(qa2645 p3)] (zd (hK20 _ _ (zC h (fun b21 h => ?_) (fun b21 h => ?_)))))
       ·exact zr (zv [6] 3 [0,4,5,6,9] [(qa2645 p3)] [(0, vi p1), (4, .one (.pv (.rp [(qa2644 p2)] 0 0))), (5, .one (.pv (.rp [(qa2645 p3)] 0 0))), (6, .one (.pt 0 0 0 0)), (9, vi p3.scale)] qa2660 (zd (hJ5 p3.scale h _ _ (zk [0,4,5,6,9]))))
       ·exact zs (hJ5 p2.scale h _ _ (zk [0,4,5,6,9]))
      ·refine zq fun K32 hK32 => ?_
       have hJ9 : ∀ (x9 : Bool), ref1_result_j9 p1 p2 p3 x9 = some r → ∀ fr1 st1, Sub 110 0 [] fr1 st1 [(0, vi p1), (4, .one (.pv (.rp [(qa2644 p2)] 0 0))), (5, .one (.pv (.rp [(qa2645 p3)] 0 0))), (6, .one (.pt 0 0 0 0)), (69, vb x9)] qa2660 → K32 fr1 st1 := by
        intro x9 h fr1 st1 hS
        unfold ref1_result_j9 at h
        refine hK32 _ _ (XW.sub hS ?_)
        refine zC h (fun b34 h => ?_) (fun b34 h => ?_)
        ·refine zq fun K35 hK35 => ?_
         have hJ10 : ∀ (x10 : Bool), ref1_result_j10 x10 = some r → ∀ fr1 st1, Sub 110 0 [] fr1 st1 [(6, .one (.pt 0 0 0 0)), (7, vb x10)] [.box qa2655] → K35 fr1 st1 := by
          intro x10 h fr1 st1 hS
          unfold ref1_result_j10 at h
          refine hK35 _ _ (XW.sub hS ?_)
          refine ze ?_
          obtain rfl := Option.some.inj h
          exact zf [.ag qa2655, vb x10] (.tpc (.ag (.cons (.rfl _ rfl) (.cons (.rfl _ rfl) (.cons (.nl) .nil)))) (.tpc (.one (.rfl _ rfl)) (.tp0)))
         rcases zW h with ⟨b36, h⟩ | ⟨b36, h⟩
         ·exact zr (zg [6] 4 [0,6,78,81] (zt 81 b36 (zg [6] 5 [6,7] (zd (hJ10 true h _ _ (zk [6,7]))))))
         ·exact zr (zv [6] 4 [0,6,78,81] [] [(0, vi p1), (6, .one (.pt 0 0 0 0)), (78, .ag qa2655), (81, vb (p1 == (1 : Int)))] qa2660 (zt 81 b36 (zg [6] 5 [6,7] (zd (hJ10 (p1 == (2 : Int)) h _ _ (zk [6,7]))))))
        ·refine zq fun K37 hK37 => ?_
         have hJ11 : ∀ (x11 : Bool), ref1_result_j11 p1 p2 p3 x11 = some r → ∀ fr1 st1, Sub 110 0 [] fr1 st1 [(0, vi p1), (4, .one (.pv (.rp [(qa2644 p2)] 0 0))), (5, .one (.pv (.rp [(qa2645 p3)] 0 0))), (6, .one (.pt 0 0 0 0)), (85, vb x11)] qa2660 → K37 fr1 st1 := by
          intro x11 h fr1 st1 hS
          unfold ref1_result_j11 at h
          refine hK37 _ _ (XW.sub hS ?_)
          refine zC h (fun b39 h => ?_) (fun b39 h => ?_)
          ·refine zq fun K40 hK40 => zr (zg [6] 5 [6,7] (zd (hK40 _ _ (ze ?_))))
           obtain rfl := Option.some.inj h
           exact zf [.ag qa2655, vb (p1 == (1 : Int))] (.tpc (.ag (.cons (.rfl _ rfl) (.cons (.rfl _ rfl) (.cons (.nl) .nil)))) (.tpc (.one (.rfl _ rfl)) (.tp0)))
          ·refine zq fun K41 hK41 => ?_
           have hJ12 : ∀ (x12 : Bool), ref1_result_j12 p1 x12 = some r → ∀ fr1 st1, Sub 110 0 [] fr1 st1 [(0, vi p1), (6, .one (.pt 0 0 0 0)), (97, vb x12)] qa2660 → K41 fr1 st1 := by
            intro x12 h fr1 st1 hS
            unfold ref1_result_j12 at h
            refine hK41 _ _ (XW.sub hS ?_)
            refine zC h (fun b43 h => ?_) (fun b43 h => ?_)
            ·refine zq fun K44 hK44 => zr (zg [6] 5 [6,7] (zd (hK44 _ _ (ze ?_))))
             obtain rfl := Option.some.inj h
             exact zf [.ag [ci (2 : Int), ci (0 : Int), .pv (.s (.slice none 0 0))], vb (p1 == (2 : Int))] (.tpc (.ag (.cons (.rfl _ rfl) (.cons (.rfl _ rfl) (.cons (.nl) .nil)))) (.tpc (.one (.rfl _ rfl)) (.tp0)))
            ·refine zs (hK4 _ _ (zq fun K45 hK45 => zr (zg [6] 3 [6,7] (zd (hK45 _ _ (ze ?_))))))
             obtain rfl := Option.some.inj h
             exact zf [.ag qa2646, vb false] (.tpc (.ag (.cons (.rfl _ rfl) (.cons (.rfl _ rfl) (.cons (.nl) .nil)))) (.tpc (.one (.rfl _ rfl)) (.tp0)))
           rcases zW h with ⟨b42, h⟩ | ⟨b42, h⟩
           ·exact zr (zu [6] 4 [0,5,6,101] [(qa2644 p2)] (zt 101 b42 (zv [6] 5 [0,6,97] [(qa2645 p3)] [(0, vi p1), (6, .one (.pt 0 0 0 0)), (97, vb (p3.kind == (5 : Int)))] qa2660 (zd (hJ12 (p3.kind == (5 : Int)) h _ _ (zk [0,6,97]))))))
           ·exact zr (zu [6] 4 [0,5,6,101] [(qa2644 p2)] (zt 101 b42 (zg [6] 5 [0,6,97] (zd (hJ12 false h _ _ (zk [0,6,97]))))))
         rcases zW h with ⟨b38, h⟩ | ⟨b38, h⟩
         ·exact zr (zu [6] 4 [0,4,5,6,89] [(qa2644 p2)] (zt 89 b38 (zu [6] 5 [0,4,5,6,85] [(qa2645 p3)] (zd (hJ11 (p3.kind == (5 : Int)) h _ _ (zk [0,4,5,6,85]))))))
         ·exact zr (zv [6] 4 [0,4,5,6,89] [(qa2644 p2)] [(0, vi p1), (4, .one (.pv (.rp [(qa2644 p2)] 0 0))), (5, .one (.pv (.rp [(qa2645 p3)] 0 0))), (6, .one (.pt 0 0 0 0)), (89, vb (p2.kind == (2 : Int)))] qa2660 (zt 89 b38 (zg [6] 5 [0,4,5,6,85] (zd (hJ11 false h _ _ (zk [0,4,5,6,85]))))))
       rcases zW h with ⟨b33, h⟩ | ⟨b33, h⟩
       ·exact zr (zv [6] 4 [0,4,5,6,73] [(qa2644 p2)] [(0, vi p1), (4, .one (.pv (.rp [(qa2644 p2)] 0 0))), (5, .one (.pv (.rp [(qa2645 p3)] 0 0))), (6, .one (.pt 0 0 0 0)), (73, vb (p2.kind == (5 : Int)))] qa2660 (zt 73 b33 (zu [6] 5 [0,4,5,6,69] [(qa2645 p3)] (zd (hJ9 (p3.kind == (2 : Int)) h _ _ (zk [0,4,5,6,69]))))))
       ·exact zr (zu [6] 4 [0,4,5,6,73] [(qa2644 p2)] (zt 73 b33 (zv [6] 5 [0,4,5,6,69] [] [(0, vi p1), (4, .one (.pv (.rp [(qa2644 p2)] 0 0))), (5, .one (.pv (.rp [(qa2645 p3)] 0 0))), (6, .one (.pt 0 0 0 0)), (69, vb false)] qa2660 (zd (hJ9 false h _ _ (zk [0,4,5,6,69]))))))
     obtain ⟨r1, c14, h⟩ := zB h
     rcases zW h with ⟨b15, h⟩ | ⟨b15, h⟩
     ·obtain ⟨r2, c16, h⟩ := zB h
      refine zr (zu [6] 2 [0,4,5,6,39] [(qa2644 p2)] (zl 52 [vi p2.kind] (vb r1) (qa2675 p1 p2 p3 r1) (c_ref1_isNumber _ _ c14) (zg [6] 1 [0,4,5,6,41] (zt 41 b15 (zu [6] 2 [0,4,5,6,41,43] [(qa2645 p3)] ?_)))))
      exact zl 52 [vi p3.kind] (vb r2) [(44, vb r2), (0, vi p1), (4, .one (.pv (.rp [(qa2644 p2)] 0 0))), (5, .one (.pv (.rp [(qa2645 p3)] 0 0))), (6, .one (.pt 0 0 0 0)), (41, vb true), (43, vi p3.kind)] (c_ref1_isNumber _ _ c16) (zg [6] 2 [0,4,5,6,37] (zd (hJ4 r2 h _ _ (zk [0,4,5,6,37]))))
     ·exact zr (zu [6] 2 [0,4,5,6,39] [(qa2644 p2)] (zl 52 [vi p2.kind] (vb r1) (qa2675 p1 p2 p3 r1) (c_ref1_isNumber _ _ c14) (zg [6] 1 [0,4,5,6,41] (zt 41 b15 (zg [6] 5 [0,4,5,6,37] (zd (hJ4 false h _ _ (zk [0,4,5,6,37]))))))))
   rcases zW h with ⟨b10, h⟩ | ⟨b10, h⟩
   ·exact zr (zu [6] 4 [0,4,5,6,31] [(qa2644 p2)] (zt 31 b10 (zv [6] 5 [0,4,5,6,27] [(qa2645 p3)] [(0, vi p1), (4, .one (.pv (.rp [(qa2644 p2)] 0 0))), (5, .one (.pv (.rp [(qa2645 p3)] 0 0))), (6, .one (.pt 0 0 0 0)), (27, vb (p3.kind == (2 : Int)))] qa2660 (zd (hJ3 (p3.kind == (2 : Int)) h _ _ (zk [0,4,5,6,27]))))))
   ·exact zr (zu [6] 4 [0,4,5,6,31] [(qa2644 p2)] (zt 31 b10 (zg [6] 5 [0,4,5,6,27] (zd (hJ3 false h _ _ (zk [0,4,5,6,27]))))))
 rcases zW h with ⟨b3, h⟩ | ⟨b3, h⟩
 ·exact zr (zg [6] 3 [0,4,5,6,12] (zt 12 b3 (zv [6] 4 [0,4,5,6,8] [] [(0, vi p1), (4, .one (.pv (.rp [(qa2644 p2)] 0 0))), (5, .one (.pv (.rp [(qa2645 p3)] 0 0))), (6, .one (.pt 0 0 0 0)), (8, vb true)] qa2660 (zd (hJ1 true h _ _ (zk [0,4,5,6,8]))))))
 ·exact zr (zg [6] 3 [0,4,5,6,12] (zt 12 b3 (zg [6] 4 [0,4,5,6,8] (zd (hJ1 (p1 == (7 : Int)) h _ _ (zk [0,4,5,6,8]))))))

def ref1_Result (p1 : Int) (p2 : GType) (p3 : GType) : Option (GType × Int) :=
    bnd (ref1_within p1 (1 : Int) (7 : Int)) fun r1 =>
    ift (!r1)
      (some ((GType.mk (0 : Int) (0 : Int) []), (3 : Int)))
      (bnd (ref1_CheckType p2) fun r2 =>
       ift (r2 != (0 : Int))
         (some ((GType.mk (0 : Int) (0 : Int) []), r2))
         (bnd (ref1_CheckType p3) fun r3 =>
          ift (r3 != (0 : Int))
            (some ((GType.mk (0 : Int) (0 : Int) []), r3))
            (bnd (ref1_result p1 p2 p3) fun r4 =>
             ift (!r4.2)
               (some ((GType.mk (0 : Int) (0 : Int) []), (2 : Int)))
               (some (r4.1, (0 : Int))))))

abbrev qa2682 (p2 : GType) : List PV := [pi p2.kind, pi p2.scale, .ro (eField.els p2.fields)]
abbrev qa2683 (p3 : GType) : List PV := [pi p3.kind, pi p3.scale, .ro (eField.els p3.fields)]
abbrev qa2684 : List CV := [ci (0 : Int), ci (0 : Int), .pv (.s (.slice none 0 0))]
abbrev qa2687 (r4 : (GType × Bool)) : List CV := [ci r4.1.kind, ci r4.1.scale, cl eField r4.1.fields]

theorem c_ref1_Result (p1 : Int) (p2 : GType) (p3 : GType) (r : (GType × Int)) (h : ref1_Result p1 p2 p3 = some r) : PC Tryd.prog 26 [vi p1, .ag [ci p2.kind, ci p2.scale, cl eField p2.fields], .ag [ci p3.kind, ci p3.scale, cl eField p3.fields]] (.tp [.ag [ci r.1.kind, ci r.1.scale, cl eField r.1.fields], vi r.2]) := by
 unfold ref1_Result at h
 refine zF 39 Tryd.f26 (zq fun K1 hK1 => zr (zg [6, 10] 4 [0,4,5,6] (zd (hK1 _ _ (zq fun K2 hK2 => zq fun K3 hK3 => ?_)))))
 obtain ⟨r1, c4, h⟩ := zB h
 refine zr (zg [6, 10] 1 [0,4,5,6,12] (zl 68 [vi p1, vi (1 : Int), vi (7 : Int)] (vb r1) [(13, vb r1), (0, vi p1), (4, .one (.pv (.rp [(qa2682 p2)] 0 0))), (5, .one (.pv (.rp [(qa2683 p3)] 0 0))), (6, .one (.pt 0 0 0 0)), (12, vi p1)] (c_ref1_within _ _ _ _ c4) (zg [6, 10] 1 [0,4,5,6,14] (zd (hK3 _ _ (zC h (fun b5 h => ?_) (fun b5 h => ?_)))))))
 ·refine zq fun K6 hK6 => zr (zg [6, 10] 3 [6,7] (zd (hK6 _ _ (ze ?_))))
  obtain rfl := Option.some.inj h
  exact zf [.ag qa2684, vi (3 : Int)] (.tpc (.ag (.cons (.rfl _ rfl) (.cons (.rfl _ rfl) (.cons (.nl) .nil)))) (.tpc (.one (.rfl _ rfl)) (.tp0)))
 ·refine zs (hK2 _ _ (zq fun K7 hK7 => zq fun K8 hK8 => ?_))
  obtain ⟨r2, c9, h⟩ := zB h
  refine zr (zv [6, 10] 1 [0,4,5,6,16] [(qa2682 p2)] [(0, vi p1), (4, .one (.pv (.rp [(qa2682 p2)] 0 0))), (5, .one (.pv (.rp [(qa2683 p3)] 0 0))), (6, .one (.pt 0 0 0 0)), (16, .ag [ci p2.kind, ci p2.scale, cl eField p2.fields])] [.box qa2684] (za (c_ref1_CheckType _ _ c9) (zg [6, 10] 1 [0,4,5,6,8] (zd (hK8 _ _ (zq fun K10 hK10 => zr ?_))))))
  refine zv [6, 10] 2 [0,4,5,6,8,19] [] [(0, vi p1), (4, .one (.pv (.rp [(qa2682 p2)] 0 0))), (5, .one (.pv (.rp [(qa2683 p3)] 0 0))), (6, .one (.pt 0 0 0 0)), (8, vi r2), (19, vb (r2 != (0 : Int)))] [.box qa2684] (zd (hK10 _ _ (zC h (fun b11 h => ?_) (fun b11 h => ?_))))
  ·refine zq fun K12 hK12 => zr (zg [6, 10] 4 [6,7] (zd (hK12 _ _ (ze ?_))))
   obtain rfl := Option.some.inj h
   exact zf [.ag qa2684, vi r2] (.tpc (.ag (.cons (.rfl _ rfl) (.cons (.rfl _ rfl) (.cons (.nl) .nil)))) (.tpc (.one (.rfl _ rfl)) (.tp0)))
  ·refine zs (hK7 _ _ (zq fun K13 hK13 => zq fun K14 hK14 => ?_))
   obtain ⟨r3, c15, h⟩ := zB h
   refine zr (zu [6, 10] 1 [0,4,5,6,22] [(qa2683 p3)] (zl 36 [.ag [ci p3.kind, ci p3.scale, cl eField p3.fields]] (vi r3) [(23, vi r3), (0, vi p1), (4, .one (.pv (.rp [(qa2682 p2)] 0 0))), (5, .one (.pv (.rp [(qa2683 p3)] 0 0))), (6, .one (.pt 0 0 0 0)), (22, .ag [ci p3.kind, ci p3.scale, cl eField p3.fields])] (c_ref1_CheckType _ _ c15) (zg [6, 10] 1 [0,4,5,6,9] (zd (hK14 _ _ (zq fun K16 hK16 => zr ?_))))))
   refine zg [6, 10] 2 [0,4,5,6,9,25] (zd (hK16 _ _ (zC h (fun b17 h => ?_) (fun b17 h => ?_))))
   ·refine zq fun K18 hK18 => zr (zv [6, 10] 4 [6,7] [] [(6, .one (.pt 0 0 0 0)), (7, vi r3)] [.box qa2684] (zd (hK18 _ _ (ze ?_))))
    obtain rfl := Option.some.inj h
    exact zf [.ag qa2684, vi r3] (.tpc (.ag (.cons (.rfl _ rfl) (.cons (.rfl _ rfl) (.cons (.nl) .nil)))) (.tpc (.one (.rfl _ rfl)) (.tp0)))
   ·refine zs (hK13 _ _ (zq fun K19 hK19 => ?_))
    obtain ⟨r4, c20, h⟩ := zB h
    refine zr (zu [6, 10] 3 [6,29,30,31] [(qa2682 p2), (qa2683 p3)] (za (c_ref1_result _ _ _ _ c20) (zv [6, 10] 6 [6,10,11] [] [(6, .one (.pt 0 0 0 0)), (10, .one (.pt 1 0 0 0)), (11, vb r4.2)] [.box qa2684, .box (qa2687 r4)] (zd (hK19 _ _ (zq fun K21 hK21 => zq fun K22 hK22 => ?_))))))
    refine zr (zg [6, 10] 2 [6,10,36] (zd (hK22 _ _ (zC h (fun b23 h => ?_) (fun b23 h => ?_)))))
    ·refine zq fun K24 hK24 => zr (zg [6, 10] 3 [6,7] (zd (hK24 _ _ (ze ?_))))
     obtain rfl := Option.some.inj h
     exact zf [.ag qa2684, vi (2 : Int)] (.tpc (.ag (.cons (.rfl _ rfl) (.cons (.rfl _ rfl) (.cons (.nl) .nil)))) (.tpc (.one (.rfl _ rfl)) (.tp0)))
    ·refine zs (hK21 _ _ (zq fun K25 hK25 => zr (zv [6, 10] 3 [6,7] [] [(6, .one (.pt 0 0 0 0)), (7, vi (0 : Int))] [.box (qa2687 r4), .box (qa2687 r4)] (zd (hK25 _ _ (ze ?_))))))
     obtain rfl := Option.some.inj h
     exact zf [.ag (qa2687 r4), vi (0 : Int)] (.tpc (.ag (.cons (.rfl _ rfl) (.cons (.rfl _ rfl) (.cons (.rfl _ rfl) .nil)))) (.tpc (.one (.rfl _ rfl)) (.tp0)))

def law1_sameFields_j1 (rec1 : Int → Option Bool) (x1 : Int) (x2 : Bool) : Option Bool :=
    ift x2
      (some false)
      (rec1 (IntKind.i64.wrap (x1 + (1 : Int))))

def law1_sameFields_j2 : Option Bool :=
    some true

def law1_sameFields_l1 (q_law1_sameType : GType → GType → Option Bool) (p1 : (List GField)) (p2 : (List GField)) : Nat → Int → Option Bool
  | 0, _ => none
  | k1 + 1, x1 =>
    ift (decide (x1 < (p1.length : Int)))
      (bnd (at? p1 x1) fun e1 =>
       bnd (at? p2 x1) fun e2 =>
       ift (e1.id != e2.id)
         (law1_sameFields_j1 (law1_sameFields_l1 q_law1_sameType p1 p2 k1) x1 true)
         (ift (!(e1.name.toList == e2.name.toList))
            (law1_sameFields_j1 (law1_sameFields_l1 q_law1_sameType p1 p2 k1) x1 true)
            (ift (!(e1.need == e2.need))
               (law1_sameFields_j1 (law1_sameFields_l1 q_law1_sameType p1 p2 k1) x1 true)
               (bnd (q_law1_sameType e1.type e2.type) fun r1 =>
                law1_sameFields_j1 (law1_sameFields_l1 q_law1_sameType p1 p2 k1) x1 (!r1)))))
      (law1_sameFields_j2)

def law1_sameType_j1 (x1 : Bool) : Option Bool :=
    some x1

mutual

def law1_sameFields : Nat → (List GField) → (List GField) → Option Bool
  | 0, _, _ => none
  | k0 + 1, p1, p2 =>
    ift ((p1.length : Int) != (p2.length : Int))
      (some false)
      (law1_sameFields_l1 (law1_sameType k0) p1 p2 BIG (0 : Int))

def law1_sameType : Nat → GType → GType → Option Bool
  | 0, _, _ => none
  | k0 + 1, p1, p2 =>
    ift (p1.kind == p2.kind)
      (ift (p1.scale == p2.scale)
         (bnd ((law1_sameFields k0) p1.fields p2.fields) fun r1 =>
          law1_sameType_j1 r1)
         (law1_sameType_j1 false))
      (law1_sameType_j1 false)

end

abbrev qa2698 (e2 : GField) : List CV := [ci e2.id, cst e2.name, cb e2.need, ci e2.type.kind, ci e2.type.scale, cl eField e2.type.fields]
abbrev qa2699 (e1 : GField) : List CV := [ci e1.id, cst e1.name, cb e1.need, ci e1.type.kind, ci e1.type.scale, cl eField e1.type.fields]
abbrev qa2700 : List CV := [ci (0 : Int), cst ByteArray.empty, cb false, ci (0 : Int), ci (0 : Int), .pv (.s (.slice none 0 0))]
abbrev qa2701 (e1 : GField) : List PV := [pi e1.id, .s (.string e1.name), .s (.bool e1.need), pi e1.type.kind, pi e1.type.scale, .ro (eField.els e1.type.fields)]
abbrev qa2702 (e2 : GField) : List PV := [pi e2.id, .s (.string e2.name), .s (.bool e2.need), pi e2.type.kind, pi e2.type.scale, .ro (eField.els e2.type.fields)]
abbrev qa2710 (p1 : (List GField)) (p2 : (List GField)) (x1 : Int) (e1 : GField) (e2 : GField) : Fr := [(7, .one (.pt 1 0 0 0)), (6, .one (.pt 0 0 0 0)), (25, .ag (qa2698 e2)), (24, .one (.pv (.rp (eField.els p2) x1.toNat 0))), (23, vi x1), (22, vl eField p2), (21, .ag (qa2699 e1)), (20, .one (.pv (.rp (eField.els p1) x1.toNat 0))), (19, vi x1), (18, vl eField p1), (0, vl eField p1), (1, vl eField p2), (5, vi x1), (14, vi (p1.length : Int)), (15, vi x1)]
abbrev qa2716 (e1 : GField) (e2 : GField) : St := [.box (qa2699 e1), .box (qa2698 e2)]
abbrev qa2721 (p1 : GType) : List PV := [pi p1.kind, pi p1.scale, .ro (eField.els p1.fields)]
abbrev qa2722 (p2 : GType) : List PV := [pi p2.kind, pi p2.scale, .ro (eField.els p2.fields)]

mutual

theorem c_law1_sameFields : ∀ (k0 : Nat) (p1 : (List GField)) (p2 : (List GField)) (r : Bool), law1_sameFields k0 p1 p2 = some r → PC Tryd.prog 70 [vl eField p1, vl eField p2] (vb r)
 | 0, _, _, r, h => by rw [law1_sameFields.eq_1] at h; cases h
 | k0 + 1, p1, p2, r, h => by
  rw [law1_sameFields.eq_2] at h
  refine zF 54 Tryd.f70 (zq fun K1 hK1 => zr (zg [6, 7] 1 [0,1] (zd (hK1 _ _ (zq fun K2 hK2 => zq fun K3 hK3 => ?_)))))
  refine zr (zv [6, 7] 2 [0,1,9] [] [(0, vl eField p1), (1, vl eField p2), (9, vi ((eField.els p1).length : Int))] [] ?_)
  rw [eField.len p1]
  refine zv [6, 7] 2 [0,1,9,11] [] [(0, vl eField p1), (1, vl eField p2), (9, vi (p1.length : Int)), (11, vi ((eField.els p2).length : Int))] [] ?_
  rw [eField.len p2]
  refine zg [6, 7] 1 [0,1,12] (zd (hK3 _ _ (zC h (fun b4 h => ?_) (fun b4 h => ?_))))
  ·refine zq fun K5 hK5 => zr (zg [6, 7] 1 [4] (zd (hK5 _ _ (ze ?_))))
   obtain rfl := Option.some.inj h
   exact zf [vb false] (.one (.rfl _ rfl))
  ·refine zs (hK2 _ _ (zq fun K6 hK6 => ?_))
   have hJ2 : ∀ (_ : Unit), law1_sameFields_j2 = some r → ∀ fr1 st1, Sub 54 0 [] fr1 st1 [] [] → K6 fr1 st1 := by
    intro _ h fr1 st1 hS
    unfold law1_sameFields_j2 at h
    refine hK6 _ _ (XW.sub hS ?_)
    refine zq fun K23 hK23 => zr (zg [6, 7] 1 [4] (zd (hK23 _ _ (ze ?_))))
    obtain rfl := Option.some.inj h
    exact zf [vb true] (.one (.rfl _ rfl))
   refine zq fun K7 hK7 => zr (zv [6, 7] 2 [0,1,14] [] [(0, vl eField p1), (1, vl eField p2), (14, vi ((eField.els p1).length : Int))] [] ?_)
   rw [eField.len p1]
   refine zg [6, 7] 1 [0,1,14,15] (zd (hK7 _ _ (zb 0 (XW.rounds' BIG (x := cd Tryd.f70 [1,1,0,1,0,0]) (by kernel_rfl) fun Q1 hQ1 => ?_))))
   have hL1 : ∀ (k1 : Nat) (x1 : Int), law1_sameFields_l1 (law1_sameType k0) p1 p2 k1 x1 = some r → XR Tryd.prog 54 0 [] (cd Tryd.f70 [1,1,0,1,0,0]) Q1 k1 [(0, vl eField p1), (1, vl eField p2), (14, vi (p1.length : Int)), (15, vi x1)] [] := by
    intro k1
    induction k1 with
    | zero => intro x1 h; rw [law1_sameFields_l1.eq_1] at h; cases h
    | succ k1 ih1 =>
     intro x1 h
     rw [law1_sameFields_l1.eq_2] at h
     refine zq fun K8 hK8 => zr (zg [6, 7] 1 [0,1,14,15,16] (zd (hK8 _ _ (zq fun K9 hK9 => zC h (fun b10 h => ?_) (fun b10 h => ?_)))))
     ·refine zs (hK9 _ _ (zq fun K11 hK11 => zb 1 (zq fun K12 hK12 => zr (zv [6, 7] 2 [0,1,5,14,15] [] [(0, vl eField p1), (1, vl eField p2), (5, vi x1), (14, vi (p1.length : Int)), (15, vi x1)] [] (zd ?_)))))
      refine hK12 _ _ (zq fun K13 hK13 => ?_)
      obtain ⟨e1, a14, h⟩ := zB h
      obtain ⟨e2, a15, h⟩ := zB h
      refine XW.sub (Sub.dead 2) ?_
      refine XW.drwG 11 [0, 1, 2] [([], []), ([], []), ([], []), ([], []), ([], []), ([], []), ([], []), ([], []), ([0], [0]), ([1], [1]), ([0], [0])] (qa2710 p1 p2 x1 e1 e2) [.box (qa2699 e1), .box qa2700] (by kernel_rfl) (by kernel_rfl) ?_ ?_
      ·refine GY.go 8 [(qa2701 e1), (qa2702 e2)] [(25, .ag (qa2698 e2)), (24, .one (.pv (.rp (eField.els p2) x1.toNat 0))), (23, vi x1), (22, vl eField p2), (21, .ag (qa2699 e1)), (20, .one (.pv (.rp (eField.els p1) x1.toNat 0))), (19, vi x1), (18, vl eField p1), (0, vl eField p1), (1, vl eField p2), (5, vi x1), (14, vi (p1.length : Int)), (15, vi x1)] [0 ≤ x1 ∧ x1 < ((eField.els p1).length : Int) ∧ elemsOk 6 (eField.els p1), (eField.els p1)[x1.toNat]? = some (qa2701 e1), 0 ≤ x1 ∧ x1 < ((eField.els p2).length : Int) ∧ elemsOk 6 (eField.els p2), (eField.els p2)[x1.toNat]? = some (qa2702 e2)] (by kernel_rfl) (⟨eField.inb a14, ((eField.get a14).trans (by rcases e1 with ⟨_, _, _, ⟨_, _, _⟩⟩; rfl)), eField.inb a15, ((eField.get a15).trans (by rcases e2 with ⟨_, _, _, ⟨_, _, _⟩⟩; rfl)), trivial⟩) ?_
       refine GY.new true 0 [] [(6, .one (.pt 0 0 0 0)), (25, .ag (qa2698 e2)), (24, .one (.pv (.rp (eField.els p2) x1.toNat 0))), (23, vi x1), (22, vl eField p2), (21, .ag (qa2699 e1)), (20, .one (.pv (.rp (eField.els p1) x1.toNat 0))), (19, vi x1), (18, vl eField p1), (0, vl eField p1), (1, vl eField p2), (5, vi x1), (14, vi (p1.length : Int)), (15, vi x1)] [0] [.box qa2700, .dead] [] (by kernel_rfl) (by kernel_rfl) trivial ?_
       refine GY.new true 1 [] (qa2710 p1 p2 x1 e1 e2) [1] [.box qa2700, .box qa2700] [] (by kernel_rfl) (by kernel_rfl) trivial ?_
       refine GY.wr [] (qa2710 p1 p2 x1 e1 e2) [0] [.box (qa2699 e1), .box qa2700] [] (by kernel_rfl) (by kernel_rfl) trivial ?_
       exact GY.done (by kernel_rfl) (by kernel_rfl)
      refine zg [6, 7] 1 [0,1,6,7,14,15] (zd (hK13 _ _ (zq fun K16 hK16 => ?_)))
      have hJ1 : ∀ (x2 : Bool), law1_sameFields_j1 (law1_sameFields_l1 (law1_sameType k0) p1 p2 k1) x1 x2 = some r → ∀ fr1 st1, Sub 54 0 [] fr1 st1 [(0, vl eField p1), (1, vl eField p2), (14, vi (p1.length : Int)), (15, vi x1), (52, vb x2)] (qa2716 e1 e2) → K16 fr1 st1 := by
       intro x2 h fr1 st1 hS
       unfold law1_sameFields_j1 at h
       refine hK16 _ _ (XW.sub hS ?_)
       refine zC h (fun b21 h => ?_) (fun b21 h => ?_)
       ·refine zq fun K22 hK22 => zr (zg [6, 7] 1 [4] (zd (hK22 _ _ (ze (hQ1 _ _ _ ?_)))))
        obtain rfl := Option.some.inj h
        exact zf [vb false] (.one (.rfl _ rfl))
       ·exact zs (hK11 _ _ (zr (zg [6, 7] 2 [0,1,14,15] (zd (XR.sub (Sub.trans (Sub.pick (fr' := [(0, vl eField p1), (1, vl eField p2), (14, vi (p1.length : Int)), (15, vi (IntKind.i64.wrap (x1 + (1 : Int))))]) [0,1,14,15] (by kernel_rfl)) (Sub.take (fr' := [(0, vl eField p1), (1, vl eField p2), (14, vi (p1.length : Int)), (15, vi (IntKind.i64.wrap (x1 + (1 : Int))))]) 0 (Nat.zero_le _) (by kernel_rfl) (by kernel_rfl))) (ih1 (IntKind.i64.wrap (x1 + (1 : Int))) h))))))
      rcases zW h with ⟨b17, h⟩ | ⟨b17, h⟩
      ·exact zr (zg [6, 7] 6 [0,1,6,7,14,15,31] (zt 31 b17 (zv [6, 7] 21 [0,1,14,15,52] [] [(0, vl eField p1), (1, vl eField p2), (14, vi (p1.length : Int)), (15, vi x1), (52, vb true)] (qa2716 e1 e2) (zd (hJ1 true h _ _ (zk [0,1,14,15,52]))))))
      ·rcases zW h with ⟨b18, h⟩ | ⟨b18, h⟩
       ·exact zr (zg [6, 7] 6 [0,1,6,7,14,15,31] (zt 31 b17 (zg [6, 7] 7 [0,1,6,7,14,15,38] (zt 38 b18 (zv [6, 7] 14 [0,1,14,15,52] [] [(0, vl eField p1), (1, vl eField p2), (14, vi (p1.length : Int)), (15, vi x1), (52, vb true)] (qa2716 e1 e2) (zd (hJ1 true h _ _ (zk [0,1,14,15,52]))))))))
       ·rcases zW h with ⟨b19, h⟩ | ⟨b19, h⟩
        ·refine zr (zg [6, 7] 6 [0,1,6,7,14,15,31] (zt 31 b17 (zg [6, 7] 7 [0,1,6,7,14,15,38] (zt 38 b18 (zv [6, 7] 7 [0,1,6,7,14,15,45] [] [(0, vl eField p1), (1, vl eField p2), (6, .one (.pt 0 0 0 0)), (7, .one (.pt 1 0 0 0)), (14, vi (p1.length : Int)), (15, vi x1), (45, vb (!(e1.need == e2.need)))] (qa2716 e1 e2) (zt 45 b19 (zg [6, 7] 7 [0,1,14,15,52] ?_)))))))
         exact zd (hJ1 true h _ _ (zk [0,1,14,15,52]))
        ·obtain ⟨r1, c20, h⟩ := zB h
         refine zr (zg [6, 7] 6 [0,1,6,7,14,15,31] (zt 31 b17 (zv [6, 7] 7 [0,1,6,7,14,15,38] [] [(0, vl eField p1), (1, vl eField p2), (6, .one (.pt 0 0 0 0)), (7, .one (.pt 1 0 0 0)), (14, vi (p1.length : Int)), (15, vi x1), (38, vb (!(e1.name.toList == e2.name.toList)))] (qa2716 e1 e2) (zt 38 b18 (zg [6, 7] 7 [0,1,6,7,14,15,45] (zt 45 b19 (zg [6, 7] 4 [0,1,14,15,45,47,49] ?_)))))))
         exact zl 27 [.ag [ci e1.type.kind, ci e1.type.scale, cl eField e1.type.fields], .ag [ci e2.type.kind, ci e2.type.scale, cl eField e2.type.fields]] (vb r1) [(50, vb r1), (0, vl eField p1), (1, vl eField p2), (14, vi (p1.length : Int)), (15, vi x1), (45, vb false), (47, .ag [ci e1.type.kind, ci e1.type.scale, cl eField e1.type.fields]), (49, .ag [ci e2.type.kind, ci e2.type.scale, cl eField e2.type.fields])] (c_law1_sameType k0 _ _ _ c20) (zg [6, 7] 2 [0,1,14,15,52] (zd (hJ1 (!r1) h _ _ (zk [0,1,14,15,52]))))
     ·exact zx 0 (hQ1 _ _ _ (hJ2 () h _ _ (zk [])))
   exact XR.sub (zk [0,1,14,15]) (hL1 BIG (0 : Int) h)

theorem c_law1_sameType : ∀ (k0 : Nat) (p1 : GType) (p2 : GType) (r : Bool), law1_sameType k0 p1 p2 = some r → PC Tryd.prog 27 [.ag [ci p1.kind, ci p1.scale, cl eField p1.fields], .ag [ci p2.kind, ci p2.scale, cl eField p2.fields]] (vb r)
 | 0, _, _, r, h => by rw [law1_sameType.eq_1] at h; cases h
 | k0 + 1, p1, p2, r, h => by
  rw [law1_sameType.eq_2] at h
  refine zF 24 Tryd.f27 (zq fun K1 hK1 => zr (zg [] 3 [2,3] (zd (hK1 _ _ (zq fun K2 hK2 => ?_)))))
  have hJ1 : ∀ (x1 : Bool), law1_sameType_j1 x1 = some r → ∀ fr1 st1, Sub 24 0 [] fr1 st1 [(4, vb x1)] [] → K2 fr1 st1 := by
   intro x1 h fr1 st1 hS
   unfold law1_sameType_j1 at h
   refine hK2 _ _ (XW.sub hS ?_)
   refine ze ?_
   obtain rfl := Option.some.inj h
   exact zf [vb x1] (.one (.rfl _ rfl))
  rcases zW h with ⟨b3, h⟩ | ⟨b3, h⟩
  ·rcases zW h with ⟨b4, h⟩ | ⟨b4, h⟩
   ·obtain ⟨r1, c5, h⟩ := zB h
    refine zr (zu [] 6 [2,3,10] [(qa2721 p1), (qa2722 p2)] (zt 10 b3 (zv [] 7 [2,3,17] [(qa2721 p1), (qa2722 p2)] [(2, .one (.pv (.rp [(qa2721 p1)] 0 0))), (3, .one (.pv (.rp [(qa2722 p2)] 0 0))), (17, vb (p1.scale == p2.scale))] [] (zt 17 b4 ?_))))
    exact zu [] 4 [17,19,21] [(qa2721 p1), (qa2722 p2)] (za (c_law1_sameFields k0 _ _ _ c5) (zv [] 2 [4] [] [(4, vb r1)] [] (zd (hJ1 r1 h _ _ (zk [4])))))
   ·exact zr (zu [] 6 [2,3,10] [(qa2721 p1), (qa2722 p2)] (zt 10 b3 (zu [] 7 [2,3,17] [(qa2721 p1), (qa2722 p2)] (zt 17 b4 (zv [] 7 [4] [] [(4, vb false)] [] (zd (hJ1 false h _ _ (zk [4]))))))))
  ·exact zr (zu [] 6 [2,3,10] [(qa2721 p1), (qa2722 p2)] (zt 10 b3 (zv [] 14 [4] [] [(4, vb false)] [] (zd (hJ1 false h _ _ (zk [4]))))))

end

def ref1_truth_j1 (p1 : GValue) (x1 : Bool) : Option Int :=
    ift x1
      (some (-1 : Int))
      (some p1.n)

def ref1_truth (p1 : GValue) : Option Int :=
    ift (p1.kind != (1 : Int))
      (ref1_truth_j1 p1 true)
      (bnd (ref1_Sound p1) fun r1 =>
       ref1_truth_j1 p1 (!r1))

abbrev qa2726 (p1 : GValue) : List CV := [ci p1.kind, ci p1.n, ci p1.scale, cst p1.s, cl eValue p1.items]
abbrev qa2727 (p1 : GValue) : List PV := [pi p1.kind, pi p1.n, pi p1.scale, .s (.string p1.s), .ro (eValue.els p1.items)]

theorem c_ref1_truth (p1 : GValue) (r : Int) (h : ref1_truth p1 = some r) : PC Tryd.prog 72 [.ag (qa2726 p1)] (vi r) := by
 unfold ref1_truth at h
 refine zF 13 Tryd.f72 (zq fun K1 hK1 => zr (zg [] 2 [1] (zd (hK1 _ _ (zq fun K2 hK2 => zq fun K3 hK3 => ?_)))))
 have hJ1 : ∀ (x1 : Bool), ref1_truth_j1 p1 x1 = some r → ∀ fr1 st1, Sub 13 0 [] fr1 st1 [(1, .one (.pv (.rp [(qa2727 p1)] 0 0))), (10, vb x1)] [] → K3 fr1 st1 := by
  intro x1 h fr1 st1 hS
  unfold ref1_truth_j1 at h
  refine hK3 _ _ (XW.sub hS ?_)
  refine zC h (fun b6 h => ?_) (fun b6 h => ?_)
  ·refine zq fun K7 hK7 => zr (zg [] 1 [2] (zd (hK7 _ _ (ze ?_))))
   obtain rfl := Option.some.inj h
   exact zf [vi (-1 : Int)] (.one (.rfl _ rfl))
  ·refine zs (hK2 _ _ (zq fun K8 hK8 => zr (zu [] 3 [2] [(qa2727 p1)] (zd (hK8 _ _ (ze ?_))))))
   obtain rfl := Option.some.inj h
   exact zf [vi p1.n] (.one (.rfl _ rfl))
 rcases zW h with ⟨b4, h⟩ | ⟨b4, h⟩
 ·exact zr (zu [] 4 [1,6] [(qa2727 p1)] (zt 6 b4 (zv [] 4 [1,10] [] [(1, .one (.pv (.rp [(qa2727 p1)] 0 0))), (10, vb true)] [] (zd (hJ1 true h _ _ (zk [1,10]))))))
 ·obtain ⟨r1, c5, h⟩ := zB h
  exact zr (zu [] 4 [1,6] [(qa2727 p1)] (zt 6 b4 (zu [] 1 [1,6,7] [(qa2727 p1)] (zl 11 [.ag (qa2726 p1)] (vb r1) [(8, vb r1), (1, .one (.pv (.rp [(qa2727 p1)] 0 0))), (6, vb false), (7, .ag (qa2726 p1))] (c_ref1_Sound _ _ c5) (zg [] 2 [1,10] (zd (hJ1 (!r1) h _ _ (zk [1,10]))))))))

def ref1_logic_j2 (p1 : Int) (x2 : Bool) : Option GValue :=
    ift x2
      (some (GValue.mk (0 : Int) (0 : Int) (0 : Int) ByteArray.empty []))
      (some (GValue.mk (1 : Int) (IntKind.i64.wrap ((1 : Int) - p1)) (0 : Int) ByteArray.empty []))

def ref1_logic_j1 (p1 : Int) (p2 : Int) (p3 : Int) (x1 : Bool) : Option GValue :=
    ift x1
      (some (GValue.mk (1 : Int) p1 (0 : Int) ByteArray.empty []))
      (ift (decide (p2 < (0 : Int)))
         (ref1_logic_j2 p1 true)
         (ref1_logic_j2 p1 (decide (p3 < (0 : Int)))))

def ref1_logic (p1 : Int) (p2 : Int) (p3 : Int) : Option GValue :=
    ift (p2 == p1)
      (ref1_logic_j1 p1 p2 p3 true)
      (ref1_logic_j1 p1 p2 p3 (p3 == p1))

abbrev qa2733 : List CV := [ci (0 : Int), ci (0 : Int), ci (0 : Int), cst ByteArray.empty, .pv (.s (.slice none 0 0))]

theorem c_ref1_logic (p1 : Int) (p2 : Int) (p3 : Int) (r : GValue) (h : ref1_logic p1 p2 p3 = some r) : PC Tryd.prog 71 [vi p1, vi p2, vi p3] (.ag [ci r.kind, ci r.n, ci r.scale, cst r.s, cl eValue r.items]) := by
 unfold ref1_logic at h
 refine zF 27 Tryd.f71 (zq fun K1 hK1 => zr (zg [6] 1 [0,1,2,6] (zd (hK1 _ _ (zq fun K2 hK2 => zq fun K3 hK3 => ?_)))))
 have hJ1 : ∀ (x1 : Bool), ref1_logic_j1 p1 p2 p3 x1 = some r → ∀ fr1 st1, Sub 27 0 [] fr1 st1 [(0, vi p1), (1, vi p2), (2, vi p3), (6, .one (.pt 0 0 0 0)), (14, vb x1)] [.box qa2733] → K3 fr1 st1 := by
  intro x1 h fr1 st1 hS
  unfold ref1_logic_j1 at h
  refine hK3 _ _ (XW.sub hS ?_)
  refine zC h (fun b5 h => ?_) (fun b5 h => ?_)
  ·refine zq fun K6 hK6 => zr (zg [6] 3 [6] (zd (hK6 _ _ (ze ?_))))
   obtain rfl := Option.some.inj h
   exact zf [.ag [ci (1 : Int), ci p1, ci (0 : Int), cst ByteArray.empty, .pv (.s (.slice none 0 0))]] (.ag (.cons (.rfl _ rfl) (.cons (.rfl _ rfl) (.cons (.rfl _ rfl) (.cons (.rfl _ rfl) (.cons (.nl) .nil))))))
  ·refine zs (hK2 _ _ (zq fun K7 hK7 => zq fun K8 hK8 => ?_))
   have hJ2 : ∀ (x2 : Bool), ref1_logic_j2 p1 x2 = some r → ∀ fr1 st1, Sub 27 0 [] fr1 st1 [(0, vi p1), (6, .one (.pt 0 0 0 0)), (22, vb x2)] [.box qa2733] → K8 fr1 st1 := by
    intro x2 h fr1 st1 hS
    unfold ref1_logic_j2 at h
    refine hK8 _ _ (XW.sub hS ?_)
    refine zC h (fun b10 h => ?_) (fun b10 h => ?_)
    ·refine zq fun K11 hK11 => zr (zg [6] 2 [6] (zd (hK11 _ _ (ze ?_))))
     obtain rfl := Option.some.inj h
     exact zf [.ag qa2733] (.ag (.cons (.rfl _ rfl) (.cons (.rfl _ rfl) (.cons (.rfl _ rfl) (.cons (.rfl _ rfl) (.cons (.nl) .nil))))))
    ·refine zs (hK7 _ _ (zq fun K12 hK12 => zr (zg [6] 4 [6] (zd (hK12 _ _ (ze ?_))))))
     obtain rfl := Option.some.inj h
     exact zf [.ag [ci (1 : Int), ci (IntKind.i64.wrap ((1 : Int) - p1)), ci (0 : Int), cst ByteArray.empty, .pv (.s (.slice none 0 0))]] (.ag (.cons (.rfl _ rfl) (.cons (.rfl _ rfl) (.cons (.rfl _ rfl) (.cons (.rfl _ rfl) (.cons (.nl) .nil))))))
   rcases zW h with ⟨b9, h⟩ | ⟨b9, h⟩
   ·exact zr (zg [6] 3 [0,2,6,19] (zt 19 b9 (zv [6] 3 [0,6,22] [] [(0, vi p1), (6, .one (.pt 0 0 0 0)), (22, vb true)] [.box qa2733] (zd (hJ2 true h _ _ (zk [0,6,22]))))))
   ·exact zr (zg [6] 3 [0,2,6,19] (zt 19 b9 (zg [6] 3 [0,6,22] (zd (hJ2 (decide (p3 < (0 : Int))) h _ _ (zk [0,6,22]))))))
 rcases zW h with ⟨b4, h⟩ | ⟨b4, h⟩
 ·exact zr (zg [6] 4 [0,1,2,6,10] (zt 10 b4 (zv [6] 4 [0,1,2,6,14] [] [(0, vi p1), (1, vi p2), (2, vi p3), (6, .one (.pt 0 0 0 0)), (14, vb true)] [.box qa2733] (zd (hJ1 true h _ _ (zk [0,1,2,6,14]))))))
 ·exact zr (zg [6] 4 [0,1,2,6,10] (zt 10 b4 (zg [6] 4 [0,1,2,6,14] (zd (hJ1 (p3 == p1) h _ _ (zk [0,1,2,6,14]))))))

def ref1_towards (p1 : RWide) (p2 : RWide) : Option RWide :=
    bnd (ref1_divide p1.d p2.d) fun r1 =>
    bnd (ref1_cut (!(p1.below == p2.below)) r1.1) fun r2 =>
    some r2


theorem c_ref1_towards (p1 : RWide) (p2 : RWide) (r : RWide) (h : ref1_towards p1 p2 = some r) : PC Tryd.prog 74 [.ag [cb p1.below, cl eI p1.d], .ag [cb p2.below, cl eI p2.d]] (.ag [cb r.below, cl eI r.d]) := by
 unfold ref1_towards at h
 refine zF 22 Tryd.f74 (zq fun K1 hK1 => zr (zg [4] 3 [2,3,4] (zd (hK1 _ _ (zq fun K2 hK2 => ?_)))))
 obtain ⟨r1, c3, h⟩ := zB h
 refine zr (zu [4] 4 [2,3,4,9,11] [[.s (.bool p1.below), .ro (eI.els p1.d)], [.s (.bool p2.below), .ro (eI.els p2.d)]] (zl 99 [vl eI p1.d, vl eI p2.d] (.tp [vl eI r1.1, vl eI r1.2]) [(12, .tp [vl eI r1.1, vl eI r1.2]), (2, .one (.pv (.rp [[.s (.bool p1.below), .ro (eI.els p1.d)]] 0 0))), (3, .one (.pv (.rp [[.s (.bool p2.below), .ro (eI.els p2.d)]] 0 0))), (4, .one (.pt 0 0 0 0)), (9, vl eI p1.d), (11, vl eI p2.d)] (c_ref1_divide _ _ _ c3) (zg [4] 5 [2,3,4,5] (zd (hK2 _ _ (zq fun K4 hK4 => ?_))))))
 obtain ⟨r2, c5, h⟩ := zB h
 refine zr (zu [4] 6 [4,19,20] [[.s (.bool p1.below), .ro (eI.els p1.d)], [.s (.bool p2.below), .ro (eI.els p2.d)]] (zl 102 [vb (!(p1.below == p2.below)), vl eI r1.1] (.ag [cb r2.below, cl eI r2.d]) [(21, .ag [cb r2.below, cl eI r2.d]), (4, .one (.pt 0 0 0 0)), (19, vb (!(p1.below == p2.below))), (20, vl eI r1.1)] (c_ref1_cut _ _ _ c5) (zg [4] 1 [4] (zd (hK4 _ _ (ze ?_))))))
 obtain rfl := Option.some.inj h
 exact zf [.ag [cb r2.below, cl eI r2.d]] (.ag (.cons (.rfl _ rfl) (.cons (.rfl _ rfl) .nil)))

def ref1_addWide (p1 : RWide) (p2 : RWide) : Option RWide :=
    ift (p1.below == p2.below)
      (bnd (ref1_plus p1.d p2.d) fun r1 =>
       bnd (ref1_cut p1.below r1) fun r2 =>
       some r2)
      (bnd (ref1_most p1.d p2.d) fun r3 =>
       ift (decide ((0 : Int) ≤ r3))
         (bnd (ref1_minus p1.d p2.d) fun r4 =>
          bnd (ref1_cut p1.below r4) fun r5 =>
          some r5)
         (bnd (ref1_minus p2.d p1.d) fun r6 =>
          bnd (ref1_cut p2.below r6) fun r7 =>
          some r7))

abbrev qa2751 (p1 : RWide) : List PV := [.s (.bool p1.below), .ro (eI.els p1.d)]
abbrev qa2752 (p2 : RWide) : List PV := [.s (.bool p2.below), .ro (eI.els p2.d)]
abbrev qa2761 (p1 : RWide) (p2 : RWide) (r3 : Int) (r4 : (List Int)) : Fr := [(30, vl eI r4), (29, vl eI p2.d), (28, .one (.pv (.rp [(qa2752 p2)] 0 1))), (27, vl eI p1.d), (26, .one (.pv (.rp [(qa2751 p1)] 0 1))), (25, vb p1.below), (24, .one (.pv (.rp [(qa2751 p1)] 0 0))), (2, .one (.pv (.rp [(qa2751 p1)] 0 0))), (3, .one (.pv (.rp [(qa2752 p2)] 0 0))), (4, .one (.pt 0 0 0 0)), (23, vb (decide ((0 : Int) ≤ r3)))]

theorem c_ref1_addWide (p1 : RWide) (p2 : RWide) (r : RWide) (h : ref1_addWide p1 p2 = some r) : PC Tryd.prog 90 [.ag [cb p1.below, cl eI p1.d], .ag [cb p2.below, cl eI p2.d]] (.ag [cb r.below, cl eI r.d]) := by
 unfold ref1_addWide at h
 refine zF 40 Tryd.f90 (zq fun K1 hK1 => zr (zg [4] 3 [2,3,4] (zd (hK1 _ _ (zq fun K2 hK2 => zq fun K3 hK3 => ?_)))))
 refine zr (zu [4] 5 [2,3,4,9] [(qa2751 p1), (qa2752 p2)] (zd (hK3 _ _ (zC h (fun b4 h => ?_) (fun b4 h => ?_)))))
 ·refine zq fun K5 hK5 => ?_
  obtain ⟨r1, c6, h⟩ := zB h
  obtain ⟨r2, c7, h⟩ := zB h
  refine zw 7 [(16, vl eI r1), (15, vl eI p2.d), (14, .one (.pv (.rp [(qa2752 p2)] 0 1))), (13, vl eI p1.d), (12, .one (.pv (.rp [(qa2751 p1)] 0 1))), (11, vb p1.below), (10, .one (.pv (.rp [(qa2751 p1)] 0 0))), (2, .one (.pv (.rp [(qa2751 p1)] 0 0))), (3, .one (.pv (.rp [(qa2752 p2)] 0 0))), (4, .one (.pt 0 0 0 0)), (9, vb (p1.below == p2.below))] ?_ ?_
  ·refine zyv 6 [(qa2751 p1), (qa2751 p1), (qa2752 p2)] [(15, vl eI p2.d), (14, .one (.pv (.rp [(qa2752 p2)] 0 1))), (13, vl eI p1.d), (12, .one (.pv (.rp [(qa2751 p1)] 0 1))), (11, vb p1.below), (10, .one (.pv (.rp [(qa2751 p1)] 0 0))), (2, .one (.pv (.rp [(qa2751 p1)] 0 0))), (3, .one (.pv (.rp [(qa2752 p2)] 0 0))), (4, .one (.pt 0 0 0 0)), (9, vb (p1.below == p2.below))] ?_
   exact zya (c_ref1_plus _ _ _ c6) zyd
  refine zl 102 [vb p1.below, vl eI r1] (.ag [cb r2.below, cl eI r2.d]) [(17, .ag [cb r2.below, cl eI r2.d]), (16, vl eI r1), (15, vl eI p2.d), (14, .one (.pv (.rp [(qa2752 p2)] 0 1))), (13, vl eI p1.d), (12, .one (.pv (.rp [(qa2751 p1)] 0 1))), (11, vb p1.below), (10, .one (.pv (.rp [(qa2751 p1)] 0 0))), (2, .one (.pv (.rp [(qa2751 p1)] 0 0))), (3, .one (.pv (.rp [(qa2752 p2)] 0 0))), (4, .one (.pt 0 0 0 0)), (9, vb (p1.below == p2.below))] (c_ref1_cut _ _ _ c7) ?_
  refine zg [4] 1 [4] (zd (hK5 _ _ (ze ?_)))
  obtain rfl := Option.some.inj h
  exact zf [.ag [cb r2.below, cl eI r2.d]] (.ag (.cons (.rfl _ rfl) (.cons (.rfl _ rfl) .nil)))
 ·refine zs (hK2 _ _ (zq fun K8 hK8 => zq fun K9 hK9 => ?_))
  obtain ⟨r3, c10, h⟩ := zB h
  refine zr (zu [4] 4 [2,3,4,19,21] [(qa2751 p1), (qa2752 p2)] (zl 100 [vl eI p1.d, vl eI p2.d] (vi r3) [(22, vi r3), (2, .one (.pv (.rp [(qa2751 p1)] 0 0))), (3, .one (.pv (.rp [(qa2752 p2)] 0 0))), (4, .one (.pt 0 0 0 0)), (19, vl eI p1.d), (21, vl eI p2.d)] (c_ref1_most _ _ _ c10) (zg [4] 1 [2,3,4,23] (zd (hK9 _ _ (zC h (fun b11 h => ?_) (fun b11 h => ?_)))))))
  ·refine zq fun K12 hK12 => ?_
   obtain ⟨r4, c13, h⟩ := zB h
   obtain ⟨r5, c14, h⟩ := zB h
   refine zw 7 (qa2761 p1 p2 r3 r4) ?_ ?_
   ·refine zyu 6 [(qa2751 p1), (qa2751 p1), (qa2752 p2)] ?_
    refine DX.cal 119 [vl eI p1.d, vl eI p2.d] (vl eI r4) (qa2761 p1 p2 r3 r4) (by kernel_rfl) (c_ref1_minus _ _ _ c13) rfl rfl (by kernel_rfl) ?_
    exact zyd
   refine za (c_ref1_cut _ _ _ c14) (zv [4] 1 [4] [] [(4, .one (.pt 0 0 0 0))] [.box [cb r5.below, cl eI r5.d]] (zd (hK12 _ _ (ze ?_))))
   obtain rfl := Option.some.inj h
   exact zf [.ag [cb r5.below, cl eI r5.d]] (.ag (.cons (.rfl _ rfl) (.cons (.rfl _ rfl) .nil)))
  ·refine zs (hK8 _ _ (zq fun K15 hK15 => ?_))
   obtain ⟨r6, c16, h⟩ := zB h
   obtain ⟨r7, c17, h⟩ := zB h
   refine zw 7 [(38, vl eI r6), (37, vl eI p1.d), (36, .one (.pv (.rp [(qa2751 p1)] 0 1))), (35, vl eI p2.d), (34, .one (.pv (.rp [(qa2752 p2)] 0 1))), (33, vb p2.below), (32, .one (.pv (.rp [(qa2752 p2)] 0 0))), (2, .one (.pv (.rp [(qa2751 p1)] 0 0))), (3, .one (.pv (.rp [(qa2752 p2)] 0 0))), (4, .one (.pt 0 0 0 0)), (23, vb (decide ((0 : Int) ≤ r3)))] ?_ ?_
   ·exact zyu 6 [(qa2752 p2), (qa2752 p2), (qa2751 p1)] (zya (c_ref1_minus _ _ _ c16) zyd)
   refine za (c_ref1_cut _ _ _ c17) (zg [4] 1 [4] (zd (hK15 _ _ (ze ?_))))
   obtain rfl := Option.some.inj h
   exact zf [.ag [cb r7.below, cl eI r7.d]] (.ag (.cons (.rfl _ rfl) (.cons (.rfl _ rfl) .nil)))

def ref1_opposite (p1 : RWide) : Option RWide :=
    bnd (ref1_cut (!p1.below) p1.d) fun r1 =>
    some r1


theorem c_ref1_opposite (p1 : RWide) (r : RWide) (h : ref1_opposite p1 = some r) : PC Tryd.prog 113 [.ag [cb p1.below, cl eI p1.d]] (.ag [cb r.below, cl eI r.d]) := by
 unfold ref1_opposite at h
 refine zF 9 Tryd.f113 (zq fun K1 hK1 => zr (zg [2] 2 [1,2] (zd (hK1 _ _ (zq fun K2 hK2 => ?_)))))
 obtain ⟨r1, c3, h⟩ := zB h
 refine zr (zu [2] 5 [2,5,7] [[.s (.bool p1.below), .ro (eI.els p1.d)], [.s (.bool p1.below), .ro (eI.els p1.d)]] (zl 102 [vb (!p1.below), vl eI p1.d] (.ag [cb r1.below, cl eI r1.d]) [(8, .ag [cb r1.below, cl eI r1.d]), (2, .one (.pt 0 0 0 0)), (5, vb (!p1.below)), (7, vl eI p1.d)] (c_ref1_cut _ _ _ c3) (zg [2] 1 [2] (zd (hK2 _ _ (ze ?_))))))
 obtain rfl := Option.some.inj h
 exact zf [.ag [cb r1.below, cl eI r1.d]] (.ag (.cons (.rfl _ rfl) (.cons (.rfl _ rfl) .nil)))

def ref1_exact_j1 (p1 : Int) (p4 : Int) (r2 : RWide) (r4 : RWide) (r6 : RWide) (x1 : Bool) : Option (RWide × Bool) :=
    ift x1
      (some ((RWide.mk false []), false))
      (ift (p1 == (1 : Int))
         (bnd (ref1_addWide r2 r4) fun r7 =>
          bnd (ref1_towards r7 r6) fun r8 =>
          some (r8, true))
         (ift (p1 == (2 : Int))
            (bnd (ref1_opposite r4) fun r9 =>
             bnd (ref1_addWide r2 r9) fun r10 =>
             bnd (ref1_towards r10 r6) fun r11 =>
             some (r11, true))
            (ift (p1 == (3 : Int))
               (bnd (ref1_mulWide r2 r4) fun r12 =>
                bnd (ref1_tens r6 (12 : Int)) fun r13 =>
                bnd (ref1_even r12 r13) fun r14 =>
                some (r14, true))
               (ift (p1 == (4 : Int))
                  (bnd (ref1_tens r2 p4) fun r15 =>
                   bnd (ref1_even r15 r4) fun r16 =>
                   some (r16, true))
                  (bnd (ref1_towards r2 r4) fun r17 =>
                   bnd (ref1_mulWide r4 r17) fun r18 =>
                   bnd (ref1_opposite r18) fun r19 =>
                   bnd (ref1_addWide r2 r19) fun r20 =>
                   bnd (ref1_towards r20 r6) fun r21 =>
                   some (r21, true))))))

def ref1_exact (p1 : Int) (p2 : GValue) (p3 : GValue) (p4 : Int) : Option (RWide × Bool) :=
    bnd (ref1_wideOf p2.n) fun r1 =>
    bnd (ref1_tens r1 (IntKind.i64.wrap ((12 : Int) - p2.scale))) fun r2 =>
    bnd (ref1_wideOf p3.n) fun r3 =>
    bnd (ref1_tens r3 (IntKind.i64.wrap ((12 : Int) - p3.scale))) fun r4 =>
    bnd (ref1_wideOf (1 : Int)) fun r5 =>
    bnd (ref1_tens r5 (IntKind.i64.wrap ((12 : Int) - p4))) fun r6 =>
    ift ((r4.d.length : Int) == (0 : Int))
      (ift (p1 == (4 : Int))
         (ref1_exact_j1 p1 p4 r2 r4 r6 true)
         (ref1_exact_j1 p1 p4 r2 r4 r6 (p1 == (5 : Int))))
      (ref1_exact_j1 p1 p4 r2 r4 r6 false)

abbrev qa2772 (p2 : GValue) : List PV := [pi p2.kind, pi p2.n, pi p2.scale, .s (.string p2.s), .ro (eValue.els p2.items)]
abbrev qa2773 (p3 : GValue) : List PV := [pi p3.kind, pi p3.n, pi p3.scale, .s (.string p3.s), .ro (eValue.els p3.items)]
abbrev qa2774 : List CV := [cb false, .pv (.s (.slice none 0 0))]
abbrev qa2775 (r4 : RWide) : List CV := [cb r4.below, cl eI r4.d]
abbrev qa2776 (r3 : RWide) : List CV := [cb r3.below, cl eI r3.d]
abbrev qa2777 (r2 : RWide) : List CV := [cb r2.below, cl eI r2.d]
abbrev qa2778 (r1 : RWide) : List CV := [cb r1.below, cl eI r1.d]
abbrev qa2781 (r6 : RWide) : List CV := [cb r6.below, cl eI r6.d]
abbrev qa2804 (p1 : Int) (p2 : GValue) (p3 : GValue) (p4 : Int) (r1 : RWide) (r2 : RWide) (r3 : RWide) (r4 : RWide) : Fr := [(11, .one (.pt 2 0 0 0)), (10, .one (.pt 1 0 0 0)), (26, .ag (qa2775 r4)), (25, vi (IntKind.i64.wrap ((12 : Int) - p3.scale))), (24, vi p3.scale), (23, .one (.pv (.rp [(qa2773 p3)] 0 2))), (22, .ag (qa2776 r3)), (21, vi p3.n), (20, .one (.pv (.rp [(qa2773 p3)] 0 1))), (19, .ag (qa2777 r2)), (18, vi (IntKind.i64.wrap ((12 : Int) - p2.scale))), (17, vi p2.scale), (16, .one (.pv (.rp [(qa2772 p2)] 0 2))), (15, .ag (qa2778 r1)), (14, vi p2.n), (13, .one (.pv (.rp [(qa2772 p2)] 0 1))), (0, vi p1), (3, vi p4), (5, .one (.pv (.rp [(qa2772 p2)] 0 0))), (6, .one (.pv (.rp [(qa2773 p3)] 0 0))), (8, .one (.pt 0 0 0 0))]
abbrev qa2818 (r2 : RWide) (r4 : RWide) (r6 : RWide) : St := [.box qa2774, .box (qa2777 r2), .box (qa2775 r4), .box (qa2781 r6)]
abbrev qa2819 (p1 : Int) (p4 : Int) (r2 : RWide) (r4 : RWide) (r6 : RWide) (r7 : RWide) : Fr := [(50, .ag (qa2781 r6)), (49, .ag [cb r7.below, cl eI r7.d]), (48, .ag (qa2775 r4)), (47, .ag (qa2777 r2)), (3, vi p4), (8, .one (.pt 0 0 0 0)), (10, .one (.pt 1 0 0 0)), (11, .one (.pt 2 0 0 0)), (12, .one (.pt 3 0 0 0)), (44, vi p1), (45, vb (p1 == (1 : Int)))]
abbrev qa2822 (p1 : Int) (p4 : Int) (r2 : RWide) (r4 : RWide) (r6 : RWide) (r12 : RWide) : Fr := [(65, .ag (qa2781 r6)), (64, .ag [cb r12.below, cl eI r12.d]), (63, .ag (qa2775 r4)), (62, .ag (qa2777 r2)), (3, vi p4), (8, .one (.pt 0 0 0 0)), (10, .one (.pt 1 0 0 0)), (11, .one (.pt 2 0 0 0)), (12, .one (.pt 3 0 0 0)), (44, vi p1), (60, vb (p1 == (3 : Int)))]
abbrev qa2827 (p1 : Int) (p4 : Int) (r2 : RWide) (r4 : RWide) (r6 : RWide) (r17 : RWide) (r18 : RWide) (r19 : RWide) (r20 : RWide) : Fr := [(83, .ag (qa2781 r6)), (82, .ag [cb r20.below, cl eI r20.d]), (81, .ag [cb r19.below, cl eI r19.d]), (80, .ag [cb r18.below, cl eI r18.d]), (79, .ag [cb r17.below, cl eI r17.d]), (78, .ag (qa2775 r4)), (77, .ag (qa2777 r2)), (76, .ag (qa2775 r4)), (75, .ag (qa2777 r2)), (3, vi p4), (8, .one (.pt 0 0 0 0)), (10, .one (.pt 1 0 0 0)), (11, .one (.pt 2 0 0 0)), (12, .one (.pt 3 0 0 0)), (68, vb (p1 == (4 : Int)))]

theorem c_ref1_exact (p1 : Int) (p2 : GValue) (p3 : GValue) (p4 : Int) (r : (RWide × Bool)) (h : ref1_exact p1 p2 p3 p4 = some r) : PC Tryd.prog 75 [vi p1, .ag [ci p2.kind, ci p2.n, ci p2.scale, cst p2.s, cl eValue p2.items], .ag [ci p3.kind, ci p3.n, ci p3.scale, cst p3.s, cl eValue p3.items], vi p4] (.tp [.ag [cb r.1.below, cl eI r.1.d], vb r.2]) := by
 unfold ref1_exact at h
 refine zF 85 Tryd.f75 (zq fun K1 hK1 => zr (zv [8, 10, 11, 12] 4 [0,3,5,6,8] [] [(0, vi p1), (3, vi p4), (5, .one (.pv (.rp [(qa2772 p2)] 0 0))), (6, .one (.pv (.rp [(qa2773 p3)] 0 0))), (8, .one (.pt 0 0 0 0))] [.box qa2774] (zd (hK1 _ _ (zq fun K2 hK2 => ?_)))))
 obtain ⟨r1, c3, h⟩ := zB h
 obtain ⟨r2, c4, h⟩ := zB h
 obtain ⟨r3, c5, h⟩ := zB h
 obtain ⟨r4, c6, h⟩ := zB h
 refine XW.sub (Sub.dead 2) ?_
 refine XW.drwG 16 [1, 2, 3] [([], []), ([], []), ([], []), ([], []), ([], []), ([], []), ([], []), ([], []), ([], []), ([], []), ([], []), ([], []), ([], []), ([], []), ([1], [1]), ([2], [2])] (qa2804 p1 p2 p3 p4 r1 r2 r3 r4) [.box qa2774, .box qa2774, .box qa2774] (by kernel_rfl) (by kernel_rfl) ?_ ?_
 ·refine zgv 2 [(qa2772 p2)] [(14, vi p2.n), (13, .one (.pv (.rp [(qa2772 p2)] 0 1))), (0, vi p1), (3, vi p4), (5, .one (.pv (.rp [(qa2772 p2)] 0 0))), (6, .one (.pv (.rp [(qa2773 p3)] 0 0))), (8, .one (.pt 0 0 0 0))] ?_
  refine GY.cal 55 [vi p2.n] (.ag (qa2778 r1)) [(15, .ag (qa2778 r1)), (14, vi p2.n), (13, .one (.pv (.rp [(qa2772 p2)] 0 1))), (0, vi p1), (3, vi p4), (5, .one (.pv (.rp [(qa2772 p2)] 0 0))), (6, .one (.pv (.rp [(qa2773 p3)] 0 0))), (8, .one (.pt 0 0 0 0))] [] (by kernel_rfl) (by kernel_rfl) (c_ref1_wideOf _ _ c3) rfl rfl (by kernel_rfl) (by kernel_rfl) (by kernel_rfl) ?_
  refine zgv 3 [(qa2772 p2)] [(18, vi (IntKind.i64.wrap ((12 : Int) - p2.scale))), (17, vi p2.scale), (16, .one (.pv (.rp [(qa2772 p2)] 0 2))), (15, .ag (qa2778 r1)), (14, vi p2.n), (13, .one (.pv (.rp [(qa2772 p2)] 0 1))), (0, vi p1), (3, vi p4), (5, .one (.pv (.rp [(qa2772 p2)] 0 0))), (6, .one (.pv (.rp [(qa2773 p3)] 0 0))), (8, .one (.pt 0 0 0 0))] ?_
  refine GY.cal 56 [.ag (qa2778 r1), vi (IntKind.i64.wrap ((12 : Int) - p2.scale))] (.ag (qa2777 r2)) [(19, .ag (qa2777 r2)), (18, vi (IntKind.i64.wrap ((12 : Int) - p2.scale))), (17, vi p2.scale), (16, .one (.pv (.rp [(qa2772 p2)] 0 2))), (15, .ag (qa2778 r1)), (14, vi p2.n), (13, .one (.pv (.rp [(qa2772 p2)] 0 1))), (0, vi p1), (3, vi p4), (5, .one (.pv (.rp [(qa2772 p2)] 0 0))), (6, .one (.pv (.rp [(qa2773 p3)] 0 0))), (8, .one (.pt 0 0 0 0))] [] (by kernel_rfl) (by kernel_rfl) (c_ref1_tens _ _ _ c4) rfl rfl (by kernel_rfl) (by kernel_rfl) (by kernel_rfl) ?_
  refine zgv 2 [(qa2773 p3)] [(21, vi p3.n), (20, .one (.pv (.rp [(qa2773 p3)] 0 1))), (19, .ag (qa2777 r2)), (18, vi (IntKind.i64.wrap ((12 : Int) - p2.scale))), (17, vi p2.scale), (16, .one (.pv (.rp [(qa2772 p2)] 0 2))), (15, .ag (qa2778 r1)), (14, vi p2.n), (13, .one (.pv (.rp [(qa2772 p2)] 0 1))), (0, vi p1), (3, vi p4), (5, .one (.pv (.rp [(qa2772 p2)] 0 0))), (6, .one (.pv (.rp [(qa2773 p3)] 0 0))), (8, .one (.pt 0 0 0 0))] ?_
  refine GY.cal 55 [vi p3.n] (.ag (qa2776 r3)) [(22, .ag (qa2776 r3)), (21, vi p3.n), (20, .one (.pv (.rp [(qa2773 p3)] 0 1))), (19, .ag (qa2777 r2)), (18, vi (IntKind.i64.wrap ((12 : Int) - p2.scale))), (17, vi p2.scale), (16, .one (.pv (.rp [(qa2772 p2)] 0 2))), (15, .ag (qa2778 r1)), (14, vi p2.n), (13, .one (.pv (.rp [(qa2772 p2)] 0 1))), (0, vi p1), (3, vi p4), (5, .one (.pv (.rp [(qa2772 p2)] 0 0))), (6, .one (.pv (.rp [(qa2773 p3)] 0 0))), (8, .one (.pt 0 0 0 0))] [] (by kernel_rfl) (by kernel_rfl) (c_ref1_wideOf _ _ c5) rfl rfl (by kernel_rfl) (by kernel_rfl) (by kernel_rfl) ?_
  refine zgv 3 [(qa2773 p3)] [(25, vi (IntKind.i64.wrap ((12 : Int) - p3.scale))), (24, vi p3.scale), (23, .one (.pv (.rp [(qa2773 p3)] 0 2))), (22, .ag (qa2776 r3)), (21, vi p3.n), (20, .one (.pv (.rp [(qa2773 p3)] 0 1))), (19, .ag (qa2777 r2)), (18, vi (IntKind.i64.wrap ((12 : Int) - p2.scale))), (17, vi p2.scale), (16, .one (.pv (.rp [(qa2772 p2)] 0 2))), (15, .ag (qa2778 r1)), (14, vi p2.n), (13, .one (.pv (.rp [(qa2772 p2)] 0 1))), (0, vi p1), (3, vi p4), (5, .one (.pv (.rp [(qa2772 p2)] 0 0))), (6, .one (.pv (.rp [(qa2773 p3)] 0 0))), (8, .one (.pt 0 0 0 0))] ?_
  refine GY.cal 56 [.ag (qa2776 r3), vi (IntKind.i64.wrap ((12 : Int) - p3.scale))] (.ag (qa2775 r4)) [(26, .ag (qa2775 r4)), (25, vi (IntKind.i64.wrap ((12 : Int) - p3.scale))), (24, vi p3.scale), (23, .one (.pv (.rp [(qa2773 p3)] 0 2))), (22, .ag (qa2776 r3)), (21, vi p3.n), (20, .one (.pv (.rp [(qa2773 p3)] 0 1))), (19, .ag (qa2777 r2)), (18, vi (IntKind.i64.wrap ((12 : Int) - p2.scale))), (17, vi p2.scale), (16, .one (.pv (.rp [(qa2772 p2)] 0 2))), (15, .ag (qa2778 r1)), (14, vi p2.n), (13, .one (.pv (.rp [(qa2772 p2)] 0 1))), (0, vi p1), (3, vi p4), (5, .one (.pv (.rp [(qa2772 p2)] 0 0))), (6, .one (.pv (.rp [(qa2773 p3)] 0 0))), (8, .one (.pt 0 0 0 0))] [] (by kernel_rfl) (by kernel_rfl) (c_ref1_tens _ _ _ c6) rfl rfl (by kernel_rfl) (by kernel_rfl) (by kernel_rfl) ?_
  refine GY.new true 1 [] [(10, .one (.pt 1 0 0 0)), (26, .ag (qa2775 r4)), (25, vi (IntKind.i64.wrap ((12 : Int) - p3.scale))), (24, vi p3.scale), (23, .one (.pv (.rp [(qa2773 p3)] 0 2))), (22, .ag (qa2776 r3)), (21, vi p3.n), (20, .one (.pv (.rp [(qa2773 p3)] 0 1))), (19, .ag (qa2777 r2)), (18, vi (IntKind.i64.wrap ((12 : Int) - p2.scale))), (17, vi p2.scale), (16, .one (.pv (.rp [(qa2772 p2)] 0 2))), (15, .ag (qa2778 r1)), (14, vi p2.n), (13, .one (.pv (.rp [(qa2772 p2)] 0 1))), (0, vi p1), (3, vi p4), (5, .one (.pv (.rp [(qa2772 p2)] 0 0))), (6, .one (.pv (.rp [(qa2773 p3)] 0 0))), (8, .one (.pt 0 0 0 0))] [1] [.box qa2774, .box qa2774, .dead] [] (by kernel_rfl) (by kernel_rfl) trivial ?_
  refine GY.new true 2 [] (qa2804 p1 p2 p3 p4 r1 r2 r3 r4) [2] [.box qa2774, .box qa2774, .box qa2774] [] (by kernel_rfl) (by kernel_rfl) trivial ?_
  exact GY.done (by kernel_rfl) (by kernel_rfl)
 refine zg [8, 10, 11, 12] 2 [0,3,8,10,11] (zd (hK2 _ _ (zq fun K7 hK7 => ?_)))
 obtain ⟨r5, c8, h⟩ := zB h
 obtain ⟨r6, c9, h⟩ := zB h
 refine zr (za (c_ref1_wideOf _ _ c8) (zv [8, 10, 11, 12] 2 [0,3,8,10,11,27,29] [] [(0, vi p1), (3, vi p4), (8, .one (.pt 0 0 0 0)), (10, .one (.pt 1 0 0 0)), (11, .one (.pt 2 0 0 0)), (27, .ag [cb r5.below, cl eI r5.d]), (29, vi (IntKind.i64.wrap ((12 : Int) - p4)))] [.box qa2774, .box (qa2777 r2), .box (qa2775 r4)] (za (c_ref1_tens _ _ _ c9) (zg [8, 10, 11, 12] 2 [0,3,8,10,11,12] (zd (hK7 _ _ (zq fun K10 hK10 => ?_)))))))
 refine zq fun K11 hK11 => ?_
 have hJ1 : ∀ (x1 : Bool), ref1_exact_j1 p1 p4 r2 r4 r6 x1 = some r → ∀ fr1 st1, Sub 85 0 [] fr1 st1 [(0, vi p1), (3, vi p4), (8, .one (.pt 0 0 0 0)), (10, .one (.pt 1 0 0 0)), (11, .one (.pt 2 0 0 0)), (12, .one (.pt 3 0 0 0)), (42, vb x1)] (qa2818 r2 r4 r6) → K11 fr1 st1 := by
  intro x1 h fr1 st1 hS
  unfold ref1_exact_j1 at h
  refine hK11 _ _ (XW.sub hS ?_)
  refine zC h (fun b14 h => ?_) (fun b14 h => ?_)
  ·refine zq fun K15 hK15 => zr (zg [8, 10, 11, 12] 3 [8,9] (zd (hK15 _ _ (ze ?_))))
   obtain rfl := Option.some.inj h
   exact zf [.ag qa2774, vb false] (.tpc (.ag (.cons (.rfl _ rfl) (.cons (.nl) .nil))) (.tpc (.one (.rfl _ rfl)) (.tp0)))
  ·refine zs (hK10 _ _ (zq fun K16 hK16 => zq fun K17 hK17 => zr (zg [8, 10, 11, 12] 1 [3,8,10,11,12,44] (zd (hK17 _ _ ?_)))))
   refine zb 0 (zq fun K18 hK18 => zr (zv [8, 10, 11, 12] 2 [3,8,10,11,12,44,45] [] [(3, vi p4), (8, .one (.pt 0 0 0 0)), (10, .one (.pt 1 0 0 0)), (11, .one (.pt 2 0 0 0)), (12, .one (.pt 3 0 0 0)), (44, vi p1), (45, vb (p1 == (1 : Int)))] (qa2818 r2 r4 r6) (zd (hK18 _ _ (zC h (fun b19 h => ?_) (fun b19 h => ?_))))))
   ·refine zq fun K20 hK20 => ?_
    obtain ⟨r7, c21, h⟩ := zB h
    obtain ⟨r8, c22, h⟩ := zB h
    refine zw 4 (qa2819 p1 p4 r2 r4 r6 r7) ?_ ?_
    ·exact zyg 2 (zya (c_ref1_addWide _ _ _ c21) (zyv 1 [] (qa2819 p1 p4 r2 r4 r6 r7) zyd))
    refine za (c_ref1_towards _ _ _ c22) (zg [8, 10, 11, 12] 2 [8,9] (zd (hK20 _ _ (ze ?_))))
    obtain rfl := Option.some.inj h
    exact zf [.ag [cb r8.below, cl eI r8.d], vb true] (.tpc (.ag (.cons (.rfl _ rfl) (.cons (.rfl _ rfl) .nil))) (.tpc (.one (.rfl _ rfl)) (.tp0)))
   ·refine zq fun K23 hK23 => zr (zv [8, 10, 11, 12] 2 [3,8,10,11,12,44,52] [] [(3, vi p4), (8, .one (.pt 0 0 0 0)), (10, .one (.pt 1 0 0 0)), (11, .one (.pt 2 0 0 0)), (12, .one (.pt 3 0 0 0)), (44, vi p1), (52, vb (p1 == (2 : Int)))] (qa2818 r2 r4 r6) (zd (hK23 _ _ (zC h (fun b24 h => ?_) (fun b24 h => ?_)))))
    ·refine zq fun K25 hK25 => ?_
     obtain ⟨r9, c26, h⟩ := zB h
     obtain ⟨r10, c27, h⟩ := zB h
     obtain ⟨r11, c28, h⟩ := zB h
     refine zw 5 [(58, .ag (qa2781 r6)), (57, .ag [cb r10.below, cl eI r10.d]), (56, .ag [cb r9.below, cl eI r9.d]), (55, .ag (qa2775 r4)), (54, .ag (qa2777 r2)), (3, vi p4), (8, .one (.pt 0 0 0 0)), (10, .one (.pt 1 0 0 0)), (11, .one (.pt 2 0 0 0)), (12, .one (.pt 3 0 0 0)), (44, vi p1), (52, vb (p1 == (2 : Int)))] ?_ ?_
     ·exact zyg 2 (zya (c_ref1_opposite _ _ c26) (DX.cal 90 [.ag (qa2777 r2), .ag [cb r9.below, cl eI r9.d]] (.ag [cb r10.below, cl eI r10.d]) [(57, .ag [cb r10.below, cl eI r10.d]), (56, .ag [cb r9.below, cl eI r9.d]), (55, .ag (qa2775 r4)), (54, .ag (qa2777 r2)), (3, vi p4), (8, .one (.pt 0 0 0 0)), (10, .one (.pt 1 0 0 0)), (11, .one (.pt 2 0 0 0)), (12, .one (.pt 3 0 0 0)), (44, vi p1), (52, vb (p1 == (2 : Int)))] (by kernel_rfl) (c_ref1_addWide _ _ _ c27) rfl rfl (by kernel_rfl) (zyg 1 zyd)))
     refine za (c_ref1_towards _ _ _ c28) (zg [8, 10, 11, 12] 2 [8,9] (zd (hK25 _ _ (ze ?_))))
     obtain rfl := Option.some.inj h
     exact zf [.ag [cb r11.below, cl eI r11.d], vb true] (.tpc (.ag (.cons (.rfl _ rfl) (.cons (.rfl _ rfl) .nil))) (.tpc (.one (.rfl _ rfl)) (.tp0)))
    ·refine zq fun K29 hK29 => zr (zv [8, 10, 11, 12] 2 [3,8,10,11,12,44,60] [] [(3, vi p4), (8, .one (.pt 0 0 0 0)), (10, .one (.pt 1 0 0 0)), (11, .one (.pt 2 0 0 0)), (12, .one (.pt 3 0 0 0)), (44, vi p1), (60, vb (p1 == (3 : Int)))] (qa2818 r2 r4 r6) (zd (hK29 _ _ (zC h (fun b30 h => ?_) (fun b30 h => ?_)))))
     ·refine zq fun K31 hK31 => ?_
      obtain ⟨r12, c32, h⟩ := zB h
      obtain ⟨r13, c33, h⟩ := zB h
      obtain ⟨r14, c34, h⟩ := zB h
      refine zw 4 (qa2822 p1 p4 r2 r4 r6 r12) ?_ ?_
      ·exact zyg 2 (zya (c_ref1_mulWide _ _ _ c32) (zyv 1 [] (qa2822 p1 p4 r2 r4 r6 r12) zyd))
      refine za (c_ref1_tens _ _ _ c33) (za (c_ref1_even _ _ _ c34) (zv [8, 10, 11, 12] 2 [8,9] [] [(8, .one (.pt 0 0 0 0)), (9, vb true)] [.box [cb r14.below, cl eI r14.d], .box (qa2777 r2), .box (qa2775 r4), .box (qa2781 r6)] (zd (hK31 _ _ (ze ?_)))))
      obtain rfl := Option.some.inj h
      exact zf [.ag [cb r14.below, cl eI r14.d], vb true] (.tpc (.ag (.cons (.rfl _ rfl) (.cons (.rfl _ rfl) .nil))) (.tpc (.one (.rfl _ rfl)) (.tp0)))
     ·refine zq fun K35 hK35 => zr (zg [8, 10, 11, 12] 2 [3,8,10,11,12,68] (zd (hK35 _ _ (zC h (fun b36 h => ?_) (fun b36 h => ?_)))))
      ·refine zq fun K37 hK37 => ?_
       obtain ⟨r15, c38, h⟩ := zB h
       obtain ⟨r16, c39, h⟩ := zB h
       refine zw 4 [(73, .ag (qa2775 r4)), (72, .ag [cb r15.below, cl eI r15.d]), (71, vi p4), (70, .ag (qa2777 r2)), (3, vi p4), (8, .one (.pt 0 0 0 0)), (10, .one (.pt 1 0 0 0)), (11, .one (.pt 2 0 0 0)), (12, .one (.pt 3 0 0 0)), (68, vb (p1 == (4 : Int)))] ?_ ?_
       ·exact zyg 2 (DX.cal 56 [.ag (qa2777 r2), vi p4] (.ag [cb r15.below, cl eI r15.d]) [(72, .ag [cb r15.below, cl eI r15.d]), (71, vi p4), (70, .ag (qa2777 r2)), (3, vi p4), (8, .one (.pt 0 0 0 0)), (10, .one (.pt 1 0 0 0)), (11, .one (.pt 2 0 0 0)), (12, .one (.pt 3 0 0 0)), (68, vb (p1 == (4 : Int)))] (by kernel_rfl) (c_ref1_tens _ _ _ c38) rfl rfl (by kernel_rfl) (zyg 1 zyd))
       refine za (c_ref1_even _ _ _ c39) (zv [8, 10, 11, 12] 2 [8,9] [] [(8, .one (.pt 0 0 0 0)), (9, vb true)] [.box [cb r16.below, cl eI r16.d], .box (qa2777 r2), .box (qa2775 r4), .box (qa2781 r6)] (zd (hK37 _ _ (ze ?_))))
       obtain rfl := Option.some.inj h
       exact zf [.ag [cb r16.below, cl eI r16.d], vb true] (.tpc (.ag (.cons (.rfl _ rfl) (.cons (.rfl _ rfl) .nil))) (.tpc (.one (.rfl _ rfl)) (.tp0)))
      ·refine zs (hK16 _ _ (zq fun K40 hK40 => ?_))
       obtain ⟨r17, c41, h⟩ := zB h
       obtain ⟨r18, c42, h⟩ := zB h
       obtain ⟨r19, c43, h⟩ := zB h
       obtain ⟨r20, c44, h⟩ := zB h
       obtain ⟨r21, c45, h⟩ := zB h
       refine zw 9 (qa2827 p1 p4 r2 r4 r6 r17 r18 r19 r20) ?_ ?_
       ·refine zyg 4 (zya (c_ref1_towards _ _ _ c41) (DX.cal 57 [.ag (qa2775 r4), .ag [cb r17.below, cl eI r17.d]] (.ag [cb r18.below, cl eI r18.d]) [(80, .ag [cb r18.below, cl eI r18.d]), (79, .ag [cb r17.below, cl eI r17.d]), (78, .ag (qa2775 r4)), (77, .ag (qa2777 r2)), (76, .ag (qa2775 r4)), (75, .ag (qa2777 r2)), (3, vi p4), (8, .one (.pt 0 0 0 0)), (10, .one (.pt 1 0 0 0)), (11, .one (.pt 2 0 0 0)), (12, .one (.pt 3 0 0 0)), (68, vb (p1 == (4 : Int)))] (by kernel_rfl) (c_ref1_mulWide _ _ _ c42) rfl rfl (by kernel_rfl) ?_))
        exact zya (c_ref1_opposite _ _ c43) (zya (c_ref1_addWide _ _ _ c44) (zyv 1 [] (qa2827 p1 p4 r2 r4 r6 r17 r18 r19 r20) zyd))
       refine za (c_ref1_towards _ _ _ c45) (zg [8, 10, 11, 12] 2 [8,9] (zd (hK40 _ _ (ze ?_))))
       obtain rfl := Option.some.inj h
       exact zf [.ag [cb r21.below, cl eI r21.d], vb true] (.tpc (.ag (.cons (.rfl _ rfl) (.cons (.rfl _ rfl) .nil))) (.tpc (.one (.rfl _ rfl)) (.tp0)))
 rcases zW h with ⟨b12, h⟩ | ⟨b12, h⟩
 ·rcases zW h with ⟨b13, h⟩ | ⟨b13, h⟩
  ·refine zr (zv [8, 10, 11, 12] 3 [0,3,8,10,11,12,33] [] [(0, vi p1), (3, vi p4), (8, .one (.pt 0 0 0 0)), (10, .one (.pt 1 0 0 0)), (11, .one (.pt 2 0 0 0)), (12, .one (.pt 3 0 0 0)), (33, vi ((eI.els r4.d).length : Int))] [.box [cb false, .pv (.s (.slice none 0 0))], .box [cb r2.below, cl eI r2.d], .box [cb r4.below, cl eI r4.d], .box [cb r6.below, cl eI r6.d]] ?_)
   rw [eI.len r4.d]
   exact zg [8, 10, 11, 12] 2 [0,3,8,10,11,12,35] (zt 35 b12 (zg [8, 10, 11, 12] 3 [0,3,8,10,11,12,35,38] (zt 38 b13 (zv [8, 10, 11, 12] 4 [0,3,8,10,11,12,42] [] [(0, vi p1), (3, vi p4), (8, .one (.pt 0 0 0 0)), (10, .one (.pt 1 0 0 0)), (11, .one (.pt 2 0 0 0)), (12, .one (.pt 3 0 0 0)), (42, vb true)] (qa2818 r2 r4 r6) (zd (hJ1 true h _ _ (zk [0,3,8,10,11,12,42])))))))
  ·refine zr (zv [8, 10, 11, 12] 3 [0,3,8,10,11,12,33] [] [(0, vi p1), (3, vi p4), (8, .one (.pt 0 0 0 0)), (10, .one (.pt 1 0 0 0)), (11, .one (.pt 2 0 0 0)), (12, .one (.pt 3 0 0 0)), (33, vi ((eI.els r4.d).length : Int))] [.box [cb false, .pv (.s (.slice none 0 0))], .box [cb r2.below, cl eI r2.d], .box [cb r4.below, cl eI r4.d], .box [cb r6.below, cl eI r6.d]] ?_)
   rw [eI.len r4.d]
   exact zg [8, 10, 11, 12] 2 [0,3,8,10,11,12,35] (zt 35 b12 (zg [8, 10, 11, 12] 3 [0,3,8,10,11,12,35,38] (zt 38 b13 (zv [8, 10, 11, 12] 4 [0,3,8,10,11,12,42] [] [(0, vi p1), (3, vi p4), (8, .one (.pt 0 0 0 0)), (10, .one (.pt 1 0 0 0)), (11, .one (.pt 2 0 0 0)), (12, .one (.pt 3 0 0 0)), (42, vb (p1 == (5 : Int)))] (qa2818 r2 r4 r6) (zd (hJ1 (p1 == (5 : Int)) h _ _ (zk [0,3,8,10,11,12,42])))))))
 ·refine zr (zv [8, 10, 11, 12] 3 [0,3,8,10,11,12,33] [] [(0, vi p1), (3, vi p4), (8, .one (.pt 0 0 0 0)), (10, .one (.pt 1 0 0 0)), (11, .one (.pt 2 0 0 0)), (12, .one (.pt 3 0 0 0)), (33, vi ((eI.els r4.d).length : Int))] [.box [cb false, .pv (.s (.slice none 0 0))], .box [cb r2.below, cl eI r2.d], .box [cb r4.below, cl eI r4.d], .box [cb r6.below, cl eI r6.d]] ?_)
  rw [eI.len r4.d]
  exact zg [8, 10, 11, 12] 2 [0,3,8,10,11,12,35] (zt 35 b12 (zg [8, 10, 11, 12] 7 [0,3,8,10,11,12,42] (zd (hJ1 false h _ _ (zk [0,3,8,10,11,12,42])))))

def ref1_Compute_j2 (p1 : Int) (p2 : GValue) (p3 : GValue) (r11 : (GType × Int)) (x2 : Bool) : Option GValue :=
    ift x2
      (ift (p3.n == (0 : Int))
         (some (GValue.mk (0 : Int) (0 : Int) (0 : Int) ByteArray.empty []))
         (bnd (ref1_wideOf p2.n) fun r12 =>
          bnd (ref1_wideOf p3.n) fun r13 =>
          bnd (ref1_towards r12 r13) fun r14 =>
          bnd (ref1_number (2 : Int) r14 (0 : Int)) fun r15 =>
          some r15))
      (bnd (ref1_exact p1 p2 p3 r11.1.scale) fun r16 =>
       ift (!r16.2)
         (some (GValue.mk (0 : Int) (0 : Int) (0 : Int) ByteArray.empty []))
         (bnd (ref1_number r11.1.kind r16.1 r11.1.scale) fun r17 =>
          some r17))

def ref1_Compute_j1 (p1 : Int) (p2 : GValue) (p3 : GValue) (x1 : Bool) : Option GValue :=
    ift x1
      (some (GValue.mk (0 : Int) (0 : Int) (0 : Int) ByteArray.empty []))
      (bnd (ref1_Result p1 (GType.mk p2.kind p2.scale []) (GType.mk p3.kind p3.scale [])) fun r11 =>
       ift (r11.2 != (0 : Int))
         (some (GValue.mk (0 : Int) (0 : Int) (0 : Int) ByteArray.empty []))
         (ift (p1 == (4 : Int))
            (ref1_Compute_j2 p1 p2 p3 r11 (r11.1.kind == (2 : Int)))
            (ref1_Compute_j2 p1 p2 p3 r11 false)))

def ref1_Compute (p1 : Int) (p2 : GValue) (p3 : GValue) : Option GValue :=
    ift (p1 == (6 : Int))
      (bnd (ref1_truth p2) fun r1 =>
       bnd (ref1_truth p3) fun r2 =>
       bnd (ref1_logic (0 : Int) r1 r2) fun r3 =>
       some r3)
      (ift (p1 == (7 : Int))
         (bnd (ref1_truth p2) fun r4 =>
          bnd (ref1_truth p3) fun r5 =>
          bnd (ref1_logic (1 : Int) r4 r5) fun r6 =>
          some r6)
         (ift (p2.kind == (0 : Int))
            (ref1_Compute_j1 p1 p2 p3 true)
            (ift (p3.kind == (0 : Int))
               (ref1_Compute_j1 p1 p2 p3 true)
               (bnd (ref1_Leaf p2.kind) fun r7 =>
                ift (!r7)
                  (ref1_Compute_j1 p1 p2 p3 true)
                  (bnd (ref1_Leaf p3.kind) fun r8 =>
                   ift (!r8)
                     (ref1_Compute_j1 p1 p2 p3 true)
                     (bnd (ref1_Sound p2) fun r9 =>
                      ift (!r9)
                        (ref1_Compute_j1 p1 p2 p3 true)
                        (bnd (ref1_Sound p3) fun r10 =>
                         ref1_Compute_j1 p1 p2 p3 (!r10))))))))

abbrev qa2829 (p2 : GValue) : List CV := [ci p2.kind, ci p2.n, ci p2.scale, cst p2.s, cl eValue p2.items]
abbrev qa2830 (p3 : GValue) : List CV := [ci p3.kind, ci p3.n, ci p3.scale, cst p3.s, cl eValue p3.items]
abbrev qa2832 (p2 : GValue) : List PV := [pi p2.kind, pi p2.n, pi p2.scale, .s (.string p2.s), .ro (eValue.els p2.items)]
abbrev qa2833 (p3 : GValue) : List PV := [pi p3.kind, pi p3.n, pi p3.scale, .s (.string p3.s), .ro (eValue.els p3.items)]
abbrev qa2834 : List CV := [ci (0 : Int), ci (0 : Int), ci (0 : Int), cst ByteArray.empty, .pv (.s (.slice none 0 0))]
abbrev qa2835 : Fr := [(6, .one (.pt 0 0 0 0))]
abbrev qa2837 (r6 : GValue) : List CV := [ci r6.kind, ci r6.n, ci r6.scale, cst r6.s, cl eValue r6.items]
abbrev qa2840 (r11 : (GType × Int)) : List CV := [ci r11.1.kind, ci r11.1.scale, cl eField r11.1.fields]
abbrev qa2847 : St := [.box qa2834]
abbrev qa2848 (p1 : Int) (p2 : GValue) (p3 : GValue) (r1 : Int) : Fr := [(16, .ag (qa2830 p3)), (15, vi r1), (14, .ag (qa2829 p2)), (0, vi p1), (4, .one (.pv (.rp [(qa2832 p2)] 0 0))), (5, .one (.pv (.rp [(qa2833 p3)] 0 0))), (6, .one (.pt 0 0 0 0)), (11, vi p1), (12, vb (p1 == (6 : Int)))]
abbrev qa2867 (p1 : Int) (p2 : GValue) (p3 : GValue) : Fr := [(0, vi p1), (4, .one (.pv (.rp [(qa2832 p2)] 0 0))), (5, .one (.pv (.rp [(qa2833 p3)] 0 0))), (6, .one (.pt 0 0 0 0)), (55, vb true)]
abbrev qa2868 (p1 : Int) (p2 : GValue) (p3 : GValue) : Fr := [(0, vi p1), (4, .one (.pv (.rp [(qa2832 p2)] 0 0))), (5, .one (.pv (.rp [(qa2833 p3)] 0 0))), (6, .one (.pt 0 0 0 0)), (34, vb false), (36, vi p2.kind)]
abbrev qa2869 (p1 : Int) (p2 : GValue) (p3 : GValue) : Fr := [(0, vi p1), (4, .one (.pv (.rp [(qa2832 p2)] 0 0))), (5, .one (.pv (.rp [(qa2833 p3)] 0 0))), (6, .one (.pt 0 0 0 0)), (40, vb false), (42, vi p3.kind)]
abbrev qa2870 (p1 : Int) (p2 : GValue) (p3 : GValue) : Fr := [(0, vi p1), (4, .one (.pv (.rp [(qa2832 p2)] 0 0))), (5, .one (.pv (.rp [(qa2833 p3)] 0 0))), (6, .one (.pt 0 0 0 0)), (46, vb false), (47, .ag (qa2829 p2))]

theorem c_ref1_Compute (p1 : Int) (p2 : GValue) (p3 : GValue) (r : GValue) (h : ref1_Compute p1 p2 p3 = some r) : PC Tryd.prog 28 [vi p1, .ag (qa2829 p2), .ag (qa2830 p3)] (.ag [ci r.kind, ci r.n, ci r.scale, cst r.s, cl eValue r.items]) := by
 unfold ref1_Compute at h
 refine zF 112 Tryd.f28 (zq fun K1 hK1 => zr (zg [6, 7, 9] 3 [0,4,5,6] (zd (hK1 _ _ (zq fun K2 hK2 => zq fun K3 hK3 => ?_)))))
 refine zr (zg [6, 7, 9] 1 [0,4,5,6,11] (zd (hK3 _ _ (zb 0 (zq fun K4 hK4 => zr (zv [6, 7, 9] 2 [0,4,5,6,11,12] [] [(0, vi p1), (4, .one (.pv (.rp [(qa2832 p2)] 0 0))), (5, .one (.pv (.rp [(qa2833 p3)] 0 0))), (6, .one (.pt 0 0 0 0)), (11, vi p1), (12, vb (p1 == (6 : Int)))] qa2847 ?_))))))
 refine zd (hK4 _ _ (zC h (fun b5 h => ?_) (fun b5 h => ?_)))
 ·refine zq fun K6 hK6 => ?_
  obtain ⟨r1, c7, h⟩ := zB h
  obtain ⟨r2, c8, h⟩ := zB h
  obtain ⟨r3, c9, h⟩ := zB h
  refine zw 3 (qa2848 p1 p2 p3 r1) ?_ ?_
  ·refine zyu 1 [(qa2832 p2)] (zya (c_ref1_truth _ _ c7) ?_)
   exact zyv 1 [(qa2833 p3)] (qa2848 p1 p2 p3 r1) zyd
  refine za (c_ref1_truth _ _ c8) (za (c_ref1_logic _ _ _ _ c9) (zv [6, 7, 9] 1 [6] [] qa2835 [.box [ci r3.kind, ci r3.n, ci r3.scale, cst r3.s, cl eValue r3.items]] (zd (hK6 _ _ (ze ?_)))))
  obtain rfl := Option.some.inj h
  exact zf [.ag [ci r3.kind, ci r3.n, ci r3.scale, cst r3.s, cl eValue r3.items]] (.ag (.cons (.rfl _ rfl) (.cons (.rfl _ rfl) (.cons (.rfl _ rfl) (.cons (.rfl _ rfl) (.cons (.rfl _ rfl) .nil))))))
 ·refine zq fun K10 hK10 => zr (zg [6, 7, 9] 2 [0,4,5,6,19] (zd (hK10 _ _ (zC h (fun b11 h => ?_) (fun b11 h => ?_)))))
  ·refine zq fun K12 hK12 => ?_
   obtain ⟨r4, c13, h⟩ := zB h
   obtain ⟨r5, c14, h⟩ := zB h
   obtain ⟨r6, c15, h⟩ := zB h
   refine zw 3 [(23, .ag (qa2830 p3)), (22, vi r4), (21, .ag (qa2829 p2)), (0, vi p1), (4, .one (.pv (.rp [(qa2832 p2)] 0 0))), (5, .one (.pv (.rp [(qa2833 p3)] 0 0))), (6, .one (.pt 0 0 0 0)), (19, vb (p1 == (7 : Int)))] ?_ ?_
   ·refine zyu 1 [(qa2832 p2)] ?_
    refine DX.cal 72 [.ag (qa2829 p2)] (vi r4) [(22, vi r4), (21, .ag (qa2829 p2)), (0, vi p1), (4, .one (.pv (.rp [(qa2832 p2)] 0 0))), (5, .one (.pv (.rp [(qa2833 p3)] 0 0))), (6, .one (.pt 0 0 0 0)), (19, vb (p1 == (7 : Int)))] (by kernel_rfl) (c_ref1_truth _ _ c13) rfl rfl (by kernel_rfl) ?_
    exact zyu 1 [(qa2833 p3)] zyd
   refine za (c_ref1_truth _ _ c14) ?_
   refine zl 71 [vi (1 : Int), vi r4, vi r5] (.ag (qa2837 r6)) [(25, .ag (qa2837 r6)), (24, vi r5), (23, .ag (qa2830 p3)), (22, vi r4), (21, .ag (qa2829 p2)), (0, vi p1), (4, .one (.pv (.rp [(qa2832 p2)] 0 0))), (5, .one (.pv (.rp [(qa2833 p3)] 0 0))), (6, .one (.pt 0 0 0 0)), (19, vb (p1 == (7 : Int)))] (c_ref1_logic _ _ _ _ c15) ?_
   refine zg [6, 7, 9] 1 [6] (zd (hK12 _ _ (ze ?_)))
   obtain rfl := Option.some.inj h
   exact zf [.ag (qa2837 r6)] (.ag (.cons (.rfl _ rfl) (.cons (.rfl _ rfl) (.cons (.rfl _ rfl) (.cons (.rfl _ rfl) (.cons (.rfl _ rfl) .nil))))))
  ·refine zs (hK2 _ _ (zq fun K16 hK16 => zq fun K17 hK17 => ?_))
   have hJ1 : ∀ (x1 : Bool), ref1_Compute_j1 p1 p2 p3 x1 = some r → ∀ fr1 st1, Sub 112 0 [] fr1 st1 [(0, vi p1), (4, .one (.pv (.rp [(qa2832 p2)] 0 0))), (5, .one (.pv (.rp [(qa2833 p3)] 0 0))), (6, .one (.pt 0 0 0 0)), (55, vb x1)] qa2847 → K17 fr1 st1 := by
    intro x1 h fr1 st1 hS
    unfold ref1_Compute_j1 at h
    refine hK17 _ _ (XW.sub hS ?_)
    refine zC h (fun b27 h => ?_) (fun b27 h => ?_)
    ·refine zq fun K28 hK28 => zr (zg [6, 7, 9] 2 [6] (zd (hK28 _ _ (ze ?_))))
     obtain rfl := Option.some.inj h
     exact zf [.ag qa2834] (.ag (.cons (.rfl _ rfl) (.cons (.rfl _ rfl) (.cons (.rfl _ rfl) (.cons (.rfl _ rfl) (.cons (.nl) .nil))))))
    ·refine zs (hK16 _ _ (zq fun K29 hK29 => ?_))
     obtain ⟨r11, c30, h⟩ := zB h
     refine zr (zu [6, 7, 9] 11 [0,4,5,6,58,63,68] [(qa2832 p2), (qa2832 p2), (qa2833 p3), (qa2833 p3)] ?_)
     refine zl 26 [vi p1, .ag [ci p2.kind, ci p2.scale, .pv (.s (.slice none 0 0))], .ag [ci p3.kind, ci p3.scale, .pv (.s (.slice none 0 0))]] (.tp [.ag (qa2840 r11), vi r11.2]) [(69, .tp [.ag (qa2840 r11), vi r11.2]), (0, vi p1), (4, .one (.pv (.rp [(qa2832 p2)] 0 0))), (5, .one (.pv (.rp [(qa2833 p3)] 0 0))), (6, .one (.pt 0 0 0 0)), (58, vi p1), (63, .ag [ci p2.kind, ci p2.scale, .pv (.s (.slice none 0 0))]), (68, .ag [ci p3.kind, ci p3.scale, .pv (.s (.slice none 0 0))])] (PC.le (c_ref1_Result _ _ _ _ c30) ⟨.rfl _, ALe.agc ⟨.rfl _, .rfl _, .nl, trivial⟩, ALe.agc ⟨.rfl _, .rfl _, .nl, trivial⟩, trivial⟩) ?_
     refine zv [6, 7, 9] 6 [0,4,5,6,7,8] [] [(0, vi p1), (4, .one (.pv (.rp [(qa2832 p2)] 0 0))), (5, .one (.pv (.rp [(qa2833 p3)] 0 0))), (6, .one (.pt 0 0 0 0)), (7, .one (.pt 1 0 0 0)), (8, vi r11.2)] [.box qa2834, .box (qa2840 r11)] (zd (hK29 _ _ (zq fun K31 hK31 => zq fun K32 hK32 => zr (zg [6, 7, 9] 2 [0,4,5,6,7,73] (zd ?_)))))
     refine hK32 _ _ (zC h (fun b33 h => ?_) (fun b33 h => ?_))
     ·refine zq fun K34 hK34 => zr (zg [6, 7, 9] 2 [6] (zd (hK34 _ _ (ze ?_))))
      obtain rfl := Option.some.inj h
      exact zf [.ag qa2834] (.ag (.cons (.rfl _ rfl) (.cons (.rfl _ rfl) (.cons (.rfl _ rfl) (.cons (.rfl _ rfl) (.cons (.nl) .nil))))))
     ·refine zs (hK31 _ _ (zq fun K35 hK35 => zq fun K36 hK36 => ?_))
      have hJ2 : ∀ (x2 : Bool), ref1_Compute_j2 p1 p2 p3 r11 x2 = some r → ∀ fr1 st1, Sub 112 0 [] fr1 st1 [(0, vi p1), (4, .one (.pv (.rp [(qa2832 p2)] 0 0))), (5, .one (.pv (.rp [(qa2833 p3)] 0 0))), (6, .one (.pt 0 0 0 0)), (7, .one (.pt 1 0 0 0)), (81, vb x2)] [.box qa2834, .box (qa2840 r11)] → K36 fr1 st1 := by
       intro x2 h fr1 st1 hS
       unfold ref1_Compute_j2 at h
       refine hK36 _ _ (XW.sub hS ?_)
       refine zC h (fun b38 h => ?_) (fun b38 h => ?_)
       ·refine zq fun K39 hK39 => zq fun K40 hK40 => zr (zu [6, 7, 9] 3 [4,5,6,84] [(qa2833 p3)] (zd (hK40 _ _ (zC h (fun b41 h => ?_) (fun b41 h => ?_)))))
        ·refine zq fun K42 hK42 => zr (zg [6, 7, 9] 2 [6] (zd (hK42 _ _ (ze ?_))))
         obtain rfl := Option.some.inj h
         exact zf [.ag qa2834] (.ag (.cons (.rfl _ rfl) (.cons (.rfl _ rfl) (.cons (.rfl _ rfl) (.cons (.rfl _ rfl) (.cons (.nl) .nil))))))
        ·refine zs (hK39 _ _ (zq fun K43 hK43 => ?_))
         obtain ⟨r12, c44, h⟩ := zB h
         obtain ⟨r13, c45, h⟩ := zB h
         obtain ⟨r14, c46, h⟩ := zB h
         obtain ⟨r15, c47, h⟩ := zB h
         refine zw 5 [(90, vi p3.n), (89, .one (.pv (.rp [(qa2833 p3)] 0 1))), (88, .ag [cb r12.below, cl eI r12.d]), (87, vi p2.n), (86, .one (.pv (.rp [(qa2832 p2)] 0 1))), (4, .one (.pv (.rp [(qa2832 p2)] 0 0))), (5, .one (.pv (.rp [(qa2833 p3)] 0 0))), (6, .one (.pt 0 0 0 0)), (84, vb (p3.n == (0 : Int)))] ?_ ?_
         ·refine zyv 2 [(qa2832 p2)] [(87, vi p2.n), (86, .one (.pv (.rp [(qa2832 p2)] 0 1))), (4, .one (.pv (.rp [(qa2832 p2)] 0 0))), (5, .one (.pv (.rp [(qa2833 p3)] 0 0))), (6, .one (.pt 0 0 0 0)), (84, vb (p3.n == (0 : Int)))] (zya (c_ref1_wideOf _ _ c44) ?_)
          exact zyu 2 [(qa2833 p3)] zyd
         refine zl 55 [vi p3.n] (.ag [cb r13.below, cl eI r13.d]) [(91, .ag [cb r13.below, cl eI r13.d]), (90, vi p3.n), (89, .one (.pv (.rp [(qa2833 p3)] 0 1))), (88, .ag [cb r12.below, cl eI r12.d]), (87, vi p2.n), (86, .one (.pv (.rp [(qa2832 p2)] 0 1))), (4, .one (.pv (.rp [(qa2832 p2)] 0 0))), (5, .one (.pv (.rp [(qa2833 p3)] 0 0))), (6, .one (.pt 0 0 0 0)), (84, vb (p3.n == (0 : Int)))] (c_ref1_wideOf _ _ c45) ?_
         refine za (c_ref1_towards _ _ _ c46) (za (c_ref1_number _ _ _ _ c47) (zv [6, 7, 9] 1 [6] [] qa2835 [.box [ci r15.kind, ci r15.n, ci r15.scale, cst r15.s, cl eValue r15.items], .box (qa2840 r11)] (zd (hK43 _ _ (ze ?_)))))
         obtain rfl := Option.some.inj h
         exact zf [.ag [ci r15.kind, ci r15.n, ci r15.scale, cst r15.s, cl eValue r15.items]] (.ag (.cons (.rfl _ rfl) (.cons (.rfl _ rfl) (.cons (.rfl _ rfl) (.cons (.rfl _ rfl) (.cons (.rfl _ rfl) .nil))))))
       ·refine zs (hK35 _ _ (zq fun K48 hK48 => ?_))
        obtain ⟨r16, c49, h⟩ := zB h
        refine zr (zu [6, 7, 9] 5 [6,7,95,96,97,99] [(qa2832 p2), (qa2833 p3)] ?_)
        refine zl 75 [vi p1, .ag (qa2829 p2), .ag (qa2830 p3), vi r11.1.scale] (.tp [.ag [cb r16.1.below, cl eI r16.1.d], vb r16.2]) [(100, .tp [.ag [cb r16.1.below, cl eI r16.1.d], vb r16.2]), (6, .one (.pt 0 0 0 0)), (7, .one (.pt 1 0 0 0)), (95, vi p1), (96, .ag (qa2829 p2)), (97, .ag (qa2830 p3)), (99, vi r11.1.scale)] (c_ref1_exact _ _ _ _ _ c49) (zg [6, 7, 9] 6 [6,7,9,10] (zd ?_))
        refine hK48 _ _ (zq fun K50 hK50 => zq fun K51 hK51 => zr (zg [6, 7, 9] 2 [6,7,9,104] (zd (hK51 _ _ (zC h (fun b52 h => ?_) (fun b52 h => ?_))))))
        ·refine zq fun K53 hK53 => zr (zv [6, 7, 9] 2 [6] [] qa2835 [.box qa2834, .box (qa2840 r11), .box [cb r16.1.below, cl eI r16.1.d]] (zd (hK53 _ _ (ze ?_))))
         obtain rfl := Option.some.inj h
         exact zf [.ag qa2834] (.ag (.cons (.rfl _ rfl) (.cons (.rfl _ rfl) (.cons (.rfl _ rfl) (.cons (.rfl _ rfl) (.cons (.nl) .nil))))))
        ·refine zs (hK50 _ _ (zq fun K54 hK54 => ?_))
         obtain ⟨r17, c55, h⟩ := zB h
         refine zr (zg [6, 7, 9] 5 [6,107,108,110] (za (c_ref1_number _ _ _ _ c55) (zv [6, 7, 9] 1 [6] [] qa2835 [.box [ci r17.kind, ci r17.n, ci r17.scale, cst r17.s, cl eValue r17.items], .box (qa2840 r11), .box [cb r16.1.below, cl eI r16.1.d]] (zd (hK54 _ _ (ze ?_))))))
         obtain rfl := Option.some.inj h
         exact zf [.ag [ci r17.kind, ci r17.n, ci r17.scale, cst r17.s, cl eValue r17.items]] (.ag (.cons (.rfl _ rfl) (.cons (.rfl _ rfl) (.cons (.rfl _ rfl) (.cons (.rfl _ rfl) (.cons (.rfl _ rfl) .nil))))))
      rcases zW h with ⟨b37, h⟩ | ⟨b37, h⟩
      ·refine zr (zv [6, 7, 9] 3 [0,4,5,6,7,77] [] [(0, vi p1), (4, .one (.pv (.rp [(qa2832 p2)] 0 0))), (5, .one (.pv (.rp [(qa2833 p3)] 0 0))), (6, .one (.pt 0 0 0 0)), (7, .one (.pt 1 0 0 0)), (77, vb (p1 == (4 : Int)))] [.box qa2834, .box (qa2840 r11)] (zt 77 b37 (zg [6, 7, 9] 4 [0,4,5,6,7,81] (zd ?_))))
       exact hJ2 (r11.1.kind == (2 : Int)) h _ _ (zk [0,4,5,6,7,81])
      ·exact zr (zg [6, 7, 9] 3 [0,4,5,6,7,77] (zt 77 b37 (zv [6, 7, 9] 4 [0,4,5,6,7,81] [] [(0, vi p1), (4, .one (.pv (.rp [(qa2832 p2)] 0 0))), (5, .one (.pv (.rp [(qa2833 p3)] 0 0))), (6, .one (.pt 0 0 0 0)), (7, .one (.pt 1 0 0 0)), (81, vb false)] [.box qa2834, .box (qa2840 r11)] (zd (hJ2 false h _ _ (zk [0,4,5,6,7,81]))))))
   rcases zW h with ⟨b18, h⟩ | ⟨b18, h⟩
   ·exact zr (zu [6, 7, 9] 4 [0,4,5,6,29] [(qa2832 p2)] (zt 29 b18 (zv [6, 7, 9] 26 [0,4,5,6,55] [] (qa2867 p1 p2 p3) qa2847 (zd (hJ1 true h _ _ (zk [0,4,5,6,55]))))))
   ·rcases zW h with ⟨b19, h⟩ | ⟨b19, h⟩
    ·refine zr (zu [6, 7, 9] 4 [0,4,5,6,29] [(qa2832 p2)] (zt 29 b18 (zu [6, 7, 9] 5 [0,4,5,6,34] [(qa2833 p3)] (zt 34 b19 ?_))))
     exact zv [6, 7, 9] 21 [0,4,5,6,55] [] (qa2867 p1 p2 p3) qa2847 (zd (hJ1 true h _ _ (zk [0,4,5,6,55])))
    ·obtain ⟨r7, c20, h⟩ := zB h
     rcases zW h with ⟨b21, h⟩ | ⟨b21, h⟩
     ·refine zr (zu [6, 7, 9] 4 [0,4,5,6,29] [(qa2832 p2)] (zt 29 b18 (zu [6, 7, 9] 5 [0,4,5,6,34] [(qa2833 p3)] (zt 34 b19 ?_))))
      refine zv [6, 7, 9] 2 [0,4,5,6,34,36] [(qa2832 p2)] (qa2868 p1 p2 p3) qa2847 (za (c_ref1_Leaf _ _ c20) (zg [6, 7, 9] 3 [0,4,5,6,40] (zt 40 b21 ?_)))
      exact zv [6, 7, 9] 15 [0,4,5,6,55] [] (qa2867 p1 p2 p3) qa2847 (zd (hJ1 true h _ _ (zk [0,4,5,6,55])))
     ·obtain ⟨r8, c22, h⟩ := zB h
      rcases zW h with ⟨b23, h⟩ | ⟨b23, h⟩
      ·refine zr (zu [6, 7, 9] 4 [0,4,5,6,29] [(qa2832 p2)] (zt 29 b18 (zu [6, 7, 9] 5 [0,4,5,6,34] [(qa2833 p3)] (zt 34 b19 ?_))))
       refine zv [6, 7, 9] 2 [0,4,5,6,34,36] [(qa2832 p2)] (qa2868 p1 p2 p3) qa2847 (za (c_ref1_Leaf _ _ c20) (zg [6, 7, 9] 3 [0,4,5,6,40] (zt 40 b21 ?_)))
       refine zv [6, 7, 9] 2 [0,4,5,6,40,42] [(qa2833 p3)] (qa2869 p1 p2 p3) qa2847 (za (c_ref1_Leaf _ _ c22) (zg [6, 7, 9] 3 [0,4,5,6,46] (zt 46 b23 ?_)))
       exact zv [6, 7, 9] 9 [0,4,5,6,55] [] (qa2867 p1 p2 p3) qa2847 (zd (hJ1 true h _ _ (zk [0,4,5,6,55])))
      ·obtain ⟨r9, c24, h⟩ := zB h
       rcases zW h with ⟨b25, h⟩ | ⟨b25, h⟩
       ·refine zr (zu [6, 7, 9] 4 [0,4,5,6,29] [(qa2832 p2)] (zt 29 b18 (zu [6, 7, 9] 5 [0,4,5,6,34] [(qa2833 p3)] (zt 34 b19 ?_))))
        refine zv [6, 7, 9] 2 [0,4,5,6,34,36] [(qa2832 p2)] (qa2868 p1 p2 p3) qa2847 (za (c_ref1_Leaf _ _ c20) (zg [6, 7, 9] 3 [0,4,5,6,40] (zt 40 b21 ?_)))
        refine zv [6, 7, 9] 2 [0,4,5,6,40,42] [(qa2833 p3)] (qa2869 p1 p2 p3) qa2847 (za (c_ref1_Leaf _ _ c22) (zg [6, 7, 9] 3 [0,4,5,6,46] (zt 46 b23 ?_)))
        refine zv [6, 7, 9] 1 [0,4,5,6,46,47] [(qa2832 p2)] (qa2870 p1 p2 p3) qa2847 ?_
        exact za (c_ref1_Sound _ _ c24) (zg [6, 7, 9] 3 [0,4,5,6,51] (zt 51 b25 (zv [6, 7, 9] 4 [0,4,5,6,55] [] (qa2867 p1 p2 p3) qa2847 (zd (hJ1 true h _ _ (zk [0,4,5,6,55]))))))
       ·obtain ⟨r10, c26, h⟩ := zB h
        refine zr (zu [6, 7, 9] 4 [0,4,5,6,29] [(qa2832 p2)] (zt 29 b18 (zu [6, 7, 9] 5 [0,4,5,6,34] [(qa2833 p3)] (zt 34 b19 ?_))))
        refine zv [6, 7, 9] 2 [0,4,5,6,34,36] [(qa2832 p2)] (qa2868 p1 p2 p3) qa2847 (za (c_ref1_Leaf _ _ c20) (zg [6, 7, 9] 3 [0,4,5,6,40] (zt 40 b21 ?_)))
        refine zv [6, 7, 9] 2 [0,4,5,6,40,42] [(qa2833 p3)] (qa2869 p1 p2 p3) qa2847 (za (c_ref1_Leaf _ _ c22) (zg [6, 7, 9] 3 [0,4,5,6,46] (zt 46 b23 ?_)))
        refine zv [6, 7, 9] 1 [0,4,5,6,46,47] [(qa2832 p2)] (qa2870 p1 p2 p3) qa2847 ?_
        refine za (c_ref1_Sound _ _ c24) (zg [6, 7, 9] 3 [0,4,5,6,51] (zt 51 b25 ?_))
        refine zv [6, 7, 9] 1 [0,4,5,6,51,52] [(qa2833 p3)] [(0, vi p1), (4, .one (.pv (.rp [(qa2832 p2)] 0 0))), (5, .one (.pv (.rp [(qa2833 p3)] 0 0))), (6, .one (.pt 0 0 0 0)), (51, vb false), (52, .ag (qa2830 p3))] qa2847 ?_
        exact za (c_ref1_Sound _ _ c26) (zg [6, 7, 9] 2 [0,4,5,6,55] (zd (hJ1 (!r10) h _ _ (zk [0,4,5,6,55]))))

def value_Not_j1 (p1 : GValue) (x1 : Bool) : Option GValue :=
    ift x1
      (some (GValue.mk (0 : Int) (0 : Int) (0 : Int) ByteArray.empty []))
      (bnd (value_truth (p1.n == (0 : Int))) fun r2 =>
       some r2)

def value_Not (p1 : GValue) : Option GValue :=
    ift (p1.kind != (1 : Int))
      (value_Not_j1 p1 true)
      (bnd (value_Sound p1) fun r1 =>
       value_Not_j1 p1 (!r1))

abbrev qa2872 (p1 : GValue) : List CV := [ci p1.kind, ci p1.n, ci p1.scale, cst p1.s, cl eValue p1.items]
abbrev qa2874 (p1 : GValue) : List PV := [pi p1.kind, pi p1.n, pi p1.scale, .s (.string p1.s), .ro (eValue.els p1.items)]
abbrev qa2875 : List CV := [ci (0 : Int), ci (0 : Int), ci (0 : Int), cst ByteArray.empty, .pv (.s (.slice none 0 0))]
abbrev qa2876 (r2 : GValue) : List CV := [ci r2.kind, ci r2.n, ci r2.scale, cst r2.s, cl eValue r2.items]

theorem c_value_Not (p1 : GValue) (r : GValue) (h : value_Not p1 = some r) : PC Tryd.prog 29 [.ag (qa2872 p1)] (.ag [ci r.kind, ci r.n, ci r.scale, cst r.s, cl eValue r.items]) := by
 unfold value_Not at h
 refine zF 16 Tryd.f29 (zq fun K1 hK1 => zr (zg [2] 2 [1,2] (zd (hK1 _ _ (zq fun K2 hK2 => zq fun K3 hK3 => ?_)))))
 have hJ1 : ∀ (x1 : Bool), value_Not_j1 p1 x1 = some r → ∀ fr1 st1, Sub 16 0 [] fr1 st1 [(1, .one (.pv (.rp [(qa2874 p1)] 0 0))), (2, .one (.pt 0 0 0 0)), (10, vb x1)] [.box qa2875] → K3 fr1 st1 := by
  intro x1 h fr1 st1 hS
  unfold value_Not_j1 at h
  refine hK3 _ _ (XW.sub hS ?_)
  refine zC h (fun b6 h => ?_) (fun b6 h => ?_)
  ·refine zq fun K7 hK7 => zr (zg [2] 2 [2] (zd (hK7 _ _ (ze ?_))))
   obtain rfl := Option.some.inj h
   exact zf [.ag qa2875] (.ag (.cons (.rfl _ rfl) (.cons (.rfl _ rfl) (.cons (.rfl _ rfl) (.cons (.rfl _ rfl) (.cons (.nl) .nil))))))
  ·refine zs (hK2 _ _ (zq fun K8 hK8 => ?_))
   obtain ⟨r2, c9, h⟩ := zB h
   refine zr (zu [2] 3 [2,14] [(qa2874 p1)] (zl 76 [vb (p1.n == (0 : Int))] (.ag (qa2876 r2)) [(15, .ag (qa2876 r2)), (2, .one (.pt 0 0 0 0)), (14, vb (p1.n == (0 : Int)))] (c_value_truth _ _ c9) (zg [2] 1 [2] (zd (hK8 _ _ (ze ?_))))))
   obtain rfl := Option.some.inj h
   exact zf [.ag (qa2876 r2)] (.ag (.cons (.rfl _ rfl) (.cons (.rfl _ rfl) (.cons (.rfl _ rfl) (.cons (.rfl _ rfl) (.cons (.rfl _ rfl) .nil))))))
 rcases zW h with ⟨b4, h⟩ | ⟨b4, h⟩
 ·exact zr (zu [2] 4 [1,2,6] [(qa2874 p1)] (zt 6 b4 (zv [2] 4 [1,2,10] [] [(1, .one (.pv (.rp [(qa2874 p1)] 0 0))), (2, .one (.pt 0 0 0 0)), (10, vb true)] [.box qa2875] (zd (hJ1 true h _ _ (zk [1,2,10]))))))
 ·obtain ⟨r1, c5, h⟩ := zB h
  refine zr (zu [2] 4 [1,2,6] [(qa2874 p1)] (zt 6 b4 (zu [2] 1 [1,2,6,7] [(qa2874 p1)] (zl 9 [.ag (qa2872 p1)] (vb r1) [(8, vb r1), (1, .one (.pv (.rp [(qa2874 p1)] 0 0))), (2, .one (.pt 0 0 0 0)), (6, vb false), (7, .ag (qa2872 p1))] (c_value_Sound _ _ c5) (zg [2] 2 [1,2,10] (zd ?_))))))
  exact hJ1 (!r1) h _ _ (zk [1,2,10])


end Go.Proofs.YtdkmclmdemngfaaDoor
namespace Go.Proofs.YtdkmclmdemngfaaDoor
open Go.SX Go
set_option linter.unusedVariables false
set_option linter.unusedSimpArgs false
set_option maxRecDepth 100000
set_option maxHeartbeats 8000000

def ref1_Not (p1 : GValue) : Option GValue :=
    bnd (ref1_truth p1) fun r1 =>
    ift (decide (r1 < (0 : Int)))
      (some (GValue.mk (0 : Int) (0 : Int) (0 : Int) ByteArray.empty []))
      (some (GValue.mk (1 : Int) (IntKind.i64.wrap ((1 : Int) - p1.n)) (0 : Int) ByteArray.empty []))

abbrev qa2882 (p1 : GValue) : List CV := [ci p1.kind, ci p1.n, ci p1.scale, cst p1.s, cl eValue p1.items]
abbrev qa2884 (p1 : GValue) : List PV := [pi p1.kind, pi p1.n, pi p1.scale, .s (.string p1.s), .ro (eValue.els p1.items)]
abbrev qa2887 (p1 : GValue) : List CV := [ci (1 : Int), ci (IntKind.i64.wrap ((1 : Int) - p1.n)), ci (0 : Int), cst ByteArray.empty, .pv (.s (.slice none 0 0))]

theorem c_ref1_Not (p1 : GValue) (r : GValue) (h : ref1_Not p1 = some r) : PC Tryd.prog 30 [.ag (qa2882 p1)] (.ag [ci r.kind, ci r.n, ci r.scale, cst r.s, cl eValue r.items]) := by
 unfold ref1_Not at h
 refine zF 11 Tryd.f30 (zq fun K1 hK1 => zr (zg [2] 2 [1,2] (zd (hK1 _ _ (zq fun K2 hK2 => zq fun K3 hK3 => ?_)))))
 obtain ⟨r1, c4, h⟩ := zB h
 refine zr (zu [2] 1 [1,2,3] [(qa2884 p1)] (zl 72 [.ag (qa2882 p1)] (vi r1) [(4, vi r1), (1, .one (.pv (.rp [(qa2884 p1)] 0 0))), (2, .one (.pt 0 0 0 0)), (3, .ag (qa2882 p1))] (c_ref1_truth _ _ c4) (zg [2] 1 [1,2,5] (zd (hK3 _ _ (zC h (fun b5 h => ?_) (fun b5 h => ?_)))))))
 ·refine zq fun K6 hK6 => zr (zg [2] 2 [2] (zd (hK6 _ _ (ze ?_))))
  obtain rfl := Option.some.inj h
  exact zf [.ag [ci (0 : Int), ci (0 : Int), ci (0 : Int), cst ByteArray.empty, .pv (.s (.slice none 0 0))]] (.ag (.cons (.rfl _ rfl) (.cons (.rfl _ rfl) (.cons (.rfl _ rfl) (.cons (.rfl _ rfl) (.cons (.nl) .nil))))))
 ·refine zs (hK2 _ _ (zq fun K7 hK7 => zr (zv [2] 5 [2] [(qa2884 p1)] [(2, .one (.pt 0 0 0 0))] [.box (qa2887 p1)] (zd (hK7 _ _ (ze ?_))))))
  obtain rfl := Option.some.inj h
  exact zf [.ag (qa2887 p1)] (.ag (.cons (.rfl _ rfl) (.cons (.rfl _ rfl) (.cons (.rfl _ rfl) (.cons (.rfl _ rfl) (.cons (.nl) .nil))))))

def law1_ValueComputesMatchSpec_j1 (x1 : Bool) : Option Bool :=
    some x1

def law1_ValueComputesMatchSpec (p1 : Int) (p2 : GType) (p3 : GType) (p4 : GValue) (p5 : GValue) : Option Bool :=
    bnd (law1_number (2 : Int)) fun r1 =>
    bnd (law1_number (3 : Int)) fun r2 =>
    bnd (value_Compute (1 : Int) r1 r2) fun r3 =>
    bnd (law1_number (5 : Int)) fun r4 =>
    bnd (law1_exactly BIG r3 r4) fun r5 =>
    ift (!r5)
      (some false)
      (bnd (value_Result p1 p2 p3) fun r6 =>
       bnd (ref1_Result p1 p2 p3) fun r7 =>
       ift (r6.2 == r7.2)
         (bnd (law1_sameType BIG r6.1 r7.1) fun r8 =>
          ift r8
            (bnd (value_Compute p1 p4 p5) fun r9 =>
             bnd (ref1_Compute p1 p4 p5) fun r10 =>
             bnd (law1_exactly BIG r9 r10) fun r11 =>
             ift r11
               (bnd (value_Not p4) fun r12 =>
                bnd (ref1_Not p4) fun r13 =>
                bnd (law1_exactly BIG r12 r13) fun r14 =>
                law1_ValueComputesMatchSpec_j1 r14)
               (law1_ValueComputesMatchSpec_j1 false))
            (law1_ValueComputesMatchSpec_j1 false))
         (law1_ValueComputesMatchSpec_j1 false))

abbrev qa2892 (p4 : GValue) : List CV := [ci p4.kind, ci p4.n, ci p4.scale, cst p4.s, cl eValue p4.items]
abbrev qa2893 (p5 : GValue) : List CV := [ci p5.kind, ci p5.n, ci p5.scale, cst p5.s, cl eValue p5.items]
abbrev qa2894 (r2 : GValue) : List CV := [ci r2.kind, ci r2.n, ci r2.scale, cst r2.s, cl eValue r2.items]
abbrev qa2896 (p2 : GType) : List PV := [pi p2.kind, pi p2.scale, .ro (eField.els p2.fields)]
abbrev qa2897 (p3 : GType) : List PV := [pi p3.kind, pi p3.scale, .ro (eField.els p3.fields)]
abbrev qa2898 (p4 : GValue) : List PV := [pi p4.kind, pi p4.n, pi p4.scale, .s (.string p4.s), .ro (eValue.els p4.items)]
abbrev qa2899 (p5 : GValue) : List PV := [pi p5.kind, pi p5.n, pi p5.scale, .s (.string p5.s), .ro (eValue.els p5.items)]
abbrev qa2902 (r6 : (GType × Int)) : List CV := [ci r6.1.kind, ci r6.1.scale, cl eField r6.1.fields]
abbrev qa2904 (r7 : (GType × Int)) : List CV := [ci r7.1.kind, ci r7.1.scale, cl eField r7.1.fields]
abbrev qa2905 (r12 : GValue) : List CV := [ci r12.kind, ci r12.n, ci r12.scale, cst r12.s, cl eValue r12.items]
abbrev qa2906 (r10 : GValue) : List CV := [ci r10.kind, ci r10.n, ci r10.scale, cst r10.s, cl eValue r10.items]
abbrev qa2907 (r9 : GValue) : List CV := [ci r9.kind, ci r9.n, ci r9.scale, cst r9.s, cl eValue r9.items]
abbrev qa2916 (p1 : Int) (p4 : GValue) (p5 : GValue) (r6 : (GType × Int)) (r7 : (GType × Int)) (r8 : Bool) (r9 : GValue) (r10 : GValue) (r11 : Bool) (r12 : GValue) : Fr := [(57, .ag (qa2892 p4)), (56, .ag (qa2905 r12)), (55, .ag (qa2892 p4)), (54, vb true), (53, vb r11), (52, vb r11), (51, .ag (qa2906 r10)), (50, .ag (qa2893 p5)), (49, .ag (qa2892 p4)), (48, vi p1), (47, .ag (qa2907 r9)), (46, .ag (qa2893 p5)), (45, .ag (qa2892 p4)), (44, vi p1), (43, vb true), (42, vb r8), (41, vb r8), (40, .ag (qa2904 r7)), (39, .ag (qa2902 r6)), (38, vb true), (37, vb (r6.2 == r7.2)), (36, vi r7.2), (35, vi r6.2), (0, vi p1), (8, .one (.pv (.rp [(qa2898 p4)] 0 0))), (9, .one (.pv (.rp [(qa2899 p5)] 0 0))), (11, .one (.pt 0 0 0 0)), (12, vi r6.2), (13, .one (.pt 1 0 0 0)), (14, vi r7.2)]
abbrev qa2917 (p1 : Int) (p4 : GValue) (p5 : GValue) (r6 : (GType × Int)) (r7 : (GType × Int)) (r8 : Bool) (r9 : GValue) : Fr := [(50, .ag (qa2893 p5)), (49, .ag (qa2892 p4)), (48, vi p1), (47, .ag (qa2907 r9)), (46, .ag (qa2893 p5)), (45, .ag (qa2892 p4)), (44, vi p1), (43, vb true), (42, vb r8), (41, vb r8), (40, .ag (qa2904 r7)), (39, .ag (qa2902 r6)), (38, vb true), (37, vb (r6.2 == r7.2)), (36, vi r7.2), (35, vi r6.2), (0, vi p1), (8, .one (.pv (.rp [(qa2898 p4)] 0 0))), (9, .one (.pv (.rp [(qa2899 p5)] 0 0))), (11, .one (.pt 0 0 0 0)), (12, vi r6.2), (13, .one (.pt 1 0 0 0)), (14, vi r7.2)]

theorem c_law1_ValueComputesMatchSpec (p1 : Int) (p2 : GType) (p3 : GType) (p4 : GValue) (p5 : GValue) (r : Bool) (h : law1_ValueComputesMatchSpec p1 p2 p3 p4 p5 = some r) : PC Tryd.prog 8 [vi p1, .ag [ci p2.kind, ci p2.scale, cl eField p2.fields], .ag [ci p3.kind, ci p3.scale, cl eField p3.fields], .ag (qa2892 p4), .ag (qa2893 p5)] (vb r) := by
 unfold law1_ValueComputesMatchSpec at h
 refine zF 61 Tryd.f8 (zq fun K1 hK1 => zr (zg [11, 13] 5 [0,6,7,8,9] (zd (hK1 _ _ (zq fun K2 hK2 => zq fun K3 hK3 => ?_)))))
 obtain ⟨r1, c4, h⟩ := zB h
 obtain ⟨r2, c5, h⟩ := zB h
 obtain ⟨r3, c6, h⟩ := zB h
 obtain ⟨r4, c7, h⟩ := zB h
 obtain ⟨r5, c8, h⟩ := zB h
 refine zr (za (c_law1_number _ _ c4) ?_)
 refine zl 10 [vi (3 : Int)] (.ag (qa2894 r2)) [(16, .ag (qa2894 r2)), (15, .ag [ci r1.kind, ci r1.n, ci r1.scale, cst r1.s, cl eValue r1.items]), (0, vi p1), (6, .one (.pv (.rp [(qa2896 p2)] 0 0))), (7, .one (.pv (.rp [(qa2897 p3)] 0 0))), (8, .one (.pv (.rp [(qa2898 p4)] 0 0))), (9, .one (.pv (.rp [(qa2899 p5)] 0 0)))] (c_law1_number _ _ c5) ?_
 refine za (c_value_Compute _ _ _ _ c6) (za (c_law1_number _ _ c7) ?_)
 refine zl 19 [.ag [ci r3.kind, ci r3.n, ci r3.scale, cst r3.s, cl eValue r3.items], .ag [ci r4.kind, ci r4.n, ci r4.scale, cst r4.s, cl eValue r4.items]] (vb r5) [(19, vb r5), (18, .ag [ci r4.kind, ci r4.n, ci r4.scale, cst r4.s, cl eValue r4.items]), (17, .ag [ci r3.kind, ci r3.n, ci r3.scale, cst r3.s, cl eValue r3.items]), (16, .ag (qa2894 r2)), (15, .ag [ci r1.kind, ci r1.n, ci r1.scale, cst r1.s, cl eValue r1.items]), (0, vi p1), (6, .one (.pv (.rp [(qa2896 p2)] 0 0))), (7, .one (.pv (.rp [(qa2897 p3)] 0 0))), (8, .one (.pv (.rp [(qa2898 p4)] 0 0))), (9, .one (.pv (.rp [(qa2899 p5)] 0 0)))] (c_law1_exactly BIG _ _ _ c8) ?_
 refine zg [11, 13] 1 [0,6,7,8,9,20] (zd (hK3 _ _ (zC h (fun b9 h => ?_) (fun b9 h => ?_))))
 ·refine zq fun K10 hK10 => zr (zg [11, 13] 1 [10] (zd (hK10 _ _ (ze ?_))))
  obtain rfl := Option.some.inj h
  exact zf [vb false] (.one (.rfl _ rfl))
 ·refine zs (hK2 _ _ (zq fun K11 hK11 => ?_))
  obtain ⟨r6, c12, h⟩ := zB h
  refine zr ?_
  refine zv [11, 13] 3 [0,6,7,8,9,22,23,24] [(qa2896 p2), (qa2897 p3)] [(0, vi p1), (6, .one (.pv (.rp [(qa2896 p2)] 0 0))), (7, .one (.pv (.rp [(qa2897 p3)] 0 0))), (8, .one (.pv (.rp [(qa2898 p4)] 0 0))), (9, .one (.pv (.rp [(qa2899 p5)] 0 0))), (22, vi p1), (23, .ag [ci p2.kind, ci p2.scale, cl eField p2.fields]), (24, .ag [ci p3.kind, ci p3.scale, cl eField p3.fields])] [] ?_
  refine za (c_value_Result _ _ _ _ c12) (zg [11, 13] 6 [0,6,7,8,9,11,12] (zd (hK11 _ _ (zq fun K13 hK13 => ?_))))
  obtain ⟨r7, c14, h⟩ := zB h
  refine zr ?_
  refine zv [11, 13] 3 [0,8,9,11,12,29,30,31] [(qa2896 p2), (qa2897 p3)] [(0, vi p1), (8, .one (.pv (.rp [(qa2898 p4)] 0 0))), (9, .one (.pv (.rp [(qa2899 p5)] 0 0))), (11, .one (.pt 0 0 0 0)), (12, vi r6.2), (29, vi p1), (30, .ag [ci p2.kind, ci p2.scale, cl eField p2.fields]), (31, .ag [ci p3.kind, ci p3.scale, cl eField p3.fields])] [.box (qa2902 r6)] ?_
  refine za (c_ref1_Result _ _ _ _ c14) (zg [11, 13] 6 [0,8,9,11,12,13,14] (zd (hK13 _ _ (zq fun K15 hK15 => ?_))))
  have hJ1 : ∀ (x1 : Bool), law1_ValueComputesMatchSpec_j1 x1 = some r → ∀ fr1 st1, Sub 61 0 [] fr1 st1 [(10, vb x1)] [.box (qa2902 r6), .box (qa2904 r7)] → K15 fr1 st1 := by
   intro x1 h fr1 st1 hS
   unfold law1_ValueComputesMatchSpec_j1 at h
   refine hK15 _ _ (XW.sub hS ?_)
   refine ze ?_
   obtain rfl := Option.some.inj h
   exact zf [vb x1] (.one (.rfl _ rfl))
  rcases zW h with ⟨b16, h⟩ | ⟨b16, h⟩
  ·obtain ⟨r8, c17, h⟩ := zB h
   rcases zW h with ⟨b18, h⟩ | ⟨b18, h⟩
   ·obtain ⟨r9, c19, h⟩ := zB h
    obtain ⟨r10, c20, h⟩ := zB h
    obtain ⟨r11, c21, h⟩ := zB h
    rcases zW h with ⟨b22, h⟩ | ⟨b22, h⟩
    ·obtain ⟨r12, c23, h⟩ := zB h
     obtain ⟨r13, c24, h⟩ := zB h
     obtain ⟨r14, c25, h⟩ := zB h
     refine zw 23 (qa2916 p1 p4 p5 r6 r7 r8 r9 r10 r11 r12) ?_ ?_
     ·refine zyv 4 [] [(38, vb (r6.2 == r7.2)), (37, vb (r6.2 == r7.2)), (36, vi r7.2), (35, vi r6.2), (0, vi p1), (8, .one (.pv (.rp [[pi p4.kind, pi p4.n, pi p4.scale, .s (.string p4.s), .ro (eValue.els p4.items)]] 0 0))), (9, .one (.pv (.rp [[pi p5.kind, pi p5.n, pi p5.scale, .s (.string p5.s), .ro (eValue.els p5.items)]] 0 0))), (11, .one (.pt 0 0 0 0)), (12, vi r6.2), (13, .one (.pt 1 0 0 0)), (14, vi r7.2)] ?_
      refine DX.eq (fr1 := [(38, vb true), (37, vb (r6.2 == r7.2)), (36, vi r7.2), (35, vi r6.2), (0, vi p1), (8, .one (.pv (.rp [[pi p4.kind, pi p4.n, pi p4.scale, .s (.string p4.s), .ro (eValue.els p4.items)]] 0 0))), (9, .one (.pv (.rp [[pi p5.kind, pi p5.n, pi p5.scale, .s (.string p5.s), .ro (eValue.els p5.items)]] 0 0))), (11, .one (.pt 0 0 0 0)), (12, vi r6.2), (13, .one (.pt 1 0 0 0)), (14, vi r7.2)]) (by rw [b16]) (zyg 2 (zya (c_law1_sameType BIG _ _ _ c17) ?_))
      refine zyv 2 [] [(43, vb r8), (42, vb r8), (41, vb r8), (40, .ag [ci r7.1.kind, ci r7.1.scale, cl eField r7.1.fields]), (39, .ag [ci r6.1.kind, ci r6.1.scale, cl eField r6.1.fields]), (38, vb true), (37, vb (r6.2 == r7.2)), (36, vi r7.2), (35, vi r6.2), (0, vi p1), (8, .one (.pv (.rp [[pi p4.kind, pi p4.n, pi p4.scale, .s (.string p4.s), .ro (eValue.els p4.items)]] 0 0))), (9, .one (.pv (.rp [[pi p5.kind, pi p5.n, pi p5.scale, .s (.string p5.s), .ro (eValue.els p5.items)]] 0 0))), (11, .one (.pt 0 0 0 0)), (12, vi r6.2), (13, .one (.pt 1 0 0 0)), (14, vi r7.2)] ?_
      refine DX.eq (fr1 := [(43, vb true), (42, vb r8), (41, vb r8), (40, .ag [ci r7.1.kind, ci r7.1.scale, cl eField r7.1.fields]), (39, .ag [ci r6.1.kind, ci r6.1.scale, cl eField r6.1.fields]), (38, vb true), (37, vb (r6.2 == r7.2)), (36, vi r7.2), (35, vi r6.2), (0, vi p1), (8, .one (.pv (.rp [[pi p4.kind, pi p4.n, pi p4.scale, .s (.string p4.s), .ro (eValue.els p4.items)]] 0 0))), (9, .one (.pv (.rp [[pi p5.kind, pi p5.n, pi p5.scale, .s (.string p5.s), .ro (eValue.els p5.items)]] 0 0))), (11, .one (.pt 0 0 0 0)), (12, vi r6.2), (13, .one (.pt 1 0 0 0)), (14, vi r7.2)]) (by rw [b18]) ?_
      refine zyu 3 [(qa2898 p4), (qa2899 p5)] (zya (c_value_Compute _ _ _ _ c19) ?_)
      refine zyv 3 [(qa2898 p4), (qa2899 p5)] (qa2917 p1 p4 p5 r6 r7 r8 r9) ?_
      refine zya (c_ref1_Compute _ _ _ _ c20) (zya (c_law1_exactly BIG _ _ _ c21) ?_)
      refine zyv 2 [] [(54, vb r11), (53, vb r11), (52, vb r11), (51, .ag [ci r10.kind, ci r10.n, ci r10.scale, cst r10.s, cl eValue r10.items]), (50, .ag [ci p5.kind, ci p5.n, ci p5.scale, cst p5.s, cl eValue p5.items]), (49, .ag [ci p4.kind, ci p4.n, ci p4.scale, cst p4.s, cl eValue p4.items]), (48, vi p1), (47, .ag [ci r9.kind, ci r9.n, ci r9.scale, cst r9.s, cl eValue r9.items]), (46, .ag [ci p5.kind, ci p5.n, ci p5.scale, cst p5.s, cl eValue p5.items]), (45, .ag [ci p4.kind, ci p4.n, ci p4.scale, cst p4.s, cl eValue p4.items]), (44, vi p1), (43, vb true), (42, vb r8), (41, vb r8), (40, .ag [ci r7.1.kind, ci r7.1.scale, cl eField r7.1.fields]), (39, .ag [ci r6.1.kind, ci r6.1.scale, cl eField r6.1.fields]), (38, vb true), (37, vb (r6.2 == r7.2)), (36, vi r7.2), (35, vi r6.2), (0, vi p1), (8, .one (.pv (.rp [[pi p4.kind, pi p4.n, pi p4.scale, .s (.string p4.s), .ro (eValue.els p4.items)]] 0 0))), (9, .one (.pv (.rp [[pi p5.kind, pi p5.n, pi p5.scale, .s (.string p5.s), .ro (eValue.els p5.items)]] 0 0))), (11, .one (.pt 0 0 0 0)), (12, vi r6.2), (13, .one (.pt 1 0 0 0)), (14, vi r7.2)] ?_
      refine DX.eq (fr1 := [(54, vb true), (53, vb r11), (52, vb r11), (51, .ag [ci r10.kind, ci r10.n, ci r10.scale, cst r10.s, cl eValue r10.items]), (50, .ag [ci p5.kind, ci p5.n, ci p5.scale, cst p5.s, cl eValue p5.items]), (49, .ag [ci p4.kind, ci p4.n, ci p4.scale, cst p4.s, cl eValue p4.items]), (48, vi p1), (47, .ag [ci r9.kind, ci r9.n, ci r9.scale, cst r9.s, cl eValue r9.items]), (46, .ag [ci p5.kind, ci p5.n, ci p5.scale, cst p5.s, cl eValue p5.items]), (45, .ag [ci p4.kind, ci p4.n, ci p4.scale, cst p4.s, cl eValue p4.items]), (44, vi p1), (43, vb true), (42, vb r8), (41, vb r8), (40, .ag [ci r7.1.kind, ci r7.1.scale, cl eField r7.1.fields]), (39, .ag [ci r6.1.kind, ci r6.1.scale, cl eField r6.1.fields]), (38, vb true), (37, vb (r6.2 == r7.2)), (36, vi r7.2), (35, vi r6.2), (0, vi p1), (8, .one (.pv (.rp [[pi p4.kind, pi p4.n, pi p4.scale, .s (.string p4.s), .ro (eValue.els p4.items)]] 0 0))), (9, .one (.pv (.rp [[pi p5.kind, pi p5.n, pi p5.scale, .s (.string p5.s), .ro (eValue.els p5.items)]] 0 0))), (11, .one (.pt 0 0 0 0)), (12, vi r6.2), (13, .one (.pt 1 0 0 0)), (14, vi r7.2)]) (by rw [b22]) ?_
      refine zyu 1 [(qa2898 p4)] (zya (c_value_Not _ _ c23) ?_)
      refine zyv 1 [(qa2898 p4)] (qa2916 p1 p4 p5 r6 r7 r8 r9 r10 r11 r12) ?_
      exact zyd
     refine zl 30 [.ag (qa2892 p4)] (.ag [ci r13.kind, ci r13.n, ci r13.scale, cst r13.s, cl eValue r13.items]) [(58, .ag [ci r13.kind, ci r13.n, ci r13.scale, cst r13.s, cl eValue r13.items]), (57, .ag (qa2892 p4)), (56, .ag (qa2905 r12)), (55, .ag (qa2892 p4)), (54, vb true), (53, vb r11), (52, vb r11), (51, .ag (qa2906 r10)), (50, .ag (qa2893 p5)), (49, .ag (qa2892 p4)), (48, vi p1), (47, .ag (qa2907 r9)), (46, .ag (qa2893 p5)), (45, .ag (qa2892 p4)), (44, vi p1), (43, vb true), (42, vb r8), (41, vb r8), (40, .ag (qa2904 r7)), (39, .ag (qa2902 r6)), (38, vb true), (37, vb (r6.2 == r7.2)), (36, vi r7.2), (35, vi r6.2), (0, vi p1), (8, .one (.pv (.rp [(qa2898 p4)] 0 0))), (9, .one (.pv (.rp [(qa2899 p5)] 0 0))), (11, .one (.pt 0 0 0 0)), (12, vi r6.2), (13, .one (.pt 1 0 0 0)), (14, vi r7.2)] (c_ref1_Not _ _ c24) ?_
     exact za (c_law1_exactly BIG _ _ _ c25) (zg [11, 13] 2 [10] (zd (hJ1 r14 h _ _ (zk [10]))))
    ·refine zw 23 [(57, .tp []), (56, .tp []), (55, .tp []), (54, vb false), (53, vb r11), (52, vb r11), (51, .ag (qa2906 r10)), (50, .ag (qa2893 p5)), (49, .ag (qa2892 p4)), (48, vi p1), (47, .ag (qa2907 r9)), (46, .ag (qa2893 p5)), (45, .ag (qa2892 p4)), (44, vi p1), (43, vb true), (42, vb r8), (41, vb r8), (40, .ag (qa2904 r7)), (39, .ag (qa2902 r6)), (38, vb true), (37, vb (r6.2 == r7.2)), (36, vi r7.2), (35, vi r6.2), (0, vi p1), (8, .one (.pv (.rp [(qa2898 p4)] 0 0))), (9, .one (.pv (.rp [(qa2899 p5)] 0 0))), (11, .one (.pt 0 0 0 0)), (12, vi r6.2), (13, .one (.pt 1 0 0 0)), (14, vi r7.2)] ?_ ?_
     ·refine zyv 4 [] [(38, vb (r6.2 == r7.2)), (37, vb (r6.2 == r7.2)), (36, vi r7.2), (35, vi r6.2), (0, vi p1), (8, .one (.pv (.rp [[pi p4.kind, pi p4.n, pi p4.scale, .s (.string p4.s), .ro (eValue.els p4.items)]] 0 0))), (9, .one (.pv (.rp [[pi p5.kind, pi p5.n, pi p5.scale, .s (.string p5.s), .ro (eValue.els p5.items)]] 0 0))), (11, .one (.pt 0 0 0 0)), (12, vi r6.2), (13, .one (.pt 1 0 0 0)), (14, vi r7.2)] ?_
      refine DX.eq (fr1 := [(38, vb true), (37, vb (r6.2 == r7.2)), (36, vi r7.2), (35, vi r6.2), (0, vi p1), (8, .one (.pv (.rp [[pi p4.kind, pi p4.n, pi p4.scale, .s (.string p4.s), .ro (eValue.els p4.items)]] 0 0))), (9, .one (.pv (.rp [[pi p5.kind, pi p5.n, pi p5.scale, .s (.string p5.s), .ro (eValue.els p5.items)]] 0 0))), (11, .one (.pt 0 0 0 0)), (12, vi r6.2), (13, .one (.pt 1 0 0 0)), (14, vi r7.2)]) (by rw [b16]) (zyg 2 (zya (c_law1_sameType BIG _ _ _ c17) ?_))
      refine zyv 2 [] [(43, vb r8), (42, vb r8), (41, vb r8), (40, .ag [ci r7.1.kind, ci r7.1.scale, cl eField r7.1.fields]), (39, .ag [ci r6.1.kind, ci r6.1.scale, cl eField r6.1.fields]), (38, vb true), (37, vb (r6.2 == r7.2)), (36, vi r7.2), (35, vi r6.2), (0, vi p1), (8, .one (.pv (.rp [[pi p4.kind, pi p4.n, pi p4.scale, .s (.string p4.s), .ro (eValue.els p4.items)]] 0 0))), (9, .one (.pv (.rp [[pi p5.kind, pi p5.n, pi p5.scale, .s (.string p5.s), .ro (eValue.els p5.items)]] 0 0))), (11, .one (.pt 0 0 0 0)), (12, vi r6.2), (13, .one (.pt 1 0 0 0)), (14, vi r7.2)] ?_
      refine DX.eq (fr1 := [(43, vb true), (42, vb r8), (41, vb r8), (40, .ag [ci r7.1.kind, ci r7.1.scale, cl eField r7.1.fields]), (39, .ag [ci r6.1.kind, ci r6.1.scale, cl eField r6.1.fields]), (38, vb true), (37, vb (r6.2 == r7.2)), (36, vi r7.2), (35, vi r6.2), (0, vi p1), (8, .one (.pv (.rp [[pi p4.kind, pi p4.n, pi p4.scale, .s (.string p4.s), .ro (eValue.els p4.items)]] 0 0))), (9, .one (.pv (.rp [[pi p5.kind, pi p5.n, pi p5.scale, .s (.string p5.s), .ro (eValue.els p5.items)]] 0 0))), (11, .one (.pt 0 0 0 0)), (12, vi r6.2), (13, .one (.pt 1 0 0 0)), (14, vi r7.2)]) (by rw [b18]) ?_
      refine zyu 3 [(qa2898 p4), (qa2899 p5)] (zya (c_value_Compute _ _ _ _ c19) ?_)
      refine zyv 3 [(qa2898 p4), (qa2899 p5)] (qa2917 p1 p4 p5 r6 r7 r8 r9) ?_
      refine zya (c_ref1_Compute _ _ _ _ c20) (zya (c_law1_exactly BIG _ _ _ c21) ?_)
      refine zyv 2 [] [(54, vb r11), (53, vb r11), (52, vb r11), (51, .ag [ci r10.kind, ci r10.n, ci r10.scale, cst r10.s, cl eValue r10.items]), (50, .ag [ci p5.kind, ci p5.n, ci p5.scale, cst p5.s, cl eValue p5.items]), (49, .ag [ci p4.kind, ci p4.n, ci p4.scale, cst p4.s, cl eValue p4.items]), (48, vi p1), (47, .ag [ci r9.kind, ci r9.n, ci r9.scale, cst r9.s, cl eValue r9.items]), (46, .ag [ci p5.kind, ci p5.n, ci p5.scale, cst p5.s, cl eValue p5.items]), (45, .ag [ci p4.kind, ci p4.n, ci p4.scale, cst p4.s, cl eValue p4.items]), (44, vi p1), (43, vb true), (42, vb r8), (41, vb r8), (40, .ag [ci r7.1.kind, ci r7.1.scale, cl eField r7.1.fields]), (39, .ag [ci r6.1.kind, ci r6.1.scale, cl eField r6.1.fields]), (38, vb true), (37, vb (r6.2 == r7.2)), (36, vi r7.2), (35, vi r6.2), (0, vi p1), (8, .one (.pv (.rp [[pi p4.kind, pi p4.n, pi p4.scale, .s (.string p4.s), .ro (eValue.els p4.items)]] 0 0))), (9, .one (.pv (.rp [[pi p5.kind, pi p5.n, pi p5.scale, .s (.string p5.s), .ro (eValue.els p5.items)]] 0 0))), (11, .one (.pt 0 0 0 0)), (12, vi r6.2), (13, .one (.pt 1 0 0 0)), (14, vi r7.2)] ?_
      refine DX.eq (fr1 := [(54, vb false), (53, vb r11), (52, vb r11), (51, .ag [ci r10.kind, ci r10.n, ci r10.scale, cst r10.s, cl eValue r10.items]), (50, .ag [ci p5.kind, ci p5.n, ci p5.scale, cst p5.s, cl eValue p5.items]), (49, .ag [ci p4.kind, ci p4.n, ci p4.scale, cst p4.s, cl eValue p4.items]), (48, vi p1), (47, .ag [ci r9.kind, ci r9.n, ci r9.scale, cst r9.s, cl eValue r9.items]), (46, .ag [ci p5.kind, ci p5.n, ci p5.scale, cst p5.s, cl eValue p5.items]), (45, .ag [ci p4.kind, ci p4.n, ci p4.scale, cst p4.s, cl eValue p4.items]), (44, vi p1), (43, vb true), (42, vb r8), (41, vb r8), (40, .ag [ci r7.1.kind, ci r7.1.scale, cl eField r7.1.fields]), (39, .ag [ci r6.1.kind, ci r6.1.scale, cl eField r6.1.fields]), (38, vb true), (37, vb (r6.2 == r7.2)), (36, vi r7.2), (35, vi r6.2), (0, vi p1), (8, .one (.pv (.rp [[pi p4.kind, pi p4.n, pi p4.scale, .s (.string p4.s), .ro (eValue.els p4.items)]] 0 0))), (9, .one (.pv (.rp [[pi p5.kind, pi p5.n, pi p5.scale, .s (.string p5.s), .ro (eValue.els p5.items)]] 0 0))), (11, .one (.pt 0 0 0 0)), (12, vi r6.2), (13, .one (.pt 1 0 0 0)), (14, vi r7.2)]) (by rw [b22]) ?_
      exact zyg 3 zyd
     exact zv [11, 13] 4 [10] [] [(10, vb false)] [.box (qa2902 r6), .box (qa2904 r7)] (zd (hJ1 false h _ _ (zk [10])))
   ·refine zw 23 [(57, .tp []), (56, .tp []), (55, .tp []), (54, vb false), (53, vb false), (52, .tp []), (51, .tp []), (50, .tp []), (49, .tp []), (48, .tp []), (47, .tp []), (46, .tp []), (45, .tp []), (44, .tp []), (43, vb false), (42, vb r8), (41, vb r8), (40, .ag (qa2904 r7)), (39, .ag (qa2902 r6)), (38, vb true), (37, vb (r6.2 == r7.2)), (36, vi r7.2), (35, vi r6.2), (0, vi p1), (8, .one (.pv (.rp [(qa2898 p4)] 0 0))), (9, .one (.pv (.rp [(qa2899 p5)] 0 0))), (11, .one (.pt 0 0 0 0)), (12, vi r6.2), (13, .one (.pt 1 0 0 0)), (14, vi r7.2)] ?_ ?_
    ·refine zyv 4 [] [(38, vb (r6.2 == r7.2)), (37, vb (r6.2 == r7.2)), (36, vi r7.2), (35, vi r6.2), (0, vi p1), (8, .one (.pv (.rp [[pi p4.kind, pi p4.n, pi p4.scale, .s (.string p4.s), .ro (eValue.els p4.items)]] 0 0))), (9, .one (.pv (.rp [[pi p5.kind, pi p5.n, pi p5.scale, .s (.string p5.s), .ro (eValue.els p5.items)]] 0 0))), (11, .one (.pt 0 0 0 0)), (12, vi r6.2), (13, .one (.pt 1 0 0 0)), (14, vi r7.2)] ?_
     refine DX.eq (fr1 := [(38, vb true), (37, vb (r6.2 == r7.2)), (36, vi r7.2), (35, vi r6.2), (0, vi p1), (8, .one (.pv (.rp [[pi p4.kind, pi p4.n, pi p4.scale, .s (.string p4.s), .ro (eValue.els p4.items)]] 0 0))), (9, .one (.pv (.rp [[pi p5.kind, pi p5.n, pi p5.scale, .s (.string p5.s), .ro (eValue.els p5.items)]] 0 0))), (11, .one (.pt 0 0 0 0)), (12, vi r6.2), (13, .one (.pt 1 0 0 0)), (14, vi r7.2)]) (by rw [b16]) (zyg 2 (zya (c_law1_sameType BIG _ _ _ c17) ?_))
     refine zyv 2 [] [(43, vb r8), (42, vb r8), (41, vb r8), (40, .ag [ci r7.1.kind, ci r7.1.scale, cl eField r7.1.fields]), (39, .ag [ci r6.1.kind, ci r6.1.scale, cl eField r6.1.fields]), (38, vb true), (37, vb (r6.2 == r7.2)), (36, vi r7.2), (35, vi r6.2), (0, vi p1), (8, .one (.pv (.rp [[pi p4.kind, pi p4.n, pi p4.scale, .s (.string p4.s), .ro (eValue.els p4.items)]] 0 0))), (9, .one (.pv (.rp [[pi p5.kind, pi p5.n, pi p5.scale, .s (.string p5.s), .ro (eValue.els p5.items)]] 0 0))), (11, .one (.pt 0 0 0 0)), (12, vi r6.2), (13, .one (.pt 1 0 0 0)), (14, vi r7.2)] ?_
     refine DX.eq (fr1 := [(43, vb false), (42, vb r8), (41, vb r8), (40, .ag [ci r7.1.kind, ci r7.1.scale, cl eField r7.1.fields]), (39, .ag [ci r6.1.kind, ci r6.1.scale, cl eField r6.1.fields]), (38, vb true), (37, vb (r6.2 == r7.2)), (36, vi r7.2), (35, vi r6.2), (0, vi p1), (8, .one (.pv (.rp [[pi p4.kind, pi p4.n, pi p4.scale, .s (.string p4.s), .ro (eValue.els p4.items)]] 0 0))), (9, .one (.pv (.rp [[pi p5.kind, pi p5.n, pi p5.scale, .s (.string p5.s), .ro (eValue.els p5.items)]] 0 0))), (11, .one (.pt 0 0 0 0)), (12, vi r6.2), (13, .one (.pt 1 0 0 0)), (14, vi r7.2)]) (by rw [b18]) ?_
     exact zyg 14 zyd
    exact zv [11, 13] 4 [10] [] [(10, vb false)] [.box (qa2902 r6), .box (qa2904 r7)] (zd (hJ1 false h _ _ (zk [10])))
  ·refine zw 23 [(57, .tp []), (56, .tp []), (55, .tp []), (54, vb false), (53, vb false), (52, .tp []), (51, .tp []), (50, .tp []), (49, .tp []), (48, .tp []), (47, .tp []), (46, .tp []), (45, .tp []), (44, .tp []), (43, vb false), (42, vb false), (41, .tp []), (40, .tp []), (39, .tp []), (38, vb false), (37, vb (r6.2 == r7.2)), (36, vi r7.2), (35, vi r6.2), (0, vi p1), (8, .one (.pv (.rp [(qa2898 p4)] 0 0))), (9, .one (.pv (.rp [(qa2899 p5)] 0 0))), (11, .one (.pt 0 0 0 0)), (12, vi r6.2), (13, .one (.pt 1 0 0 0)), (14, vi r7.2)] ?_ ?_
   ·refine zyv 4 [] [(38, vb (r6.2 == r7.2)), (37, vb (r6.2 == r7.2)), (36, vi r7.2), (35, vi r6.2), (0, vi p1), (8, .one (.pv (.rp [(qa2898 p4)] 0 0))), (9, .one (.pv (.rp [(qa2899 p5)] 0 0))), (11, .one (.pt 0 0 0 0)), (12, vi r6.2), (13, .one (.pt 1 0 0 0)), (14, vi r7.2)] ?_
    exact DX.eq (fr1 := [(38, vb false), (37, vb (r6.2 == r7.2)), (36, vi r7.2), (35, vi r6.2), (0, vi p1), (8, .one (.pv (.rp [[pi p4.kind, pi p4.n, pi p4.scale, .s (.string p4.s), .ro (eValue.els p4.items)]] 0 0))), (9, .one (.pv (.rp [[pi p5.kind, pi p5.n, pi p5.scale, .s (.string p5.s), .ro (eValue.els p5.items)]] 0 0))), (11, .one (.pt 0 0 0 0)), (12, vi r6.2), (13, .one (.pt 1 0 0 0)), (14, vi r7.2)]) (by rw [b16]) (zyg 19 zyd)
   exact zv [11, 13] 4 [10] [] [(10, vb false)] [.box (qa2902 r6), .box (qa2904 r7)] (zd (hJ1 false h _ _ (zk [10])))


end Go.Proofs.YtdkmclmdemngfaaDoor
