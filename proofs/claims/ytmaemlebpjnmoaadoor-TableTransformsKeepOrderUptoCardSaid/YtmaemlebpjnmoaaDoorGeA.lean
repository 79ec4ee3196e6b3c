/- The shelf's contract of utf8.ValidString, laid at this program. Printed by a program: what the functions compute, and the proofs of their contracts. -/
import Derived.Test.YtmaemlebpjnmoaaDoorProg
import Derived.Test.YtmaemlebpjnmoaaDoorChecked
import Derived.Test.YtmaemlebpjnmoaaDoorSxB
namespace Go.Proofs.YtmaemlebpjnmoaaDoor
open Go Go.SX Go.Shelf Go.Lib
set_option linter.unusedVariables false

def u8ren : Ren where
 f := fun n => if n = 196 then 110 else if n = 259 then 121 else n
 t := fun n => if n = 0 then 0 else if n = 3 then 3 else if n = 4 then 4 else if n = 5 then 5 else if n = 9 then 9 else if n = 12 then 12 else if n = 46 then 166 else if n = 53 then 75 else if n = 119 then 162 else if n = 138 then 164 else if n = 139 then 165 else n
 g := fun n => if n = 3 then 0 else if n = 4 then 1 else n

set_option maxRecDepth 100000 in
theorem u8lays : Lays.n196 Tryd.prog u8ren where
 mixed := by kernel_rfl
 f196 := by kernel_rfl
 f259 := by kernel_rfl
 t0 := by kernel_rfl
 a0 := fun w => by kernel_rfl
 z0 := fun w => by kernel_rfl
 v0 := fun w => by kernel_rfl
 t3 := by kernel_rfl
 a3 := fun w => by kernel_rfl
 z3 := fun w => by kernel_rfl
 v3 := fun w => by kernel_rfl
 t4 := by kernel_rfl
 a4 := fun w => by kernel_rfl
 z4 := fun w => by kernel_rfl
 v4 := fun w => by kernel_rfl
 t5 := by kernel_rfl
 a5 := fun w => by kernel_rfl
 z5 := fun w => by kernel_rfl
 v5 := fun w => by kernel_rfl
 t9 := by kernel_rfl
 a9 := fun w => by kernel_rfl
 z9 := fun w => by kernel_rfl
 v9 := fun w => by kernel_rfl
 t12 := by kernel_rfl
 a12 := fun w => by kernel_rfl
 z12 := fun w => by kernel_rfl
 v12 := fun w => by kernel_rfl
 t46 := by kernel_rfl
 a46 := fun w => by kernel_rfl
 z46 := fun w => by kernel_rfl
 v46 := fun w => by kernel_rfl
 t53 := by kernel_rfl
 a53 := fun w => by kernel_rfl
 z53 := fun w => by kernel_rfl
 v53 := fun w => by kernel_rfl
 t119 := by kernel_rfl
 a119 := fun w => by kernel_rfl
 z119 := fun w => by kernel_rfl
 t138 := by kernel_rfl
 a138 := fun w => by kernel_rfl
 z138 := fun w => by kernel_rfl
 v138 := fun w => by kernel_rfl
 t139 := by kernel_rfl
 a139 := fun w => by kernel_rfl
 z139 := fun w => by kernel_rfl
 v139 := fun w => by kernel_rfl
 g3 := by kernel_rfl
 g4 := by kernel_rfl

def utf8_ValidString (p1 : ByteArray) : Option Bool := grd (p1.size ≤ 9223372036854775807) <| some (validD p1.data.toList)

theorem c_utf8_ValidString (p1 : ByteArray) (r : Bool) (h : utf8_ValidString p1 = some r) : PC Tryd.prog 110 [vs p1] (vb r) := by
 unfold utf8_ValidString at h
 obtain ⟨g1, h⟩ := grd_some h
 obtain rfl := Option.some.inj h
 exact pc_validString u8lays (by kernel_rfl) (by kernel_rfl) p1 g1

end Go.Proofs.YtmaemlebpjnmoaaDoor
namespace Go.Proofs.YtmaemlebpjnmoaaDoor
open Go.SX Go
set_option linter.unusedVariables false
set_option linter.unusedSimpArgs false
set_option maxRecDepth 100000
set_option maxHeartbeats 8000000

def law3_number (p1 : Int) : Option GValue :=
    some (GValue.mk (2 : Int) p1 (0 : Int) ByteArray.empty [])


theorem c_law3_number (p1 : Int) (r : GValue) (h : law3_number p1 = some r) : PC Tryd.prog 16 [vi p1] (.ag [ci r.kind, ci r.n, ci r.scale, cst r.s, cl eValue r.items]) := by
 unfold law3_number at h
 refine zF 5 Tryd.f16 (zq fun K1 hK1 => zr (zg [2] 1 [0,2] (zd (hK1 _ _ (zq fun K2 hK2 => zr ?_)))))
 refine zg [2] 3 [2] (zd (hK2 _ _ (ze ?_)))
 obtain rfl := Option.some.inj h
 exact zf [.ag [ci (2 : Int), ci p1, ci (0 : Int), cst ByteArray.empty, .pv (.s (.slice none 0 0))]] (.ag (.cons (.rfl _ rfl) (.cons (.rfl _ rfl) (.cons (.rfl _ rfl) (.cons (.rfl _ rfl) (.cons (.nl) .nil))))))

def value_leaf_j1 (x1 : Bool) : Option Bool :=
    some x1

def value_leaf (p1 : GType) : Option Bool :=
    ift (p1.kind != (6 : Int))
      (value_leaf_j1 (p1.kind != (7 : Int)))
      (value_leaf_j1 false)

abbrev qa916 (p1 : GType) : List PV := [pi p1.kind, pi p1.scale, .ro (eField.els p1.fields)]

theorem c_value_leaf (p1 : GType) (r : Bool) (h : value_leaf p1 = some r) : PC Tryd.prog 97 [.ag [ci p1.kind, ci p1.scale, cl eField p1.fields]] (vb r) := by
 unfold value_leaf at h
 refine zF 11 Tryd.f97 (zq fun K1 hK1 => zr (zg [] 2 [1] (zd (hK1 _ _ (zq fun K2 hK2 => ?_)))))
 have hJ1 : ∀ (x1 : Bool), value_leaf_j1 x1 = some r → ∀ fr1 st1, Sub 11 0 [] fr1 st1 [(2, vb x1)] [] → K2 fr1 st1 := by
  intro x1 h fr1 st1 hS
  unfold value_leaf_j1 at h
  refine hK2 _ _ (XW.sub hS ?_)
  refine ze ?_
  obtain rfl := Option.some.inj h
  exact zf [vb x1] (.one (.rfl _ rfl))
 rcases zW h with ⟨b3, h⟩ | ⟨b3, h⟩
 ·exact zr (zu [] 4 [1,6] [(qa916 p1)] (zt 6 b3 (zv [] 5 [2] [(qa916 p1)] [(2, vb (p1.kind != (7 : Int)))] [] (zd (hJ1 (p1.kind != (7 : Int)) h _ _ (zk [2]))))))
 ·exact zr (zu [] 4 [1,6] [(qa916 p1)] (zt 6 b3 (zg [] 5 [2] (zd (hJ1 false h _ _ (zk [2]))))))

def value_Name_1_j1 (x1 : Bool) : Option Bool :=
    some x1

def value_Name_1 (p1 : Int) : Option Bool :=
    ift (decide (p1 < (97 : Int)))
      (ift (decide (p1 < (48 : Int)))
         (value_Name_1_j1 (p1 != (95 : Int)))
         (ift (decide ((57 : Int) < p1))
            (value_Name_1_j1 (p1 != (95 : Int)))
            (value_Name_1_j1 false)))
      (ift (decide ((122 : Int) < p1))
         (ift (decide (p1 < (48 : Int)))
            (value_Name_1_j1 (p1 != (95 : Int)))
            (ift (decide ((57 : Int) < p1))
               (value_Name_1_j1 (p1 != (95 : Int)))
               (value_Name_1_j1 false)))
         (value_Name_1_j1 false))

abbrev qa922 (p1 : Int) : Fr := [(0, vk .i32 p1), (9, vb (decide ((122 : Int) < p1)))]

theorem c_value_Name_1 (p1 : Int) (r : Bool) (h : value_Name_1 p1 = some r) : PC Tryd.prog 123 [vk .i32 p1] (vb r) := by
 unfold value_Name_1 at h
 refine zF 21 Tryd.f123 (zq fun K1 hK1 => zr (zg [] 1 [0] (zd (hK1 _ _ (zq fun K2 hK2 => ?_)))))
 have hJ1 : ∀ (x1 : Bool), value_Name_1_j1 x1 = some r → ∀ fr1 st1, Sub 21 0 [] fr1 st1 [(2, vb x1)] [] → K2 fr1 st1 := by
  intro x1 h fr1 st1 hS
  unfold value_Name_1_j1 at h
  refine hK2 _ _ (XW.sub hS ?_)
  refine ze ?_
  obtain rfl := Option.some.inj h
  exact zf [vb x1] (.one (.rfl _ rfl))
 rcases zW h with ⟨b3, h⟩ | ⟨b3, h⟩
 ·rcases zW h with ⟨b4, h⟩ | ⟨b4, h⟩
  ·exact zr (zg [] 3 [0,5] (zt 5 b3 (zv [] 7 [0,9,12] [] [(0, vk .i32 p1), (9, vb true), (12, vb (decide (p1 < (48 : Int))))] [] (zt 12 b4 (zg [] 9 [2] (zd (hJ1 (p1 != (95 : Int)) h _ _ (zk [2]))))))))
  ·rcases zW h with ⟨b5, h⟩ | ⟨b5, h⟩
   ·refine zr (zg [] 3 [0,5] (zt 5 b3 (zv [] 7 [0,9,12] [] [(0, vk .i32 p1), (9, vb true), (12, vb (decide (p1 < (48 : Int))))] [] (zt 12 b4 (zg [] 5 [0,17] (zt 17 b5 (zg [] 4 [2] ?_)))))))
    exact zd (hJ1 (p1 != (95 : Int)) h _ _ (zk [2]))
   ·refine zr (zv [] 3 [0,5] [] [(0, vk .i32 p1), (5, vb (decide (p1 < (97 : Int))))] [] (zt 5 b3 (zg [] 7 [0,9,12] (zt 12 b4 (zg [] 5 [0,17] (zt 17 b5 (zv [] 4 [2] [] [(2, vb false)] [] ?_)))))))
    exact zd (hJ1 false h _ _ (zk [2]))
 ·rcases zW h with ⟨b6, h⟩ | ⟨b6, h⟩
  ·rcases zW h with ⟨b7, h⟩ | ⟨b7, h⟩
   ·refine zr (zg [] 3 [0,5] (zt 5 b3 (zv [] 4 [0,9] [] (qa922 p1) [] (zt 9 b6 (zg [] 3 [0,9,12] (zt 12 b7 (zg [] 9 [2] ?_)))))))
    exact zd (hJ1 (p1 != (95 : Int)) h _ _ (zk [2]))
   ·rcases zW h with ⟨b8, h⟩ | ⟨b8, h⟩
    ·refine zr (zv [] 3 [0,5] [] [(0, vk .i32 p1), (5, vb (decide (p1 < (97 : Int))))] [] (zt 5 b3 (zg [] 4 [0,9] (zt 9 b6 (zg [] 3 [0,9,12] (zt 12 b7 (zv [] 5 [0,17] [] [(0, vk .i32 p1), (17, vb (decide ((57 : Int) < p1)))] [] ?_)))))))
     exact zt 17 b8 (zg [] 4 [2] (zd (hJ1 (p1 != (95 : Int)) h _ _ (zk [2]))))
    ·refine zr (zg [] 3 [0,5] (zt 5 b3 (zv [] 4 [0,9] [] (qa922 p1) [] (zt 9 b6 (zg [] 3 [0,9,12] (zt 12 b7 (zg [] 5 [0,17] ?_)))))))
     exact zt 17 b8 (zv [] 4 [2] [] [(2, vb false)] [] (zd (hJ1 false h _ _ (zk [2]))))
  ·exact zr (zg [] 3 [0,5] (zt 5 b3 (zv [] 4 [0,9] [] (qa922 p1) [] (zt 9 b6 (zg [] 12 [2] (zd (hJ1 false h _ _ (zk [2]))))))))

def strings_indexFunc_of_value_Name_1_j1 : Option Int :=
    some (-1 : Int)

def strings_indexFunc_of_value_Name_1_l1 (p1 : ByteArray) (p2 : Bool) : Nat → Nat → Option Int
  | 0, _ => none
  | k1 + 1, z1 =>
    ift (decide (z1 < p1.size))
      (bnd (value_Name_1 (Int.ofNat (Utf8.decode p1 z1).1)) fun r1 =>
       ift (r1 == p2)
         (some (Int.ofNat z1))
         ((strings_indexFunc_of_value_Name_1_l1 p1 p2 k1) (z1 + (Utf8.decode p1 z1).2)))
      (strings_indexFunc_of_value_Name_1_j1)

def strings_indexFunc_of_value_Name_1 (p1 : ByteArray) (p2 : Bool) : Option Int :=
    strings_indexFunc_of_value_Name_1_l1 p1 p2 BIG 0


theorem c_strings_indexFunc_of_value_Name_1 (p1 : ByteArray) (p2 : Bool) (r : Int) (h : strings_indexFunc_of_value_Name_1 p1 p2 = some r) : PC Tryd.prog 133 [vs p1, .one (.pv (.fn 123 [])), vb p2] (vi r) := by
 unfold strings_indexFunc_of_value_Name_1 at h
 refine zF 21 Tryd.f133 (zq fun K1 hK1 => zr (zg [] 1 [0,1,2] (zd (hK1 _ _ (zq fun K2 hK2 => ?_)))))
 have hJ1 : ∀ (_ : Unit), strings_indexFunc_of_value_Name_1_j1 = some r → ∀ fr1 st1, Sub 21 0 [] fr1 st1 [] [] → K2 fr1 st1 := by
  intro _ h fr1 st1 hS
  unfold strings_indexFunc_of_value_Name_1_j1 at h
  refine hK2 _ _ (XW.sub hS ?_)
  refine zq fun K13 hK13 => zr (zg [] 1 [6] (zd (hK13 _ _ (ze ?_))))
  obtain rfl := Option.some.inj h
  exact zf [vi (-1 : Int)] (.one (.rfl _ rfl))
 refine zq fun K3 hK3 => zr (zv [] 1 [1,2,9] [] [(1, .one (.pv (.fn 123 []))), (2, vb p2), (9, vs p1)] [] (XO.rng p1 [(10, .one (.pt 0 0 0 0)), (1, .one (.pv (.fn 123 []))), (2, vb p2), (9, vs p1)] [.raw (.stringIter p1 0)] (by kernel_rfl) (by kernel_rfl) (by kernel_rfl) (zd (hK3 _ _ (zb 0 (XW.rounds' BIG (x := cd Tryd.f133 [1,0,1,0,0]) (by kernel_rfl) fun Q1 hQ1 => ?_))))))
 have hL1 : ∀ (k1 : Nat) (z1 : Nat), strings_indexFunc_of_value_Name_1_l1 p1 p2 k1 z1 = some r → XR Tryd.prog 21 0 [] (cd Tryd.f133 [1,0,1,0,0]) Q1 k1 [(1, .one (.pv (.fn 123 []))), (2, vb p2), (10, .one (.pt 0 0 0 0))] [.raw (.stringIter p1 z1)] := by
  intro k1
  induction k1 with
  | zero => intro z1 h; rw [strings_indexFunc_of_value_Name_1_l1.eq_1] at h; cases h
  | succ k1 ih1 =>
   intro z1 h
   rw [strings_indexFunc_of_value_Name_1_l1.eq_2] at h
   refine zq fun K4 hK4 => ?_
   rcases zW h with ⟨b5, h⟩ | ⟨b5, h⟩
   ·refine zr (XO.nxt 0 p1 z1 [(11, .tp [vb true, vi (Int.ofNat z1), vk .i32 (Int.ofNat (Utf8.decode p1 z1).1)]), (1, .one (.pv (.fn 123 []))), (2, vb p2), (10, .one (.pt 0 0 0 0))] [.raw (.stringIter p1 (z1 + (Utf8.decode p1 z1).2))] (by kernel_rfl) (by kernel_rfl) (by kernel_rfl) (by kernel_rfl) b5 (zg [] 1 [1,2,10,11,12] (zd (hK4 _ _ (zq fun K6 hK6 => zc true (fun _ => ?_) (fun hx => by cases hx))))))
    refine zs (hK6 _ _ (zb 1 (zq fun K7 hK7 => zr (zg [] 4 [1,2,7,8,10] (zd (hK7 _ _ ?_))))))
    refine zq fun K8 hK8 => ?_
    obtain ⟨r1, c9, h⟩ := zB h
    refine zr (zv [] 2 [1,2,7,10,15,16] [] [(1, .one (.pv (.fn 123 []))), (2, vb p2), (7, vi (Int.ofNat z1)), (10, .one (.pt 0 0 0 0)), (15, .one (.pv (.fn 123 []))), (16, vk .i32 (Int.ofNat (Utf8.decode p1 z1).1))] [.raw (.stringIter p1 (z1 + (Utf8.decode p1 z1).2))] (za (c_value_Name_1 _ _ c9) (zg [] 2 [1,2,7,10,19] (zd (hK8 _ _ (zC h (fun b10 h => ?_) (fun b10 h => ?_)))))))
    ·refine zq fun K11 hK11 => zr (zv [] 2 [6] [] [(6, vi (Int.ofNat z1))] [.raw (.stringIter p1 (z1 + (Utf8.decode p1 z1).2))] (zd (hK11 _ _ (ze (hQ1 _ _ _ ?_)))))
     obtain rfl := Option.some.inj h
     exact zf [vi (Int.ofNat z1)] (.one (.rfl _ rfl))
    ·exact zs (XR.sub (zk [1,2,10]) (ih1 (z1 + (Utf8.decode p1 z1).2) h))
   ·refine zr (XO.nxtE 0 p1 z1 [(11, .tp [vb false]), (1, .one (.pv (.fn 123 []))), (2, vb p2), (10, .one (.pt 0 0 0 0))] (by kernel_rfl) (by kernel_rfl) (by kernel_rfl) b5 (zv [] 1 [1,2,10,11,12] [] [(1, .one (.pv (.fn 123 []))), (2, vb p2), (10, .one (.pt 0 0 0 0)), (11, .tp [vb false]), (12, vb false)] [.raw (.stringIter p1 z1)] (zd (hK4 _ _ (zq fun K12 hK12 => zc false (fun hx => by cases hx) (fun _ => ?_))))))
    exact zx 0 (hQ1 _ _ _ (hJ1 () h _ _ (Sub.trans (Sub.pick (fr' := []) [] (by kernel_rfl)) (Sub.take (fr' := []) 0 (Nat.zero_le _) (by kernel_rfl) (by kernel_rfl)))))
 exact XR.sub (zk [1,2,10]) (hL1 BIG 0 h)

def strings_IndexFunc_of_value_Name_1 (p1 : ByteArray) : Option Int :=
    bnd (strings_indexFunc_of_value_Name_1 p1 true) fun r1 =>
    some r1


theorem c_strings_IndexFunc_of_value_Name_1 (p1 : ByteArray) (r : Int) (h : strings_IndexFunc_of_value_Name_1 p1 = some r) : PC Tryd.prog 130 [vs p1, .one (.pv (.fn 123 []))] (vi r) := by
 unfold strings_IndexFunc_of_value_Name_1 at h
 refine zF 8 Tryd.f130 (zq fun K1 hK1 => zr (zg [] 1 [0,1] (zd (hK1 _ _ (zq fun K2 hK2 => ?_)))))
 obtain ⟨r1, c3, h⟩ := zB h
 refine zr (zg [] 2 [5,6] (zl 133 [vs p1, .one (.pv (.fn 123 [])), vb true] (vi r1) [(7, vi r1), (5, vs p1), (6, .one (.pv (.fn 123 [])))] (c_strings_indexFunc_of_value_Name_1 _ _ _ c3) (zg [] 1 [4] (zd (hK2 _ _ (ze ?_))))))
 obtain rfl := Option.some.inj h
 exact zf [vi r1] (.one (.rfl _ rfl))

def strings_ContainsFunc_of_value_Name_1 (p1 : ByteArray) : Option Bool :=
    bnd (strings_IndexFunc_of_value_Name_1 p1) fun r1 =>
    some (decide ((0 : Int) ≤ r1))


theorem c_strings_ContainsFunc_of_value_Name_1 (p1 : ByteArray) (r : Bool) (h : strings_ContainsFunc_of_value_Name_1 p1 = some r) : PC Tryd.prog 124 [vs p1, .one (.pv (.fn 123 []))] (vb r) := by
 unfold strings_ContainsFunc_of_value_Name_1 at h
 refine zF 9 Tryd.f124 (zq fun K1 hK1 => zr (zg [] 1 [0,1] (zd (hK1 _ _ (zq fun K2 hK2 => ?_)))))
 obtain ⟨r1, c3, h⟩ := zB h
 refine zr (zg [] 2 [5,6] (zl 130 [vs p1, .one (.pv (.fn 123 []))] (vi r1) [(7, vi r1), (5, vs p1), (6, .one (.pv (.fn 123 [])))] (c_strings_IndexFunc_of_value_Name_1 _ _ c3) (zg [] 2 [4] (zd (hK2 _ _ (ze ?_))))))
 obtain rfl := Option.some.inj h
 exact zf [vb (decide ((0 : Int) ≤ r1))] (.one (.rfl _ rfl))

def value_Name_j1 (p1 : ByteArray) (x1 : Bool) : Option Bool :=
    ift x1
      (some false)
      (bnd (strings_ContainsFunc_of_value_Name_1 p1) fun r1 =>
       some (!r1))

def value_Name (p1 : ByteArray) : Option Bool :=
    ift (p1.toList == (ByteArray.mk #[]).toList)
      (value_Name_j1 p1 true)
      (ift (decide ((24 : Int) < (p1.size : Int)))
         (value_Name_j1 p1 true)
         (grd (0 ≤ (0 : Int) ∧ (0 : Int) < (p1.size : Int)) <|
          bnd (some (decide (((p1.data.toList.getD (0 : Int).toNat 0).toNat : Int) < (97 : Int)))) fun y1 =>
          ift y1
            (value_Name_j1 p1 true)
            (grd (0 ≤ (0 : Int) ∧ (0 : Int) < (p1.size : Int)) <|
             bnd (some (decide ((122 : Int) < ((p1.data.toList.getD (0 : Int).toNat 0).toNat : Int)))) fun y2 =>
             value_Name_j1 p1 y2)))


theorem c_value_Name (p1 : ByteArray) (r : Bool) (h : value_Name p1 = some r) : PC Tryd.prog 113 [vs p1] (vb r) := by
 unfold value_Name at h
 refine zF 25 Tryd.f113 (zq fun K1 hK1 => zr (zg [] 1 [0] (zd (hK1 _ _ (zq fun K2 hK2 => zq fun K3 hK3 => ?_)))))
 have hJ1 : ∀ (x1 : Bool), value_Name_j1 p1 x1 = some r → ∀ fr1 st1, Sub 25 0 [] fr1 st1 [(0, vs p1), (20, vb x1)] [] → K3 fr1 st1 := by
  intro x1 h fr1 st1 hS
  unfold value_Name_j1 at h
  refine hK3 _ _ (XW.sub hS ?_)
  refine zC h (fun b11 h => ?_) (fun b11 h => ?_)
  ·refine zq fun K12 hK12 => zr (zg [] 1 [2] (zd (hK12 _ _ (ze ?_))))
   obtain rfl := Option.some.inj h
   exact zf [vb false] (.one (.rfl _ rfl))
  ·refine zs (hK2 _ _ (zq fun K13 hK13 => zr (zg [] 1 [0,3] (zd (hK13 _ _ (zq fun K14 hK14 => ?_))))))
   obtain ⟨r1, c15, h⟩ := zB h
   refine zr (zv [] 2 [21,22] [] [(21, vs p1), (22, .one (.pv (.fn 123 [])))] [] (za (c_strings_ContainsFunc_of_value_Name_1 _ _ c15) (zg [] 2 [2] (zd (hK14 _ _ (ze ?_))))))
   obtain rfl := Option.some.inj h
   exact zf [vb (!r1)] (.one (.rfl _ rfl))
 rcases zW h with ⟨b4, h⟩ | ⟨b4, h⟩
 ·exact zr (zg [] 3 [0,6] (zt 6 b4 (zv [] 14 [0,20] [] [(0, vs p1), (20, vb true)] [] (zd (hJ1 true h _ _ (zk [0,20]))))))
 ·rcases zW h with ⟨b5, h⟩ | ⟨b5, h⟩
  ·exact zr (zg [] 3 [0,6] (zt 6 b4 (zg [] 5 [0,11] (zt 11 b5 (zv [] 9 [0,20] [] [(0, vs p1), (20, vb true)] [] (zd (hJ1 true h _ _ (zk [0,20]))))))))
  ·obtain ⟨g6, h⟩ := zG h
   obtain ⟨y1, hy7, h⟩ := zB h
   rcases zW h with ⟨b8, h⟩ | ⟨b8, h⟩
   ·refine zr (zg [] 3 [0,6] (zt 6 b4 (zg [] 5 [0,11] (zt 11 b5 (zp [] 3 [0,11,14] [] [(0, vs p1), (11, vb false), (14, vb (decide (((p1.data.toList.getD (0 : Int).toNat 0).toNat : Int) < (97 : Int))))] [] [0 ≤ (0 : Int) ∧ (0 : Int) < (p1.size : Int)] (⟨g6, trivial⟩) ?_)))))
    rw [show (decide (((p1.data.toList.getD (0 : Int).toNat 0).toNat : Int) < (97 : Int))) = y1 from Option.some.inj hy7]
    exact zg [] 2 [0,16] (zt 16 b8 (zg [] 4 [0,20] (zd (hJ1 true h _ _ (zk [0,20])))))
   ·obtain ⟨g9, h⟩ := zG h
    obtain ⟨y2, hy10, h⟩ := zB h
    refine zr (zv [] 3 [0,6] [] [(0, vs p1), (6, vb (p1.toList == (ByteArray.mk #[]).toList))] [] (zt 6 b4 (zg [] 5 [0,11] (zt 11 b5 (zp [] 3 [0,11,14] [] [(0, vs p1), (11, vb false), (14, vb (decide (((p1.data.toList.getD (0 : Int).toNat 0).toNat : Int) < (97 : Int))))] [] [0 ≤ (0 : Int) ∧ (0 : Int) < (p1.size : Int)] (⟨g6, trivial⟩) ?_)))))
    rw [show (decide (((p1.data.toList.getD (0 : Int).toNat 0).toNat : Int) < (97 : Int))) = y1 from Option.some.inj hy7]
    refine zg [] 2 [0,16] (zt 16 b8 (zp [] 3 [0,16,19] [] [(0, vs p1), (16, vb false), (19, vb (decide ((122 : Int) < ((p1.data.toList.getD (0 : Int).toNat 0).toNat : Int))))] [] [0 ≤ (0 : Int) ∧ (0 : Int) < (p1.size : Int)] (⟨g9, trivial⟩) ?_))
    rw [show (decide ((122 : Int) < ((p1.data.toList.getD (0 : Int).toNat 0).toNat : Int))) = y2 from Option.some.inj hy10]
    exact zg [] 1 [0,20] (zd (hJ1 y2 h _ _ (zk [0,20])))

def value_fields_1 (p1 : GField) : Option Bool :=
    bnd (value_Name p1.name) fun r1 =>
    some (!r1)


theorem c_value_fields_1 (p1 : GField) (r : Bool) (h : value_fields_1 p1 = some r) : PC Tryd.prog 112 [.ag [ci p1.id, cst p1.name, cb p1.need, ci p1.type.kind, ci p1.type.scale, cl eField p1.type.fields]] (vb r) := by
 unfold value_fields_1 at h
 refine zF 7 Tryd.f112 (zq fun K1 hK1 => zr (zg [] 2 [1] (zd (hK1 _ _ (zq fun K2 hK2 => ?_)))))
 obtain ⟨r1, c3, h⟩ := zB h
 refine zr (zu [] 2 [4] [[pi p1.id, .s (.string p1.name), .s (.bool p1.need), pi p1.type.kind, pi p1.type.scale, .ro (eField.els p1.type.fields)]] (zl 113 [vs p1.name] (vb r1) [(5, vb r1), (4, vs p1.name)] (c_value_Name _ _ c3) (zg [] 2 [2] (zd (hK2 _ _ (ze ?_))))))
 obtain rfl := Option.some.inj h
 exact zf [vb (!r1)] (.one (.rfl _ rfl))

def slices_IndexFunc_api_Field_api_Field_of_value_fields_1_j1 : Option Int :=
    some (-1 : Int)

def slices_IndexFunc_api_Field_api_Field_of_value_fields_1_l1 (p1 : (List GField)) : Nat → Int → Option Int
  | 0, _ => none
  | k1 + 1, x1 =>
    ift (decide (x1 < (p1.length : Int)))
      (bnd (at? p1 x1) fun e1 =>
       bnd (value_fields_1 e1) fun r1 =>
       ift r1
         (some x1)
         ((slices_IndexFunc_api_Field_api_Field_of_value_fields_1_l1 p1 k1) (IntKind.i64.wrap (x1 + (1 : Int)))))
      (slices_IndexFunc_api_Field_api_Field_of_value_fields_1_j1)

def slices_IndexFunc_api_Field_api_Field_of_value_fields_1 (p1 : (List GField)) : Option Int :=
    slices_IndexFunc_api_Field_api_Field_of_value_fields_1_l1 p1 BIG (0 : Int)

abbrev qa941 (e1 : GField) : List PV := [pi e1.id, .s (.string e1.name), .s (.bool e1.need), pi e1.type.kind, pi e1.type.scale, .ro (eField.els e1.type.fields)]

theorem c_slices_IndexFunc_api_Field_api_Field_of_value_fields_1 (p1 : (List GField)) (r : Int) (h : slices_IndexFunc_api_Field_api_Field_of_value_fields_1 p1 = some r) : PC Tryd.prog 122 [vl eField p1, .one (.pv (.fn 112 []))] (vi r) := by
 unfold slices_IndexFunc_api_Field_api_Field_of_value_fields_1 at h
 refine zF 19 Tryd.f122 (zq fun K1 hK1 => zr (zg [] 1 [0,1] (zd (hK1 _ _ (zq fun K2 hK2 => ?_)))))
 have hJ1 : ∀ (_ : Unit), slices_IndexFunc_api_Field_api_Field_of_value_fields_1_j1 = some r → ∀ fr1 st1, Sub 19 0 [] fr1 st1 [] [] → K2 fr1 st1 := by
  intro _ h fr1 st1 hS
  unfold slices_IndexFunc_api_Field_api_Field_of_value_fields_1_j1 at h
  refine hK2 _ _ (XW.sub hS ?_)
  refine zq fun K14 hK14 => zr (zg [] 1 [4] (zd (hK14 _ _ (ze ?_))))
  obtain rfl := Option.some.inj h
  exact zf [vi (-1 : Int)] (.one (.rfl _ rfl))
 refine zq fun K3 hK3 => zr (zv [] 2 [0,1,7] [] [(0, vl eField p1), (1, .one (.pv (.fn 112 []))), (7, vi ((eField.els p1).length : Int))] [] ?_)
 rw [eField.len p1]
 refine zg [] 1 [0,1,7,8] (zd (hK3 _ _ (zb 0 (XW.rounds' BIG (x := cd Tryd.f122 [1,0,1,0,0]) (by kernel_rfl) fun Q1 hQ1 => ?_))))
 have hL1 : ∀ (k1 : Nat) (x1 : Int), slices_IndexFunc_api_Field_api_Field_of_value_fields_1_l1 p1 k1 x1 = some r → XR Tryd.prog 19 0 [] (cd Tryd.f122 [1,0,1,0,0]) Q1 k1 [(0, vl eField p1), (1, .one (.pv (.fn 112 []))), (7, vi (p1.length : Int)), (8, vi x1)] [] := by
  intro k1
  induction k1 with
  | zero => intro x1 h; rw [slices_IndexFunc_api_Field_api_Field_of_value_fields_1_l1.eq_1] at h; cases h
  | succ k1 ih1 =>
   intro x1 h
   rw [slices_IndexFunc_api_Field_api_Field_of_value_fields_1_l1.eq_2] at h
   refine zq fun K4 hK4 => zr (zg [] 1 [0,1,7,8,9] (zd (hK4 _ _ (zq fun K5 hK5 => zC h (fun b6 h => ?_) (fun b6 h => ?_)))))
   ·refine zs (hK5 _ _ (zq fun K7 hK7 => zb 1 (zq fun K8 hK8 => zr (zg [] 2 [0,1,5,7,8] (zd ?_)))))
    refine hK8 _ _ (zq fun K9 hK9 => ?_)
    obtain ⟨e1, a10, h⟩ := zB h
    obtain ⟨r1, c11, h⟩ := zB h
    refine zr ?_
    refine zp [] 5 [0,1,5,7,8,11,15] [(qa941 e1)] [(0, vl eField p1), (1, .one (.pv (.fn 112 []))), (5, vi x1), (7, vi (p1.length : Int)), (8, vi x1), (11, .one (.pv (.fn 112 []))), (15, .ag [ci e1.id, cst e1.name, cb e1.need, ci e1.type.kind, ci e1.type.scale, cl eField e1.type.fields])] [] [0 ≤ x1 ∧ x1 < ((eField.els p1).length : Int) ∧ elemsOk 6 (eField.els p1), (eField.els p1)[x1.toNat]? = some (qa941 e1)] (⟨eField.inb a10, ((eField.get a10).trans (by rcases e1 with ⟨_, _, _, ⟨_, _, _⟩⟩; rfl)), trivial⟩) ?_
    refine za (c_value_fields_1 _ _ c11) (zd (hK9 _ _ (zC h (fun b12 h => ?_) (fun b12 h => ?_))))
    ·refine zq fun K13 hK13 => zr (zg [] 2 [4] (zd (hK13 _ _ (ze (hQ1 _ _ _ ?_)))))
     obtain rfl := Option.some.inj h
     exact zf [vi x1] (.one (.rfl _ rfl))
    ·exact zs (hK7 _ _ (zr (zv [] 2 [0,1,7,8] [] [(0, vl eField p1), (1, .one (.pv (.fn 112 []))), (7, vi (p1.length : Int)), (8, vi (IntKind.i64.wrap (x1 + (1 : Int))))] [] (zd (XR.sub (zk [0,1,7,8]) (ih1 (IntKind.i64.wrap (x1 + (1 : Int))) h))))))
   ·exact zx 0 (hQ1 _ _ _ (hJ1 () h _ _ (zk [])))
 exact XR.sub (zk [0,1,7,8]) (hL1 BIG (0 : Int) h)

def slices_ContainsFunc_api_Field_api_Field_of_value_fields_1 (p1 : (List GField)) : Option Bool :=
    bnd (slices_IndexFunc_api_Field_api_Field_of_value_fields_1 p1) fun r1 =>
    some (decide ((0 : Int) ≤ r1))


theorem c_slices_ContainsFunc_api_Field_api_Field_of_value_fields_1 (p1 : (List GField)) (r : Bool) (h : slices_ContainsFunc_api_Field_api_Field_of_value_fields_1 p1 = some r) : PC Tryd.prog 111 [vl eField p1, .one (.pv (.fn 112 []))] (vb r) := by
 unfold slices_ContainsFunc_api_Field_api_Field_of_value_fields_1 at h
 refine zF 9 Tryd.f111 (zq fun K1 hK1 => zr (zg [] 1 [0,1] (zd (hK1 _ _ (zq fun K2 hK2 => ?_)))))
 obtain ⟨r1, c3, h⟩ := zB h
 refine zr (zg [] 2 [5,6] (zl 122 [vl eField p1, .one (.pv (.fn 112 []))] (vi r1) [(7, vi r1), (5, vl eField p1), (6, .one (.pv (.fn 112 [])))] (c_slices_IndexFunc_api_Field_api_Field_of_value_fields_1 _ _ c3) (zg [] 2 [4] (zd (hK2 _ _ (ze ?_))))))
 obtain rfl := Option.some.inj h
 exact zf [vb (decide ((0 : Int) ≤ r1))] (.one (.rfl _ rfl))

def value_fields_2 (p1 : GField) (p2 : GField) : Option (Bool × GField) :=
    some ((p1.name.toList == p2.name.toList), p2)

abbrev qa947 (p2 : GField) : List CV := [ci p2.id, cst p2.name, cb p2.need, ci p2.type.kind, ci p2.type.scale, cl eField p2.type.fields]

theorem c_value_fields_2 (p1 : GField) (p2 : GField) (r : (Bool × GField)) (h : value_fields_2 p1 p2 = some r) : MC Tryd.prog 114 [.ag [ci p1.id, cst p1.name, cb p1.need, ci p1.type.kind, ci p1.type.scale, cl eField p1.type.fields], .one (.pt 0 0 0 0)] [.box (qa947 p2)] (vb r.1) [.box [ci r.2.id, cst r.2.name, cb r.2.need, ci r.2.type.kind, ci r.2.type.scale, cl eField r.2.type.fields]] := by
 unfold value_fields_2 at h
 refine MC.of 1 (n := 9) (fn := Tryd.f114) (c := cd Tryd.f114 []) (by kernel_rfl) (by kernel_rfl) (by kernel_rfl) (Nat.le_of_ble_eq_true rfl) rfl (zq fun K1 hK1 => zr (zg [] 2 [1,2] (zd (hK1 _ _ (zq fun K2 hK2 => zr ?_)))))
 refine zv [] 6 [3] [[pi p1.id, .s (.string p1.name), .s (.bool p1.need), pi p1.type.kind, pi p1.type.scale, .ro (eField.els p1.type.fields)]] [(3, vb (p1.name.toList == p2.name.toList))] [.box (qa947 p2)] (zd (hK2 _ _ (ze ?_)))
 obtain rfl := Option.some.inj h
 exact FinM.fin (.inr rfl) [] [vb (p1.name.toList == p2.name.toList)] [] (by kernel_rfl) trivial (by kernel_rfl) (by kernel_rfl) (.one (.rfl _ rfl))

def slices_IndexFunc_api_Field_api_Field_of_value_fields_2_j1 (z7 : Int) (z8 : ByteArray) (z9 : Bool) (z10 : Int) (z11 : Int) (z12 : List GField) : Option (Int × GField) :=
    some ((-1 : Int), (FieldP.mk z7 z8 z9 (GType.mk z10 z11 z12)))

def slices_IndexFunc_api_Field_api_Field_of_value_fields_2_l1 (p1 : (List GField)) : Nat → Int → ByteArray → Bool → Int → Int → List GField → Int → Option (Int × GField)
  | 0, _, _, _, _, _, _, _ => none
  | k1 + 1, z1, z2, z3, z4, z5, z6, x1 =>
    ift (decide (x1 < (p1.length : Int)))
      (bnd (at? p1 x1) fun e1 =>
       bnd (value_fields_2 e1 (FieldP.mk z1 z2 z3 (GType.mk z4 z5 z6))) fun r1 =>
       ift r1.1
         (some (x1, r1.2))
         ((slices_IndexFunc_api_Field_api_Field_of_value_fields_2_l1 p1 k1) r1.2.id r1.2.name r1.2.need r1.2.type.kind r1.2.type.scale r1.2.type.fields (IntKind.i64.wrap (x1 + (1 : Int)))))
      (slices_IndexFunc_api_Field_api_Field_of_value_fields_2_j1 z1 z2 z3 z4 z5 z6)

def slices_IndexFunc_api_Field_api_Field_of_value_fields_2 (p1 : (List GField)) (p2 : GField) : Option (Int × GField) :=
    slices_IndexFunc_api_Field_api_Field_of_value_fields_2_l1 p1 BIG p2.id p2.name p2.need p2.type.kind p2.type.scale p2.type.fields (0 : Int)

abbrev qa959 (e1 : GField) : List PV := [pi e1.id, .s (.string e1.name), .s (.bool e1.need), pi e1.type.kind, pi e1.type.scale, .ro (eField.els e1.type.fields)]
abbrev qa960 (e1 : GField) : List CV := [ci e1.id, cst e1.name, cb e1.need, ci e1.type.kind, ci e1.type.scale, cl eField e1.type.fields]
abbrev qa961 (r1 : (Bool × GField)) : List CV := [ci r1.2.id, cst r1.2.name, cb r1.2.need, ci r1.2.type.kind, ci r1.2.type.scale, cl eField r1.2.type.fields]

theorem c_slices_IndexFunc_api_Field_api_Field_of_value_fields_2 (p1 : (List GField)) (p2 : GField) (r : (Int × GField)) (h : slices_IndexFunc_api_Field_api_Field_of_value_fields_2 p1 p2 = some r) : MC Tryd.prog 122 [vl eField p1, .one (.fn 114 [.pt 0 0 0 0])] [.box [ci p2.id, cst p2.name, cb p2.need, ci p2.type.kind, ci p2.type.scale, cl eField p2.type.fields]] (vi r.1) [.box [ci r.2.id, cst r.2.name, cb r.2.need, ci r.2.type.kind, ci r.2.type.scale, cl eField r.2.type.fields]] := by
 unfold slices_IndexFunc_api_Field_api_Field_of_value_fields_2 at h
 refine MC.of 1 (n := 19) (fn := Tryd.f122) (c := cd Tryd.f122 []) (by kernel_rfl) (by kernel_rfl) (by kernel_rfl) (Nat.le_of_ble_eq_true rfl) rfl (zq fun K1 hK1 => zr (zg [] 1 [0,1] (zd (hK1 _ _ (zq fun K2 hK2 => ?_)))))
 have hJ1 : ∀ (z7 : Int) (z8 : ByteArray) (z9 : Bool) (z10 : Int) (z11 : Int) (z12 : List GField), slices_IndexFunc_api_Field_api_Field_of_value_fields_2_j1 z7 z8 z9 z10 z11 z12 = some r → ∀ fr1 st1, Sub 19 1 [] fr1 st1 [] [.box [ci z7, cst z8, cb z9, ci z10, ci z11, cl eField z12]] → K2 fr1 st1 := by
  intro z7 z8 z9 z10 z11 z12 h fr1 st1 hS
  unfold slices_IndexFunc_api_Field_api_Field_of_value_fields_2_j1 at h
  refine hK2 _ _ (XW.sub hS ?_)
  refine zq fun K14 hK14 => zr (zv [] 1 [4] [] [(4, vi (-1 : Int))] [.box [ci z7, cst z8, cb z9, ci z10, ci z11, cl eField z12]] (zd (hK14 _ _ (ze ?_))))
  obtain rfl := Option.some.inj h
  exact FinM.fin (.inr rfl) [] [vi (-1 : Int)] [] (by kernel_rfl) trivial (by kernel_rfl) (by kernel_rfl) (.one (.rfl _ rfl))
 refine zq fun K3 hK3 => zr (zv [] 2 [0,1,7] [] [(0, vl eField p1), (1, .one (.fn 114 [.pt 0 0 0 0])), (7, vi ((eField.els p1).length : Int))] [.box [ci p2.id, cst p2.name, cb p2.need, ci p2.type.kind, ci p2.type.scale, cl eField p2.type.fields]] ?_)
 rw [eField.len p1]
 refine zg [] 1 [0,1,7,8] (zd (hK3 _ _ (zb 0 (XW.rounds' BIG (x := cd Tryd.f122 [1,0,1,0,0]) (by kernel_rfl) fun Q1 hQ1 => ?_))))
 have hL1 : ∀ (k1 : Nat) (z1 : Int) (z2 : ByteArray) (z3 : Bool) (z4 : Int) (z5 : Int) (z6 : List GField) (x1 : Int), slices_IndexFunc_api_Field_api_Field_of_value_fields_2_l1 p1 k1 z1 z2 z3 z4 z5 z6 x1 = some r → XR Tryd.prog 19 1 [] (cd Tryd.f122 [1,0,1,0,0]) Q1 k1 [(0, vl eField p1), (1, .one (.fn 114 [.pt 0 0 0 0])), (7, vi (p1.length : Int)), (8, vi x1)] [.box [ci z1, cst z2, cb z3, ci z4, ci z5, cl eField z6]] := by
  intro k1
  induction k1 with
  | zero => intro z1 z2 z3 z4 z5 z6 x1 h; rw [slices_IndexFunc_api_Field_api_Field_of_value_fields_2_l1.eq_1] at h; cases h
  | succ k1 ih1 =>
   intro z1 z2 z3 z4 z5 z6 x1 h
   rw [slices_IndexFunc_api_Field_api_Field_of_value_fields_2_l1.eq_2] at h
   refine zq fun K4 hK4 => zr (zg [] 1 [0,1,7,8,9] (zd (hK4 _ _ (zq fun K5 hK5 => zC h (fun b6 h => ?_) (fun b6 h => ?_)))))
   ·refine zs (hK5 _ _ (zq fun K7 hK7 => zb 1 (zq fun K8 hK8 => zr (zg [] 2 [0,1,5,7,8] (zd ?_)))))
    refine hK8 _ _ (zq fun K9 hK9 => ?_)
    obtain ⟨e1, a10, h⟩ := zB h
    obtain ⟨r1, c11, h⟩ := zB h
    refine zr ?_
    refine zp [] 5 [0,1,5,7,8,11,15] [(qa959 e1)] [(0, vl eField p1), (1, .one (.fn 114 [.pt 0 0 0 0])), (5, vi x1), (7, vi (p1.length : Int)), (8, vi x1), (11, .one (.fn 114 [.pt 0 0 0 0])), (15, .ag (qa960 e1))] [.box [ci z1, cst z2, cb z3, ci z4, ci z5, cl eField z6]] [0 ≤ x1 ∧ x1 < ((eField.els p1).length : Int) ∧ elemsOk 6 (eField.els p1), (eField.els p1)[x1.toNat]? = some (qa959 e1)] (⟨eField.inb a10, ((eField.get a10).trans (by rcases e1 with ⟨_, _, _, ⟨_, _, _⟩⟩; rfl)), trivial⟩) ?_
    refine XO.calm 114 [.ag (qa960 e1), .one (.pt 0 0 0 0)] [.box [ci z1, cst z2, cb z3, ci z4, ci z5, cl eField z6]] [.box (qa961 r1)] (vb r1.1) [0] [(16, vb r1.1), (0, vl eField p1), (1, .one (.fn 114 [.pt 0 0 0 0])), (5, vi x1), (7, vi (p1.length : Int)), (8, vi x1), (11, .one (.fn 114 [.pt 0 0 0 0])), (15, .ag (qa960 e1))] [.box (qa961 r1)] (by kernel_rfl) (c_value_fields_2 _ _ _ c11) (by kernel_rfl) (by kernel_rfl) (by kernel_rfl) (by kernel_rfl) ?_
    refine zd (hK9 _ _ (zC h (fun b12 h => ?_) (fun b12 h => ?_)))
    ·refine zq fun K13 hK13 => zr (zv [] 2 [4] [] [(4, vi x1)] [.box (qa961 r1)] (zd (hK13 _ _ (ze (hQ1 _ _ _ ?_)))))
     obtain rfl := Option.some.inj h
     exact FinM.fin (.inr rfl) [] [vi x1] [] (by kernel_rfl) trivial (by kernel_rfl) (by kernel_rfl) (.one (.rfl _ rfl))
    ·exact zs (hK7 _ _ (zr (zg [] 2 [0,1,7,8] (zd (XR.sub (zk [0,1,7,8]) (ih1 r1.2.id r1.2.name r1.2.need r1.2.type.kind r1.2.type.scale r1.2.type.fields (IntKind.i64.wrap (x1 + (1 : Int))) h))))))
   ·exact zx 0 (hQ1 _ _ _ (hJ1 z1 z2 z3 z4 z5 z6 h _ _ (zk [])))
 exact XR.sub (zk [0,1,7,8]) (hL1 BIG p2.id p2.name p2.need p2.type.kind p2.type.scale p2.type.fields (0 : Int) h)

def slices_ContainsFunc_api_Field_api_Field_of_value_fields_2 (p1 : (List GField)) (p2 : GField) : Option (Bool × GField) :=
    bnd (slices_IndexFunc_api_Field_api_Field_of_value_fields_2 p1 p2) fun r1 =>
    some ((decide ((0 : Int) ≤ r1.1)), r1.2)

abbrev qa970 (p2 : GField) : List CV := [ci p2.id, cst p2.name, cb p2.need, ci p2.type.kind, ci p2.type.scale, cl eField p2.type.fields]
abbrev qa973 (r1 : (Int × GField)) : List CV := [ci r1.2.id, cst r1.2.name, cb r1.2.need, ci r1.2.type.kind, ci r1.2.type.scale, cl eField r1.2.type.fields]

theorem c_slices_ContainsFunc_api_Field_api_Field_of_value_fields_2 (p1 : (List GField)) (p2 : GField) (r : (Bool × GField)) (h : slices_ContainsFunc_api_Field_api_Field_of_value_fields_2 p1 p2 = some r) : MC Tryd.prog 111 [vl eField p1, .one (.fn 114 [.pt 0 0 0 0])] [.box (qa970 p2)] (vb r.1) [.box [ci r.2.id, cst r.2.name, cb r.2.need, ci r.2.type.kind, ci r.2.type.scale, cl eField r.2.type.fields]] := by
 unfold slices_ContainsFunc_api_Field_api_Field_of_value_fields_2 at h
 refine MC.of 1 (n := 9) (fn := Tryd.f111) (c := cd Tryd.f111 []) (by kernel_rfl) (by kernel_rfl) (by kernel_rfl) (Nat.le_of_ble_eq_true rfl) rfl (zq fun K1 hK1 => zr (zg [] 1 [0,1] (zd (hK1 _ _ (zq fun K2 hK2 => ?_)))))
 obtain ⟨r1, c3, h⟩ := zB h
 refine zr (zv [] 2 [5,6] [] [(5, vl eField p1), (6, .one (.fn 114 [.pt 0 0 0 0]))] [.box (qa970 p2)] ?_)
 refine XO.calm 122 [vl eField p1, .one (.fn 114 [.pt 0 0 0 0])] [.box (qa970 p2)] [.box (qa973 r1)] (vi r1.1) [0] [(7, vi r1.1), (5, vl eField p1), (6, .one (.fn 114 [.pt 0 0 0 0]))] [.box (qa973 r1)] (by kernel_rfl) (c_slices_IndexFunc_api_Field_api_Field_of_value_fields_2 _ _ _ c3) (by kernel_rfl) (by kernel_rfl) (by kernel_rfl) (by kernel_rfl) ?_
 refine zv [] 2 [4] [] [(4, vb (decide ((0 : Int) ≤ r1.1)))] [.box (qa973 r1)] (zd (hK2 _ _ (ze ?_)))
 obtain rfl := Option.some.inj h
 exact FinM.fin (.inr rfl) [] [vb (decide ((0 : Int) ≤ r1.1))] [] (by kernel_rfl) trivial (by kernel_rfl) (by kernel_rfl) (.one (.rfl _ rfl))

def value_fields_j1 (x1 : Bool) : Option Int :=
    ift x1
      (some (1 : Int))
      (some (0 : Int))

def value_fields_j2 : Option Int :=
    some (0 : Int)

def value_fields_l1 (p1 : GType) : Nat → Int → Option Int
  | 0, _ => none
  | k1 + 1, x2 =>
    ift (decide (x2 < (p1.fields.length : Int)))
      (bnd (at? p1.fields x2) fun e2 =>
       grd (0 ≤ (0 : Int) ∧ (0 : Int) ≤ x2 ∧ x2 ≤ (p1.fields.length : Int)) <|
       bnd (slices_ContainsFunc_api_Field_api_Field_of_value_fields_2 ((p1.fields.drop (0 : Int).toNat).take (x2.toNat - (0 : Int).toNat)) e2) fun r2 =>
       ift r2.1
         (some (5 : Int))
         ((value_fields_l1 p1 k1) (IntKind.i64.wrap (x2 + (1 : Int)))))
      (value_fields_j2)

def value_fields (p1 : GType) : Option Int :=
    ift (p1.kind == (6 : Int))
      (ift ((p1.fields.length : Int) != (1 : Int))
         (value_fields_j1 true)
         (bnd (at? p1.fields (0 : Int)) fun e1 =>
          value_fields_j1 (!(e1.name.toList == (ByteArray.mk #[]).toList))))
      (ift (p1.kind != (7 : Int))
         (ift (decide ((0 : Int) < (p1.fields.length : Int)))
            (some (1 : Int))
            (some (0 : Int)))
         (ift ((p1.fields.length : Int) == (0 : Int))
            (some (1 : Int))
            (bnd (slices_ContainsFunc_api_Field_api_Field_of_value_fields_1 p1.fields) fun r1 =>
             ift r1
               (some (4 : Int))
               (value_fields_l1 p1 BIG (0 : Int)))))

abbrev qa980 (p1 : GType) : List PV := [pi p1.kind, pi p1.scale, .ro (eField.els p1.fields)]
abbrev qa982 (e1 : GField) : List PV := [pi e1.id, .s (.string e1.name), .s (.bool e1.need), pi e1.type.kind, pi e1.type.scale, .ro (eField.els e1.type.fields)]
abbrev qa984 (e2 : GField) : List PV := [pi e2.id, .s (.string e2.name), .s (.bool e2.need), pi e2.type.kind, pi e2.type.scale, .ro (eField.els e2.type.fields)]
abbrev qa985 (e2 : GField) : List CV := [ci e2.id, cst e2.name, cb e2.need, ci e2.type.kind, ci e2.type.scale, cl eField e2.type.fields]
abbrev qa986 (r2 : (Bool × GField)) : List CV := [ci r2.2.id, cst r2.2.name, cb r2.2.need, ci r2.2.type.kind, ci r2.2.type.scale, cl eField r2.2.type.fields]
abbrev qa994 (p1 : GType) (x2 : Int) : Fr := [(1, .one (.pv (.rp [(qa980 p1)] 0 0))), (38, vl eField p1.fields), (39, vi (p1.fields.length : Int)), (40, vi (IntKind.i64.wrap (x2 + (1 : Int))))]

theorem c_value_fields (p1 : GType) (r : Int) (h : value_fields p1 = some r) : PC Tryd.prog 98 [.ag [ci p1.kind, ci p1.scale, cl eField p1.fields]] (vi r) := by
 unfold value_fields at h
 refine zF 52 Tryd.f98 (zq fun K1 hK1 => zr (zg [4] 2 [1] (zd (hK1 _ _ (zq fun K2 hK2 => zb 0 ?_)))))
 refine zq fun K3 hK3 => zr (zu [4] 4 [1,5] [(qa980 p1)] (zd (hK3 _ _ (zC h (fun b4 h => ?_) (fun b4 h => ?_)))))
 ·refine zq fun K5 hK5 => zq fun K6 hK6 => ?_
  have hJ1 : ∀ (x1 : Bool), value_fields_j1 x1 = some r → ∀ fr1 st1, Sub 52 0 [] fr1 st1 [(20, vb x1)] [] → K6 fr1 st1 := by
   intro x1 h fr1 st1 hS
   unfold value_fields_j1 at h
   refine hK6 _ _ (XW.sub hS ?_)
   refine zC h (fun b9 h => ?_) (fun b9 h => ?_)
   ·refine zq fun K10 hK10 => zr (zg [4] 1 [2] (zd (hK10 _ _ (ze ?_))))
    obtain rfl := Option.some.inj h
    exact zf [vi (1 : Int)] (.one (.rfl _ rfl))
   ·refine zs (hK5 _ _ (zq fun K11 hK11 => zr (zg [4] 1 [2] (zd (hK11 _ _ (ze ?_))))))
    obtain rfl := Option.some.inj h
    exact zf [vi (0 : Int)] (.one (.rfl _ rfl))
  rcases zW h with ⟨b7, h⟩ | ⟨b7, h⟩
  ·refine zr (zv [4] 3 [1,11] [[pi p1.kind, pi p1.scale, .ro (eField.els p1.fields)]] [(1, .one (.pv (.rp [[pi p1.kind, pi p1.scale, .ro (eField.els p1.fields)]] 0 0))), (11, vi ((eField.els p1.fields).length : Int))] [] ?_)
   rw [eField.len p1.fields]
   exact zg [4] 2 [1,13] (zt 13 b7 (zg [4] 7 [20] (zd (hJ1 true h _ _ (zk [20])))))
  ·obtain ⟨e1, a8, h⟩ := zB h
   refine zr (zv [4] 3 [1,11] [[pi p1.kind, pi p1.scale, .ro (eField.els p1.fields)]] [(1, .one (.pv (.rp [[pi p1.kind, pi p1.scale, .ro (eField.els p1.fields)]] 0 0))), (11, vi ((eField.els p1.fields).length : Int))] [] ?_)
   rw [eField.len p1.fields]
   refine zg [4] 2 [1,13] (zt 13 b7 ?_)
   refine zo [4] 7 [20] [(qa980 p1), (qa982 e1)] [([(qa980 p1)] : List (List PV))[0]? = some (qa980 p1), 0 ≤ (0 : Int) ∧ (0 : Int) < ((eField.els p1.fields).length : Int) ∧ elemsOk 6 (eField.els p1.fields), (eField.els p1.fields)[(0 : Int).toNat]? = some (qa982 e1)] (⟨rfl, eField.inb a8, ((eField.get a8).trans (by rcases e1 with ⟨_, _, _, ⟨_, _, _⟩⟩; rfl)), trivial⟩) ?_
   exact zd (hJ1 (!(e1.name.toList == (ByteArray.mk #[]).toList)) h _ _ (zk [20]))
 ·refine zq fun K12 hK12 => zr (zv [4] 4 [1,21] [(qa980 p1)] [(1, .one (.pv (.rp [(qa980 p1)] 0 0))), (21, vb (p1.kind != (7 : Int)))] [] (zd (hK12 _ _ (zC h (fun b13 h => ?_) (fun b13 h => ?_)))))
  ·refine zq fun K14 hK14 => zq fun K15 hK15 => zr (zv [4] 3 [27] [[pi p1.kind, pi p1.scale, .ro (eField.els p1.fields)]] [(27, vi ((eField.els p1.fields).length : Int))] [] ?_)
   rw [eField.len p1.fields]
   refine zg [4] 1 [28] (zd (hK15 _ _ (zC h (fun b16 h => ?_) (fun b16 h => ?_))))
   ·refine zq fun K17 hK17 => zr (zg [4] 1 [2] (zd (hK17 _ _ (ze ?_))))
    obtain rfl := Option.some.inj h
    exact zf [vi (1 : Int)] (.one (.rfl _ rfl))
   ·refine zs (hK14 _ _ (zq fun K18 hK18 => zr (zv [4] 1 [2] [] [(2, vi (0 : Int))] [] (zd (hK18 _ _ (ze ?_))))))
    obtain rfl := Option.some.inj h
    exact zf [vi (0 : Int)] (.one (.rfl _ rfl))
  ·refine zq fun K19 hK19 => zr (zv [4] 3 [1,32] [[pi p1.kind, pi p1.scale, .ro (eField.els p1.fields)]] [(1, .one (.pv (.rp [[pi p1.kind, pi p1.scale, .ro (eField.els p1.fields)]] 0 0))), (32, vi ((eField.els p1.fields).length : Int))] [] ?_)
   rw [eField.len p1.fields]
   refine zg [4] 2 [1,29] (zd (hK19 _ _ (zC h (fun b20 h => ?_) (fun b20 h => ?_))))
   ·refine zq fun K21 hK21 => zr (zg [4] 1 [2] (zd (hK21 _ _ (ze ?_))))
    obtain rfl := Option.some.inj h
    exact zf [vi (1 : Int)] (.one (.rfl _ rfl))
   ·refine zs (hK2 _ _ (zq fun K22 hK22 => zq fun K23 hK23 => ?_))
    obtain ⟨r1, c24, h⟩ := zB h
    refine zr (zv [4] 2 [1,35] [(qa980 p1)] [(1, .one (.pv (.rp [(qa980 p1)] 0 0))), (35, vl eField p1.fields)] [] (za (c_slices_ContainsFunc_api_Field_api_Field_of_value_fields_1 _ _ c24) (zd (hK23 _ _ (zC h (fun b25 h => ?_) (fun b25 h => ?_))))))
    ·refine zq fun K26 hK26 => zr (zg [4] 1 [2] (zd (hK26 _ _ (ze ?_))))
     obtain rfl := Option.some.inj h
     exact zf [vi (4 : Int)] (.one (.rfl _ rfl))
    ·refine zs (hK22 _ _ (zq fun K27 hK27 => ?_))
     have hJ2 : ∀ (_ : Unit), value_fields_j2 = some r → ∀ fr1 st1, Sub 52 0 [] fr1 st1 [] [] → K27 fr1 st1 := by
      intro _ h fr1 st1 hS
      unfold value_fields_j2 at h
      refine hK27 _ _ (XW.sub hS ?_)
      refine zq fun K40 hK40 => zr (zg [4] 1 [2] (zd (hK40 _ _ (ze ?_))))
      obtain rfl := Option.some.inj h
      exact zf [vi (0 : Int)] (.one (.rfl _ rfl))
     refine zq fun K28 hK28 => zr (zv [4] 3 [1,38,39] [[pi p1.kind, pi p1.scale, .ro (eField.els p1.fields)]] [(1, .one (.pv (.rp [[pi p1.kind, pi p1.scale, .ro (eField.els p1.fields)]] 0 0))), (38, vl eField p1.fields), (39, vi ((eField.els p1.fields).length : Int))] [] ?_)
     rw [eField.len p1.fields]
     refine zg [4] 1 [1,38,39,40] (zd (hK28 _ _ (zb 1 (XW.rounds' BIG (x := cd Tryd.f98 [1,1,1,0,1,0,0]) (by kernel_rfl) fun Q1 hQ1 => ?_))))
     have hL1 : ∀ (k1 : Nat) (x2 : Int), value_fields_l1 p1 k1 x2 = some r → XR Tryd.prog 52 0 [] (cd Tryd.f98 [1,1,1,0,1,0,0]) Q1 k1 [(1, .one (.pv (.rp [(qa980 p1)] 0 0))), (38, vl eField p1.fields), (39, vi (p1.fields.length : Int)), (40, vi x2)] [] := by
      intro k1
      induction k1 with
      | zero => intro x2 h; rw [value_fields_l1.eq_1] at h; cases h
      | succ k1 ih1 =>
       intro x2 h
       rw [value_fields_l1.eq_2] at h
       refine zq fun K29 hK29 => zr (zg [4] 1 [1,38,39,40,41] (zd (hK29 _ _ (zq fun K30 hK30 => zC h (fun b31 h => ?_) (fun b31 h => ?_)))))
       ·refine zs (hK30 _ _ (zq fun K32 hK32 => zb 2 (zq fun K33 hK33 => ?_)))
        obtain ⟨e2, a34, h⟩ := zB h
        refine zr (zo [4] 6 [1,3,4,38,39,40] [(qa984 e2)] [0 ≤ x2 ∧ x2 < ((eField.els p1.fields).length : Int) ∧ elemsOk 6 (eField.els p1.fields), (eField.els p1.fields)[x2.toNat]? = some (qa984 e2)] (⟨eField.inb a34, ((eField.get a34).trans (by rcases e2 with ⟨_, _, _, ⟨_, _, _⟩⟩; rfl)), trivial⟩) (zd (hK33 _ _ (zq fun K35 hK35 => ?_))))
        obtain ⟨g36, h⟩ := zG h
        obtain ⟨r2, c37, h⟩ := zB h
        refine zr ?_
        refine zp [4] 4 [1,4,38,39,40,48] [[pi p1.kind, pi p1.scale, .ro (eField.els p1.fields)]] [(1, .one (.pv (.rp [[pi p1.kind, pi p1.scale, .ro (eField.els p1.fields)]] 0 0))), (4, .one (.pt 0 0 0 0)), (38, vl eField p1.fields), (39, vi (p1.fields.length : Int)), (40, vi x2), (48, .one (.pv (.ro (((eField.els p1.fields).drop (0 : Int).toNat).take (x2.toNat - (0 : Int).toNat)))))] [.box [ci e2.id, cst e2.name, cb e2.need, ci e2.type.kind, ci e2.type.scale, cl eField e2.type.fields]] [([[pi p1.kind, pi p1.scale, .ro (eField.els p1.fields)]] : List (List PV))[0]? = some [pi p1.kind, pi p1.scale, .ro (eField.els p1.fields)], (0 ≤ (0 : Int) ∧ (0 : Int) ≤ x2 ∧ x2 ≤ ((eField.els p1.fields).length : Int)) ∧ elemsOk 6 (eField.els p1.fields)] (⟨rfl, eField.cutOk g36, trivial⟩) ?_
        rw [show ((eField.els p1.fields).drop (0 : Int).toNat).take (x2.toNat - (0 : Int).toNat) = eField.els ((p1.fields.drop (0 : Int).toNat).take (x2.toNat - (0 : Int).toNat)) from eField.cut _ _ _]
        refine zv [4] 1 [1,38,39,40,48,49] [] [(1, .one (.pv (.rp [(qa980 p1)] 0 0))), (38, vl eField p1.fields), (39, vi (p1.fields.length : Int)), (40, vi x2), (48, vl eField ((p1.fields.drop (0 : Int).toNat).take (x2.toNat - (0 : Int).toNat))), (49, .one (.fn 114 [.pt 0 0 0 0]))] [.box (qa985 e2)] ?_
        refine XO.calm 111 [vl eField ((p1.fields.drop (0 : Int).toNat).take (x2.toNat - (0 : Int).toNat)), .one (.fn 114 [.pt 0 0 0 0])] [.box (qa985 e2)] [.box (qa986 r2)] (vb r2.1) [0] [(50, vb r2.1), (1, .one (.pv (.rp [(qa980 p1)] 0 0))), (38, vl eField p1.fields), (39, vi (p1.fields.length : Int)), (40, vi x2), (48, vl eField ((p1.fields.drop (0 : Int).toNat).take (x2.toNat - (0 : Int).toNat))), (49, .one (.fn 114 [.pt 0 0 0 0]))] [.box (qa986 r2)] (by kernel_rfl) (c_slices_ContainsFunc_api_Field_api_Field_of_value_fields_2 _ _ _ c37) (by kernel_rfl) (by kernel_rfl) (by kernel_rfl) (by kernel_rfl) ?_
        refine zd (hK35 _ _ (zC h (fun b38 h => ?_) (fun b38 h => ?_)))
        ·refine zq fun K39 hK39 => zr (zg [4] 1 [2] (zd (hK39 _ _ (ze (hQ1 _ _ _ ?_)))))
         obtain rfl := Option.some.inj h
         exact zf [vi (5 : Int)] (.one (.rfl _ rfl))
        ·refine zs (hK32 _ _ (zr (zg [4] 2 [1,38,39,40] (zd ?_))))
         exact XR.sub (Sub.trans (Sub.pick (fr' := (qa994 p1 x2)) [1,38,39,40] (by kernel_rfl)) (Sub.take (fr' := (qa994 p1 x2)) 0 (Nat.zero_le _) (by kernel_rfl) (by kernel_rfl))) (ih1 (IntKind.i64.wrap (x2 + (1 : Int))) h)
       ·exact zx 1 (hQ1 _ _ _ (hJ2 () h _ _ (zk [])))
     exact XR.sub (zk [1,38,39,40]) (hL1 BIG (0 : Int) h)

def value_checker_check_j5 (z3 : Int) : Option (Int × GChecker) :=
    some ((0 : Int), (GChecker.mk z3))

def value_checker_check_l1 (q_value_checker_check : GType → Int → GChecker → Option (Int × GChecker)) (p1 : GType) (p2 : Int) : Nat → Int → Int → Option (Int × GChecker)
  | 0, _, _ => none
  | k1 + 1, z2, x4 =>
    ift (decide (x4 < (p1.fields.length : Int)))
      (bnd (at? p1.fields x4) fun e1 =>
       bnd (q_value_checker_check e1.type (IntKind.i64.wrap (p2 + (1 : Int))) (GChecker.mk z2)) fun r4 =>
       ift (r4.1 != (0 : Int))
         (some (r4.1, r4.2))
         ((value_checker_check_l1 q_value_checker_check p1 p2 k1) r4.2.leaves (IntKind.i64.wrap (x4 + (1 : Int)))))
      (value_checker_check_j5 z2)

def value_checker_check_j4 (q_value_checker_check : GType → Int → GChecker → Option (Int × GChecker)) (p1 : GType) (p2 : Int) (z1 : Int) (x3 : Bool) : Option (Int × GChecker) :=
    ift x3
      (some ((1 : Int), (GChecker.mk z1)))
      (bnd (value_fields p1) fun r3 =>
       ift (r3 != (0 : Int))
         (some (r3, (GChecker.mk z1)))
         (value_checker_check_l1 q_value_checker_check p1 p2 BIG z1 (0 : Int)))

def value_checker_check_j3 (q_value_checker_check : GType → Int → GChecker → Option (Int × GChecker)) (p1 : GType) (p2 : Int) (z1 : Int) (x2 : Bool) : Option (Int × GChecker) :=
    ift x2
      (some ((3 : Int), (GChecker.mk z1)))
      (ift (p1.scale != (0 : Int))
         (ift (p1.kind != (3 : Int))
            (value_checker_check_j4 q_value_checker_check p1 p2 z1 true)
            (ift (decide (p1.scale < (0 : Int)))
               (value_checker_check_j4 q_value_checker_check p1 p2 z1 true)
               (value_checker_check_j4 q_value_checker_check p1 p2 z1 (decide ((12 : Int) < p1.scale)))))
         (value_checker_check_j4 q_value_checker_check p1 p2 z1 false))

def value_checker_check_j2 (q_value_checker_check : GType → Int → GChecker → Option (Int × GChecker)) (p1 : GType) (p2 : Int) (z1 : Int) : Option (Int × GChecker) :=
    ift (decide (p1.kind < (1 : Int)))
      (value_checker_check_j3 q_value_checker_check p1 p2 z1 true)
      (value_checker_check_j3 q_value_checker_check p1 p2 z1 (decide ((7 : Int) < p1.kind)))

def value_checker_check_j1 (q_value_checker_check : GType → Int → GChecker → Option (Int × GChecker)) (p1 : GType) (p2 : Int) (p3 : GChecker) (x1 : Bool) : Option (Int × GChecker) :=
    ift x1
      (some ((7 : Int), p3))
      (bnd (value_leaf p1) fun r2 =>
       ift r2
         (value_checker_check_j2 q_value_checker_check p1 p2 (IntKind.i64.wrap (p3.leaves + (1 : Int))))
         (value_checker_check_j2 q_value_checker_check p1 p2 p3.leaves))

def value_checker_check : Nat → GType → Int → GChecker → Option (Int × GChecker)
  | 0, _, _, _ => none
  | k0 + 1, p1, p2, p3 =>
    ift (decide ((4 : Int) < p2))
      (value_checker_check_j1 (value_checker_check k0) p1 p2 p3 true)
      (bnd (value_leaf p1) fun r1 =>
       ift r1
         (value_checker_check_j1 (value_checker_check k0) p1 p2 p3 (p3.leaves == (40 : Int)))
         (value_checker_check_j1 (value_checker_check k0) p1 p2 p3 false))

abbrev qa995 (p1 : GType) : List CV := [ci p1.kind, ci p1.scale, cl eField p1.fields]
abbrev qa998 (p1 : GType) : List PV := [pi p1.kind, pi p1.scale, .ro (eField.els p1.fields)]
abbrev qa1008 (e1 : GField) : List PV := [pi e1.id, .s (.string e1.name), .s (.bool e1.need), pi e1.type.kind, pi e1.type.scale, .ro (eField.els e1.type.fields)]
abbrev qa1009 (e1 : GField) : List CV := [ci e1.type.kind, ci e1.type.scale, cl eField e1.type.fields]
abbrev qa1010 (e1 : GField) : List CV := [ci e1.id, cst e1.name, cb e1.need, ci e1.type.kind, ci e1.type.scale, cl eField e1.type.fields]
abbrev qa1013 (p1 : GType) (p2 : Int) (x4 : Int) : Fr := [(0, .one (.pt 0 0 0 0)), (2, vi p2), (67, vl eField p1.fields), (68, vi (p1.fields.length : Int)), (69, vi (IntKind.i64.wrap (x4 + (1 : Int))))]

theorem c_value_checker_check : ∀ (k0 : Nat) (p1 : GType) (p2 : Int) (p3 : GChecker) (r : (Int × GChecker)), value_checker_check k0 p1 p2 p3 = some r → MC Tryd.prog 72 [.one (.pt 0 0 0 0), .ag (qa995 p1), vi p2] [.box [ci p3.leaves]] (vi r.1) [.box [ci r.2.leaves]]
 | 0, _, _, _, r, h => by rw [value_checker_check.eq_1] at h; cases h
 | k0 + 1, p1, p2, p3, r, h => by
  rw [value_checker_check.eq_2] at h
  refine MC.of 1 (n := 83) (fn := Tryd.f72) (c := cd Tryd.f72 []) (by kernel_rfl) (by kernel_rfl) (by kernel_rfl) (Nat.le_of_ble_eq_true rfl) rfl (zq fun K1 hK1 => zr (zg [9] 2 [0,2,4] (zd (hK1 _ _ (zq fun K2 hK2 => zq fun K3 hK3 => ?_)))))
  have hJ1 : ∀ (x1 : Bool), value_checker_check_j1 (value_checker_check k0) p1 p2 p3 x1 = some r → ∀ fr1 st1, Sub 83 1 [] fr1 st1 [(0, .one (.pt 0 0 0 0)), (2, vi p2), (4, .one (.pv (.rp [(qa998 p1)] 0 0))), (23, vb x1)] [.box [ci p3.leaves]] → K3 fr1 st1 := by
   intro x1 h fr1 st1 hS
   unfold value_checker_check_j1 at h
   refine hK3 _ _ (XW.sub hS ?_)
   refine zC h (fun b7 h => ?_) (fun b7 h => ?_)
   ·refine zq fun K8 hK8 => zr (zv [9] 1 [6] [] [(6, vi (7 : Int))] [.box [ci p3.leaves]] (zd (hK8 _ _ (ze ?_))))
    obtain rfl := Option.some.inj h
    exact FinM.fin (.inr rfl) [] [vi (7 : Int)] [] (by kernel_rfl) trivial (by kernel_rfl) (by kernel_rfl) (.one (.rfl _ rfl))
   ·refine zs (hK2 _ _ (zq fun K9 hK9 => ?_))
    have hJ2 : ∀ (z1 : Int), value_checker_check_j2 (value_checker_check k0) p1 p2 z1 = some r → ∀ fr1 st1, Sub 83 1 [] fr1 st1 [(0, .one (.pt 0 0 0 0)), (2, vi p2), (4, .one (.pv (.rp [(qa998 p1)] 0 0)))] [.box [ci z1]] → K9 fr1 st1 := by
     intro z1 h fr1 st1 hS
     unfold value_checker_check_j2 at h
     refine hK9 _ _ (XW.sub hS ?_)
     refine zq fun K13 hK13 => zb 0 (zq fun K14 hK14 => ?_)
     have hJ3 : ∀ (x2 : Bool), value_checker_check_j3 (value_checker_check k0) p1 p2 z1 x2 = some r → ∀ fr1 st1, Sub 83 1 [] fr1 st1 [(0, .one (.pt 0 0 0 0)), (2, vi p2), (4, .one (.pv (.rp [(qa998 p1)] 0 0))), (33, vb x2)] [.box [ci z1]] → K14 fr1 st1 := by
      intro x2 h fr1 st1 hS
      unfold value_checker_check_j3 at h
      refine hK14 _ _ (XW.sub hS ?_)
      refine zC h (fun b16 h => ?_) (fun b16 h => ?_)
      ·refine zq fun K17 hK17 => zr (zv [9] 1 [6] [] [(6, vi (3 : Int))] [.box [ci z1]] (zd (hK17 _ _ (ze ?_))))
       obtain rfl := Option.some.inj h
       exact FinM.fin (.inr rfl) [] [vi (3 : Int)] [] (by kernel_rfl) trivial (by kernel_rfl) (by kernel_rfl) (.one (.rfl _ rfl))
      ·refine zq fun K18 hK18 => ?_
       have hJ4 : ∀ (x3 : Bool), value_checker_check_j4 (value_checker_check k0) p1 p2 z1 x3 = some r → ∀ fr1 st1, Sub 83 1 [] fr1 st1 [(0, .one (.pt 0 0 0 0)), (2, vi p2), (4, .one (.pv (.rp [(qa998 p1)] 0 0))), (42, vb x3)] [.box [ci z1]] → K18 fr1 st1 := by
        intro x3 h fr1 st1 hS
        unfold value_checker_check_j4 at h
        refine hK18 _ _ (XW.sub hS ?_)
        refine zC h (fun b22 h => ?_) (fun b22 h => ?_)
        ·refine zq fun K23 hK23 => zr (zv [9] 1 [6] [] [(6, vi (1 : Int))] [.box [ci z1]] (zd (hK23 _ _ (ze ?_))))
         obtain rfl := Option.some.inj h
         exact FinM.fin (.inr rfl) [] [vi (1 : Int)] [] (by kernel_rfl) trivial (by kernel_rfl) (by kernel_rfl) (.one (.rfl _ rfl))
        ·refine zs (hK13 _ _ (zq fun K24 hK24 => zq fun K25 hK25 => ?_))
         obtain ⟨r3, c26, h⟩ := zB h
         refine zr (zu [9] 1 [0,2,4,61] [(qa998 p1)] (za (c_value_fields _ _ c26) (zv [9] 1 [0,2,4,7] [] [(0, .one (.pt 0 0 0 0)), (2, vi p2), (4, .one (.pv (.rp [(qa998 p1)] 0 0))), (7, vi r3)] [.box [ci z1]] (zd (hK25 _ _ (zq fun K27 hK27 => zr ?_))))))
         refine zg [9] 2 [0,2,4,7,64] (zd (hK27 _ _ (zC h (fun b28 h => ?_) (fun b28 h => ?_))))
         ·refine zq fun K29 hK29 => zr (zv [9] 2 [6] [] [(6, vi r3)] [.box [ci z1]] (zd (hK29 _ _ (ze ?_))))
          obtain rfl := Option.some.inj h
          exact FinM.fin (.inr rfl) [] [vi r3] [] (by kernel_rfl) trivial (by kernel_rfl) (by kernel_rfl) (.one (.rfl _ rfl))
         ·refine zs (hK24 _ _ (zq fun K30 hK30 => ?_))
          have hJ5 : ∀ (z3 : Int), value_checker_check_j5 z3 = some r → ∀ fr1 st1, Sub 83 1 [] fr1 st1 [] [.box [ci z3]] → K30 fr1 st1 := by
           intro z3 h fr1 st1 hS
           unfold value_checker_check_j5 at h
           refine hK30 _ _ (XW.sub hS ?_)
           refine zq fun K43 hK43 => zr (zv [9] 1 [6] [] [(6, vi (0 : Int))] [.box [ci z3]] (zd (hK43 _ _ (ze ?_))))
           obtain rfl := Option.some.inj h
           exact FinM.fin (.inr rfl) [] [vi (0 : Int)] [] (by kernel_rfl) trivial (by kernel_rfl) (by kernel_rfl) (.one (.rfl _ rfl))
          refine zq fun K31 hK31 => zr (zv [9] 3 [0,2,67,68] [[pi p1.kind, pi p1.scale, .ro (eField.els p1.fields)]] [(0, .one (.pt 0 0 0 0)), (2, vi p2), (67, vl eField p1.fields), (68, vi ((eField.els p1.fields).length : Int))] [.box [ci z1]] ?_)
          rw [eField.len p1.fields]
          refine zg [9] 1 [0,2,67,68,69] (zd (hK31 _ _ (zb 1 (XW.rounds' BIG (x := cd Tryd.f72 [1,1,1,1,1,0,1,0,0]) (by kernel_rfl) fun Q1 hQ1 => ?_))))
          have hL1 : ∀ (k1 : Nat) (z2 : Int) (x4 : Int), value_checker_check_l1 (value_checker_check k0) p1 p2 k1 z2 x4 = some r → XR Tryd.prog 83 1 [] (cd Tryd.f72 [1,1,1,1,1,0,1,0,0]) Q1 k1 [(0, .one (.pt 0 0 0 0)), (2, vi p2), (67, vl eField p1.fields), (68, vi (p1.fields.length : Int)), (69, vi x4)] [.box [ci z2]] := by
           intro k1
           induction k1 with
           | zero => intro z2 x4 h; rw [value_checker_check_l1.eq_1] at h; cases h
           | succ k1 ih1 =>
            intro z2 x4 h
            rw [value_checker_check_l1.eq_2] at h
            refine zq fun K32 hK32 => zr (zg [9] 1 [0,2,67,68,69,70] (zd (hK32 _ _ (zq fun K33 hK33 => zC h (fun b34 h => ?_) (fun b34 h => ?_)))))
            ·refine zs (hK33 _ _ (zq fun K35 hK35 => zb 2 (zq fun K36 hK36 => ?_)))
             obtain ⟨e1, a37, h⟩ := zB h
             refine zr (zo [9] 4 [0,2,9,67,68,69] [(qa1008 e1)] [0 ≤ x4 ∧ x4 < ((eField.els p1.fields).length : Int) ∧ elemsOk 6 (eField.els p1.fields), (eField.els p1.fields)[x4.toNat]? = some (qa1008 e1)] (⟨eField.inb a37, ((eField.get a37).trans (by rcases e1 with ⟨_, _, _, ⟨_, _, _⟩⟩; rfl)), trivial⟩) (zd (hK36 _ _ (zq fun K38 hK38 => ?_))))
             obtain ⟨r4, c39, h⟩ := zB h
             refine zr (zv [9] 5 [0,2,67,68,69,73,75,77] [] [(0, .one (.pt 0 0 0 0)), (2, vi p2), (67, vl eField p1.fields), (68, vi (p1.fields.length : Int)), (69, vi x4), (73, .one (.pt 0 0 0 0)), (75, .ag (qa1009 e1)), (77, vi (IntKind.i64.wrap (p2 + (1 : Int))))] [.box [ci z2], .box (qa1010 e1)] ?_)
             refine XO.calm 72 [.one (.pt 0 0 0 0), .ag (qa1009 e1), vi (IntKind.i64.wrap (p2 + (1 : Int)))] [.box [ci z2]] [.box [ci r4.2.leaves]] (vi r4.1) [0] [(78, vi r4.1), (0, .one (.pt 0 0 0 0)), (2, vi p2), (67, vl eField p1.fields), (68, vi (p1.fields.length : Int)), (69, vi x4), (73, .one (.pt 0 0 0 0)), (75, .ag (qa1009 e1)), (77, vi (IntKind.i64.wrap (p2 + (1 : Int))))] [.box [ci r4.2.leaves], .box (qa1010 e1)] (by kernel_rfl) (c_value_checker_check k0 _ _ _ _ c39) (by kernel_rfl) (by kernel_rfl) (by kernel_rfl) (by kernel_rfl) ?_
             refine zg [9] 1 [0,2,10,67,68,69] (zd (hK38 _ _ (zq fun K40 hK40 => zr (zg [9] 2 [0,2,10,67,68,69,80] (zd (hK40 _ _ ?_))))))
             refine zC h (fun b41 h => ?_) (fun b41 h => ?_)
             ·refine zq fun K42 hK42 => zr (zv [9] 2 [6] [] [(6, vi r4.1)] [.box [ci r4.2.leaves], .box (qa1010 e1)] (zd (hK42 _ _ (ze (hQ1 _ _ _ ?_)))))
              obtain rfl := Option.some.inj h
              exact FinM.fin (.inr rfl) [] [vi r4.1] [] (by kernel_rfl) trivial (by kernel_rfl) (by kernel_rfl) (.one (.rfl _ rfl))
             ·exact zs (hK35 _ _ (zr (zg [9] 2 [0,2,67,68,69] (zd (XR.sub (Sub.trans (Sub.pick (fr' := (qa1013 p1 p2 x4)) [0,2,67,68,69] (by kernel_rfl)) (Sub.take (fr' := (qa1013 p1 p2 x4)) 1 (by decide) (by kernel_rfl) (by kernel_rfl))) (ih1 r4.2.leaves (IntKind.i64.wrap (x4 + (1 : Int))) h))))))
            ·exact zx 1 (hQ1 _ _ _ (hJ5 z2 h _ _ (zk [])))
          exact XR.sub (zk [0,2,67,68,69]) (hL1 BIG z1 (0 : Int) h)
       rcases zW h with ⟨b19, h⟩ | ⟨b19, h⟩
       ·rcases zW h with ⟨b20, h⟩ | ⟨b20, h⟩
        ·exact zr (zu [9] 4 [0,2,4,46] [(qa998 p1)] (zt 46 b19 (zu [9] 4 [0,2,4,46,50] [(qa998 p1)] (zt 50 b20 (zv [9] 11 [0,2,4,42] [] [(0, .one (.pt 0 0 0 0)), (2, vi p2), (4, .one (.pv (.rp [(qa998 p1)] 0 0))), (42, vb true)] [.box [ci z1]] (zd (hJ4 true h _ _ (zk [0,2,4,42]))))))))
        ·rcases zW h with ⟨b21, h⟩ | ⟨b21, h⟩
         ·refine zr (zu [9] 4 [0,2,4,46] [(qa998 p1)] (zt 46 b19 (zu [9] 4 [0,2,4,46,50] [(qa998 p1)] (zt 50 b20 (zv [9] 5 [0,2,4,46,55] [(qa998 p1)] [(0, .one (.pt 0 0 0 0)), (2, vi p2), (4, .one (.pv (.rp [(qa998 p1)] 0 0))), (46, vb true), (55, vb (decide (p1.scale < (0 : Int))))] [.box [ci z1]] (zt 55 b21 (zg [9] 6 [0,2,4,42] ?_)))))))
          exact zd (hJ4 true h _ _ (zk [0,2,4,42]))
         ·refine zr (zu [9] 4 [0,2,4,46] [(qa998 p1)] (zt 46 b19 (zv [9] 4 [0,2,4,46,50] [(qa998 p1)] [(0, .one (.pt 0 0 0 0)), (2, vi p2), (4, .one (.pv (.rp [(qa998 p1)] 0 0))), (46, vb true), (50, vb (p1.kind != (3 : Int)))] [.box [ci z1]] (zt 50 b20 (zu [9] 5 [0,2,4,46,55] [(qa998 p1)] (zt 55 b21 (zu [9] 6 [0,2,4,42] [(qa998 p1)] ?_)))))))
          exact zd (hJ4 (decide ((12 : Int) < p1.scale)) h _ _ (zk [0,2,4,42]))
       ·exact zr (zu [9] 4 [0,2,4,46] [(qa998 p1)] (zt 46 b19 (zg [9] 15 [0,2,4,42] (zd (hJ4 false h _ _ (zk [0,2,4,42]))))))
     rcases zW h with ⟨b15, h⟩ | ⟨b15, h⟩
     ·exact zr (zu [9] 4 [0,2,4,37] [(qa998 p1)] (zt 37 b15 (zg [9] 5 [0,2,4,33] (zd (hJ3 true h _ _ (zk [0,2,4,33]))))))
     ·exact zr (zv [9] 4 [0,2,4,37] [(qa998 p1)] [(0, .one (.pt 0 0 0 0)), (2, vi p2), (4, .one (.pv (.rp [(qa998 p1)] 0 0))), (37, vb (decide (p1.kind < (1 : Int))))] [.box [ci z1]] (zt 37 b15 (zu [9] 5 [0,2,4,33] [(qa998 p1)] (zd (hJ3 (decide ((7 : Int) < p1.kind)) h _ _ (zk [0,2,4,33]))))))
    refine zq fun K10 hK10 => ?_
    obtain ⟨r2, c11, h⟩ := zB h
    refine zr (zu [9] 1 [0,2,4,24] [(qa998 p1)] (za (c_value_leaf _ _ c11) (zd (hK10 _ _ (zC h (fun b12 h => ?_) (fun b12 h => ?_))))))
    ·exact zr (zv [9] 8 [0,2,4] [] [(0, .one (.pt 0 0 0 0)), (2, vi p2), (4, .one (.pv (.rp [(qa998 p1)] 0 0)))] [.box [ci (IntKind.i64.wrap (p3.leaves + (1 : Int)))]] (zd (hJ2 (IntKind.i64.wrap (p3.leaves + (1 : Int))) h _ _ (zk [0,2,4]))))
    ·exact zs (hJ2 p3.leaves h _ _ (zk [0,2,4]))
  rcases zW h with ⟨b4, h⟩ | ⟨b4, h⟩
  ·exact zr (zg [9] 3 [0,2,4,13] (zt 13 b4 (zv [9] 10 [0,2,4,23] [] [(0, .one (.pt 0 0 0 0)), (2, vi p2), (4, .one (.pv (.rp [(qa998 p1)] 0 0))), (23, vb true)] [.box [ci p3.leaves]] (zd (hJ1 true h _ _ (zk [0,2,4,23]))))))
  ·obtain ⟨r1, c5, h⟩ := zB h
   rcases zW h with ⟨b6, h⟩ | ⟨b6, h⟩
   ·refine zr (zg [9] 3 [0,2,4,13] (zt 13 b4 (zu [9] 1 [0,2,4,13,14] [(qa998 p1)] (zl 97 [.ag (qa995 p1)] (vb r1) [(15, vb r1), (0, .one (.pt 0 0 0 0)), (2, vi p2), (4, .one (.pv (.rp [(qa998 p1)] 0 0))), (13, vb false), (14, .ag (qa995 p1))] (c_value_leaf _ _ c5) (zg [9] 1 [0,2,4,13,16] (zt 16 b6 (zg [9] 7 [0,2,4,23] ?_)))))))
    exact zd (hJ1 (p3.leaves == (40 : Int)) h _ _ (zk [0,2,4,23]))
   ·refine zr (zv [9] 3 [0,2,4,13] [] [(0, .one (.pt 0 0 0 0)), (2, vi p2), (4, .one (.pv (.rp [(qa998 p1)] 0 0))), (13, vb (decide ((4 : Int) < p2)))] [.box [ci p3.leaves]] (zt 13 b4 (zu [9] 1 [0,2,4,13,14] [(qa998 p1)] (za (c_value_leaf _ _ c5) (zv [9] 1 [0,2,4,13,16] [] [(0, .one (.pt 0 0 0 0)), (2, vi p2), (4, .one (.pv (.rp [(qa998 p1)] 0 0))), (13, vb false), (16, vb r1)] [.box [ci p3.leaves]] (zt 16 b6 (zg [9] 7 [0,2,4,23] ?_)))))))
    exact zd (hJ1 false h _ _ (zk [0,2,4,23]))

def value_CheckType (p1 : GType) : Option Int :=
    bnd (value_checker_check BIG p1 (1 : Int) (GChecker.mk (0 : Int))) fun r1 =>
    some r1.1

abbrev qa1039 (p1 : GType) : List CV := [ci p1.kind, ci p1.scale, cl eField p1.fields]

theorem c_value_CheckType (p1 : GType) (r : Int) (h : value_CheckType p1 = some r) : PC Tryd.prog 46 [.ag (qa1039 p1)] (vi r) := by
 unfold value_CheckType at h
 refine zF 9 Tryd.f46 (zq fun K1 hK1 => zr (zg [5] 2 [1] (zd (hK1 _ _ (zq fun K2 hK2 => zr ?_)))))
 refine zg [5] 3 [1,3] (zd (hK2 _ _ (zq fun K3 hK3 => ?_)))
 obtain ⟨r1, c4, h⟩ := zB h
 refine zr (zv [5] 2 [6,7] [[pi p1.kind, pi p1.scale, .ro (eField.els p1.fields)]] [(6, .one (.pt 0 0 0 0)), (7, .ag (qa1039 p1))] [.box [ci (0 : Int)]] (XO.calm 72 [.one (.pt 0 0 0 0), .ag (qa1039 p1), vi (1 : Int)] [.box [ci (0 : Int)]] [.box [ci r1.2.leaves]] (vi r1.1) [0] [(8, vi r1.1), (6, .one (.pt 0 0 0 0)), (7, .ag (qa1039 p1))] [.box [ci r1.2.leaves]] (by kernel_rfl) (c_value_checker_check BIG _ _ _ _ c4) (by kernel_rfl) (by kernel_rfl) (by kernel_rfl) (by kernel_rfl) ?_))
 refine zg [5] 1 [2] (zd (hK3 _ _ (ze ?_)))
 obtain rfl := Option.some.inj h
 exact zf [vi r1.1] (.one (.rfl _ rfl))

def table_leaf_j1 (x1 : Bool) : Option Bool :=
    some x1

def table_leaf (p1 : GType) : Option Bool :=
    ift (p1.kind != (6 : Int))
      (table_leaf_j1 (p1.kind != (7 : Int)))
      (table_leaf_j1 false)

abbrev qa1049 (p1 : GType) : List PV := [pi p1.kind, pi p1.scale, .ro (eField.els p1.fields)]

theorem c_table_leaf (p1 : GType) (r : Bool) (h : table_leaf p1 = some r) : PC Tryd.prog 61 [.ag [ci p1.kind, ci p1.scale, cl eField p1.fields]] (vb r) := by
 unfold table_leaf at h
 refine zF 11 Tryd.f61 (zq fun K1 hK1 => zr (zg [] 2 [1] (zd (hK1 _ _ (zq fun K2 hK2 => ?_)))))
 have hJ1 : ∀ (x1 : Bool), table_leaf_j1 x1 = some r → ∀ fr1 st1, Sub 11 0 [] fr1 st1 [(2, vb x1)] [] → K2 fr1 st1 := by
  intro x1 h fr1 st1 hS
  unfold table_leaf_j1 at h
  refine hK2 _ _ (XW.sub hS ?_)
  refine ze ?_
  obtain rfl := Option.some.inj h
  exact zf [vb x1] (.one (.rfl _ rfl))
 rcases zW h with ⟨b3, h⟩ | ⟨b3, h⟩
 ·exact zr (zu [] 4 [1,6] [(qa1049 p1)] (zt 6 b3 (zv [] 5 [2] [(qa1049 p1)] [(2, vb (p1.kind != (7 : Int)))] [] (zd (hJ1 (p1.kind != (7 : Int)) h _ _ (zk [2]))))))
 ·exact zr (zu [] 4 [1,6] [(qa1049 p1)] (zt 6 b3 (zg [] 5 [2] (zd (hJ1 false h _ _ (zk [2]))))))

def table_TransformType_j7 (p2 : GType) (x6 : Bool) : Option (GType × Int) :=
    ift x6
      (some ((GType.mk (2 : Int) (0 : Int) []), (0 : Int)))
      (some (p2, (0 : Int)))

def table_TransformType_j6 (p1 : GTransform) (p2 : GType) (x5 : Bool) : Option (GType × Int) :=
    ift x5
      (some ((GType.mk (0 : Int) (0 : Int) []), (2 : Int)))
      (ift (p1.kind == (2 : Int))
         (table_TransformType_j7 p2 true)
         (table_TransformType_j7 p2 (decide ((4 : Int) ≤ p1.kind))))

def table_TransformType_j5 (p1 : GTransform) (p2 : GType) (x4 : Bool) : Option (GType × Int) :=
    ift x4
      (table_TransformType_j6 p1 p2 x4)
      (ift (decide ((4 : Int) ≤ p1.kind))
         (table_TransformType_j6 p1 p2 (p2.kind != (5 : Int)))
         (table_TransformType_j6 p1 p2 false))

def table_TransformType_j4 (p1 : GTransform) (p2 : GType) : Option (GType × Int) :=
    bnd (table_leaf p2) fun r2 =>
    ift (!r2)
      (table_TransformType_j6 p1 p2 (!r2))
      (ift (p1.kind == (3 : Int))
         (ift (p2.kind != (2 : Int))
            (ift (p2.kind != (3 : Int))
               (table_TransformType_j5 p1 p2 (p2.kind != (4 : Int)))
               (table_TransformType_j5 p1 p2 false))
            (table_TransformType_j5 p1 p2 false))
         (table_TransformType_j5 p1 p2 false))

def table_TransformType_j3 (p1 : GTransform) (p2 : GType) (x3 : Bool) : Option (GType × Int) :=
    ift x3
      (some ((GType.mk (0 : Int) (0 : Int) []), (3 : Int)))
      (table_TransformType_j4 p1 p2)

def table_TransformType_j2 (p1 : GTransform) (p2 : GType) (x2 : Bool) : Option (GType × Int) :=
    ift x2
      (ift (decide (p1.param < (1 : Int)))
         (table_TransformType_j3 p1 p2 true)
         (table_TransformType_j3 p1 p2 (decide ((1000000 : Int) < p1.param))))
      (ift (p1.param != (0 : Int))
         (some ((GType.mk (0 : Int) (0 : Int) []), (3 : Int)))
         (table_TransformType_j4 p1 p2))

def table_TransformType_j1 (p1 : GTransform) (p2 : GType) (x1 : Bool) : Option (GType × Int) :=
    ift x1
      (some ((GType.mk (0 : Int) (0 : Int) []), (3 : Int)))
      (ift (p1.kind == (2 : Int))
         (table_TransformType_j2 p1 p2 true)
         (table_TransformType_j2 p1 p2 (p1.kind == (3 : Int))))

def table_TransformType (p1 : GTransform) (p2 : GType) : Option (GType × Int) :=
    bnd (value_CheckType p2) fun r1 =>
    ift (r1 != (0 : Int))
      (some ((GType.mk (0 : Int) (0 : Int) []), r1))
      (ift (decide (p1.kind < (0 : Int)))
         (table_TransformType_j1 p1 p2 true)
         (table_TransformType_j1 p1 p2 (decide ((7 : Int) < p1.kind))))

abbrev qa1052 (p2 : GType) : List CV := [ci p2.kind, ci p2.scale, cl eField p2.fields]
abbrev qa1054 (p2 : GType) : List PV := [pi p2.kind, pi p2.scale, .ro (eField.els p2.fields)]
abbrev qa1055 (p1 : GTransform) : List PV := [pi p1.kind, pi p1.param]
abbrev qa1057 : List CV := [ci (0 : Int), ci (0 : Int), .pv (.s (.slice none 0 0))]
abbrev qa1060 : St := [.box qa1057]

theorem c_table_TransformType (p1 : GTransform) (p2 : GType) (r : (GType × Int)) (h : table_TransformType p1 p2 = some r) : PC Tryd.prog 35 [.ag [ci p1.kind, ci p1.param], .ag (qa1052 p2)] (.tp [.ag [ci r.1.kind, ci r.1.scale, cl eField r.1.fields], vi r.2]) := by
 unfold table_TransformType at h
 refine zF 85 Tryd.f35 (zq fun K1 hK1 => zr (zg [4] 4 [2,3,4] (zd (hK1 _ _ (zq fun K2 hK2 => zq fun K3 hK3 => ?_)))))
 obtain ⟨r1, c4, h⟩ := zB h
 refine zr (zu [4] 1 [2,3,4,7] [(qa1054 p2)] (zl 46 [.ag (qa1052 p2)] (vi r1) [(8, vi r1), (2, .one (.pv (.rp [(qa1055 p1)] 0 0))), (3, .one (.pv (.rp [(qa1054 p2)] 0 0))), (4, .one (.pt 0 0 0 0)), (7, .ag (qa1052 p2))] (c_value_CheckType _ _ c4) (zg [4] 1 [2,3,4,6] (zd (hK3 _ _ (zq fun K5 hK5 => zr ?_))))))
 refine zg [4] 2 [2,3,4,6,10] (zd (hK5 _ _ (zC h (fun b6 h => ?_) (fun b6 h => ?_))))
 ·refine zq fun K7 hK7 => zr (zv [4] 4 [4,5] [] [(4, .one (.pt 0 0 0 0)), (5, vi r1)] qa1060 (zd (hK7 _ _ (ze ?_))))
  obtain rfl := Option.some.inj h
  exact zf [.ag qa1057, vi r1] (.tpc (.ag (.cons (.rfl _ rfl) (.cons (.rfl _ rfl) (.cons (.nl) .nil)))) (.tpc (.one (.rfl _ rfl)) (.tp0)))
 ·refine zs (hK2 _ _ (zq fun K8 hK8 => zq fun K9 hK9 => ?_))
  have hJ1 : ∀ (x1 : Bool), table_TransformType_j1 p1 p2 x1 = some r → ∀ fr1 st1, Sub 85 0 [] fr1 st1 [(2, .one (.pv (.rp [(qa1055 p1)] 0 0))), (3, .one (.pv (.rp [(qa1054 p2)] 0 0))), (4, .one (.pt 0 0 0 0)), (20, vb x1)] qa1060 → K9 fr1 st1 := by
   intro x1 h fr1 st1 hS
   unfold table_TransformType_j1 at h
   refine hK9 _ _ (XW.sub hS ?_)
   refine zC h (fun b11 h => ?_) (fun b11 h => ?_)
   ·refine zq fun K12 hK12 => zr (zg [4] 3 [4,5] (zd (hK12 _ _ (ze ?_))))
    obtain rfl := Option.some.inj h
    exact zf [.ag qa1057, vi (3 : Int)] (.tpc (.ag (.cons (.rfl _ rfl) (.cons (.rfl _ rfl) (.cons (.nl) .nil)))) (.tpc (.one (.rfl _ rfl)) (.tp0)))
   ·refine zs (hK8 _ _ (zq fun K13 hK13 => ?_))
    have hJ4 : ∀ (_ : Unit), table_TransformType_j4 p1 p2 = some r → ∀ fr1 st1, Sub 85 0 [] fr1 st1 [(2, .one (.pv (.rp [(qa1055 p1)] 0 0))), (3, .one (.pv (.rp [(qa1054 p2)] 0 0))), (4, .one (.pt 0 0 0 0))] qa1060 → K13 fr1 st1 := by
     intro _ h fr1 st1 hS
     unfold table_TransformType_j4 at h
     refine hK13 _ _ (XW.sub hS ?_)
     refine zq fun K24 hK24 => zb 0 (zq fun K25 hK25 => ?_)
     have hJ6 : ∀ (x5 : Bool), table_TransformType_j6 p1 p2 x5 = some r → ∀ fr1 st1, Sub 85 0 [] fr1 st1 [(2, .one (.pv (.rp [(qa1055 p1)] 0 0))), (3, .one (.pv (.rp [(qa1054 p2)] 0 0))), (4, .one (.pt 0 0 0 0)), (43, vb x5)] qa1060 → K25 fr1 st1 := by
      intro x5 h fr1 st1 hS
      unfold table_TransformType_j6 at h
      refine hK25 _ _ (XW.sub hS ?_)
      refine zC h (fun b35 h => ?_) (fun b35 h => ?_)
      ·refine zq fun K36 hK36 => zr (zg [4] 3 [4,5] (zd (hK36 _ _ (ze ?_))))
       obtain rfl := Option.some.inj h
       exact zf [.ag qa1057, vi (2 : Int)] (.tpc (.ag (.cons (.rfl _ rfl) (.cons (.rfl _ rfl) (.cons (.nl) .nil)))) (.tpc (.one (.rfl _ rfl)) (.tp0)))
      ·refine zq fun K37 hK37 => ?_
       have hJ7 : ∀ (x6 : Bool), table_TransformType_j7 p2 x6 = some r → ∀ fr1 st1, Sub 85 0 [] fr1 st1 [(3, .one (.pv (.rp [(qa1054 p2)] 0 0))), (4, .one (.pt 0 0 0 0)), (74, vb x6)] qa1060 → K37 fr1 st1 := by
        intro x6 h fr1 st1 hS
        unfold table_TransformType_j7 at h
        refine hK37 _ _ (XW.sub hS ?_)
        refine zC h (fun b39 h => ?_) (fun b39 h => ?_)
        ·refine zq fun K40 hK40 => zr (zg [4] 3 [4,5] (zd (hK40 _ _ (ze ?_))))
         obtain rfl := Option.some.inj h
         exact zf [.ag [ci (2 : Int), ci (0 : Int), .pv (.s (.slice none 0 0))], vi (0 : Int)] (.tpc (.ag (.cons (.rfl _ rfl) (.cons (.rfl _ rfl) (.cons (.nl) .nil)))) (.tpc (.one (.rfl _ rfl)) (.tp0)))
        ·refine zs (hK24 _ _ (zq fun K41 hK41 => zr (zu [4] 3 [4,5] [(qa1054 p2)] (zd (hK41 _ _ (ze ?_))))))
         obtain rfl := Option.some.inj h
         exact zf [.ag (qa1052 p2), vi (0 : Int)] (.tpc (.ag (.cons (.rfl _ rfl) (.cons (.rfl _ rfl) (.cons (.rfl _ rfl) .nil)))) (.tpc (.one (.rfl _ rfl)) (.tp0)))
       rcases zW h with ⟨b38, h⟩ | ⟨b38, h⟩
       ·exact zr (zu [4] 4 [2,3,4,78] [(qa1055 p1)] (zt 78 b38 (zv [4] 5 [3,4,74] [] [(3, .one (.pv (.rp [(qa1054 p2)] 0 0))), (4, .one (.pt 0 0 0 0)), (74, vb true)] qa1060 (zd (hJ7 true h _ _ (zk [3,4,74]))))))
       ·exact zr (zu [4] 4 [2,3,4,78] [(qa1055 p1)] (zt 78 b38 (zu [4] 5 [3,4,74] [(qa1055 p1)] (zd (hJ7 (decide ((4 : Int) ≤ p1.kind)) h _ _ (zk [3,4,74]))))))
     refine zq fun K26 hK26 => ?_
     obtain ⟨r2, c27, h⟩ := zB h
     refine zr (zu [4] 1 [2,3,4,44] [(qa1054 p2)] (za (c_table_leaf _ _ c27) (zv [4] 2 [2,3,4,43] [] [(2, .one (.pv (.rp [(qa1055 p1)] 0 0))), (3, .one (.pv (.rp [(qa1054 p2)] 0 0))), (4, .one (.pt 0 0 0 0)), (43, vb (!r2))] qa1060 (zd (hK26 _ _ (zC h (fun b28 h => ?_) (fun b28 h => ?_)))))))
     ·exact zs (hJ6 (!r2) h _ _ (zk [2,3,4,43]))
     ·refine zq fun K29 hK29 => ?_
      have hJ5 : ∀ (x4 : Bool), table_TransformType_j5 p1 p2 x4 = some r → ∀ fr1 st1, Sub 85 0 [] fr1 st1 [(2, .one (.pv (.rp [(qa1055 p1)] 0 0))), (3, .one (.pv (.rp [(qa1054 p2)] 0 0))), (4, .one (.pt 0 0 0 0)), (43, vb x4)] qa1060 → K29 fr1 st1 := by
       intro x4 h fr1 st1 hS
       unfold table_TransformType_j5 at h
       refine hK29 _ _ (XW.sub hS ?_)
       refine zC h (fun b33 h => ?_) (fun b33 h => ?_)
       ·exact zs (hJ6 x4 h _ _ (zk [2,3,4,43]))
       ·rcases zW h with ⟨b34, h⟩ | ⟨b34, h⟩
        ·exact zr (zu [4] 4 [2,3,4,68] [(qa1055 p1)] (zt 68 b34 (zu [4] 5 [2,3,4,43] [(qa1054 p2)] (zd (hJ6 (p2.kind != (5 : Int)) h _ _ (zk [2,3,4,43]))))))
        ·exact zr (zv [4] 4 [2,3,4,68] [(qa1055 p1)] [(2, .one (.pv (.rp [(qa1055 p1)] 0 0))), (3, .one (.pv (.rp [(qa1054 p2)] 0 0))), (4, .one (.pt 0 0 0 0)), (68, vb (decide ((4 : Int) ≤ p1.kind)))] qa1060 (zt 68 b34 (zg [4] 5 [2,3,4,43] (zd (hJ6 false h _ _ (zk [2,3,4,43]))))))
      rcases zW h with ⟨b30, h⟩ | ⟨b30, h⟩
      ·rcases zW h with ⟨b31, h⟩ | ⟨b31, h⟩
       ·rcases zW h with ⟨b32, h⟩ | ⟨b32, h⟩
        ·refine zr (zu [4] 4 [2,3,4,50] [(qa1055 p1)] (zt 50 b30 (zu [4] 5 [2,3,4,55] [(qa1054 p2)] (zt 55 b31 (zv [4] 5 [2,3,4,60] [(qa1054 p2)] [(2, .one (.pv (.rp [(qa1055 p1)] 0 0))), (3, .one (.pv (.rp [(qa1054 p2)] 0 0))), (4, .one (.pt 0 0 0 0)), (60, vb (p2.kind != (3 : Int)))] qa1060 (zt 60 b32 (zu [4] 5 [2,3,4,43] [(qa1054 p2)] ?_)))))))
         exact zd (hJ5 (p2.kind != (4 : Int)) h _ _ (zk [2,3,4,43]))
        ·refine zr (zu [4] 4 [2,3,4,50] [(qa1055 p1)] (zt 50 b30 (zv [4] 5 [2,3,4,55] [(qa1054 p2)] [(2, .one (.pv (.rp [(qa1055 p1)] 0 0))), (3, .one (.pv (.rp [(qa1054 p2)] 0 0))), (4, .one (.pt 0 0 0 0)), (55, vb (p2.kind != (2 : Int)))] qa1060 (zt 55 b31 (zu [4] 5 [2,3,4,60] [(qa1054 p2)] (zt 60 b32 (zg [4] 5 [2,3,4,43] ?_)))))))
         exact zd (hJ5 false h _ _ (zk [2,3,4,43]))
       ·exact zr (zu [4] 4 [2,3,4,50] [(qa1055 p1)] (zt 50 b30 (zu [4] 5 [2,3,4,55] [(qa1054 p2)] (zt 55 b31 (zv [4] 10 [2,3,4,43] [] [(2, .one (.pv (.rp [(qa1055 p1)] 0 0))), (3, .one (.pv (.rp [(qa1054 p2)] 0 0))), (4, .one (.pt 0 0 0 0)), (43, vb false)] qa1060 (zd (hJ5 false h _ _ (zk [2,3,4,43]))))))))
      ·exact zr (zu [4] 4 [2,3,4,50] [(qa1055 p1)] (zt 50 b30 (zg [4] 15 [2,3,4,43] (zd (hJ5 false h _ _ (zk [2,3,4,43]))))))
    refine zq fun K14 hK14 => ?_
    have hJ2 : ∀ (x2 : Bool), table_TransformType_j2 p1 p2 x2 = some r → ∀ fr1 st1, Sub 85 0 [] fr1 st1 [(2, .one (.pv (.rp [(qa1055 p1)] 0 0))), (3, .one (.pv (.rp [(qa1054 p2)] 0 0))), (4, .one (.pt 0 0 0 0)), (29, vb x2)] qa1060 → K14 fr1 st1 := by
     intro x2 h fr1 st1 hS
     unfold table_TransformType_j2 at h
     refine hK14 _ _ (XW.sub hS ?_)
     refine zC h (fun b16 h => ?_) (fun b16 h => ?_)
     ·refine zq fun K17 hK17 => ?_
      have hJ3 : ∀ (x3 : Bool), table_TransformType_j3 p1 p2 x3 = some r → ∀ fr1 st1, Sub 85 0 [] fr1 st1 [(2, .one (.pv (.rp [(qa1055 p1)] 0 0))), (3, .one (.pv (.rp [(qa1054 p2)] 0 0))), (4, .one (.pt 0 0 0 0)), (37, vb x3)] qa1060 → K17 fr1 st1 := by
       intro x3 h fr1 st1 hS
       unfold table_TransformType_j3 at h
       refine hK17 _ _ (XW.sub hS ?_)
       refine zC h (fun b19 h => ?_) (fun b19 h => ?_)
       ·refine zq fun K20 hK20 => zr (zg [4] 3 [4,5] (zd (hK20 _ _ (ze ?_))))
        obtain rfl := Option.some.inj h
        exact zf [.ag qa1057, vi (3 : Int)] (.tpc (.ag (.cons (.rfl _ rfl) (.cons (.rfl _ rfl) (.cons (.nl) .nil)))) (.tpc (.one (.rfl _ rfl)) (.tp0)))
       ·exact zs (hJ4 () h _ _ (zk [2,3,4]))
      rcases zW h with ⟨b18, h⟩ | ⟨b18, h⟩
      ·exact zr (zu [4] 4 [2,3,4,33] [(qa1055 p1)] (zt 33 b18 (zg [4] 4 [2,3,4,37] (zd (hJ3 true h _ _ (zk [2,3,4,37]))))))
      ·exact zr (zv [4] 4 [2,3,4,33] [(qa1055 p1)] [(2, .one (.pv (.rp [(qa1055 p1)] 0 0))), (3, .one (.pv (.rp [(qa1054 p2)] 0 0))), (4, .one (.pt 0 0 0 0)), (33, vb (decide (p1.param < (1 : Int))))] qa1060 (zt 33 b18 (zu [4] 4 [2,3,4,37] [(qa1055 p1)] (zd (hJ3 (decide ((1000000 : Int) < p1.param)) h _ _ (zk [2,3,4,37]))))))
     ·refine zq fun K21 hK21 => zr (zu [4] 3 [2,3,4,41] [(qa1055 p1)] (zd (hK21 _ _ (zC h (fun b22 h => ?_) (fun b22 h => ?_)))))
      ·refine zq fun K23 hK23 => zr (zg [4] 3 [4,5] (zd (hK23 _ _ (ze ?_))))
       obtain rfl := Option.some.inj h
       exact zf [.ag qa1057, vi (3 : Int)] (.tpc (.ag (.cons (.rfl _ rfl) (.cons (.rfl _ rfl) (.cons (.nl) .nil)))) (.tpc (.one (.rfl _ rfl)) (.tp0)))
      ·exact zs (hJ4 () h _ _ (zk [2,3,4]))
    rcases zW h with ⟨b15, h⟩ | ⟨b15, h⟩
    ·exact zr (zu [4] 4 [2,3,4,25] [(qa1055 p1)] (zt 25 b15 (zv [4] 4 [2,3,4,29] [] [(2, .one (.pv (.rp [(qa1055 p1)] 0 0))), (3, .one (.pv (.rp [(qa1054 p2)] 0 0))), (4, .one (.pt 0 0 0 0)), (29, vb true)] qa1060 (zd (hJ2 true h _ _ (zk [2,3,4,29]))))))
    ·exact zr (zu [4] 4 [2,3,4,25] [(qa1055 p1)] (zt 25 b15 (zu [4] 4 [2,3,4,29] [(qa1055 p1)] (zd (hJ2 (p1.kind == (3 : Int)) h _ _ (zk [2,3,4,29]))))))
  rcases zW h with ⟨b10, h⟩ | ⟨b10, h⟩
  ·exact zr (zu [4] 4 [2,3,4,16] [(qa1055 p1)] (zt 16 b10 (zg [4] 4 [2,3,4,20] (zd (hJ1 true h _ _ (zk [2,3,4,20]))))))
  ·exact zr (zv [4] 4 [2,3,4,16] [(qa1055 p1)] [(2, .one (.pv (.rp [(qa1055 p1)] 0 0))), (3, .one (.pv (.rp [(qa1054 p2)] 0 0))), (4, .one (.pt 0 0 0 0)), (16, vb (decide (p1.kind < (0 : Int))))] qa1060 (zt 16 b10 (zu [4] 4 [2,3,4,20] [(qa1055 p1)] (zd (hJ1 (decide ((7 : Int) < p1.kind)) h _ _ (zk [2,3,4,20]))))))

def value_within_j1 (x1 : Bool) : Option Bool :=
    some x1

def value_within (p1 : Int) (p2 : Int) (p3 : Int) : Option Bool :=
    ift (decide (p2 ≤ p1))
      (value_within_j1 (decide (p1 ≤ p3)))
      (value_within_j1 false)


theorem c_value_within (p1 : Int) (p2 : Int) (p3 : Int) (r : Bool) (h : value_within p1 p2 p3 = some r) : PC Tryd.prog 86 [vi p1, vi p2, vi p3] (vb r) := by
 unfold value_within at h
 refine zF 15 Tryd.f86 (zq fun K1 hK1 => zr (zg [] 1 [0,1,2] (zd (hK1 _ _ (zq fun K2 hK2 => ?_)))))
 have hJ1 : ∀ (x1 : Bool), value_within_j1 x1 = some r → ∀ fr1 st1, Sub 15 0 [] fr1 st1 [(6, vb x1)] [] → K2 fr1 st1 := by
  intro x1 h fr1 st1 hS
  unfold value_within_j1 at h
  refine hK2 _ _ (XW.sub hS ?_)
  refine ze ?_
  obtain rfl := Option.some.inj h
  exact zf [vb x1] (.one (.rfl _ rfl))
 rcases zW h with ⟨b3, h⟩ | ⟨b3, h⟩
 ·exact zr (zg [] 4 [0,2,10] (zt 10 b3 (zv [] 5 [6] [] [(6, vb (decide (p1 ≤ p3)))] [] (zd (hJ1 (decide (p1 ≤ p3)) h _ _ (zk [6]))))))
 ·exact zr (zg [] 4 [0,2,10] (zt 10 b3 (zg [] 5 [6] (zd (hJ1 false h _ _ (zk [6]))))))

def value_text_j2 (rec1 : Nat → Option Bool) (p1 : ByteArray) (z1 : Nat) (x2 : Bool) : Option Bool :=
    ift x2
      (some false)
      (rec1 (z1 + (Utf8.decode p1 z1).2))

def value_text_j3 : Option Bool :=
    some true

def value_text_l1 (p1 : ByteArray) : Nat → Nat → Option Bool
  | 0, _ => none
  | k1 + 1, z1 =>
    ift (decide (z1 < p1.size))
      (ift (decide (Int.ofNat (Utf8.decode p1 z1).1 < (32 : Int)))
         (value_text_j2 (value_text_l1 p1 k1) p1 z1 true)
         (value_text_j2 (value_text_l1 p1 k1) p1 z1 (Int.ofNat (Utf8.decode p1 z1).1 == (127 : Int))))
      (value_text_j3)

def value_text_j1 (p1 : ByteArray) (x1 : Bool) : Option Bool :=
    ift x1
      (some false)
      (value_text_l1 p1 BIG 0)

def value_text (p1 : ByteArray) : Option Bool :=
    ift (decide ((256 : Int) < (p1.size : Int)))
      (value_text_j1 p1 true)
      (bnd (utf8_ValidString p1) fun r1 =>
       value_text_j1 p1 (!r1))

abbrev qa1083 (p1 : ByteArray) (z1 : Nat) : St := [.raw (.stringIter p1 (z1 + (Utf8.decode p1 z1).2))]

theorem c_value_text (p1 : ByteArray) (r : Bool) (h : value_text p1 = some r) : PC Tryd.prog 101 [vs p1] (vb r) := by
 unfold value_text at h
 refine zF 24 Tryd.f101 (zq fun K1 hK1 => zr (zg [] 1 [0] (zd (hK1 _ _ (zq fun K2 hK2 => zq fun K3 hK3 => ?_)))))
 have hJ1 : ∀ (x1 : Bool), value_text_j1 p1 x1 = some r → ∀ fr1 st1, Sub 24 0 [] fr1 st1 [(0, vs p1), (12, vb x1)] [] → K3 fr1 st1 := by
  intro x1 h fr1 st1 hS
  unfold value_text_j1 at h
  refine hK3 _ _ (XW.sub hS ?_)
  refine zC h (fun b6 h => ?_) (fun b6 h => ?_)
  ·refine zq fun K7 hK7 => zr (zg [] 1 [2] (zd (hK7 _ _ (ze ?_))))
   obtain rfl := Option.some.inj h
   exact zf [vb false] (.one (.rfl _ rfl))
  ·refine zs (hK2 _ _ (zq fun K8 hK8 => ?_))
   have hJ3 : ∀ (_ : Unit), value_text_j3 = some r → ∀ fr1 st1, Sub 24 0 [] fr1 st1 [] [] → K8 fr1 st1 := by
    intro _ h fr1 st1 hS
    unfold value_text_j3 at h
    refine hK8 _ _ (XW.sub hS ?_)
    refine zq fun K19 hK19 => zr (zg [] 1 [2] (zd (hK19 _ _ (ze ?_))))
    obtain rfl := Option.some.inj h
    exact zf [vb true] (.one (.rfl _ rfl))
   refine zq fun K9 hK9 => zr (zv [] 1 [13] [] [(13, vs p1)] [] (XO.rng p1 [(14, .one (.pt 0 0 0 0)), (13, vs p1)] [.raw (.stringIter p1 0)] (by kernel_rfl) (by kernel_rfl) (by kernel_rfl) (zd (hK9 _ _ (zb 0 (XW.rounds' BIG (x := cd Tryd.f101 [1,1,0,1,0,0]) (by kernel_rfl) fun Q1 hQ1 => ?_))))))
   have hL1 : ∀ (k1 : Nat) (z1 : Nat), value_text_l1 p1 k1 z1 = some r → XR Tryd.prog 24 0 [] (cd Tryd.f101 [1,1,0,1,0,0]) Q1 k1 [(14, .one (.pt 0 0 0 0))] [.raw (.stringIter p1 z1)] := by
    intro k1
    induction k1 with
    | zero => intro z1 h; rw [value_text_l1.eq_1] at h; cases h
    | succ k1 ih1 =>
     intro z1 h
     rw [value_text_l1.eq_2] at h
     refine zq fun K10 hK10 => ?_
     rcases zW h with ⟨b11, h⟩ | ⟨b11, h⟩
     ·refine zr (XO.nxt 0 p1 z1 [(15, .tp [vb true, vi (Int.ofNat z1), vk .i32 (Int.ofNat (Utf8.decode p1 z1).1)]), (14, .one (.pt 0 0 0 0))] (qa1083 p1 z1) (by kernel_rfl) (by kernel_rfl) (by kernel_rfl) (by kernel_rfl) b11 (zg [] 1 [14,15,16] (zd (hK10 _ _ (zq fun K12 hK12 => zc true (fun _ => ?_) (fun hx => by cases hx))))))
      refine zs (hK12 _ _ (zb 1 (zq fun K13 hK13 => zr (zg [] 2 [4,14] (zd (hK13 _ _ ?_))))))
      refine zq fun K14 hK14 => ?_
      have hJ2 : ∀ (x2 : Bool), value_text_j2 (value_text_l1 p1 k1) p1 z1 x2 = some r → ∀ fr1 st1, Sub 24 0 [] fr1 st1 [(14, .one (.pt 0 0 0 0)), (23, vb x2)] (qa1083 p1 z1) → K14 fr1 st1 := by
       intro x2 h fr1 st1 hS
       unfold value_text_j2 at h
       refine hK14 _ _ (XW.sub hS ?_)
       refine zC h (fun b16 h => ?_) (fun b16 h => ?_)
       ·refine zq fun K17 hK17 => zr (zg [] 1 [2] (zd (hK17 _ _ (ze (hQ1 _ _ _ ?_)))))
        obtain rfl := Option.some.inj h
        exact zf [vb false] (.one (.rfl _ rfl))
       ·exact zs (XR.sub (zk [14]) (ih1 (z1 + (Utf8.decode p1 z1).2) h))
      rcases zW h with ⟨b15, h⟩ | ⟨b15, h⟩
      ·exact zr (zv [] 3 [4,14,20] [] [(4, vk .i32 (Int.ofNat (Utf8.decode p1 z1).1)), (14, .one (.pt 0 0 0 0)), (20, vb (decide (Int.ofNat (Utf8.decode p1 z1).1 < (32 : Int))))] (qa1083 p1 z1) (zt 20 b15 (zg [] 3 [14,23] (zd (hJ2 true h _ _ (zk [14,23]))))))
      ·exact zr (zg [] 3 [4,14,20] (zt 20 b15 (zv [] 3 [14,23] [] [(14, .one (.pt 0 0 0 0)), (23, vb (Int.ofNat (Utf8.decode p1 z1).1 == (127 : Int)))] (qa1083 p1 z1) (zd (hJ2 (Int.ofNat (Utf8.decode p1 z1).1 == (127 : Int)) h _ _ (zk [14,23]))))))
     ·refine zr (XO.nxtE 0 p1 z1 [(15, .tp [vb false]), (14, .one (.pt 0 0 0 0))] (by kernel_rfl) (by kernel_rfl) (by kernel_rfl) b11 (zv [] 1 [14,15,16] [] [(14, .one (.pt 0 0 0 0)), (15, .tp [vb false]), (16, vb false)] [.raw (.stringIter p1 z1)] (zd (hK10 _ _ (zq fun K18 hK18 => zc false (fun hx => by cases hx) (fun _ => ?_))))))
      exact zx 0 (hQ1 _ _ _ (hJ3 () h _ _ (Sub.trans (Sub.pick (fr' := []) [] (by kernel_rfl)) (Sub.take (fr' := []) 0 (Nat.zero_le _) (by kernel_rfl) (by kernel_rfl)))))
   exact XR.sub (zk [14]) (hL1 BIG 0 h)
 rcases zW h with ⟨b4, h⟩ | ⟨b4, h⟩
 ·exact zr (zg [] 4 [0,8] (zt 8 b4 (zv [] 4 [0,12] [] [(0, vs p1), (12, vb true)] [] (zd (hJ1 true h _ _ (zk [0,12]))))))
 ·obtain ⟨r1, c5, h⟩ := zB h
  exact zr (zg [] 4 [0,8] (zt 8 b4 (zg [] 1 [0,8,9] (zl 110 [vs p1] (vb r1) [(10, vb r1), (0, vs p1), (8, vb false), (9, vs p1)] (c_utf8_ValidString _ _ c5) (zg [] 2 [0,12] (zd (hJ1 (!r1) h _ _ (zk [0,12]))))))))

def value_plain_j2 (x2 : Bool) : Option Bool :=
    some x2

def value_plain_j3 (x3 : Bool) : Option Bool :=
    some x3

def value_plain_j4 (x4 : Bool) : Option Bool :=
    some x4

def value_plain_j5 (x5 : Bool) : Option Bool :=
    some x5

def value_plain_j6 (x6 : Bool) : Option Bool :=
    some x6

def value_plain_j7 (x7 : Bool) : Option Bool :=
    some x7

def value_plain_j8 (x8 : Bool) : Option Bool :=
    some x8

def value_plain_j9 (x9 : Bool) : Option Bool :=
    some x9

def value_plain_j1 (p1 : GValue) (x1 : Bool) : Option Bool :=
    ift (p1.kind == (0 : Int))
      (ift x1
         (ift (p1.s.toList == (ByteArray.mk #[]).toList)
            (value_plain_j2 ((p1.items.length : Int) == (0 : Int)))
            (value_plain_j2 false))
         (value_plain_j2 false))
      (ift (p1.kind == (1 : Int))
         (bnd (value_within p1.n (0 : Int) (1 : Int)) fun r1 =>
          ift r1
            (ift (p1.scale == (0 : Int))
               (ift (p1.s.toList == (ByteArray.mk #[]).toList)
                  (value_plain_j3 ((p1.items.length : Int) == (0 : Int)))
                  (value_plain_j3 false))
               (value_plain_j3 false))
            (value_plain_j3 false))
         (ift (p1.kind == (2 : Int))
            (bnd (value_within p1.n (-999999999999999999 : Int) (999999999999999999 : Int)) fun r2 =>
             ift r2
               (ift (p1.scale == (0 : Int))
                  (ift (p1.s.toList == (ByteArray.mk #[]).toList)
                     (value_plain_j4 ((p1.items.length : Int) == (0 : Int)))
                     (value_plain_j4 false))
                  (value_plain_j4 false))
               (value_plain_j4 false))
            (ift (p1.kind == (3 : Int))
               (bnd (value_within p1.n (-999999999999999999 : Int) (999999999999999999 : Int)) fun r3 =>
                ift r3
                  (bnd (value_within p1.scale (0 : Int) (12 : Int)) fun r4 =>
                   ift r4
                     (ift (p1.s.toList == (ByteArray.mk #[]).toList)
                        (value_plain_j5 ((p1.items.length : Int) == (0 : Int)))
                        (value_plain_j5 false))
                     (value_plain_j5 false))
                  (value_plain_j5 false))
               (ift (p1.kind == (4 : Int))
                  (ift x1
                     (bnd (value_text p1.s) fun r5 =>
                      ift r5
                        (value_plain_j6 ((p1.items.length : Int) == (0 : Int)))
                        (value_plain_j6 false))
                     (value_plain_j6 false))
                  (ift (p1.kind == (5 : Int))
                     (bnd (value_within p1.n (-62135596800 : Int) (253402300799 : Int)) fun r6 =>
                      ift r6
                        (ift (p1.scale == (0 : Int))
                           (ift (p1.s.toList == (ByteArray.mk #[]).toList)
                              (value_plain_j7 ((p1.items.length : Int) == (0 : Int)))
                              (value_plain_j7 false))
                           (value_plain_j7 false))
                        (value_plain_j7 false))
                     (ift (p1.kind == (6 : Int))
                        (ift x1
                           (ift (p1.s.toList == (ByteArray.mk #[]).toList)
                              (value_plain_j8 (decide ((p1.items.length : Int) ≤ (64 : Int))))
                              (value_plain_j8 false))
                           (value_plain_j8 false))
                        (ift (p1.kind == (7 : Int))
                           (ift x1
                              (ift (p1.s.toList == (ByteArray.mk #[]).toList)
                                 (value_plain_j9 (decide ((0 : Int) < (p1.items.length : Int))))
                                 (value_plain_j9 false))
                              (value_plain_j9 false))
                           (some false))))))))

def value_plain (p1 : GValue) : Option Bool :=
    ift (p1.n == (0 : Int))
      (value_plain_j1 p1 (p1.scale == (0 : Int)))
      (value_plain_j1 p1 false)

abbrev qa1092 (p1 : GValue) : List PV := [pi p1.kind, pi p1.n, pi p1.scale, .s (.string p1.s), .ro (eValue.els p1.items)]
abbrev qa1109 (p1 : GValue) (r2 : Bool) : Fr := [(53, vb r2), (1, .one (.pv (.rp [(qa1092 p1)] 0 0))), (52, vi p1.n)]
abbrev qa1111 (p1 : GValue) : Fr := [(1, .one (.pv (.rp [(qa1092 p1)] 0 0))), (73, vi p1.n)]
abbrev qa1117 (p1 : GValue) (r6 : Bool) : Fr := [(109, vb r6), (1, .one (.pv (.rp [(qa1092 p1)] 0 0))), (108, vi p1.n)]

theorem c_value_plain (p1 : GValue) (r : Bool) (h : value_plain p1 = some r) : PC Tryd.prog 83 [.ag [ci p1.kind, ci p1.n, ci p1.scale, cst p1.s, cl eValue p1.items]] (vb r) := by
 unfold value_plain at h
 refine zF 154 Tryd.f83 (zq fun K1 hK1 => zr (zg [] 2 [1] (zd (hK1 _ _ (zq fun K2 hK2 => ?_)))))
 have hJ1 : ∀ (x1 : Bool), value_plain_j1 p1 x1 = some r → ∀ fr1 st1, Sub 154 0 [] fr1 st1 [(1, .one (.pv (.rp [(qa1092 p1)] 0 0))), (3, vb x1)] [] → K2 fr1 st1 := by
  intro x1 h fr1 st1 hS
  unfold value_plain_j1 at h
  refine hK2 _ _ (XW.sub hS ?_)
  refine zq fun K4 hK4 => zq fun K5 hK5 => zr (zu [] 2 [1,3,13] [(qa1092 p1)] (zd (hK5 _ _ (zb 0 (zq fun K6 hK6 => ?_)))))
  refine zr (zg [] 2 [1,3,13,14] (zd (hK6 _ _ (zC h (fun b7 h => ?_) (fun b7 h => ?_)))))
  ·refine zq fun K8 hK8 => ?_
   have hJ2 : ∀ (x2 : Bool), value_plain_j2 x2 = some r → ∀ fr1 st1, Sub 154 0 [] fr1 st1 [(2, vb x2)] [] → K8 fr1 st1 := by
    intro x2 h fr1 st1 hS
    unfold value_plain_j2 at h
    refine hK8 _ _ (XW.sub hS ?_)
    refine ze ?_
    obtain rfl := Option.some.inj h
    exact zf [vb x2] (.one (.rfl _ rfl))
   rcases zW h with ⟨b9, h⟩ | ⟨b9, h⟩
   ·rcases zW h with ⟨b10, h⟩ | ⟨b10, h⟩
    ·refine zr (zv [] 2 [1,17] [] [(1, .one (.pv (.rp [[pi p1.kind, pi p1.n, pi p1.scale, .s (.string p1.s), .ro (eValue.els p1.items)]] 0 0))), (17, vb x1)] [] (zt 17 b9 (zu [] 5 [1,22] [[pi p1.kind, pi p1.n, pi p1.scale, .s (.string p1.s), .ro (eValue.els p1.items)]] (zt 22 b10 (zv [] 3 [22,25] [[pi p1.kind, pi p1.n, pi p1.scale, .s (.string p1.s), .ro (eValue.els p1.items)]] [(22, vb true), (25, vi ((eValue.els p1.items).length : Int))] [] ?_)))))
     rw [eValue.len p1.items]
     exact zg [] 3 [2] (zd (hJ2 ((p1.items.length : Int) == (0 : Int)) h _ _ (zk [2])))
    ·exact zr (zg [] 2 [1,17] (zt 17 b9 (zv [] 5 [1,22] [(qa1092 p1)] [(1, .one (.pv (.rp [(qa1092 p1)] 0 0))), (22, vb (p1.s.toList == (ByteArray.mk #[]).toList))] [] (zt 22 b10 (zg [] 6 [2] (zd (hJ2 false h _ _ (zk [2]))))))))
   ·exact zr (zv [] 2 [1,17] [] [(1, .one (.pv (.rp [(qa1092 p1)] 0 0))), (17, vb x1)] [] (zt 17 b9 (zg [] 11 [2] (zd (hJ2 false h _ _ (zk [2]))))))
  ·refine zq fun K11 hK11 => zr (zv [] 2 [1,3,13,28] [] [(1, .one (.pv (.rp [(qa1092 p1)] 0 0))), (3, vb x1), (13, vi p1.kind), (28, vb (p1.kind == (1 : Int)))] [] (zd (hK11 _ _ (zC h (fun b12 h => ?_) (fun b12 h => ?_)))))
   ·refine zq fun K13 hK13 => ?_
    have hJ3 : ∀ (x3 : Bool), value_plain_j3 x3 = some r → ∀ fr1 st1, Sub 154 0 [] fr1 st1 [(2, vb x3)] [] → K13 fr1 st1 := by
     intro x3 h fr1 st1 hS
     unfold value_plain_j3 at h
     refine hK13 _ _ (XW.sub hS ?_)
     refine ze ?_
     obtain rfl := Option.some.inj h
     exact zf [vb x3] (.one (.rfl _ rfl))
    obtain ⟨r1, c14, h⟩ := zB h
    rcases zW h with ⟨b15, h⟩ | ⟨b15, h⟩
    ·rcases zW h with ⟨b16, h⟩ | ⟨b16, h⟩
     ·rcases zW h with ⟨b17, h⟩ | ⟨b17, h⟩
      ·refine zr (zu [] 2 [1,31] [(qa1092 p1)] (za (c_value_within _ _ _ _ c14) (zv [] 1 [1,33] [] [(1, .one (.pv (.rp [(qa1092 p1)] 0 0))), (33, vb r1)] [] (zt 33 b15 (zu [] 5 [1,38] [(qa1092 p1)] (zt 38 b16 (zu [] 5 [1,43] [(qa1092 p1)] ?_)))))))
       refine zt 43 b17 (zv [] 3 [43,46] [[pi p1.kind, pi p1.n, pi p1.scale, .s (.string p1.s), .ro (eValue.els p1.items)]] [(43, vb true), (46, vi ((eValue.els p1.items).length : Int))] [] ?_)
       rw [eValue.len p1.items]
       exact zg [] 3 [2] (zd (hJ3 ((p1.items.length : Int) == (0 : Int)) h _ _ (zk [2])))
      ·refine zr (zu [] 2 [1,31] [(qa1092 p1)] (zl 86 [vi p1.n, vi (0 : Int), vi (1 : Int)] (vb r1) [(32, vb r1), (1, .one (.pv (.rp [(qa1092 p1)] 0 0))), (31, vi p1.n)] (c_value_within _ _ _ _ c14) (zg [] 1 [1,33] (zt 33 b15 (zu [] 5 [1,38] [(qa1092 p1)] (zt 38 b16 ?_))))))
       exact zv [] 5 [1,43] [(qa1092 p1)] [(1, .one (.pv (.rp [(qa1092 p1)] 0 0))), (43, vb (p1.s.toList == (ByteArray.mk #[]).toList))] [] (zt 43 b17 (zg [] 6 [2] (zd (hJ3 false h _ _ (zk [2])))))
     ·refine zr (zu [] 2 [1,31] [(qa1092 p1)] (za (c_value_within _ _ _ _ c14) (zv [] 1 [1,33] [] [(1, .one (.pv (.rp [(qa1092 p1)] 0 0))), (33, vb r1)] [] (zt 33 b15 (zu [] 5 [1,38] [(qa1092 p1)] (zt 38 b16 (zg [] 11 [2] ?_)))))))
      exact zd (hJ3 false h _ _ (zk [2]))
    ·exact zr (zu [] 2 [1,31] [(qa1092 p1)] (za (c_value_within _ _ _ _ c14) (zv [] 1 [1,33] [] [(1, .one (.pv (.rp [(qa1092 p1)] 0 0))), (33, vb r1)] [] (zt 33 b15 (zg [] 16 [2] (zd (hJ3 false h _ _ (zk [2]))))))))
   ·refine zq fun K18 hK18 => zr (zg [] 2 [1,3,13,49] (zd (hK18 _ _ (zC h (fun b19 h => ?_) (fun b19 h => ?_)))))
    ·refine zq fun K20 hK20 => ?_
     have hJ4 : ∀ (x4 : Bool), value_plain_j4 x4 = some r → ∀ fr1 st1, Sub 154 0 [] fr1 st1 [(2, vb x4)] [] → K20 fr1 st1 := by
      intro x4 h fr1 st1 hS
      unfold value_plain_j4 at h
      refine hK20 _ _ (XW.sub hS ?_)
      refine ze ?_
      obtain rfl := Option.some.inj h
      exact zf [vb x4] (.one (.rfl _ rfl))
     obtain ⟨r2, c21, h⟩ := zB h
     rcases zW h with ⟨b22, h⟩ | ⟨b22, h⟩
     ·rcases zW h with ⟨b23, h⟩ | ⟨b23, h⟩
      ·rcases zW h with ⟨b24, h⟩ | ⟨b24, h⟩
       ·refine zr (zu [] 2 [1,52] [(qa1092 p1)] (zl 86 [vi p1.n, vi (-999999999999999999 : Int), vi (999999999999999999 : Int)] (vb r2) (qa1109 p1 r2) (c_value_within _ _ _ _ c21) (zg [] 1 [1,54] (zt 54 b22 (zu [] 5 [1,59] [(qa1092 p1)] (zt 59 b23 ?_))))))
        refine zv [] 5 [1,64] [[pi p1.kind, pi p1.n, pi p1.scale, .s (.string p1.s), .ro (eValue.els p1.items)]] [(1, .one (.pv (.rp [[pi p1.kind, pi p1.n, pi p1.scale, .s (.string p1.s), .ro (eValue.els p1.items)]] 0 0))), (64, vb (p1.s.toList == (ByteArray.mk #[]).toList))] [] (zt 64 b24 (zv [] 3 [64,67] [[pi p1.kind, pi p1.n, pi p1.scale, .s (.string p1.s), .ro (eValue.els p1.items)]] [(64, vb true), (67, vi ((eValue.els p1.items).length : Int))] [] ?_))
        rw [eValue.len p1.items]
        exact zg [] 3 [2] (zd (hJ4 ((p1.items.length : Int) == (0 : Int)) h _ _ (zk [2])))
       ·refine zr (zu [] 2 [1,52] [(qa1092 p1)] (zl 86 [vi p1.n, vi (-999999999999999999 : Int), vi (999999999999999999 : Int)] (vb r2) (qa1109 p1 r2) (c_value_within _ _ _ _ c21) (zg [] 1 [1,54] (zt 54 b22 (zu [] 5 [1,59] [(qa1092 p1)] (zt 59 b23 ?_))))))
        exact zv [] 5 [1,64] [(qa1092 p1)] [(1, .one (.pv (.rp [(qa1092 p1)] 0 0))), (64, vb (p1.s.toList == (ByteArray.mk #[]).toList))] [] (zt 64 b24 (zg [] 6 [2] (zd (hJ4 false h _ _ (zk [2])))))
      ·refine zr (zu [] 2 [1,52] [(qa1092 p1)] (zl 86 [vi p1.n, vi (-999999999999999999 : Int), vi (999999999999999999 : Int)] (vb r2) (qa1109 p1 r2) (c_value_within _ _ _ _ c21) (zg [] 1 [1,54] (zt 54 b22 (zu [] 5 [1,59] [(qa1092 p1)] (zt 59 b23 (zv [] 11 [2] [] [(2, vb false)] [] ?_)))))))
       exact zd (hJ4 false h _ _ (zk [2]))
     ·exact zr (zu [] 2 [1,52] [(qa1092 p1)] (zl 86 [vi p1.n, vi (-999999999999999999 : Int), vi (999999999999999999 : Int)] (vb r2) (qa1109 p1 r2) (c_value_within _ _ _ _ c21) (zg [] 1 [1,54] (zt 54 b22 (zg [] 16 [2] (zd (hJ4 false h _ _ (zk [2]))))))))
    ·refine zq fun K25 hK25 => zr (zg [] 2 [1,3,13,70] (zd (hK25 _ _ (zC h (fun b26 h => ?_) (fun b26 h => ?_)))))
     ·refine zq fun K27 hK27 => ?_
      have hJ5 : ∀ (x5 : Bool), value_plain_j5 x5 = some r → ∀ fr1 st1, Sub 154 0 [] fr1 st1 [(2, vb x5)] [] → K27 fr1 st1 := by
       intro x5 h fr1 st1 hS
       unfold value_plain_j5 at h
       refine hK27 _ _ (XW.sub hS ?_)
       refine ze ?_
       obtain rfl := Option.some.inj h
       exact zf [vb x5] (.one (.rfl _ rfl))
      obtain ⟨r3, c28, h⟩ := zB h
      rcases zW h with ⟨b29, h⟩ | ⟨b29, h⟩
      ·obtain ⟨r4, c30, h⟩ := zB h
       rcases zW h with ⟨b31, h⟩ | ⟨b31, h⟩
       ·rcases zW h with ⟨b32, h⟩ | ⟨b32, h⟩
        ·refine zr (zv [] 2 [1,73] [(qa1092 p1)] (qa1111 p1) [] (za (c_value_within _ _ _ _ c28) (zg [] 1 [1,75] (zt 75 b29 (zv [] 2 [1,75,77] [(qa1092 p1)] [(1, .one (.pv (.rp [(qa1092 p1)] 0 0))), (75, vb true), (77, vi p1.scale)] [] (za (c_value_within _ _ _ _ c30) ?_))))))
         refine zg [] 2 [1,80] (zt 80 b31 (zv [] 5 [1,85] [[pi p1.kind, pi p1.n, pi p1.scale, .s (.string p1.s), .ro (eValue.els p1.items)]] [(1, .one (.pv (.rp [[pi p1.kind, pi p1.n, pi p1.scale, .s (.string p1.s), .ro (eValue.els p1.items)]] 0 0))), (85, vb (p1.s.toList == (ByteArray.mk #[]).toList))] [] (zt 85 b32 (zv [] 3 [85,88] [[pi p1.kind, pi p1.n, pi p1.scale, .s (.string p1.s), .ro (eValue.els p1.items)]] [(85, vb true), (88, vi ((eValue.els p1.items).length : Int))] [] ?_))))
         rw [eValue.len p1.items]
         exact zg [] 3 [2] (zd (hJ5 ((p1.items.length : Int) == (0 : Int)) h _ _ (zk [2])))
        ·refine zr (zu [] 2 [1,73] [(qa1092 p1)] (zl 86 [vi p1.n, vi (-999999999999999999 : Int), vi (999999999999999999 : Int)] (vb r3) [(74, vb r3), (1, .one (.pv (.rp [(qa1092 p1)] 0 0))), (73, vi p1.n)] (c_value_within _ _ _ _ c28) (zg [] 1 [1,75] (zt 75 b29 (zu [] 2 [1,75,77] [(qa1092 p1)] ?_)))))
         exact zl 86 [vi p1.scale, vi (0 : Int), vi (12 : Int)] (vb r4) [(78, vb r4), (1, .one (.pv (.rp [(qa1092 p1)] 0 0))), (75, vb true), (77, vi p1.scale)] (c_value_within _ _ _ _ c30) (zg [] 2 [1,80] (zt 80 b31 (zu [] 5 [1,85] [(qa1092 p1)] (zt 85 b32 (zv [] 6 [2] [] [(2, vb false)] [] (zd (hJ5 false h _ _ (zk [2]))))))))
       ·refine zr (zv [] 2 [1,73] [(qa1092 p1)] (qa1111 p1) [] (za (c_value_within _ _ _ _ c28) (zg [] 1 [1,75] (zt 75 b29 (zv [] 2 [1,75,77] [(qa1092 p1)] [(1, .one (.pv (.rp [(qa1092 p1)] 0 0))), (75, vb true), (77, vi p1.scale)] [] (za (c_value_within _ _ _ _ c30) ?_))))))
        exact zg [] 2 [1,80] (zt 80 b31 (zv [] 11 [2] [] [(2, vb false)] [] (zd (hJ5 false h _ _ (zk [2])))))
      ·exact zr (zv [] 2 [1,73] [(qa1092 p1)] (qa1111 p1) [] (za (c_value_within _ _ _ _ c28) (zg [] 1 [1,75] (zt 75 b29 (zv [] 16 [2] [] [(2, vb false)] [] (zd (hJ5 false h _ _ (zk [2]))))))))
     ·refine zq fun K33 hK33 => zr (zv [] 2 [1,3,13,91] [] [(1, .one (.pv (.rp [(qa1092 p1)] 0 0))), (3, vb x1), (13, vi p1.kind), (91, vb (p1.kind == (4 : Int)))] [] (zd (hK33 _ _ (zC h (fun b34 h => ?_) (fun b34 h => ?_)))))
      ·refine zq fun K35 hK35 => ?_
       have hJ6 : ∀ (x6 : Bool), value_plain_j6 x6 = some r → ∀ fr1 st1, Sub 154 0 [] fr1 st1 [(2, vb x6)] [] → K35 fr1 st1 := by
        intro x6 h fr1 st1 hS
        unfold value_plain_j6 at h
        refine hK35 _ _ (XW.sub hS ?_)
        refine ze ?_
        obtain rfl := Option.some.inj h
        exact zf [vb x6] (.one (.rfl _ rfl))
       rcases zW h with ⟨b36, h⟩ | ⟨b36, h⟩
       ·obtain ⟨r5, c37, h⟩ := zB h
        rcases zW h with ⟨b38, h⟩ | ⟨b38, h⟩
        ·refine zr (zg [] 2 [1,94] (zt 94 b36 (zu [] 2 [1,94,96] [[pi p1.kind, pi p1.n, pi p1.scale, .s (.string p1.s), .ro (eValue.els p1.items)]] (zl 101 [vs p1.s] (vb r5) [(97, vb r5), (1, .one (.pv (.rp [[pi p1.kind, pi p1.n, pi p1.scale, .s (.string p1.s), .ro (eValue.els p1.items)]] 0 0))), (94, vb true), (96, vs p1.s)] (c_value_text _ _ c37) (zg [] 2 [1,99] (zt 99 b38 (zv [] 3 [99,102] [[pi p1.kind, pi p1.n, pi p1.scale, .s (.string p1.s), .ro (eValue.els p1.items)]] [(99, vb true), (102, vi ((eValue.els p1.items).length : Int))] [] ?_)))))))
         rw [eValue.len p1.items]
         exact zg [] 3 [2] (zd (hJ6 ((p1.items.length : Int) == (0 : Int)) h _ _ (zk [2])))
        ·refine zr (zg [] 2 [1,94] (zt 94 b36 (zv [] 2 [1,94,96] [(qa1092 p1)] [(1, .one (.pv (.rp [(qa1092 p1)] 0 0))), (94, vb true), (96, vs p1.s)] [] (za (c_value_text _ _ c37) (zg [] 2 [1,99] (zt 99 b38 (zv [] 6 [2] [] [(2, vb false)] [] ?_)))))))
         exact zd (hJ6 false h _ _ (zk [2]))
       ·exact zr (zg [] 2 [1,94] (zt 94 b36 (zg [] 11 [2] (zd (hJ6 false h _ _ (zk [2]))))))
      ·refine zq fun K39 hK39 => zr (zg [] 2 [1,3,13,105] (zd (hK39 _ _ (zC h (fun b40 h => ?_) (fun b40 h => ?_)))))
       ·refine zq fun K41 hK41 => ?_
        have hJ7 : ∀ (x7 : Bool), value_plain_j7 x7 = some r → ∀ fr1 st1, Sub 154 0 [] fr1 st1 [(2, vb x7)] [] → K41 fr1 st1 := by
         intro x7 h fr1 st1 hS
         unfold value_plain_j7 at h
         refine hK41 _ _ (XW.sub hS ?_)
         refine ze ?_
         obtain rfl := Option.some.inj h
         exact zf [vb x7] (.one (.rfl _ rfl))
        obtain ⟨r6, c42, h⟩ := zB h
        rcases zW h with ⟨b43, h⟩ | ⟨b43, h⟩
        ·rcases zW h with ⟨b44, h⟩ | ⟨b44, h⟩
         ·rcases zW h with ⟨b45, h⟩ | ⟨b45, h⟩
          ·refine zr (zu [] 2 [1,108] [(qa1092 p1)] (zl 86 [vi p1.n, vi (-62135596800 : Int), vi (253402300799 : Int)] (vb r6) (qa1117 p1 r6) (c_value_within _ _ _ _ c42) (zg [] 1 [1,110] (zt 110 b43 (zu [] 5 [1,115] [(qa1092 p1)] (zt 115 b44 ?_))))))
           refine zv [] 5 [1,120] [[pi p1.kind, pi p1.n, pi p1.scale, .s (.string p1.s), .ro (eValue.els p1.items)]] [(1, .one (.pv (.rp [[pi p1.kind, pi p1.n, pi p1.scale, .s (.string p1.s), .ro (eValue.els p1.items)]] 0 0))), (120, vb (p1.s.toList == (ByteArray.mk #[]).toList))] [] (zt 120 b45 (zv [] 3 [120,123] [[pi p1.kind, pi p1.n, pi p1.scale, .s (.string p1.s), .ro (eValue.els p1.items)]] [(120, vb true), (123, vi ((eValue.els p1.items).length : Int))] [] ?_))
           rw [eValue.len p1.items]
           exact zg [] 3 [2] (zd (hJ7 ((p1.items.length : Int) == (0 : Int)) h _ _ (zk [2])))
          ·refine zr (zu [] 2 [1,108] [(qa1092 p1)] (zl 86 [vi p1.n, vi (-62135596800 : Int), vi (253402300799 : Int)] (vb r6) (qa1117 p1 r6) (c_value_within _ _ _ _ c42) (zg [] 1 [1,110] (zt 110 b43 (zu [] 5 [1,115] [(qa1092 p1)] (zt 115 b44 ?_))))))
           exact zv [] 5 [1,120] [(qa1092 p1)] [(1, .one (.pv (.rp [(qa1092 p1)] 0 0))), (120, vb (p1.s.toList == (ByteArray.mk #[]).toList))] [] (zt 120 b45 (zg [] 6 [2] (zd (hJ7 false h _ _ (zk [2])))))
         ·refine zr (zu [] 2 [1,108] [(qa1092 p1)] (zl 86 [vi p1.n, vi (-62135596800 : Int), vi (253402300799 : Int)] (vb r6) (qa1117 p1 r6) (c_value_within _ _ _ _ c42) (zg [] 1 [1,110] (zt 110 b43 (zu [] 5 [1,115] [(qa1092 p1)] (zt 115 b44 (zv [] 11 [2] [] [(2, vb false)] [] ?_)))))))
          exact zd (hJ7 false h _ _ (zk [2]))
        ·exact zr (zu [] 2 [1,108] [(qa1092 p1)] (zl 86 [vi p1.n, vi (-62135596800 : Int), vi (253402300799 : Int)] (vb r6) (qa1117 p1 r6) (c_value_within _ _ _ _ c42) (zg [] 1 [1,110] (zt 110 b43 (zg [] 16 [2] (zd (hJ7 false h _ _ (zk [2]))))))))
       ·refine zq fun K46 hK46 => zr (zg [] 2 [1,3,13,126] (zd (hK46 _ _ (zC h (fun b47 h => ?_) (fun b47 h => ?_)))))
        ·refine zq fun K48 hK48 => ?_
         have hJ8 : ∀ (x8 : Bool), value_plain_j8 x8 = some r → ∀ fr1 st1, Sub 154 0 [] fr1 st1 [(2, vb x8)] [] → K48 fr1 st1 := by
          intro x8 h fr1 st1 hS
          unfold value_plain_j8 at h
          refine hK48 _ _ (XW.sub hS ?_)
          refine ze ?_
          obtain rfl := Option.some.inj h
          exact zf [vb x8] (.one (.rfl _ rfl))
         rcases zW h with ⟨b49, h⟩ | ⟨b49, h⟩
         ·rcases zW h with ⟨b50, h⟩ | ⟨b50, h⟩
          ·refine zr (zv [] 2 [1,129] [] [(1, .one (.pv (.rp [[pi p1.kind, pi p1.n, pi p1.scale, .s (.string p1.s), .ro (eValue.els p1.items)]] 0 0))), (129, vb x1)] [] (zt 129 b49 (zu [] 5 [1,134] [[pi p1.kind, pi p1.n, pi p1.scale, .s (.string p1.s), .ro (eValue.els p1.items)]] (zt 134 b50 (zv [] 3 [134,137] [[pi p1.kind, pi p1.n, pi p1.scale, .s (.string p1.s), .ro (eValue.els p1.items)]] [(134, vb true), (137, vi ((eValue.els p1.items).length : Int))] [] ?_)))))
           rw [eValue.len p1.items]
           exact zg [] 3 [2] (zd (hJ8 (decide ((p1.items.length : Int) ≤ (64 : Int))) h _ _ (zk [2])))
          ·exact zr (zg [] 2 [1,129] (zt 129 b49 (zv [] 5 [1,134] [(qa1092 p1)] [(1, .one (.pv (.rp [(qa1092 p1)] 0 0))), (134, vb (p1.s.toList == (ByteArray.mk #[]).toList))] [] (zt 134 b50 (zg [] 6 [2] (zd (hJ8 false h _ _ (zk [2]))))))))
         ·exact zr (zv [] 2 [1,129] [] [(1, .one (.pv (.rp [(qa1092 p1)] 0 0))), (129, vb x1)] [] (zt 129 b49 (zg [] 11 [2] (zd (hJ8 false h _ _ (zk [2]))))))
        ·refine zq fun K51 hK51 => zr (zv [] 2 [1,3,140] [] [(1, .one (.pv (.rp [(qa1092 p1)] 0 0))), (3, vb x1), (140, vb (p1.kind == (7 : Int)))] [] (zd (hK51 _ _ (zC h (fun b52 h => ?_) (fun b52 h => ?_)))))
         ·refine zq fun K53 hK53 => ?_
          have hJ9 : ∀ (x9 : Bool), value_plain_j9 x9 = some r → ∀ fr1 st1, Sub 154 0 [] fr1 st1 [(2, vb x9)] [] → K53 fr1 st1 := by
           intro x9 h fr1 st1 hS
           unfold value_plain_j9 at h
           refine hK53 _ _ (XW.sub hS ?_)
           refine ze ?_
           obtain rfl := Option.some.inj h
           exact zf [vb x9] (.one (.rfl _ rfl))
          rcases zW h with ⟨b54, h⟩ | ⟨b54, h⟩
          ·rcases zW h with ⟨b55, h⟩ | ⟨b55, h⟩
           ·refine zr (zg [] 2 [1,143] (zt 143 b54 (zu [] 5 [1,148] [[pi p1.kind, pi p1.n, pi p1.scale, .s (.string p1.s), .ro (eValue.els p1.items)]] (zt 148 b55 (zv [] 3 [148,151] [[pi p1.kind, pi p1.n, pi p1.scale, .s (.string p1.s), .ro (eValue.els p1.items)]] [(148, vb true), (151, vi ((eValue.els p1.items).length : Int))] [] ?_)))))
            rw [eValue.len p1.items]
            exact zg [] 3 [2] (zd (hJ9 (decide ((0 : Int) < (p1.items.length : Int))) h _ _ (zk [2])))
           ·exact zr (zg [] 2 [1,143] (zt 143 b54 (zv [] 5 [1,148] [(qa1092 p1)] [(1, .one (.pv (.rp [(qa1092 p1)] 0 0))), (148, vb (p1.s.toList == (ByteArray.mk #[]).toList))] [] (zt 148 b55 (zg [] 6 [2] (zd (hJ9 false h _ _ (zk [2]))))))))
          ·exact zr (zg [] 2 [1,143] (zt 143 b54 (zg [] 11 [2] (zd (hJ9 false h _ _ (zk [2]))))))
         ·refine zs (hK4 _ _ (zq fun K56 hK56 => zr (zg [] 1 [2] (zd (hK56 _ _ (ze ?_))))))
          obtain rfl := Option.some.inj h
          exact zf [vb false] (.one (.rfl _ rfl))
 rcases zW h with ⟨b3, h⟩ | ⟨b3, h⟩
 ·exact zr (zu [] 4 [1,7] [(qa1092 p1)] (zt 7 b3 (zv [] 5 [1,3] [(qa1092 p1)] [(1, .one (.pv (.rp [(qa1092 p1)] 0 0))), (3, vb (p1.scale == (0 : Int)))] [] (zd (hJ1 (p1.scale == (0 : Int)) h _ _ (zk [1,3]))))))
 ·exact zr (zu [] 4 [1,7] [(qa1092 p1)] (zt 7 b3 (zg [] 5 [1,3] (zd (hJ1 false h _ _ (zk [1,3]))))))

def slices_IndexFunc_api_Value_api_Value_of_value_sound_1_j1 (z2 : Int) : Option (Int × Int) :=
    some ((-1 : Int), z2)

def slices_IndexFunc_api_Value_api_Value_of_value_sound_1_l1 (q_value_sound_1_s : GValue → Int → Int → Option (Bool × Int)) (p1 : (List GValue)) (p2 : Int) : Nat → Int → Int → Option (Int × Int)
  | 0, _, _ => none
  | k1 + 1, z1, x1 =>
    ift (decide (x1 < (p1.length : Int)))
      (bnd (at? p1 x1) fun e1 =>
       bnd (q_value_sound_1_s e1 p2 z1) fun r1 =>
       ift r1.1
         (some (x1, r1.2))
         ((slices_IndexFunc_api_Value_api_Value_of_value_sound_1_l1 q_value_sound_1_s p1 p2 k1) r1.2 (IntKind.i64.wrap (x1 + (1 : Int)))))
      (slices_IndexFunc_api_Value_api_Value_of_value_sound_1_j1 z1)

def value_sound_j2 (q_slices_ContainsFunc_api_Value_api_Value_of_value_sound_1 : (List GValue) → Int → Int → Option (Bool × Int)) (p1 : GValue) (p2 : Int) (z1 : Int) (x1 : Bool) : Option (Bool × Int) :=
    ift x1
      (some (false, z1))
      (bnd (q_slices_ContainsFunc_api_Value_api_Value_of_value_sound_1 p1.items p2 z1) fun r2 =>
       some ((!r2.1), r2.2))

def value_sound_j1 (q_slices_ContainsFunc_api_Value_api_Value_of_value_sound_1 : (List GValue) → Int → Int → Option (Bool × Int)) (p1 : GValue) (p2 : Int) (z1 : Int) : Option (Bool × Int) :=
    ift (decide ((4 : Int) < p2))
      (value_sound_j2 q_slices_ContainsFunc_api_Value_api_Value_of_value_sound_1 p1 p2 z1 true)
      (ift (decide ((256 : Int) < z1))
         (value_sound_j2 q_slices_ContainsFunc_api_Value_api_Value_of_value_sound_1 p1 p2 z1 true)
         (bnd (value_plain p1) fun r1 =>
          value_sound_j2 q_slices_ContainsFunc_api_Value_api_Value_of_value_sound_1 p1 p2 z1 (!r1)))

mutual

def slices_ContainsFunc_api_Value_api_Value_of_value_sound_1 : Nat → (List GValue) → Int → Int → Option (Bool × Int)
  | 0, _, _, _ => none
  | k0 + 1, p1, p2, p3 =>
    bnd ((slices_IndexFunc_api_Value_api_Value_of_value_sound_1 k0) p1 p2 p3) fun r1 =>
    some ((decide ((0 : Int) ≤ r1.1)), r1.2)

def slices_IndexFunc_api_Value_api_Value_of_value_sound_1 : Nat → (List GValue) → Int → Int → Option (Int × Int)
  | 0, _, _, _ => none
  | k0 + 1, p1, p2, p3 =>
    slices_IndexFunc_api_Value_api_Value_of_value_sound_1_l1 (value_sound_1_s k0) p1 p2 BIG p3 (0 : Int)

def value_sound : Nat → GValue → Int → Int → Option (Bool × Int)
  | 0, _, _, _ => none
  | k0 + 1, p1, p2, p3 =>
    ift (p1.kind != (0 : Int))
      (value_sound_j1 (slices_ContainsFunc_api_Value_api_Value_of_value_sound_1 k0) p1 p2 (IntKind.i64.wrap (p3 + (1 : Int))))
      (value_sound_j1 (slices_ContainsFunc_api_Value_api_Value_of_value_sound_1 k0) p1 p2 p3)

def value_sound_1_s : Nat → GValue → Int → Int → Option (Bool × Int)
  | 0, _, _, _ => none
  | k0 + 1, p1, p2, p3 =>
    bnd ((value_sound k0) p1 (IntKind.i64.wrap (p2 + (1 : Int))) p3) fun r1 =>
    some ((!r1.1), r1.2)

end

abbrev qa1136 : List CV := [.pt 1 0 0 0]
abbrev qa1143 (e1 : GValue) : List CV := [ci e1.kind, ci e1.n, ci e1.scale, cst e1.s, cl eValue e1.items]
abbrev qa1154 (p1 : GValue) : List CV := [ci p1.kind, ci p1.n, ci p1.scale, cst p1.s, cl eValue p1.items]
abbrev qa1157 (p1 : GValue) : List PV := [pi p1.kind, pi p1.n, pi p1.scale, .s (.string p1.s), .ro (eValue.els p1.items)]
abbrev qa1160 : List CV := [.pt 0 0 0 0]
abbrev qa1168 (p1 : GValue) (p2 : Int) : Fr := [(3, .one (.pv (.rp [(qa1157 p1)] 0 0))), (4, .one (.pv (.rp [[pi p2]] 0 0))), (5, .one (.pt 1 0 0 0))]
abbrev qa1169 (z1 : Int) : St := [.box [ci z1], .box qa1160]
abbrev qa1176 (p1 : GValue) (p2 : Int) : Fr := [(3, .one (.pv (.rp [(qa1157 p1)] 0 0))), (4, .one (.pv (.rp [[pi p2]] 0 0))), (5, .one (.pt 1 0 0 0)), (17, vb (decide ((4 : Int) < p2)))]
abbrev qa1179 (p1 : GValue) : List CV := [ci p1.kind, ci p1.n, ci p1.scale, cst p1.s, cl eValue p1.items]

mutual

theorem c_slices_ContainsFunc_api_Value_api_Value_of_value_sound_1 : ∀ (k0 : Nat) (p1 : (List GValue)) (p2 : Int) (p3 : Int) (r : (Bool × Int)), slices_ContainsFunc_api_Value_api_Value_of_value_sound_1 k0 p1 p2 p3 = some r → MC Tryd.prog 75 [vl eValue p1, .one (.fn 84 [.pv (.rp [[pi p2]] 0 0), .pt 0 0 0 0])] [.box [.pt 1 0 0 0], .box [ci p3]] (vb r.1) [.box [.pt 1 0 0 0], .box [ci r.2]]
 | 0, _, _, _, r, h => by rw [slices_ContainsFunc_api_Value_api_Value_of_value_sound_1.eq_1] at h; cases h
 | k0 + 1, p1, p2, p3, r, h => by
  rw [slices_ContainsFunc_api_Value_api_Value_of_value_sound_1.eq_2] at h
  refine MC.of 2 (n := 9) (fn := Tryd.f75) (c := cd Tryd.f75 []) (by kernel_rfl) (by kernel_rfl) (by kernel_rfl) (Nat.le_of_ble_eq_true rfl) rfl (zq fun K1 hK1 => zr (zg [] 1 [0,1] (zd (hK1 _ _ (zq fun K2 hK2 => ?_)))))
  obtain ⟨r1, c3, h⟩ := zB h
  refine zr (zv [] 2 [5,6] [] [(5, vl eValue p1), (6, .one (.fn 84 [.pv (.rp [[pi p2]] 0 0), .pt 0 0 0 0]))] [.box [.pt 1 0 0 0], .box [ci p3]] (XO.calm 100 [vl eValue p1, .one (.fn 84 [.pv (.rp [[pi p2]] 0 0), .pt 0 0 0 0])] [.box [.pt 1 0 0 0], .box [ci p3]] [.box [.pt 1 0 0 0], .box [ci r1.2]] (vi r1.1) [0, 1] [(7, vi r1.1), (5, vl eValue p1), (6, .one (.fn 84 [.pv (.rp [[pi p2]] 0 0), .pt 0 0 0 0]))] [.box [.pt 1 0 0 0], .box [ci r1.2]] (by kernel_rfl) (c_slices_IndexFunc_api_Value_api_Value_of_value_sound_1 k0 _ _ _ _ c3) (by kernel_rfl) (by kernel_rfl) (by kernel_rfl) (by kernel_rfl) ?_))
  refine zv [] 2 [4] [] [(4, vb (decide ((0 : Int) ≤ r1.1)))] [.box [.pt 1 0 0 0], .box [ci r1.2]] (zd (hK2 _ _ (ze ?_)))
  obtain rfl := Option.some.inj h
  exact FinM.fin (.inr rfl) [] [vb (decide ((0 : Int) ≤ r1.1))] [] (by kernel_rfl) trivial (by kernel_rfl) (by kernel_rfl) (.one (.rfl _ rfl))

theorem c_slices_IndexFunc_api_Value_api_Value_of_value_sound_1 : ∀ (k0 : Nat) (p1 : (List GValue)) (p2 : Int) (p3 : Int) (r : (Int × Int)), slices_IndexFunc_api_Value_api_Value_of_value_sound_1 k0 p1 p2 p3 = some r → MC Tryd.prog 100 [vl eValue p1, .one (.fn 84 [.pv (.rp [[pi p2]] 0 0), .pt 0 0 0 0])] [.box qa1136, .box [ci p3]] (vi r.1) [.box qa1136, .box [ci r.2]]
 | 0, _, _, _, r, h => by rw [slices_IndexFunc_api_Value_api_Value_of_value_sound_1.eq_1] at h; cases h
 | k0 + 1, p1, p2, p3, r, h => by
  rw [slices_IndexFunc_api_Value_api_Value_of_value_sound_1.eq_2] at h
  refine MC.of 2 (n := 19) (fn := Tryd.f100) (c := cd Tryd.f100 []) (by kernel_rfl) (by kernel_rfl) (by kernel_rfl) (Nat.le_of_ble_eq_true rfl) rfl (zq fun K1 hK1 => zr (zg [] 1 [0,1] (zd (hK1 _ _ (zq fun K2 hK2 => ?_)))))
  have hJ1 : ∀ (z2 : Int), slices_IndexFunc_api_Value_api_Value_of_value_sound_1_j1 z2 = some r → ∀ fr1 st1, Sub 19 2 [] fr1 st1 [] [.box qa1136, .box [ci z2]] → K2 fr1 st1 := by
   intro z2 h fr1 st1 hS
   unfold slices_IndexFunc_api_Value_api_Value_of_value_sound_1_j1 at h
   refine hK2 _ _ (XW.sub hS ?_)
   refine zq fun K14 hK14 => zr (zv [] 1 [4] [] [(4, vi (-1 : Int))] [.box qa1136, .box [ci z2]] (zd (hK14 _ _ (ze ?_))))
   obtain rfl := Option.some.inj h
   exact FinM.fin (.inr rfl) [] [vi (-1 : Int)] [] (by kernel_rfl) trivial (by kernel_rfl) (by kernel_rfl) (.one (.rfl _ rfl))
  refine zq fun K3 hK3 => zr (zv [] 2 [0,1,7] [] [(0, vl eValue p1), (1, .one (.fn 84 [.pv (.rp [[pi p2]] 0 0), .pt 0 0 0 0])), (7, vi ((eValue.els p1).length : Int))] [.box [.pt 1 0 0 0], .box [ci p3]] ?_)
  rw [eValue.len p1]
  refine zg [] 1 [0,1,7,8] (zd (hK3 _ _ (zb 0 (XW.rounds' BIG (x := cd Tryd.f100 [1,0,1,0,0]) (by kernel_rfl) fun Q1 hQ1 => ?_))))
  have hL1 : ∀ (k1 : Nat) (z1 : Int) (x1 : Int), slices_IndexFunc_api_Value_api_Value_of_value_sound_1_l1 (value_sound_1_s k0) p1 p2 k1 z1 x1 = some r → XR Tryd.prog 19 2 [] (cd Tryd.f100 [1,0,1,0,0]) Q1 k1 [(0, vl eValue p1), (1, .one (.fn 84 [.pv (.rp [[pi p2]] 0 0), .pt 0 0 0 0])), (7, vi (p1.length : Int)), (8, vi x1)] [.box qa1136, .box [ci z1]] := by
   intro k1
   induction k1 with
   | zero => intro z1 x1 h; rw [slices_IndexFunc_api_Value_api_Value_of_value_sound_1_l1.eq_1] at h; cases h
   | succ k1 ih1 =>
    intro z1 x1 h
    rw [slices_IndexFunc_api_Value_api_Value_of_value_sound_1_l1.eq_2] at h
    refine zq fun K4 hK4 => zr (zg [] 1 [0,1,7,8,9] (zd (hK4 _ _ (zq fun K5 hK5 => zC h (fun b6 h => ?_) (fun b6 h => ?_)))))
    ·refine zs (hK5 _ _ (zq fun K7 hK7 => zb 1 (zq fun K8 hK8 => zr (zg [] 2 [0,1,5,7,8] (zd ?_)))))
     refine hK8 _ _ (zq fun K9 hK9 => ?_)
     obtain ⟨e1, a10, h⟩ := zB h
     obtain ⟨r1, c11, h⟩ := zB h
     refine zr ?_
     refine zp [] 5 [0,1,5,7,8,11,15] [[pi e1.kind, pi e1.n, pi e1.scale, .s (.string e1.s), .ro (eValue.els e1.items)]] [(0, vl eValue p1), (1, .one (.fn 84 [.pv (.rp [[pi p2]] 0 0), .pt 0 0 0 0])), (5, vi x1), (7, vi (p1.length : Int)), (8, vi x1), (11, .one (.fn 84 [.pv (.rp [[pi p2]] 0 0), .pt 0 0 0 0])), (15, .ag (qa1143 e1))] [.box qa1136, .box [ci z1]] [0 ≤ x1 ∧ x1 < ((eValue.els p1).length : Int) ∧ elemsOk 5 (eValue.els p1), (eValue.els p1)[x1.toNat]? = some [pi e1.kind, pi e1.n, pi e1.scale, .s (.string e1.s), .ro (eValue.els e1.items)]] (⟨eValue.inb a10, ((eValue.get a10).trans (by cases e1; rfl)), trivial⟩) ?_
     refine XO.calm 84 [.ag (qa1143 e1), .one (.pv (.rp [[pi p2]] 0 0)), .one (.pt 0 0 0 0)] [.box qa1136, .box [ci z1]] [.box qa1136, .box [ci r1.2]] (vb r1.1) [0, 1] [(16, vb r1.1), (0, vl eValue p1), (1, .one (.fn 84 [.pv (.rp [[pi p2]] 0 0), .pt 0 0 0 0])), (5, vi x1), (7, vi (p1.length : Int)), (8, vi x1), (11, .one (.fn 84 [.pv (.rp [[pi p2]] 0 0), .pt 0 0 0 0])), (15, .ag (qa1143 e1))] [.box qa1136, .box [ci r1.2]] (by kernel_rfl) (c_value_sound_1_s k0 _ _ _ _ c11) (by kernel_rfl) (by kernel_rfl) (by kernel_rfl) (by kernel_rfl) ?_
     refine zd (hK9 _ _ (zC h (fun b12 h => ?_) (fun b12 h => ?_)))
     ·refine zq fun K13 hK13 => zr (zv [] 2 [4] [] [(4, vi x1)] [.box qa1136, .box [ci r1.2]] (zd (hK13 _ _ (ze (hQ1 _ _ _ ?_)))))
      obtain rfl := Option.some.inj h
      exact FinM.fin (.inr rfl) [] [vi x1] [] (by kernel_rfl) trivial (by kernel_rfl) (by kernel_rfl) (.one (.rfl _ rfl))
     ·exact zs (hK7 _ _ (zr (zg [] 2 [0,1,7,8] (zd (XR.sub (zk [0,1,7,8]) (ih1 r1.2 (IntKind.i64.wrap (x1 + (1 : Int))) h))))))
    ·exact zx 0 (hQ1 _ _ _ (hJ1 z1 h _ _ (zk [])))
  exact XR.sub (zk [0,1,7,8]) (hL1 BIG p3 (0 : Int) h)

theorem c_value_sound : ∀ (k0 : Nat) (p1 : GValue) (p2 : Int) (p3 : Int) (r : (Bool × Int)), value_sound k0 p1 p2 p3 = some r → MC Tryd.prog 62 [.ag (qa1154 p1), vi p2, .one (.pt 0 0 0 0)] [.box [ci p3]] (vb r.1) [.box [ci r.2]]
 | 0, _, _, _, r, h => by rw [value_sound.eq_1] at h; cases h
 | k0 + 1, p1, p2, p3, r, h => by
  rw [value_sound.eq_2] at h
  refine MC.of 1 (n := 33) (fn := Tryd.f62) (c := cd Tryd.f62 []) (by kernel_rfl) (by kernel_rfl) (by kernel_rfl) (Nat.le_of_ble_eq_true rfl) rfl (zq fun K1 hK1 => zr (zg [5] 4 [3,4,5] (zd (hK1 _ _ (zq fun K2 hK2 => ?_)))))
  have hJ1 : ∀ (z1 : Int), value_sound_j1 (slices_ContainsFunc_api_Value_api_Value_of_value_sound_1 k0) p1 p2 z1 = some r → ∀ fr1 st1, Sub 33 1 [] fr1 st1 (qa1168 p1 p2) (qa1169 z1) → K2 fr1 st1 := by
   intro z1 h fr1 st1 hS
   unfold value_sound_j1 at h
   refine hK2 _ _ (XW.sub hS ?_)
   refine zq fun K5 hK5 => zq fun K6 hK6 => ?_
   have hJ2 : ∀ (x1 : Bool), value_sound_j2 (slices_ContainsFunc_api_Value_api_Value_of_value_sound_1 k0) p1 p2 z1 x1 = some r → ∀ fr1 st1, Sub 33 1 [] fr1 st1 [(3, .one (.pv (.rp [(qa1157 p1)] 0 0))), (4, .one (.pv (.rp [[pi p2]] 0 0))), (5, .one (.pt 1 0 0 0)), (27, vb x1)] (qa1169 z1) → K6 fr1 st1 := by
    intro x1 h fr1 st1 hS
    unfold value_sound_j2 at h
    refine hK6 _ _ (XW.sub hS ?_)
    refine zC h (fun b10 h => ?_) (fun b10 h => ?_)
    ·refine zq fun K11 hK11 => zr (zv [5] 1 [6] [] [(6, vb false)] (qa1169 z1) (zd (hK11 _ _ (ze ?_))))
     obtain rfl := Option.some.inj h
     exact FinM.fin (.inr rfl) [] [vb false] [] (by kernel_rfl) trivial (by kernel_rfl) (by kernel_rfl) (.one (.rfl _ rfl))
    ·refine zs (hK5 _ _ (zq fun K12 hK12 => ?_))
     obtain ⟨r2, c13, h⟩ := zB h
     refine zr (zv [5] 3 [29,30] [(qa1157 p1)] [(29, vl eValue p1.items), (30, .one (.fn 84 [.pv (.rp [[pi p2]] 0 0), .pt 1 0 0 0]))] (qa1169 z1) ?_)
     refine XO.calm 75 [vl eValue p1.items, .one (.fn 84 [.pv (.rp [[pi p2]] 0 0), .pt 0 0 0 0])] [.box [.pt 1 0 0 0], .box [ci z1]] [.box [.pt 1 0 0 0], .box [ci r2.2]] (vb r2.1) [1, 0] [(31, vb r2.1), (29, vl eValue p1.items), (30, .one (.fn 84 [.pv (.rp [[pi p2]] 0 0), .pt 1 0 0 0]))] [.box [ci r2.2], .box qa1160] (by kernel_rfl) (c_slices_ContainsFunc_api_Value_api_Value_of_value_sound_1 k0 _ _ _ _ c13) (by kernel_rfl) (by kernel_rfl) (by kernel_rfl) (by kernel_rfl) (zv [5] 2 [6] [] [(6, vb (!r2.1))] [.box [ci r2.2], .box qa1160] (zd (hK12 _ _ (ze ?_))))
     obtain rfl := Option.some.inj h
     exact FinM.fin (.inr rfl) [] [vb (!r2.1)] [] (by kernel_rfl) trivial (by kernel_rfl) (by kernel_rfl) (.one (.rfl _ rfl))
   rcases zW h with ⟨b7, h⟩ | ⟨b7, h⟩
   ·exact zr (zu [5] 3 [3,4,5,17] [[pi p2]] (zt 17 b7 (zg [5] 10 [3,4,5,27] (zd (hJ2 true h _ _ (zk [3,4,5,27]))))))
   ·rcases zW h with ⟨b8, h⟩ | ⟨b8, h⟩
    ·exact zr (zv [5] 3 [3,4,5,17] [[pi p2]] (qa1176 p1 p2) (qa1169 z1) (zt 17 b7 (zg [5] 6 [3,4,5,23] (zt 23 b8 (zg [5] 4 [3,4,5,27] (zd (hJ2 true h _ _ (zk [3,4,5,27]))))))))
    ·obtain ⟨r1, c9, h⟩ := zB h
     refine zr (zv [5] 3 [3,4,5,17] [[pi p2]] (qa1176 p1 p2) (qa1169 z1) (zt 17 b7 (zg [5] 6 [3,4,5,23] (zt 23 b8 (zu [5] 1 [3,4,5,23,24] [(qa1157 p1)] ?_)))))
     exact zl 83 [.ag (qa1154 p1)] (vb r1) [(25, vb r1), (3, .one (.pv (.rp [(qa1157 p1)] 0 0))), (4, .one (.pv (.rp [[pi p2]] 0 0))), (5, .one (.pt 1 0 0 0)), (23, vb false), (24, .ag (qa1154 p1))] (c_value_plain _ _ c9) (zg [5] 2 [3,4,5,27] (zd (hJ2 (!r1) h _ _ (zk [3,4,5,27]))))
  refine zq fun K3 hK3 => zr (zu [5] 3 [3,4,5,9] [(qa1157 p1)] (zd (hK3 _ _ (zC h (fun b4 h => ?_) (fun b4 h => ?_)))))
  ·exact zr (zv [5] 6 [3,4,5] [] (qa1168 p1 p2) [.box [ci (IntKind.i64.wrap (p3 + (1 : Int)))], .box qa1160] (zd (hJ1 (IntKind.i64.wrap (p3 + (1 : Int))) h _ _ (zk [3,4,5]))))
  ·exact zs (hJ1 p3 h _ _ (zk [3,4,5]))

theorem c_value_sound_1_s : ∀ (k0 : Nat) (p1 : GValue) (p2 : Int) (p3 : Int) (r : (Bool × Int)), value_sound_1_s k0 p1 p2 p3 = some r → MC Tryd.prog 84 [.ag (qa1179 p1), .one (.pv (.rp [[pi p2]] 0 0)), .one (.pt 0 0 0 0)] [.box [.pt 1 0 0 0], .box [ci p3]] (vb r.1) [.box [.pt 1 0 0 0], .box [ci r.2]]
 | 0, _, _, _, r, h => by rw [value_sound_1_s.eq_1] at h; cases h
 | k0 + 1, p1, p2, p3, r, h => by
  rw [value_sound_1_s.eq_2] at h
  refine MC.of 2 (n := 11) (fn := Tryd.f84) (c := cd Tryd.f84 []) (by kernel_rfl) (by kernel_rfl) (by kernel_rfl) (Nat.le_of_ble_eq_true rfl) rfl (zq fun K1 hK1 => zr (zg [] 2 [1,2,3] (zd (hK1 _ _ (zq fun K2 hK2 => ?_)))))
  obtain ⟨r1, c3, h⟩ := zB h
  refine zr (zv [] 4 [5,7,8] [[pi p1.kind, pi p1.n, pi p1.scale, .s (.string p1.s), .ro (eValue.els p1.items)], [pi p2]] [(5, .ag (qa1179 p1)), (7, vi (IntKind.i64.wrap (p2 + (1 : Int)))), (8, .one (.pt 1 0 0 0))] [.box [.pt 1 0 0 0], .box [ci p3]] ?_)
  refine XO.calm 62 [.ag (qa1179 p1), vi (IntKind.i64.wrap (p2 + (1 : Int))), .one (.pt 0 0 0 0)] [.box [ci p3]] [.box [ci r1.2]] (vb r1.1) [1] [(9, vb r1.1), (5, .ag (qa1179 p1)), (7, vi (IntKind.i64.wrap (p2 + (1 : Int)))), (8, .one (.pt 1 0 0 0))] [.box [.pt 1 0 0 0], .box [ci r1.2]] (by kernel_rfl) (c_value_sound k0 _ _ _ _ c3) (by kernel_rfl) (by kernel_rfl) (by kernel_rfl) (by kernel_rfl) (zv [] 2 [4] [] [(4, vb (!r1.1))] [.box [.pt 1 0 0 0], .box [ci r1.2]] (zd (hK2 _ _ (ze ?_))))
  obtain rfl := Option.some.inj h
  exact FinM.fin (.inr rfl) [] [vb (!r1.1)] [] (by kernel_rfl) trivial (by kernel_rfl) (by kernel_rfl) (.one (.rfl _ rfl))

end

def value_Sound (p1 : GValue) : Option Bool :=
    bnd (value_sound BIG p1 (1 : Int) (0 : Int)) fun r1 =>
    some r1.1

abbrev qa1194 (p1 : GValue) : List CV := [ci p1.kind, ci p1.n, ci p1.scale, cst p1.s, cl eValue p1.items]

theorem c_value_Sound (p1 : GValue) (r : Bool) (h : value_Sound p1 = some r) : PC Tryd.prog 36 [.ag (qa1194 p1)] (vb r) := by
 unfold value_Sound at h
 refine zF 6 Tryd.f36 (zq fun K1 hK1 => zr (zg [3] 2 [1] (zd (hK1 _ _ (zq fun K2 hK2 => zr ?_)))))
 refine zg [3] 2 [1,3] (zd (hK2 _ _ (zq fun K3 hK3 => ?_)))
 obtain ⟨r1, c4, h⟩ := zB h
 refine zr (zv [3] 1 [3,4] [[pi p1.kind, pi p1.n, pi p1.scale, .s (.string p1.s), .ro (eValue.els p1.items)]] [(3, .one (.pt 0 0 0 0)), (4, .ag (qa1194 p1))] [.box [ci (0 : Int)]] ?_)
 refine XO.calm 62 [.ag (qa1194 p1), vi (1 : Int), .one (.pt 0 0 0 0)] [.box [ci (0 : Int)]] [.box [ci r1.2]] (vb r1.1) [0] [(5, vb r1.1), (3, .one (.pt 0 0 0 0)), (4, .ag (qa1194 p1))] [.box [ci r1.2]] (by kernel_rfl) (c_value_sound BIG _ _ _ _ c4) (by kernel_rfl) (by kernel_rfl) (by kernel_rfl) (by kernel_rfl) (zg [3] 1 [2] (zd (hK3 _ _ (ze ?_))))
 obtain rfl := Option.some.inj h
 exact zf [vb r1.1] (.one (.rfl _ rfl))

def api_Zones : Option (List GZone) :=
    some ([(GZone.mk (ByteArray.mk #[117, 116, 99]) (0 : Int) (0 : Int) (GTurn.mk (0 : Int) (0 : Int) (0 : Int) (0 : Int)) (GTurn.mk (0 : Int) (0 : Int) (0 : Int) (0 : Int))), (GZone.mk (ByteArray.mk #[109, 105, 100]) (60 : Int) (60 : Int) (GTurn.mk (3 : Int) (5 : Int) (7 : Int) (120 : Int)) (GTurn.mk (10 : Int) (5 : Int) (7 : Int) (180 : Int))), (GZone.mk (ByteArray.mk #[101, 97, 115, 116]) (330 : Int) (0 : Int) (GTurn.mk (0 : Int) (0 : Int) (0 : Int) (0 : Int)) (GTurn.mk (0 : Int) (0 : Int) (0 : Int) (0 : Int))), (GZone.mk (ByteArray.mk #[115, 111, 117, 116, 104]) (600 : Int) (60 : Int) (GTurn.mk (10 : Int) (1 : Int) (7 : Int) (120 : Int)) (GTurn.mk (4 : Int) (1 : Int) (7 : Int) (180 : Int))), (GZone.mk (ByteArray.mk #[119, 101, 115, 116]) (-480 : Int) (60 : Int) (GTurn.mk (3 : Int) (2 : Int) (7 : Int) (120 : Int)) (GTurn.mk (11 : Int) (1 : Int) (7 : Int) (120 : Int))), (GZone.mk (ByteArray.mk #[105, 115, 108, 101]) (630 : Int) (30 : Int) (GTurn.mk (10 : Int) (1 : Int) (7 : Int) (120 : Int)) (GTurn.mk (4 : Int) (1 : Int) (7 : Int) (120 : Int)))])


theorem c_api_Zones (r : (List GZone)) (h : api_Zones = some r) : PC Tryd.prog 102 [] (vl eZone r) := by
 unfold api_Zones at h
 refine zF 16 Tryd.f102 (zq fun K1 hK1 => zr (zg [] 1 [] (zd (hK1 _ _ (zq fun K2 hK2 => zr ?_)))))
 refine zg [] 16 [0] (zd (hK2 _ _ (ze ?_)))
 obtain rfl := Option.some.inj h
 exact zf [vl eZone ([(GZone.mk (ByteArray.mk #[117, 116, 99]) (0 : Int) (0 : Int) (GTurn.mk (0 : Int) (0 : Int) (0 : Int) (0 : Int)) (GTurn.mk (0 : Int) (0 : Int) (0 : Int) (0 : Int))), (GZone.mk (ByteArray.mk #[109, 105, 100]) (60 : Int) (60 : Int) (GTurn.mk (3 : Int) (5 : Int) (7 : Int) (120 : Int)) (GTurn.mk (10 : Int) (5 : Int) (7 : Int) (180 : Int))), (GZone.mk (ByteArray.mk #[101, 97, 115, 116]) (330 : Int) (0 : Int) (GTurn.mk (0 : Int) (0 : Int) (0 : Int) (0 : Int)) (GTurn.mk (0 : Int) (0 : Int) (0 : Int) (0 : Int))), (GZone.mk (ByteArray.mk #[115, 111, 117, 116, 104]) (600 : Int) (60 : Int) (GTurn.mk (10 : Int) (1 : Int) (7 : Int) (120 : Int)) (GTurn.mk (4 : Int) (1 : Int) (7 : Int) (180 : Int))), (GZone.mk (ByteArray.mk #[119, 101, 115, 116]) (-480 : Int) (60 : Int) (GTurn.mk (3 : Int) (2 : Int) (7 : Int) (120 : Int)) (GTurn.mk (11 : Int) (1 : Int) (7 : Int) (120 : Int))), (GZone.mk (ByteArray.mk #[105, 115, 108, 101]) (630 : Int) (30 : Int) (GTurn.mk (10 : Int) (1 : Int) (7 : Int) (120 : Int)) (GTurn.mk (4 : Int) (1 : Int) (7 : Int) (120 : Int)))])] (.one (.rfl _ rfl))

def value_zone_1_s (p1 : GZone) (p2 : ByteArray) : Option Bool :=
    some (p1.name.toList == p2.toList)


theorem c_value_zone_1_s (p1 : GZone) (p2 : ByteArray) (r : Bool) (h : value_zone_1_s p1 p2 = some r) : PC Tryd.prog 104 [.ag [cst p1.name, ci p1.offset, ci p1.summer, ci p1.start.month, ci p1.start.week, ci p1.start.weekday, ci p1.start.minute, ci p1.stop.month, ci p1.stop.week, ci p1.stop.weekday, ci p1.stop.minute], .one (.pv (.rp [[.s (.string p2)]] 0 0))] (vb r) := by
 unfold value_zone_1_s at h
 refine zF 8 Tryd.f104 (zq fun K1 hK1 => zr (zg [] 2 [1,2] (zd (hK1 _ _ (zq fun K2 hK2 => zr ?_)))))
 refine zu [] 5 [3] [[.s (.string p1.name), pi p1.offset, pi p1.summer, pi p1.start.month, pi p1.start.week, pi p1.start.weekday, pi p1.start.minute, pi p1.stop.month, pi p1.stop.week, pi p1.stop.weekday, pi p1.stop.minute], [.s (.string p2)]] (zd (hK2 _ _ (ze ?_)))
 obtain rfl := Option.some.inj h
 exact zf [vb (p1.name.toList == p2.toList)] (.one (.rfl _ rfl))

def slices_IndexFunc_api_Zone_api_Zone_of_value_zone_1_j1 : Option Int :=
    some (-1 : Int)

def slices_IndexFunc_api_Zone_api_Zone_of_value_zone_1_l1 (p1 : (List GZone)) (p2 : ByteArray) : Nat → Int → Option Int
  | 0, _ => none
  | k1 + 1, x1 =>
    ift (decide (x1 < (p1.length : Int)))
      (bnd (at? p1 x1) fun e1 =>
       bnd (value_zone_1_s e1 p2) fun r1 =>
       ift r1
         (some x1)
         ((slices_IndexFunc_api_Zone_api_Zone_of_value_zone_1_l1 p1 p2 k1) (IntKind.i64.wrap (x1 + (1 : Int)))))
      (slices_IndexFunc_api_Zone_api_Zone_of_value_zone_1_j1)

def slices_IndexFunc_api_Zone_api_Zone_of_value_zone_1 (p1 : (List GZone)) (p2 : ByteArray) : Option Int :=
    slices_IndexFunc_api_Zone_api_Zone_of_value_zone_1_l1 p1 p2 BIG (0 : Int)

abbrev qa1206 (e1 : GZone) : List PV := [.s (.string e1.name), pi e1.offset, pi e1.summer, pi e1.start.month, pi e1.start.week, pi e1.start.weekday, pi e1.start.minute, pi e1.stop.month, pi e1.stop.week, pi e1.stop.weekday, pi e1.stop.minute]

theorem c_slices_IndexFunc_api_Zone_api_Zone_of_value_zone_1 (p1 : (List GZone)) (p2 : ByteArray) (r : Int) (h : slices_IndexFunc_api_Zone_api_Zone_of_value_zone_1 p1 p2 = some r) : PC Tryd.prog 103 [vl eZone p1, .one (.fn 104 [.pv (.rp [[.s (.string p2)]] 0 0)])] (vi r) := by
 unfold slices_IndexFunc_api_Zone_api_Zone_of_value_zone_1 at h
 refine zF 19 Tryd.f103 (zq fun K1 hK1 => zr (zg [] 1 [0,1] (zd (hK1 _ _ (zq fun K2 hK2 => ?_)))))
 have hJ1 : ∀ (_ : Unit), slices_IndexFunc_api_Zone_api_Zone_of_value_zone_1_j1 = some r → ∀ fr1 st1, Sub 19 0 [] fr1 st1 [] [] → K2 fr1 st1 := by
  intro _ h fr1 st1 hS
  unfold slices_IndexFunc_api_Zone_api_Zone_of_value_zone_1_j1 at h
  refine hK2 _ _ (XW.sub hS ?_)
  refine zq fun K14 hK14 => zr (zg [] 1 [4] (zd (hK14 _ _ (ze ?_))))
  obtain rfl := Option.some.inj h
  exact zf [vi (-1 : Int)] (.one (.rfl _ rfl))
 refine zq fun K3 hK3 => zr (zv [] 2 [0,1,7] [] [(0, vl eZone p1), (1, .one (.fn 104 [.pv (.rp [[.s (.string p2)]] 0 0)])), (7, vi ((eZone.els p1).length : Int))] [] ?_)
 rw [eZone.len p1]
 refine zg [] 1 [0,1,7,8] (zd (hK3 _ _ (zb 0 (XW.rounds' BIG (x := cd Tryd.f103 [1,0,1,0,0]) (by kernel_rfl) fun Q1 hQ1 => ?_))))
 have hL1 : ∀ (k1 : Nat) (x1 : Int), slices_IndexFunc_api_Zone_api_Zone_of_value_zone_1_l1 p1 p2 k1 x1 = some r → XR Tryd.prog 19 0 [] (cd Tryd.f103 [1,0,1,0,0]) Q1 k1 [(0, vl eZone p1), (1, .one (.fn 104 [.pv (.rp [[.s (.string p2)]] 0 0)])), (7, vi (p1.length : Int)), (8, vi x1)] [] := by
  intro k1
  induction k1 with
  | zero => intro x1 h; rw [slices_IndexFunc_api_Zone_api_Zone_of_value_zone_1_l1.eq_1] at h; cases h
  | succ k1 ih1 =>
   intro x1 h
   rw [slices_IndexFunc_api_Zone_api_Zone_of_value_zone_1_l1.eq_2] at h
   refine zq fun K4 hK4 => zr (zg [] 1 [0,1,7,8,9] (zd (hK4 _ _ (zq fun K5 hK5 => zC h (fun b6 h => ?_) (fun b6 h => ?_)))))
   ·refine zs (hK5 _ _ (zq fun K7 hK7 => zb 1 (zq fun K8 hK8 => zr (zg [] 2 [0,1,5,7,8] (zd ?_)))))
    refine hK8 _ _ (zq fun K9 hK9 => ?_)
    obtain ⟨e1, a10, h⟩ := zB h
    obtain ⟨r1, c11, h⟩ := zB h
    refine zr ?_
    refine zp [] 5 [0,1,5,7,8,11,15] [(qa1206 e1)] [(0, vl eZone p1), (1, .one (.fn 104 [.pv (.rp [[.s (.string p2)]] 0 0)])), (5, vi x1), (7, vi (p1.length : Int)), (8, vi x1), (11, .one (.fn 104 [.pv (.rp [[.s (.string p2)]] 0 0)])), (15, .ag [cst e1.name, ci e1.offset, ci e1.summer, ci e1.start.month, ci e1.start.week, ci e1.start.weekday, ci e1.start.minute, ci e1.stop.month, ci e1.stop.week, ci e1.stop.weekday, ci e1.stop.minute])] [] [0 ≤ x1 ∧ x1 < ((eZone.els p1).length : Int) ∧ elemsOk 11 (eZone.els p1), (eZone.els p1)[x1.toNat]? = some (qa1206 e1)] (⟨eZone.inb a10, (eZone.get a10), trivial⟩) ?_
    refine za (c_value_zone_1_s _ _ _ c11) (zd (hK9 _ _ (zC h (fun b12 h => ?_) (fun b12 h => ?_))))
    ·refine zq fun K13 hK13 => zr (zg [] 2 [4] (zd (hK13 _ _ (ze (hQ1 _ _ _ ?_)))))
     obtain rfl := Option.some.inj h
     exact zf [vi x1] (.one (.rfl _ rfl))
    ·exact zs (hK7 _ _ (zr (zv [] 2 [0,1,7,8] [] [(0, vl eZone p1), (1, .one (.fn 104 [.pv (.rp [[.s (.string p2)]] 0 0)])), (7, vi (p1.length : Int)), (8, vi (IntKind.i64.wrap (x1 + (1 : Int))))] [] (zd (XR.sub (zk [0,1,7,8]) (ih1 (IntKind.i64.wrap (x1 + (1 : Int))) h))))))
   ·exact zx 0 (hQ1 _ _ _ (hJ1 () h _ _ (zk [])))
 exact XR.sub (zk [0,1,7,8]) (hL1 BIG (0 : Int) h)

def value_zone (p1 : ByteArray) : Option (GZone × Bool) :=
    bnd (api_Zones) fun r1 =>
    bnd (slices_IndexFunc_api_Zone_api_Zone_of_value_zone_1 r1 p1) fun r2 =>
    ift (decide (r2 < (0 : Int)))
      (some ((GZone.mk ByteArray.empty (0 : Int) (0 : Int) (GTurn.mk (0 : Int) (0 : Int) (0 : Int) (0 : Int)) (GTurn.mk (0 : Int) (0 : Int) (0 : Int) (0 : Int))), false))
      (bnd (at? r1 r2) fun e1 =>
       some (e1, true))

abbrev qa1213 : List CV := [cst ByteArray.empty, ci (0 : Int), ci (0 : Int), ci (0 : Int), ci (0 : Int), ci (0 : Int), ci (0 : Int), ci (0 : Int), ci (0 : Int), ci (0 : Int), ci (0 : Int)]
abbrev qa1215 (e1 : GZone) : List PV := [.s (.string e1.name), pi e1.offset, pi e1.summer, pi e1.start.month, pi e1.start.week, pi e1.start.weekday, pi e1.start.minute, pi e1.stop.month, pi e1.stop.week, pi e1.stop.weekday, pi e1.stop.minute]
abbrev qa1217 (e1 : GZone) : List CV := [cst e1.name, ci e1.offset, ci e1.summer, ci e1.start.month, ci e1.start.week, ci e1.start.weekday, ci e1.start.minute, ci e1.stop.month, ci e1.stop.week, ci e1.stop.weekday, ci e1.stop.minute]

theorem c_value_zone (p1 : ByteArray) (r : (GZone × Bool)) (h : value_zone p1 = some r) : PC Tryd.prog 85 [vs p1] (.tp [.ag [cst r.1.name, ci r.1.offset, ci r.1.summer, ci r.1.start.month, ci r.1.start.week, ci r.1.start.weekday, ci r.1.start.minute, ci r.1.stop.month, ci r.1.stop.week, ci r.1.stop.weekday, ci r.1.stop.minute], vb r.2]) := by
 unfold value_zone at h
 refine zF 17 Tryd.f85 (zq fun K1 hK1 => zr (zg [2] 3 [1,2] (zd (hK1 _ _ (zq fun K2 hK2 => ?_)))))
 obtain ⟨r1, c3, h⟩ := zB h
 refine zr (za (c_api_Zones _ c3) (zv [2] 1 [1,2,4] [] [(1, .one (.pv (.rp [[.s (.string p1)]] 0 0))), (2, .one (.pt 0 0 0 0)), (4, vl eZone r1)] [.box qa1213] (zd (hK2 _ _ (zq fun K4 hK4 => ?_)))))
 obtain ⟨r2, c5, h⟩ := zB h
 refine zr (zg [2] 2 [2,4,7,8] (za (c_slices_IndexFunc_api_Zone_api_Zone_of_value_zone_1 _ _ _ c5) (zv [2] 1 [2,4,5] [] [(2, .one (.pt 0 0 0 0)), (4, vl eZone r1), (5, vi r2)] [.box qa1213] (zd (hK4 _ _ (zq fun K6 hK6 => zq fun K7 hK7 => ?_))))))
 refine zr (zg [2] 2 [2,4,5,11] (zd (hK7 _ _ (zC h (fun b8 h => ?_) (fun b8 h => ?_)))))
 ·refine zq fun K9 hK9 => zr (zg [2] 3 [2,3] (zd (hK9 _ _ (ze ?_))))
  obtain rfl := Option.some.inj h
  exact zf [.ag qa1213, vb false] (.tpc (.ag (.cons (.rfl _ rfl) (.cons (.rfl _ rfl) (.cons (.rfl _ rfl) (.cons (.rfl _ rfl) (.cons (.rfl _ rfl) (.cons (.rfl _ rfl) (.cons (.rfl _ rfl) (.cons (.rfl _ rfl) (.cons (.rfl _ rfl) (.cons (.rfl _ rfl) (.cons (.rfl _ rfl) .nil)))))))))))) (.tpc (.one (.rfl _ rfl)) (.tp0)))
 ·refine zs (hK6 _ _ (zq fun K10 hK10 => ?_))
  obtain ⟨e1, a11, h⟩ := zB h
  refine zr ?_
  refine zp [2] 6 [2,3] [(qa1215 e1)] [(2, .one (.pt 0 0 0 0)), (3, vb true)] [.box (qa1217 e1)] [0 ≤ r2 ∧ r2 < ((eZone.els r1).length : Int) ∧ elemsOk 11 (eZone.els r1), (eZone.els r1)[r2.toNat]? = some (qa1215 e1)] (⟨eZone.inb a11, (eZone.get a11), trivial⟩) ?_
  refine zd (hK10 _ _ (ze ?_))
  obtain rfl := Option.some.inj h
  exact zf [.ag (qa1217 e1), vb true] (.tpc (.ag (.cons (.rfl _ rfl) (.cons (.rfl _ rfl) (.cons (.rfl _ rfl) (.cons (.rfl _ rfl) (.cons (.rfl _ rfl) (.cons (.rfl _ rfl) (.cons (.rfl _ rfl) (.cons (.rfl _ rfl) (.cons (.rfl _ rfl) (.cons (.rfl _ rfl) (.cons (.rfl _ rfl) .nil)))))))))))) (.tpc (.one (.rfl _ rfl)) (.tp0)))

def value_floor_j1 (x1 : Int) (x2 : Int) : Option (Int × Int) :=
    some (x1, x2)

def value_floor (p1 : Int) (p2 : Int) : Option (Int × Int) :=
    grd (p2 ≠ 0) <|
    grd (p2 ≠ 0) <|
    ift (decide ((p1.tmod p2) < (0 : Int)))
      (value_floor_j1 (IntKind.i64.wrap ((IntKind.i64.wrap (p1.tdiv p2)) - (1 : Int))) (IntKind.i64.wrap ((p1.tmod p2) + p2)))
      (value_floor_j1 (IntKind.i64.wrap (p1.tdiv p2)) (p1.tmod p2))


theorem c_value_floor (p1 : Int) (p2 : Int) (r : (Int × Int)) (h : value_floor p1 p2 = some r) : PC Tryd.prog 89 [vi p1, vi p2] (.tp [vi r.1, vi r.2]) := by
 unfold value_floor at h
 refine zF 23 Tryd.f89 (zq fun K1 hK1 => zr (zg [] 2 [0,1] (zd (hK1 _ _ (zq fun K2 hK2 => ?_)))))
 obtain ⟨g3, h⟩ := zG h
 obtain ⟨g4, h⟩ := zG h
 refine zw 7 [(6, vi (IntKind.i64.wrap (p1.tdiv p2))), (13, vi (p1.tmod p2)), (12, vi p2), (11, vi p1), (10, vi (IntKind.i64.wrap (p1.tdiv p2))), (9, vi p2), (8, vi p1), (0, vi p1), (1, vi p2)] ?_ ?_
 ·exact zyo 7 [] [p2 ≠ 0, p2 ≠ 0] (⟨g3, g4, trivial⟩) zyd
 refine zg [] 1 [1,6,7] (zd (hK2 _ _ (zq fun K5 hK5 => ?_)))
 have hJ1 : ∀ (x1 : Int) (x2 : Int), value_floor_j1 x1 x2 = some r → ∀ fr1 st1, Sub 23 0 [] fr1 st1 [(6, vi x1), (7, vi x2)] [] → K5 fr1 st1 := by
  intro x1 x2 h fr1 st1 hS
  unfold value_floor_j1 at h
  refine hK5 _ _ (XW.sub hS ?_)
  refine zq fun K8 hK8 => zr (zg [] 4 [4,5] (zd (hK8 _ _ (ze ?_))))
  obtain rfl := Option.some.inj h
  exact zf [vi x1, vi x2] (.tpc (.one (.rfl _ rfl)) (.tpc (.one (.rfl _ rfl)) (.tp0)))
 refine zq fun K6 hK6 => zr (zv [] 2 [1,6,7,15] [] [(1, vi p2), (6, vi (IntKind.i64.wrap (p1.tdiv p2))), (7, vi (p1.tmod p2)), (15, vb (decide ((p1.tmod p2) < (0 : Int))))] [] (zd (hK6 _ _ (zC h (fun b7 h => ?_) (fun b7 h => ?_)))))
 ·exact zr (zg [] 7 [6,7] (zd (hJ1 (IntKind.i64.wrap ((IntKind.i64.wrap (p1.tdiv p2)) - (1 : Int))) (IntKind.i64.wrap ((p1.tmod p2) + p2)) h _ _ (zk [6,7]))))
 ·exact zs (hJ1 (IntKind.i64.wrap (p1.tdiv p2)) (p1.tmod p2) h _ _ (zk [6,7]))

def value_date_j1 (y10 : Int) (x1 : Int) (x2 : Int) : Option (Int × Int × Int) :=
    some (x1, x2, y10)

def value_date (p1 : Int) : Option (Int × Int × Int) :=
    bnd (value_floor (IntKind.i64.wrap (p1 + (719468 : Int))) (146097 : Int)) fun r1 =>
    bnd (some (IntKind.i64.wrap (r1.2 - (IntKind.i64.wrap (r1.2.tdiv (1460 : Int)))))) fun y1 =>
    bnd (some (IntKind.i64.wrap (y1 + (IntKind.i64.wrap (r1.2.tdiv (36524 : Int)))))) fun y2 =>
    bnd (some (IntKind.i64.wrap (y2 - (IntKind.i64.wrap (r1.2.tdiv (146096 : Int)))))) fun y3 =>
    bnd (some (IntKind.i64.wrap ((IntKind.i64.wrap (y3.tdiv (365 : Int))) * (365 : Int)))) fun y4 =>
    bnd (some (IntKind.i64.wrap ((IntKind.i64.wrap (y3.tdiv (365 : Int))).tdiv (4 : Int)))) fun y5 =>
    bnd (some (IntKind.i64.wrap ((IntKind.i64.wrap (y3.tdiv (365 : Int))).tdiv (100 : Int)))) fun y6 =>
    bnd (some (IntKind.i64.wrap (r1.2 - (IntKind.i64.wrap ((IntKind.i64.wrap (y4 + y5)) - y6))))) fun y7 =>
    bnd (some (IntKind.i64.wrap ((IntKind.i64.wrap ((IntKind.i64.wrap ((5 : Int) * y7)) + (2 : Int))).tdiv (153 : Int)))) fun y8 =>
    bnd (some (IntKind.i64.wrap ((IntKind.i64.wrap ((153 : Int) * y8)) + (2 : Int)))) fun y9 =>
    bnd (some (IntKind.i64.wrap ((IntKind.i64.wrap (y7 - (IntKind.i64.wrap (y9.tdiv (5 : Int))))) + (1 : Int)))) fun y10 =>
    bnd (some (IntKind.i64.wrap ((IntKind.i64.wrap (r1.1 * (400 : Int))) + (IntKind.i64.wrap (y3.tdiv (365 : Int)))))) fun y11 =>
    ift (decide ((12 : Int) < (IntKind.i64.wrap (y8 + (3 : Int)))))
      (value_date_j1 y10 (IntKind.i64.wrap (y11 + (1 : Int))) (IntKind.i64.wrap ((IntKind.i64.wrap (y8 + (3 : Int))) - (12 : Int))))
      (value_date_j1 y10 y11 (IntKind.i64.wrap (y8 + (3 : Int))))


theorem c_value_date (p1 : Int) (r : (Int × Int × Int)) (h : value_date p1 = some r) : PC Tryd.prog 105 [vi p1] (.tp [vi r.1, vi r.2.1, vi r.2.2]) := by
 unfold value_date at h
 refine zF 61 Tryd.f105 (zq fun K1 hK1 => zr (zg [] 3 [0] (zd (hK1 _ _ (zq fun K2 hK2 => ?_)))))
 obtain ⟨r1, c3, h⟩ := zB h
 refine zr (zg [] 2 [10] (zl 89 [vi (IntKind.i64.wrap (p1 + (719468 : Int))), vi (146097 : Int)] (.tp [vi r1.1, vi r1.2]) [(11, .tp [vi r1.1, vi r1.2]), (10, vi (IntKind.i64.wrap (p1 + (719468 : Int))))] (c_value_floor _ _ _ c3) (zg [] 5 [0,5] (zd (hK2 _ _ (zq fun K4 hK4 => ?_))))))
 obtain ⟨y1, hy5, h⟩ := zB h
 obtain ⟨y2, hy6, h⟩ := zB h
 obtain ⟨y3, hy7, h⟩ := zB h
 refine zr (zp [] 4 [0,5,17] [] [(0, vi r1.2), (5, vi r1.1), (17, vi (IntKind.i64.wrap (r1.2 - (IntKind.i64.wrap (r1.2.tdiv (1460 : Int))))))] [] [(1460 : Int) ≠ 0] (⟨by decide, trivial⟩) ?_)
 rw [show (IntKind.i64.wrap (r1.2 - (IntKind.i64.wrap (r1.2.tdiv (1460 : Int))))) = y1 from Option.some.inj hy5]
 refine zp [] 3 [0,5,20] [] [(0, vi r1.2), (5, vi r1.1), (20, vi (IntKind.i64.wrap (y1 + (IntKind.i64.wrap (r1.2.tdiv (36524 : Int))))))] [] [(36524 : Int) ≠ 0] (⟨by decide, trivial⟩) ?_
 rw [show (IntKind.i64.wrap (y1 + (IntKind.i64.wrap (r1.2.tdiv (36524 : Int))))) = y2 from Option.some.inj hy6]
 refine zp [] 3 [0,5,23] [] [(0, vi r1.2), (5, vi r1.1), (23, vi (IntKind.i64.wrap (y2 - (IntKind.i64.wrap (r1.2.tdiv (146096 : Int))))))] [] [(146096 : Int) ≠ 0] (⟨by decide, trivial⟩) ?_
 rw [show (IntKind.i64.wrap (y2 - (IntKind.i64.wrap (r1.2.tdiv (146096 : Int))))) = y3 from Option.some.inj hy7]
 refine zo [] 2 [0,5,6] [] [(365 : Int) ≠ 0] (⟨by decide, trivial⟩) (zd (hK4 _ _ (zq fun K8 hK8 => ?_)))
 obtain ⟨y4, hy9, h⟩ := zB h
 obtain ⟨y5, hy10, h⟩ := zB h
 obtain ⟨y6, hy11, h⟩ := zB h
 obtain ⟨y7, hy12, h⟩ := zB h
 refine zr (zv [] 3 [5,6,25,27] [] [(5, vi r1.1), (6, vi (IntKind.i64.wrap (y3.tdiv (365 : Int)))), (25, vi r1.2), (27, vi (IntKind.i64.wrap ((IntKind.i64.wrap (y3.tdiv (365 : Int))) * (365 : Int))))] [] ?_)
 rw [show (IntKind.i64.wrap ((IntKind.i64.wrap (y3.tdiv (365 : Int))) * (365 : Int))) = y4 from Option.some.inj hy9]
 refine zp [] 2 [5,6,25,27,29] [] [(5, vi r1.1), (6, vi (IntKind.i64.wrap (y3.tdiv (365 : Int)))), (25, vi r1.2), (27, vi y4), (29, vi (IntKind.i64.wrap ((IntKind.i64.wrap (y3.tdiv (365 : Int))).tdiv (4 : Int))))] [] [(4 : Int) ≠ 0] (⟨by decide, trivial⟩) ?_
 rw [show (IntKind.i64.wrap ((IntKind.i64.wrap (y3.tdiv (365 : Int))).tdiv (4 : Int))) = y5 from Option.some.inj hy10]
 refine zp [] 3 [5,6,25,30,32] [] [(5, vi r1.1), (6, vi (IntKind.i64.wrap (y3.tdiv (365 : Int)))), (25, vi r1.2), (30, vi (IntKind.i64.wrap (y4 + y5))), (32, vi (IntKind.i64.wrap ((IntKind.i64.wrap (y3.tdiv (365 : Int))).tdiv (100 : Int))))] [] [(100 : Int) ≠ 0] (⟨by decide, trivial⟩) ?_
 rw [show (IntKind.i64.wrap ((IntKind.i64.wrap (y3.tdiv (365 : Int))).tdiv (100 : Int))) = y6 from Option.some.inj hy11]
 refine zv [] 2 [5,6,34] [] [(5, vi r1.1), (6, vi (IntKind.i64.wrap (y3.tdiv (365 : Int)))), (34, vi (IntKind.i64.wrap (r1.2 - (IntKind.i64.wrap ((IntKind.i64.wrap (y4 + y5)) - y6)))))] [] ?_
 rw [show (IntKind.i64.wrap (r1.2 - (IntKind.i64.wrap ((IntKind.i64.wrap (y4 + y5)) - y6)))) = y7 from Option.some.inj hy12]
 refine zg [] 1 [0,5,6] (zd (hK8 _ _ (zq fun K13 hK13 => ?_)))
 obtain ⟨y8, hy14, h⟩ := zB h
 refine zr (zp [] 4 [0,5,6,38] [] [(0, vi y7), (5, vi r1.1), (6, vi (IntKind.i64.wrap (y3.tdiv (365 : Int)))), (38, vi (IntKind.i64.wrap ((IntKind.i64.wrap ((IntKind.i64.wrap ((5 : Int) * y7)) + (2 : Int))).tdiv (153 : Int))))] [] [(153 : Int) ≠ 0] (⟨by decide, trivial⟩) ?_)
 rw [show (IntKind.i64.wrap ((IntKind.i64.wrap ((IntKind.i64.wrap ((5 : Int) * y7)) + (2 : Int))).tdiv (153 : Int))) = y8 from Option.some.inj hy14]
 refine zg [] 1 [0,5,6,7] (zd (hK13 _ _ (zq fun K15 hK15 => ?_)))
 obtain ⟨y9, hy16, h⟩ := zB h
 obtain ⟨y10, hy17, h⟩ := zB h
 refine zr (zv [] 4 [5,6,7,39,42] [] [(5, vi r1.1), (6, vi (IntKind.i64.wrap (y3.tdiv (365 : Int)))), (7, vi y8), (39, vi y7), (42, vi (IntKind.i64.wrap ((IntKind.i64.wrap ((153 : Int) * y8)) + (2 : Int))))] [] ?_)
 rw [show (IntKind.i64.wrap ((IntKind.i64.wrap ((153 : Int) * y8)) + (2 : Int))) = y9 from Option.some.inj hy16]
 refine zp [] 3 [5,6,7,45] [] [(5, vi r1.1), (6, vi (IntKind.i64.wrap (y3.tdiv (365 : Int)))), (7, vi y8), (45, vi (IntKind.i64.wrap ((IntKind.i64.wrap (y7 - (IntKind.i64.wrap (y9.tdiv (5 : Int))))) + (1 : Int))))] [] [(5 : Int) ≠ 0] (⟨by decide, trivial⟩) ?_
 rw [show (IntKind.i64.wrap ((IntKind.i64.wrap (y7 - (IntKind.i64.wrap (y9.tdiv (5 : Int))))) + (1 : Int))) = y10 from Option.some.inj hy17]
 refine zg [] 1 [4,5,6,7] (zd (hK15 _ _ (zq fun K18 hK18 => ?_)))
 obtain ⟨y11, hy19, h⟩ := zB h
 refine zr (zv [] 4 [4,7,49] [] [(4, vi y10), (7, vi y8), (49, vi (IntKind.i64.wrap ((IntKind.i64.wrap (r1.1 * (400 : Int))) + (IntKind.i64.wrap (y3.tdiv (365 : Int))))))] [] ?_)
 rw [show (IntKind.i64.wrap ((IntKind.i64.wrap (r1.1 * (400 : Int))) + (IntKind.i64.wrap (y3.tdiv (365 : Int))))) = y11 from Option.some.inj hy19]
 refine zg [] 4 [2,3,4] (zd (hK18 _ _ (zq fun K20 hK20 => ?_)))
 have hJ1 : ∀ (x1 : Int) (x2 : Int), value_date_j1 y10 x1 x2 = some r → ∀ fr1 st1, Sub 61 0 [] fr1 st1 [(2, vi x1), (3, vi x2), (4, vi y10)] [] → K20 fr1 st1 := by
  intro x1 x2 h fr1 st1 hS
  unfold value_date_j1 at h
  refine hK20 _ _ (XW.sub hS ?_)
  refine zq fun K23 hK23 => zr (zg [] 6 [2,3,4] (zd (hK23 _ _ (ze ?_))))
  obtain rfl := Option.some.inj h
  exact zf [vi x1, vi x2, vi y10] (.tpc (.one (.rfl _ rfl)) (.tpc (.one (.rfl _ rfl)) (.tpc (.one (.rfl _ rfl)) (.tp0))))
 refine zq fun K21 hK21 => zr (zg [] 2 [2,3,4,53] (zd (hK21 _ _ (zC h (fun b22 h => ?_) (fun b22 h => ?_)))))
 ·exact zr (zv [] 6 [2,3,4] [] [(2, vi (IntKind.i64.wrap (y11 + (1 : Int)))), (3, vi (IntKind.i64.wrap ((IntKind.i64.wrap (y8 + (3 : Int))) - (12 : Int)))), (4, vi y10)] [] (zd (hJ1 (IntKind.i64.wrap (y11 + (1 : Int))) (IntKind.i64.wrap ((IntKind.i64.wrap (y8 + (3 : Int))) - (12 : Int))) h _ _ (zk [2,3,4]))))
 ·exact zs (hJ1 y11 (IntKind.i64.wrap (y8 + (3 : Int))) h _ _ (zk [2,3,4]))

def value_civil (p1 : Int) : Option GCivil :=
    bnd (value_floor p1 (86400 : Int)) fun r1 =>
    bnd (value_date r1.1) fun r2 =>
    some (GCivil.mk r2.1 r2.2.1 r2.2.2 (IntKind.i64.wrap (r1.2.tdiv (3600 : Int))) (IntKind.i64.wrap ((r1.2.tmod (3600 : Int)).tdiv (60 : Int))) (r1.2.tmod (60 : Int)))


theorem c_value_civil (p1 : Int) (r : GCivil) (h : value_civil p1 = some r) : PC Tryd.prog 87 [vi p1] (.ag [ci r.year, ci r.month, ci r.day, ci r.hour, ci r.minute, ci r.second]) := by
 unfold value_civil at h
 refine zF 30 Tryd.f87 (zq fun K1 hK1 => zr (zg [2] 1 [0,2] (zd (hK1 _ _ (zq fun K2 hK2 => ?_)))))
 obtain ⟨r1, c3, h⟩ := zB h
 refine zr (zg [2] 1 [2,9] (zl 89 [vi p1, vi (86400 : Int)] (.tp [vi r1.1, vi r1.2]) [(10, .tp [vi r1.1, vi r1.2]), (2, .one (.pt 0 0 0 0)), (9, vi p1)] (c_value_floor _ _ _ c3) (zg [2] 5 [2,3,4] (zd (hK2 _ _ (zq fun K4 hK4 => ?_))))))
 obtain ⟨r2, c5, h⟩ := zB h
 refine zr (zg [2] 1 [2,4,14] (zl 105 [vi r1.1] (.tp [vi r2.1, vi r2.2.1, vi r2.2.2]) [(15, .tp [vi r2.1, vi r2.2.1, vi r2.2.2]), (2, .one (.pt 0 0 0 0)), (4, vi r1.2), (14, vi r1.1)] (c_value_date _ _ c5) (zg [2] 7 [2,4,5,6,7] (zd (hK4 _ _ (zq fun K6 hK6 => zr ?_))))))
 refine zo [2] 12 [2] [] [(3600 : Int) ≠ 0, (3600 : Int) ≠ 0, (60 : Int) ≠ 0, (60 : Int) ≠ 0] (⟨by decide, by decide, by decide, by decide, trivial⟩) (zd (hK6 _ _ (ze ?_)))
 obtain rfl := Option.some.inj h
 exact zf [.ag [ci r2.1, ci r2.2.1, ci r2.2.2, ci (IntKind.i64.wrap (r1.2.tdiv (3600 : Int))), ci (IntKind.i64.wrap ((r1.2.tmod (3600 : Int)).tdiv (60 : Int))), ci (r1.2.tmod (60 : Int))]] (.ag (.cons (.rfl _ rfl) (.cons (.rfl _ rfl) (.cons (.rfl _ rfl) (.cons (.rfl _ rfl) (.cons (.rfl _ rfl) (.cons (.rfl _ rfl) .nil)))))))

def value_days_j1 (p3 : Int) (x1 : Int) (x2 : Int) : Option Int :=
    bnd (value_floor x1 (400 : Int)) fun r1 =>
    bnd (some (IntKind.i64.wrap ((IntKind.i64.wrap (r1.1 * (146097 : Int))) + (IntKind.i64.wrap (r1.2 * (365 : Int)))))) fun y1 =>
    bnd (some (IntKind.i64.wrap ((IntKind.i64.wrap (y1 + (IntKind.i64.wrap (r1.2.tdiv (4 : Int))))) - (IntKind.i64.wrap (r1.2.tdiv (100 : Int)))))) fun y2 =>
    bnd (some (IntKind.i64.wrap ((153 : Int) * (IntKind.i64.wrap (x2 - (3 : Int)))))) fun y3 =>
    bnd (some (IntKind.i64.wrap ((IntKind.i64.wrap (y3 + (2 : Int))).tdiv (5 : Int)))) fun y4 =>
    bnd (some (IntKind.i64.wrap ((IntKind.i64.wrap ((IntKind.i64.wrap (y2 + y4)) + p3)) - (1 : Int)))) fun y5 =>
    some (IntKind.i64.wrap (y5 - (719468 : Int)))

def value_days (p1 : Int) (p2 : Int) (p3 : Int) : Option Int :=
    ift (decide (p2 ≤ (2 : Int)))
      (value_days_j1 p3 (IntKind.i64.wrap (p1 - (1 : Int))) (IntKind.i64.wrap (p2 + (12 : Int))))
      (value_days_j1 p3 p1 p2)


theorem c_value_days (p1 : Int) (p2 : Int) (p3 : Int) (r : Int) (h : value_days p1 p2 p3 = some r) : PC Tryd.prog 64 [vi p1, vi p2, vi p3] (vi r) := by
 unfold value_days at h
 refine zF 41 Tryd.f64 (zq fun K1 hK1 => zr (zg [] 1 [0,1,2] (zd (hK1 _ _ (zq fun K2 hK2 => ?_)))))
 have hJ1 : ∀ (x1 : Int) (x2 : Int), value_days_j1 p3 x1 x2 = some r → ∀ fr1 st1, Sub 41 0 [] fr1 st1 [(0, vi x1), (1, vi x2), (2, vi p3)] [] → K2 fr1 st1 := by
  intro x1 x2 h fr1 st1 hS
  unfold value_days_j1 at h
  refine hK2 _ _ (XW.sub hS ?_)
  refine zq fun K5 hK5 => ?_
  obtain ⟨r1, c6, h⟩ := zB h
  refine zr (zg [] 1 [1,2,16] (za (c_value_floor _ _ _ c6) (zv [] 5 [1,2,7,8] [] [(1, vi x2), (2, vi p3), (7, vi r1.1), (8, vi r1.2)] [] (zd (hK5 _ _ (zq fun K7 hK7 => ?_))))))
  obtain ⟨y1, hy8, h⟩ := zB h
  obtain ⟨y2, hy9, h⟩ := zB h
  obtain ⟨y3, hy10, h⟩ := zB h
  obtain ⟨y4, hy11, h⟩ := zB h
  obtain ⟨y5, hy12, h⟩ := zB h
  refine zr (zv [] 5 [1,2,8,24] [] [(1, vi x2), (2, vi p3), (8, vi r1.2), (24, vi (IntKind.i64.wrap ((IntKind.i64.wrap (r1.1 * (146097 : Int))) + (IntKind.i64.wrap (r1.2 * (365 : Int))))))] [] ?_)
  rw [show (IntKind.i64.wrap ((IntKind.i64.wrap (r1.1 * (146097 : Int))) + (IntKind.i64.wrap (r1.2 * (365 : Int))))) = y1 from Option.some.inj hy8]
  refine zp [] 6 [1,2,30] [] [(1, vi x2), (2, vi p3), (30, vi (IntKind.i64.wrap ((IntKind.i64.wrap (y1 + (IntKind.i64.wrap (r1.2.tdiv (4 : Int))))) - (IntKind.i64.wrap (r1.2.tdiv (100 : Int))))))] [] [(4 : Int) ≠ 0, (100 : Int) ≠ 0] (⟨by decide, by decide, trivial⟩) ?_
  rw [show (IntKind.i64.wrap ((IntKind.i64.wrap (y1 + (IntKind.i64.wrap (r1.2.tdiv (4 : Int))))) - (IntKind.i64.wrap (r1.2.tdiv (100 : Int))))) = y2 from Option.some.inj hy9]
  refine zv [] 3 [2,30,33] [] [(2, vi p3), (30, vi y2), (33, vi (IntKind.i64.wrap ((153 : Int) * (IntKind.i64.wrap (x2 - (3 : Int))))))] [] ?_
  rw [show (IntKind.i64.wrap ((153 : Int) * (IntKind.i64.wrap (x2 - (3 : Int))))) = y3 from Option.some.inj hy10]
  refine zp [] 2 [2,30,35] [] [(2, vi p3), (30, vi y2), (35, vi (IntKind.i64.wrap ((IntKind.i64.wrap (y3 + (2 : Int))).tdiv (5 : Int))))] [] [(5 : Int) ≠ 0] (⟨by decide, trivial⟩) ?_
  rw [show (IntKind.i64.wrap ((IntKind.i64.wrap (y3 + (2 : Int))).tdiv (5 : Int))) = y4 from Option.some.inj hy11]
  refine zv [] 4 [39] [] [(39, vi (IntKind.i64.wrap ((IntKind.i64.wrap ((IntKind.i64.wrap (y2 + y4)) + p3)) - (1 : Int))))] [] ?_
  rw [show (IntKind.i64.wrap ((IntKind.i64.wrap ((IntKind.i64.wrap (y2 + y4)) + p3)) - (1 : Int))) = y5 from Option.some.inj hy12]
  refine zg [] 2 [6] (zd (hK7 _ _ (ze ?_)))
  obtain rfl := Option.some.inj h
  exact zf [vi (IntKind.i64.wrap (y5 - (719468 : Int)))] (.one (.rfl _ rfl))
 refine zq fun K3 hK3 => zr (zg [] 2 [0,1,2,10] (zd (hK3 _ _ (zC h (fun b4 h => ?_) (fun b4 h => ?_)))))
 ·exact zr (zv [] 6 [0,1,2] [] [(0, vi (IntKind.i64.wrap (p1 - (1 : Int)))), (1, vi (IntKind.i64.wrap (p2 + (12 : Int)))), (2, vi p3)] [] (zd (hJ1 (IntKind.i64.wrap (p1 - (1 : Int))) (IntKind.i64.wrap (p2 + (12 : Int))) h _ _ (zk [0,1,2]))))
 ·exact zs (hJ1 p1 p2 h _ _ (zk [0,1,2]))

def value_weekday (p1 : Int) : Option Int :=
    bnd (value_floor (IntKind.i64.wrap (p1 + (3 : Int))) (7 : Int)) fun r1 =>
    some (IntKind.i64.wrap (r1.2 + (1 : Int)))


theorem c_value_weekday (p1 : Int) (r : Int) (h : value_weekday p1 = some r) : PC Tryd.prog 65 [vi p1] (vi r) := by
 unfold value_weekday at h
 refine zF 13 Tryd.f65 (zq fun K1 hK1 => zr (zg [] 1 [0] (zd (hK1 _ _ (zq fun K2 hK2 => ?_)))))
 obtain ⟨r1, c3, h⟩ := zB h
 refine zr (zg [] 2 [7] (zl 89 [vi (IntKind.i64.wrap (p1 + (3 : Int))), vi (7 : Int)] (.tp [vi r1.1, vi r1.2]) [(8, .tp [vi r1.1, vi r1.2]), (7, vi (IntKind.i64.wrap (p1 + (3 : Int))))] (c_value_floor _ _ _ c3) (zg [] 5 [4] (zd (hK2 _ _ (zq fun K4 hK4 => zr ?_))))))
 refine zg [] 3 [2] (zd (hK4 _ _ (ze ?_)))
 obtain rfl := Option.some.inj h
 exact zf [vi (IntKind.i64.wrap (r1.2 + (1 : Int)))] (.one (.rfl _ rfl))

def value_leap_j1 (x1 : Bool) : Option Bool :=
    some x1

def value_leap (p1 : Int) : Option Bool :=
    ift ((p1.tmod (4 : Int)) == (0 : Int))
      (ift ((p1.tmod (100 : Int)) != (0 : Int))
         (value_leap_j1 true)
         (value_leap_j1 ((p1.tmod (400 : Int)) == (0 : Int))))
      (value_leap_j1 false)


theorem c_value_leap (p1 : Int) (r : Bool) (h : value_leap p1 = some r) : PC Tryd.prog 125 [vi p1] (vb r) := by
 unfold value_leap at h
 refine zF 16 Tryd.f125 (zq fun K1 hK1 => zr (zg [] 1 [0] (zd (hK1 _ _ (zq fun K2 hK2 => ?_)))))
 have hJ1 : ∀ (x1 : Bool), value_leap_j1 x1 = some r → ∀ fr1 st1, Sub 16 0 [] fr1 st1 [(2, vb x1)] [] → K2 fr1 st1 := by
  intro x1 h fr1 st1 hS
  unfold value_leap_j1 at h
  refine hK2 _ _ (XW.sub hS ?_)
  refine ze ?_
  obtain rfl := Option.some.inj h
  exact zf [vb x1] (.one (.rfl _ rfl))
 rcases zW h with ⟨b3, h⟩ | ⟨b3, h⟩
 ·rcases zW h with ⟨b4, h⟩ | ⟨b4, h⟩
  ·exact zr (zo [] 4 [0,6] [] [(4 : Int) ≠ 0] (⟨by decide, trivial⟩) (zt 6 b3 (zp [] 4 [0,6,10] [] [(0, vi p1), (6, vb true), (10, vb ((p1.tmod (100 : Int)) != (0 : Int)))] [] [(100 : Int) ≠ 0] (⟨by decide, trivial⟩) (zt 10 b4 (zg [] 6 [2] (zd (hJ1 true h _ _ (zk [2]))))))))
  ·exact zr (zo [] 4 [0,6] [] [(4 : Int) ≠ 0] (⟨by decide, trivial⟩) (zt 6 b3 (zp [] 4 [0,6,10] [] [(0, vi p1), (6, vb true), (10, vb ((p1.tmod (100 : Int)) != (0 : Int)))] [] [(100 : Int) ≠ 0] (⟨by decide, trivial⟩) (zt 10 b4 (zo [] 6 [2] [] [(400 : Int) ≠ 0] (⟨by decide, trivial⟩) (zd (hJ1 ((p1.tmod (400 : Int)) == (0 : Int)) h _ _ (zk [2]))))))))
 ·exact zr (zo [] 4 [0,6] [] [(4 : Int) ≠ 0] (⟨by decide, trivial⟩) (zt 6 b3 (zv [] 10 [2] [] [(2, vb false)] [] (zd (hJ1 false h _ _ (zk [2]))))))

def value_daysIn_j1 (x1 : Bool) : Option Int :=
    ift x1
      (some (30 : Int))
      (some (31 : Int))

def value_daysIn (p1 : Int) (p2 : Int) : Option Int :=
    ift (p2 == (2 : Int))
      (bnd (value_leap p1) fun r1 =>
       ift r1
         (some (29 : Int))
         (some (28 : Int)))
      (ift (p2 == (4 : Int))
         (value_daysIn_j1 (p2 == (4 : Int)))
         (ift (p2 == (6 : Int))
            (value_daysIn_j1 (p2 == (6 : Int)))
            (ift (p2 == (9 : Int))
               (value_daysIn_j1 (p2 == (9 : Int)))
               (value_daysIn_j1 (p2 == (11 : Int))))))


theorem c_value_daysIn (p1 : Int) (p2 : Int) (r : Int) (h : value_daysIn p1 p2 = some r) : PC Tryd.prog 116 [vi p1, vi p2] (vi r) := by
 unfold value_daysIn at h
 refine zF 15 Tryd.f116 (zq fun K1 hK1 => zr (zg [] 1 [0,1] (zd (hK1 _ _ (zq fun K2 hK2 => zq fun K3 hK3 => ?_)))))
 refine zr (zg [] 1 [0,5] (zd (hK3 _ _ (zb 0 (zq fun K4 hK4 => zr (zv [] 2 [0,5,6] [] [(0, vi p1), (5, vi p2), (6, vb (p2 == (2 : Int)))] [] ?_))))))
 refine zd (hK4 _ _ (zC h (fun b5 h => ?_) (fun b5 h => ?_)))
 ·refine zq fun K6 hK6 => zq fun K7 hK7 => ?_
  obtain ⟨r1, c8, h⟩ := zB h
  refine zr (zg [] 1 [8] (za (c_value_leap _ _ c8) (zd (hK7 _ _ (zC h (fun b9 h => ?_) (fun b9 h => ?_))))))
  ·refine zq fun K10 hK10 => zr (zv [] 1 [4] [] [(4, vi (29 : Int))] [] (zd (hK10 _ _ (ze ?_))))
   obtain rfl := Option.some.inj h
   exact zf [vi (29 : Int)] (.one (.rfl _ rfl))
  ·refine zs (hK6 _ _ (zq fun K11 hK11 => zr (zg [] 1 [4] (zd (hK11 _ _ (ze ?_))))))
   obtain rfl := Option.some.inj h
   exact zf [vi (28 : Int)] (.one (.rfl _ rfl))
 ·refine zq fun K12 hK12 => ?_
  have hJ1 : ∀ (x1 : Bool), value_daysIn_j1 x1 = some r → ∀ fr1 st1, Sub 15 0 [] fr1 st1 [(10, vb x1)] [] → K12 fr1 st1 := by
   intro x1 h fr1 st1 hS
   unfold value_daysIn_j1 at h
   refine hK12 _ _ (XW.sub hS ?_)
   refine zC h (fun b19 h => ?_) (fun b19 h => ?_)
   ·refine zq fun K20 hK20 => zr (zg [] 1 [4] (zd (hK20 _ _ (ze ?_))))
    obtain rfl := Option.some.inj h
    exact zf [vi (30 : Int)] (.one (.rfl _ rfl))
   ·refine zs (hK2 _ _ (zq fun K21 hK21 => zr (zg [] 1 [4] (zd (hK21 _ _ (ze ?_))))))
    obtain rfl := Option.some.inj h
    exact zf [vi (31 : Int)] (.one (.rfl _ rfl))
  refine zq fun K13 hK13 => zr (zv [] 2 [5,10] [] [(5, vi p2), (10, vb (p2 == (4 : Int)))] [] (zd (hK13 _ _ (zC h (fun b14 h => ?_) (fun b14 h => ?_)))))
  ·exact zs (hJ1 (p2 == (4 : Int)) h _ _ (zk [10]))
  ·refine zq fun K15 hK15 => zr (zg [] 2 [5,10] (zd (hK15 _ _ (zC h (fun b16 h => ?_) (fun b16 h => ?_)))))
   ·exact zs (hJ1 (p2 == (6 : Int)) h _ _ (zk [10]))
   ·refine zq fun K17 hK17 => zr (zg [] 2 [5,10] (zd (hK17 _ _ (zC h (fun b18 h => ?_) (fun b18 h => ?_)))))
    ·exact zs (hJ1 (p2 == (9 : Int)) h _ _ (zk [10]))
    ·exact zr (zv [] 2 [10] [] [(10, vb (p2 == (11 : Int)))] [] (zd (hJ1 (p2 == (11 : Int)) h _ _ (zk [10]))))

def value_at_j1 (p1 : GTurn) (x2 : Int) : Option Int :=
    bnd (some (IntKind.i64.wrap ((IntKind.i64.wrap (x2 * (86400 : Int))) + (IntKind.i64.wrap (p1.minute * (60 : Int)))))) fun y4 =>
    some y4

def value_at_l1 (p1 : GTurn) (r1 : Int) (r3 : Int) : Nat → Int → Option Int
  | 0, _ => none
  | k1 + 1, x1 =>
    bnd (some (decide ((IntKind.i64.wrap (x1 + (7 : Int))) < (IntKind.i64.wrap (r1 + r3))))) fun y3 =>
    ift y3
      ((value_at_l1 p1 r1 r3 k1) (IntKind.i64.wrap (x1 + (7 : Int))))
      (value_at_j1 p1 x1)

def value_at (p1 : GTurn) (p2 : Int) : Option Int :=
    bnd (value_days p2 p1.month (1 : Int)) fun r1 =>
    bnd (value_weekday r1) fun r2 =>
    bnd (some ((IntKind.i64.wrap ((IntKind.i64.wrap (p1.weekday - r2)) + (7 : Int))).tmod (7 : Int))) fun y1 =>
    ift (decide (p1.week < (5 : Int)))
      (bnd (some (IntKind.i64.wrap ((IntKind.i64.wrap (p1.week - (1 : Int))) * (7 : Int)))) fun y2 =>
       value_at_j1 p1 (IntKind.i64.wrap ((IntKind.i64.wrap (r1 + y1)) + y2)))
      (bnd (value_daysIn p2 p1.month) fun r3 =>
       value_at_l1 p1 r1 r3 BIG (IntKind.i64.wrap (r1 + y1)))

abbrev qa1244 (p1 : GTurn) : List PV := [pi p1.month, pi p1.week, pi p1.weekday, pi p1.minute]

theorem c_value_at (p1 : GTurn) (p2 : Int) (r : Int) (h : value_at p1 p2 = some r) : PC Tryd.prog 106 [.ag [ci p1.month, ci p1.week, ci p1.weekday, ci p1.minute], vi p2] (vi r) := by
 unfold value_at at h
 refine zF 48 Tryd.f106 (zq fun K1 hK1 => zr (zg [] 2 [1,2] (zd (hK1 _ _ (zq fun K2 hK2 => ?_)))))
 obtain ⟨r1, c3, h⟩ := zB h
 refine zr (zu [] 3 [1,2,8,10] [(qa1244 p1)] (zl 64 [vi p2, vi p1.month, vi (1 : Int)] (vi r1) [(11, vi r1), (1, vi p2), (2, .one (.pv (.rp [(qa1244 p1)] 0 0))), (8, vi p2), (10, vi p1.month)] (c_value_days _ _ _ _ c3) (zg [] 1 [1,2,5] (zd (hK2 _ _ (zq fun K4 hK4 => ?_))))))
 obtain ⟨r2, c5, h⟩ := zB h
 obtain ⟨y1, hy6, h⟩ := zB h
 refine zw 8 [(19, vi y1), (18, vi (IntKind.i64.wrap ((IntKind.i64.wrap (p1.weekday - r2)) + (7 : Int)))), (17, vi (IntKind.i64.wrap (p1.weekday - r2))), (16, vi r2), (15, vi r1), (14, vi p1.weekday), (13, .one (.pv (.rp [(qa1244 p1)] 0 2))), (12, vi r1), (1, vi p2), (2, .one (.pv (.rp [(qa1244 p1)] 0 0))), (5, vi r1)] ?_ ?_
 ·refine zyu 4 [(qa1244 p1)] (DX.cal 65 [vi r1] (vi r2) [(16, vi r2), (15, vi r1), (14, vi p1.weekday), (13, .one (.pv (.rp [(qa1244 p1)] 0 2))), (12, vi r1), (1, vi p2), (2, .one (.pv (.rp [(qa1244 p1)] 0 0))), (5, vi r1)] (by kernel_rfl) (c_value_weekday _ _ c5) rfl rfl (by kernel_rfl) ?_)
  refine zyp 3 [] [(19, vi ((IntKind.i64.wrap ((IntKind.i64.wrap (p1.weekday - r2)) + (7 : Int))).tmod (7 : Int))), (18, vi (IntKind.i64.wrap ((IntKind.i64.wrap (p1.weekday - r2)) + (7 : Int)))), (17, vi (IntKind.i64.wrap (p1.weekday - r2))), (16, vi r2), (15, vi r1), (14, vi p1.weekday), (13, .one (.pv (.rp [[pi p1.month, pi p1.week, pi p1.weekday, pi p1.minute]] 0 2))), (12, vi r1), (1, vi p2), (2, .one (.pv (.rp [[pi p1.month, pi p1.week, pi p1.weekday, pi p1.minute]] 0 0))), (5, vi r1)] [(7 : Int) ≠ 0] (⟨by decide, trivial⟩) ?_
  rw [show ((IntKind.i64.wrap ((IntKind.i64.wrap (p1.weekday - r2)) + (7 : Int))).tmod (7 : Int)) = y1 from Option.some.inj hy6]
  exact zyd
 refine zg [] 2 [1,2,5,6] (zd (hK4 _ _ (zq fun K7 hK7 => ?_)))
 have hJ1 : ∀ (x2 : Int), value_at_j1 p1 x2 = some r → ∀ fr1 st1, Sub 48 0 [] fr1 st1 [(2, .one (.pv (.rp [(qa1244 p1)] 0 0))), (6, vi x2)] [] → K7 fr1 st1 := by
  intro x2 h fr1 st1 hS
  unfold value_at_j1 at h
  refine hK7 _ _ (XW.sub hS ?_)
  refine zq fun K17 hK17 => ?_
  obtain ⟨y4, hy18, h⟩ := zB h
  refine zr (zv [] 6 [47] [[pi p1.month, pi p1.week, pi p1.weekday, pi p1.minute]] [(47, vi (IntKind.i64.wrap ((IntKind.i64.wrap (x2 * (86400 : Int))) + (IntKind.i64.wrap (p1.minute * (60 : Int))))))] [] ?_)
  rw [show (IntKind.i64.wrap ((IntKind.i64.wrap (x2 * (86400 : Int))) + (IntKind.i64.wrap (p1.minute * (60 : Int))))) = y4 from Option.some.inj hy18]
  refine zg [] 1 [4] (zd (hK17 _ _ (ze ?_)))
  obtain rfl := Option.some.inj h
  exact zf [vi y4] (.one (.rfl _ rfl))
 refine zq fun K8 hK8 => zr (zv [] 3 [1,2,5,6,23] [(qa1244 p1)] [(1, vi p2), (2, .one (.pv (.rp [(qa1244 p1)] 0 0))), (5, vi r1), (6, vi (IntKind.i64.wrap (r1 + y1))), (23, vb (decide (p1.week < (5 : Int))))] [] (zd (hK8 _ _ (zC h (fun b9 h => ?_) (fun b9 h => ?_)))))
 ·obtain ⟨y2, hy10, h⟩ := zB h
  refine zr (zv [] 5 [2,24,28] [[pi p1.month, pi p1.week, pi p1.weekday, pi p1.minute]] [(2, .one (.pv (.rp [[pi p1.month, pi p1.week, pi p1.weekday, pi p1.minute]] 0 0))), (24, vi (IntKind.i64.wrap (r1 + y1))), (28, vi (IntKind.i64.wrap ((IntKind.i64.wrap (p1.week - (1 : Int))) * (7 : Int))))] [] ?_)
  rw [show (IntKind.i64.wrap ((IntKind.i64.wrap (p1.week - (1 : Int))) * (7 : Int))) = y2 from Option.some.inj hy10]
  exact zg [] 2 [2,6] (zd (hJ1 (IntKind.i64.wrap ((IntKind.i64.wrap (r1 + y1)) + y2)) h _ _ (zk [2,6])))
 ·refine zq fun K11 hK11 => ?_
  obtain ⟨r3, c12, h⟩ := zB h
  refine zr (zu [] 4 [2,6,30,31,33] [[pi p1.month, pi p1.week, pi p1.weekday, pi p1.minute]] (zl 116 [vi p2, vi p1.month] (vi r3) [(34, vi r3), (2, .one (.pv (.rp [[pi p1.month, pi p1.week, pi p1.weekday, pi p1.minute]] 0 0))), (6, vi (IntKind.i64.wrap (r1 + y1))), (30, vi r1), (31, vi p2), (33, vi p1.month)] (c_value_daysIn _ _ _ c12) (zg [] 2 [2,6,7] (zd (hK11 _ _ (zb 0 (XW.rounds' BIG (x := cd Tryd.f106 [1,1,1,0,1,1,1,0,0]) (by kernel_rfl) fun Q1 hQ1 => ?_)))))))
  have hL1 : ∀ (k1 : Nat) (x1 : Int), value_at_l1 p1 r1 r3 k1 x1 = some r → XR Tryd.prog 48 0 [] (cd Tryd.f106 [1,1,1,0,1,1,1,0,0]) Q1 k1 [(2, .one (.pv (.rp [(qa1244 p1)] 0 0))), (6, vi x1), (7, vi (IntKind.i64.wrap (r1 + r3)))] [] := by
   intro k1
   induction k1 with
   | zero => intro x1 h; rw [value_at_l1.eq_1] at h; cases h
   | succ k1 ih1 =>
    intro x1 h
    rw [value_at_l1.eq_2] at h
    refine zq fun K13 hK13 => zq fun K14 hK14 => ?_
    obtain ⟨y3, hy15, h⟩ := zB h
    refine zr (zv [] 4 [2,6,7,39] [] [(2, .one (.pv (.rp [[pi p1.month, pi p1.week, pi p1.weekday, pi p1.minute]] 0 0))), (6, vi x1), (7, vi (IntKind.i64.wrap (r1 + r3))), (39, vb (decide ((IntKind.i64.wrap (x1 + (7 : Int))) < (IntKind.i64.wrap (r1 + r3)))))] [] ?_)
    rw [show (decide ((IntKind.i64.wrap (x1 + (7 : Int))) < (IntKind.i64.wrap (r1 + r3)))) = y3 from Option.some.inj hy15]
    refine zd (hK14 _ _ (zC h (fun b16 h => ?_) (fun b16 h => ?_)))
    ·exact zs (hK13 _ _ (zb 1 (zr (zg [] 3 [2,6,7] (zd (XR.sub (zk [2,6,7]) (ih1 (IntKind.i64.wrap (x1 + (7 : Int))) h)))))))
    ·exact zx 0 (hQ1 _ _ _ (hJ1 x1 h _ _ (zk [2,6])))
  exact XR.sub (zk [2,6,7]) (hL1 BIG (IntKind.i64.wrap (r1 + y1)) h)

def value_ahead_j2 (p1 : GZone) (x2 : Bool) : Option Int :=
    ift x2
      (bnd (some (IntKind.i64.wrap ((IntKind.i64.wrap (p1.offset * (60 : Int))) + (IntKind.i64.wrap (p1.summer * (60 : Int)))))) fun y5 =>
       some y5)
      (some (IntKind.i64.wrap (p1.offset * (60 : Int))))

def value_ahead_j1 (p1 : GZone) (p2 : Int) (r2 : Int) (y1 : Int) (x1 : Bool) : Option Int :=
    bnd (some (decide (y1 ≤ (IntKind.i64.wrap (r2 - (IntKind.i64.wrap (p1.offset * (60 : Int)))))))) fun y3 =>
    ift y3
      (ift (decide (p2 < y1))
         (value_ahead_j2 p1 true)
         (bnd (some (decide ((IntKind.i64.wrap (r2 - (IntKind.i64.wrap (p1.offset * (60 : Int))))) ≤ p2))) fun y4 =>
          value_ahead_j2 p1 y4))
      (value_ahead_j2 p1 x1)

def value_ahead (p1 : GZone) (p2 : Int) : Option Int :=
    ift ((IntKind.i64.wrap (p1.summer * (60 : Int))) == (0 : Int))
      (some (IntKind.i64.wrap (p1.offset * (60 : Int))))
      (bnd (value_civil (IntKind.i64.wrap (p2 + (IntKind.i64.wrap (p1.offset * (60 : Int)))))) fun r1 =>
       bnd (value_at p1.start r1.year) fun r2 =>
       bnd (value_at p1.stop r1.year) fun r3 =>
       bnd (some (IntKind.i64.wrap ((IntKind.i64.wrap (r3 - (IntKind.i64.wrap (p1.offset * (60 : Int))))) - (IntKind.i64.wrap (p1.summer * (60 : Int)))))) fun y1 =>
       bnd (some (decide ((IntKind.i64.wrap (r2 - (IntKind.i64.wrap (p1.offset * (60 : Int))))) ≤ p2))) fun y2 =>
       ift y2
         (value_ahead_j1 p1 p2 r2 y1 (decide (p2 < y1)))
         (value_ahead_j1 p1 p2 r2 y1 false))

abbrev qa1252 (p1 : GZone) : List PV := [.s (.string p1.name), pi p1.offset, pi p1.summer, pi p1.start.month, pi p1.start.week, pi p1.start.weekday, pi p1.start.minute, pi p1.stop.month, pi p1.stop.week, pi p1.stop.weekday, pi p1.stop.minute]
abbrev qa1255 (p1 : GZone) : List CV := [ci p1.start.month, ci p1.start.week, ci p1.start.weekday, ci p1.start.minute]

theorem c_value_ahead (p1 : GZone) (p2 : Int) (r : Int) (h : value_ahead p1 p2 = some r) : PC Tryd.prog 88 [.ag [cst p1.name, ci p1.offset, ci p1.summer, ci p1.start.month, ci p1.start.week, ci p1.start.weekday, ci p1.start.minute, ci p1.stop.month, ci p1.stop.week, ci p1.stop.weekday, ci p1.stop.minute], vi p2] (vi r) := by
 unfold value_ahead at h
 refine zF 63 Tryd.f88 (zq fun K1 hK1 => zr (zg [] 2 [1,2] (zd (hK1 _ _ (zq fun K2 hK2 => ?_)))))
 refine zw 7 [(5, vi (IntKind.i64.wrap (p1.offset * (60 : Int)))), (16, vi (IntKind.i64.wrap (p1.summer * (60 : Int)))), (15, vi p1.summer), (14, .one (.pv (.rp [(qa1252 p1)] 0 2))), (13, vi (IntKind.i64.wrap (p1.offset * (60 : Int)))), (12, vi p1.offset), (11, .one (.pv (.rp [(qa1252 p1)] 0 1))), (1, vi p2), (2, .one (.pv (.rp [(qa1252 p1)] 0 0)))] ?_ ?_
 ·exact zyu 7 [(qa1252 p1), (qa1252 p1)] zyd
 refine zg [] 1 [1,2,5,6] (zd (hK2 _ _ (zq fun K3 hK3 => zq fun K4 hK4 => zr (zv [] 2 [1,2,5,6,18] [] [(1, vi p2), (2, .one (.pv (.rp [(qa1252 p1)] 0 0))), (5, vi (IntKind.i64.wrap (p1.offset * (60 : Int)))), (6, vi (IntKind.i64.wrap (p1.summer * (60 : Int)))), (18, vb ((IntKind.i64.wrap (p1.summer * (60 : Int))) == (0 : Int)))] [] (zd ?_)))))
 refine hK4 _ _ (zC h (fun b5 h => ?_) (fun b5 h => ?_))
 ·refine zq fun K6 hK6 => zr (zg [] 2 [4] (zd (hK6 _ _ (ze ?_))))
  obtain rfl := Option.some.inj h
  exact zf [vi (IntKind.i64.wrap (p1.offset * (60 : Int)))] (.one (.rfl _ rfl))
 ·refine zs (hK3 _ _ (zq fun K7 hK7 => ?_))
  obtain ⟨r1, c8, h⟩ := zB h
  refine zr (zg [] 3 [1,2,5,6,22] ?_)
  refine zl 87 [vi (IntKind.i64.wrap (p2 + (IntKind.i64.wrap (p1.offset * (60 : Int)))))] (.ag [ci r1.year, ci r1.month, ci r1.day, ci r1.hour, ci r1.minute, ci r1.second]) [(23, .ag [ci r1.year, ci r1.month, ci r1.day, ci r1.hour, ci r1.minute, ci r1.second]), (1, vi p2), (2, .one (.pv (.rp [(qa1252 p1)] 0 0))), (5, vi (IntKind.i64.wrap (p1.offset * (60 : Int)))), (6, vi (IntKind.i64.wrap (p1.summer * (60 : Int)))), (22, vi (IntKind.i64.wrap (p2 + (IntKind.i64.wrap (p1.offset * (60 : Int))))))] (c_value_civil _ _ c8) ?_
  refine zg [] 2 [1,2,5,6,7] (zd (hK7 _ _ (zq fun K9 hK9 => ?_)))
  obtain ⟨r2, c10, h⟩ := zB h
  obtain ⟨r3, c11, h⟩ := zB h
  obtain ⟨y1, hy12, h⟩ := zB h
  refine zw 15 [(8, vi (IntKind.i64.wrap (r2 - (IntKind.i64.wrap (p1.offset * (60 : Int)))))), (38, vi y1), (37, vi (IntKind.i64.wrap (p1.summer * (60 : Int)))), (36, vi (IntKind.i64.wrap (r3 - (IntKind.i64.wrap (p1.offset * (60 : Int)))))), (35, vi (IntKind.i64.wrap (p1.offset * (60 : Int)))), (34, vi r3), (33, vi r1.year), (32, .ag [ci p1.stop.month, ci p1.stop.week, ci p1.stop.weekday, ci p1.stop.minute]), (31, .one (.pv (.rp [(qa1252 p1)] 0 7))), (30, vi (IntKind.i64.wrap (r2 - (IntKind.i64.wrap (p1.offset * (60 : Int)))))), (29, vi (IntKind.i64.wrap (p1.offset * (60 : Int)))), (28, vi r2), (27, vi r1.year), (26, .ag (qa1255 p1)), (25, .one (.pv (.rp [(qa1252 p1)] 0 3))), (1, vi p2), (2, .one (.pv (.rp [(qa1252 p1)] 0 0))), (5, vi (IntKind.i64.wrap (p1.offset * (60 : Int)))), (6, vi (IntKind.i64.wrap (p1.summer * (60 : Int)))), (7, vi r1.year)] ?_ ?_
  ·refine zyu 3 [(qa1252 p1)] ?_
   refine DX.cal 106 [.ag (qa1255 p1), vi r1.year] (vi r2) [(28, vi r2), (27, vi r1.year), (26, .ag (qa1255 p1)), (25, .one (.pv (.rp [(qa1252 p1)] 0 3))), (1, vi p2), (2, .one (.pv (.rp [(qa1252 p1)] 0 0))), (5, vi (IntKind.i64.wrap (p1.offset * (60 : Int)))), (6, vi (IntKind.i64.wrap (p1.summer * (60 : Int)))), (7, vi r1.year)] (by kernel_rfl) (c_value_at _ _ _ c10) rfl rfl (by kernel_rfl) ?_
   refine zyu 5 [(qa1252 p1)] (zya (c_value_at _ _ _ c11) ?_)
   refine zyv 4 [] [(38, vi (IntKind.i64.wrap ((IntKind.i64.wrap (r3 - (IntKind.i64.wrap (p1.offset * (60 : Int))))) - (IntKind.i64.wrap (p1.summer * (60 : Int)))))), (37, vi (IntKind.i64.wrap (p1.summer * (60 : Int)))), (36, vi (IntKind.i64.wrap (r3 - (IntKind.i64.wrap (p1.offset * (60 : Int)))))), (35, vi (IntKind.i64.wrap (p1.offset * (60 : Int)))), (34, vi r3), (33, vi r1.year), (32, .ag [ci p1.stop.month, ci p1.stop.week, ci p1.stop.weekday, ci p1.stop.minute]), (31, .one (.pv (.rp [[.s (.string p1.name), pi p1.offset, pi p1.summer, pi p1.start.month, pi p1.start.week, pi p1.start.weekday, pi p1.start.minute, pi p1.stop.month, pi p1.stop.week, pi p1.stop.weekday, pi p1.stop.minute]] 0 7))), (30, vi (IntKind.i64.wrap (r2 - (IntKind.i64.wrap (p1.offset * (60 : Int)))))), (29, vi (IntKind.i64.wrap (p1.offset * (60 : Int)))), (28, vi r2), (27, vi r1.year), (26, .ag [ci p1.start.month, ci p1.start.week, ci p1.start.weekday, ci p1.start.minute]), (25, .one (.pv (.rp [[.s (.string p1.name), pi p1.offset, pi p1.summer, pi p1.start.month, pi p1.start.week, pi p1.start.weekday, pi p1.start.minute, pi p1.stop.month, pi p1.stop.week, pi p1.stop.weekday, pi p1.stop.minute]] 0 3))), (1, vi p2), (2, .one (.pv (.rp [[.s (.string p1.name), pi p1.offset, pi p1.summer, pi p1.start.month, pi p1.start.week, pi p1.start.weekday, pi p1.start.minute, pi p1.stop.month, pi p1.stop.week, pi p1.stop.weekday, pi p1.stop.minute]] 0 0))), (5, vi (IntKind.i64.wrap (p1.offset * (60 : Int)))), (6, vi (IntKind.i64.wrap (p1.summer * (60 : Int)))), (7, vi r1.year)] ?_
   rw [show (IntKind.i64.wrap ((IntKind.i64.wrap (r3 - (IntKind.i64.wrap (p1.offset * (60 : Int))))) - (IntKind.i64.wrap (p1.summer * (60 : Int))))) = y1 from Option.some.inj hy12]
   exact zyg 1 zyd
  refine zg [] 1 [1,5,6,8,9] (zd (hK9 _ _ (zq fun K13 hK13 => ?_)))
  have hJ1 : ∀ (x1 : Bool), value_ahead_j1 p1 p2 r2 y1 x1 = some r → ∀ fr1 st1, Sub 63 0 [] fr1 st1 [(1, vi p2), (5, vi (IntKind.i64.wrap (p1.offset * (60 : Int)))), (6, vi (IntKind.i64.wrap (p1.summer * (60 : Int)))), (8, vi (IntKind.i64.wrap (r2 - (IntKind.i64.wrap (p1.offset * (60 : Int)))))), (9, vi y1), (10, vb x1)] [] → K13 fr1 st1 := by
   intro x1 h fr1 st1 hS
   unfold value_ahead_j1 at h
   refine hK13 _ _ (XW.sub hS ?_)
   refine zq fun K16 hK16 => ?_
   have hJ2 : ∀ (x2 : Bool), value_ahead_j2 p1 x2 = some r → ∀ fr1 st1, Sub 63 0 [] fr1 st1 [(5, vi (IntKind.i64.wrap (p1.offset * (60 : Int)))), (6, vi (IntKind.i64.wrap (p1.summer * (60 : Int)))), (10, vb x2)] [] → K16 fr1 st1 := by
    intro x2 h fr1 st1 hS
    unfold value_ahead_j2 at h
    refine hK16 _ _ (XW.sub hS ?_)
    refine zq fun K22 hK22 => zq fun K23 hK23 => zr (zg [] 1 [5,6,58] (zd (hK23 _ _ (zC h (fun b24 h => ?_) (fun b24 h => ?_)))))
    ·refine zq fun K25 hK25 => ?_
     obtain ⟨y5, hy26, h⟩ := zB h
     refine zr (zv [] 3 [61] [] [(61, vi (IntKind.i64.wrap ((IntKind.i64.wrap (p1.offset * (60 : Int))) + (IntKind.i64.wrap (p1.summer * (60 : Int))))))] [] ?_)
     rw [show (IntKind.i64.wrap ((IntKind.i64.wrap (p1.offset * (60 : Int))) + (IntKind.i64.wrap (p1.summer * (60 : Int))))) = y5 from Option.some.inj hy26]
     refine zg [] 1 [4] (zd (hK25 _ _ (ze ?_)))
     obtain rfl := Option.some.inj h
     exact zf [vi y5] (.one (.rfl _ rfl))
    ·refine zs (hK22 _ _ (zq fun K27 hK27 => zr (zg [] 2 [4] (zd (hK27 _ _ (ze ?_))))))
     obtain rfl := Option.some.inj h
     exact zf [vi (IntKind.i64.wrap (p1.offset * (60 : Int)))] (.one (.rfl _ rfl))
   refine zq fun K17 hK17 => ?_
   obtain ⟨y3, hy18, h⟩ := zB h
   refine zr (zv [] 3 [1,5,6,8,9,10,49] [] [(1, vi p2), (5, vi (IntKind.i64.wrap (p1.offset * (60 : Int)))), (6, vi (IntKind.i64.wrap (p1.summer * (60 : Int)))), (8, vi (IntKind.i64.wrap (r2 - (IntKind.i64.wrap (p1.offset * (60 : Int)))))), (9, vi y1), (10, vb x1), (49, vb (decide (y1 ≤ (IntKind.i64.wrap (r2 - (IntKind.i64.wrap (p1.offset * (60 : Int))))))))] [] ?_)
   rw [show (decide (y1 ≤ (IntKind.i64.wrap (r2 - (IntKind.i64.wrap (p1.offset * (60 : Int))))))) = y3 from Option.some.inj hy18]
   refine zd (hK17 _ _ (zC h (fun b19 h => ?_) (fun b19 h => ?_)))
   ·rcases zW h with ⟨b20, h⟩ | ⟨b20, h⟩
    ·exact zr (zg [] 4 [1,5,6,8,53] (zt 53 b20 (zg [] 5 [5,6,10] (zd (hJ2 true h _ _ (zk [5,6,10]))))))
    ·obtain ⟨y4, hy21, h⟩ := zB h
     refine zr (zv [] 4 [1,5,6,8,53] [] [(1, vi p2), (5, vi (IntKind.i64.wrap (p1.offset * (60 : Int)))), (6, vi (IntKind.i64.wrap (p1.summer * (60 : Int)))), (8, vi (IntKind.i64.wrap (r2 - (IntKind.i64.wrap (p1.offset * (60 : Int)))))), (53, vb (decide (p2 < y1)))] [] (zt 53 b20 (zv [] 3 [5,6,53,56] [] [(5, vi (IntKind.i64.wrap (p1.offset * (60 : Int)))), (6, vi (IntKind.i64.wrap (p1.summer * (60 : Int)))), (53, vb false), (56, vb (decide ((IntKind.i64.wrap (r2 - (IntKind.i64.wrap (p1.offset * (60 : Int))))) ≤ p2)))] [] ?_)))
     rw [show (decide ((IntKind.i64.wrap (r2 - (IntKind.i64.wrap (p1.offset * (60 : Int))))) ≤ p2)) = y4 from Option.some.inj hy21]
     exact zg [] 2 [5,6,10] (zd (hJ2 y4 h _ _ (zk [5,6,10])))
   ·exact zs (hJ2 x1 h _ _ (zk [5,6,10]))
  obtain ⟨y2, hy14, h⟩ := zB h
  rcases zW h with ⟨b15, h⟩ | ⟨b15, h⟩
  ·refine zr (zv [] 3 [1,5,6,8,9,41] [] [(1, vi p2), (5, vi (IntKind.i64.wrap (p1.offset * (60 : Int)))), (6, vi (IntKind.i64.wrap (p1.summer * (60 : Int)))), (8, vi (IntKind.i64.wrap (r2 - (IntKind.i64.wrap (p1.offset * (60 : Int)))))), (9, vi y1), (41, vb (decide ((IntKind.i64.wrap (r2 - (IntKind.i64.wrap (p1.offset * (60 : Int))))) ≤ p2)))] [] ?_)
   rw [show (decide ((IntKind.i64.wrap (r2 - (IntKind.i64.wrap (p1.offset * (60 : Int))))) ≤ p2)) = y2 from Option.some.inj hy14]
   exact zg [] 1 [1,5,6,8,9,42] (zt 42 b15 (zg [] 5 [1,5,6,8,9,10] (zd (hJ1 (decide (p2 < y1)) h _ _ (zk [1,5,6,8,9,10])))))
  ·refine zr (zv [] 3 [1,5,6,8,9,41] [] [(1, vi p2), (5, vi (IntKind.i64.wrap (p1.offset * (60 : Int)))), (6, vi (IntKind.i64.wrap (p1.summer * (60 : Int)))), (8, vi (IntKind.i64.wrap (r2 - (IntKind.i64.wrap (p1.offset * (60 : Int)))))), (9, vi y1), (41, vb (decide ((IntKind.i64.wrap (r2 - (IntKind.i64.wrap (p1.offset * (60 : Int))))) ≤ p2)))] [] ?_)
   rw [show (decide ((IntKind.i64.wrap (r2 - (IntKind.i64.wrap (p1.offset * (60 : Int))))) ≤ p2)) = y2 from Option.some.inj hy14]
   exact zg [] 1 [1,5,6,8,9,42] (zt 42 b15 (zg [] 5 [1,5,6,8,9,10] (zd (hJ1 false h _ _ (zk [1,5,6,8,9,10])))))

def value_Local (p1 : Int) (p2 : ByteArray) : Option (GCivil × Int) :=
    bnd (value_zone p2) fun r1 =>
    ift (!r1.2)
      (some ((GCivil.mk (0 : Int) (0 : Int) (0 : Int) (0 : Int) (0 : Int) (0 : Int)), (4 : Int)))
      (bnd (value_within p1 (-62135596800 : Int) (253402300799 : Int)) fun r2 =>
       ift (!r2)
         (some ((GCivil.mk (0 : Int) (0 : Int) (0 : Int) (0 : Int) (0 : Int) (0 : Int)), (3 : Int)))
         (bnd (value_ahead r1.1 p1) fun r3 =>
          bnd (value_civil (IntKind.i64.wrap (p1 + r3))) fun r4 =>
          some (r4, (0 : Int))))

abbrev qa1264 (r1 : (GZone × Bool)) : List CV := [cst r1.1.name, ci r1.1.offset, ci r1.1.summer, ci r1.1.start.month, ci r1.1.start.week, ci r1.1.start.weekday, ci r1.1.start.minute, ci r1.1.stop.month, ci r1.1.stop.week, ci r1.1.stop.weekday, ci r1.1.stop.minute]
abbrev qa1266 : List CV := [ci (0 : Int), ci (0 : Int), ci (0 : Int), ci (0 : Int), ci (0 : Int), ci (0 : Int)]

theorem c_value_Local (p1 : Int) (p2 : ByteArray) (r : (GCivil × Int)) (h : value_Local p1 p2 = some r) : PC Tryd.prog 63 [vi p1, vs p2] (.tp [.ag [ci r.1.year, ci r.1.month, ci r.1.day, ci r.1.hour, ci r.1.minute, ci r.1.second], vi r.2]) := by
 unfold value_Local at h
 refine zF 26 Tryd.f63 (zq fun K1 hK1 => zr (zg [4, 6] 2 [0,1,4] (zd (hK1 _ _ (zq fun K2 hK2 => ?_)))))
 obtain ⟨r1, c3, h⟩ := zB h
 refine zr (zg [4, 6] 1 [0,4,9] ?_)
 refine zl 85 [vs p2] (.tp [.ag (qa1264 r1), vb r1.2]) [(10, .tp [.ag (qa1264 r1), vb r1.2]), (0, vi p1), (4, .one (.pt 0 0 0 0)), (9, vs p2)] (c_value_zone _ _ c3) (zg [4, 6] 6 [0,4,6,7] ?_)
 refine zd (hK2 _ _ (zq fun K4 hK4 => zq fun K5 hK5 => zr (zg [4, 6] 2 [0,4,6,14] (zd (hK5 _ _ ?_)))))
 refine zC h (fun b6 h => ?_) (fun b6 h => ?_)
 ·refine zq fun K7 hK7 => zr (zv [4, 6] 3 [4,5] [] [(4, .one (.pt 0 0 0 0)), (5, vi (4 : Int))] [.box qa1266, .box (qa1264 r1)] (zd (hK7 _ _ (ze ?_))))
  obtain rfl := Option.some.inj h
  exact zf [.ag qa1266, vi (4 : Int)] (.tpc (.ag (.cons (.rfl _ rfl) (.cons (.rfl _ rfl) (.cons (.rfl _ rfl) (.cons (.rfl _ rfl) (.cons (.rfl _ rfl) (.cons (.rfl _ rfl) .nil))))))) (.tpc (.one (.rfl _ rfl)) (.tp0)))
 ·refine zs (hK4 _ _ (zq fun K8 hK8 => zq fun K9 hK9 => ?_))
  obtain ⟨r2, c10, h⟩ := zB h
  refine zr (zg [4, 6] 1 [0,4,6,16] (za (c_value_within _ _ _ _ c10) (zv [4, 6] 1 [0,4,6,18] [] [(0, vi p1), (4, .one (.pt 0 0 0 0)), (6, .one (.pt 1 0 0 0)), (18, vb (!r2))] [.box qa1266, .box (qa1264 r1)] (zd (hK9 _ _ (zC h (fun b11 h => ?_) (fun b11 h => ?_)))))))
  ·refine zq fun K12 hK12 => zr (zg [4, 6] 3 [4,5] (zd (hK12 _ _ (ze ?_))))
   obtain rfl := Option.some.inj h
   exact zf [.ag qa1266, vi (3 : Int)] (.tpc (.ag (.cons (.rfl _ rfl) (.cons (.rfl _ rfl) (.cons (.rfl _ rfl) (.cons (.rfl _ rfl) (.cons (.rfl _ rfl) (.cons (.rfl _ rfl) .nil))))))) (.tpc (.one (.rfl _ rfl)) (.tp0)))
  ·refine zs (hK8 _ _ (zq fun K13 hK13 => ?_))
   obtain ⟨r3, c14, h⟩ := zB h
   obtain ⟨r4, c15, h⟩ := zB h
   refine zr (zg [4, 6] 3 [4,20,21,22] ?_)
   refine zl 88 [.ag (qa1264 r1), vi p1] (vi r3) [(23, vi r3), (4, .one (.pt 0 0 0 0)), (20, vi p1), (21, .ag (qa1264 r1)), (22, vi p1)] (c_value_ahead _ _ _ c14) (zg [4, 6] 1 [4,24] ?_)
   refine za (c_value_civil _ _ c15) (zv [4, 6] 2 [4,5] [] [(4, .one (.pt 0 0 0 0)), (5, vi (0 : Int))] [.box [ci r4.year, ci r4.month, ci r4.day, ci r4.hour, ci r4.minute, ci r4.second], .box (qa1264 r1)] (zd (hK13 _ _ (ze ?_))))
   obtain rfl := Option.some.inj h
   exact zf [.ag [ci r4.year, ci r4.month, ci r4.day, ci r4.hour, ci r4.minute, ci r4.second], vi (0 : Int)] (.tpc (.ag (.cons (.rfl _ rfl) (.cons (.rfl _ rfl) (.cons (.rfl _ rfl) (.cons (.rfl _ rfl) (.cons (.rfl _ rfl) (.cons (.rfl _ rfl) .nil))))))) (.tpc (.one (.rfl _ rfl)) (.tp0)))

def value_Part (p1 : Int) (p2 : Int) (p3 : ByteArray) : Option (Int × Int) :=
    bnd (value_Local p1 p3) fun r1 =>
    ift (r1.2 != (0 : Int))
      (some ((0 : Int), r1.2))
      (bnd (value_days r1.1.year r1.1.month r1.1.day) fun r2 =>
       ift (p2 == (1 : Int))
         (some (r1.1.year, (0 : Int)))
         (ift (p2 == (2 : Int))
            (some (r1.1.month, (0 : Int)))
            (ift (p2 == (3 : Int))
               (some (r1.1.day, (0 : Int)))
               (ift (p2 == (4 : Int))
                  (some (r1.1.hour, (0 : Int)))
                  (ift (p2 == (5 : Int))
                     (some (r1.1.minute, (0 : Int)))
                     (ift (p2 == (6 : Int))
                        (some (r1.1.second, (0 : Int)))
                        (ift (p2 == (7 : Int))
                           (bnd (value_weekday r2) fun r3 =>
                            some (r3, (0 : Int)))
                           (ift (p2 == (8 : Int))
                              (bnd (value_days r1.1.year (1 : Int) (1 : Int)) fun r4 =>
                               some ((IntKind.i64.wrap ((IntKind.i64.wrap (r2 - r4)) + (1 : Int))), (0 : Int)))
                              (some ((0 : Int), (3 : Int)))))))))))

abbrev qa1274 (r1 : (GCivil × Int)) : List CV := [ci r1.1.year, ci r1.1.month, ci r1.1.day, ci r1.1.hour, ci r1.1.minute, ci r1.1.second]

theorem c_value_Part (p1 : Int) (p2 : Int) (p3 : ByteArray) (r : (Int × Int)) (h : value_Part p1 p2 p3 = some r) : PC Tryd.prog 37 [vi p1, vi p2, vs p3] (.tp [vi r.1, vi r.2]) := by
 unfold value_Part at h
 refine zF 64 Tryd.f37 (zq fun K1 hK1 => zr (zg [8] 2 [0,1,2] (zd (hK1 _ _ (zq fun K2 hK2 => ?_)))))
 obtain ⟨r1, c3, h⟩ := zB h
 refine zr (zg [8] 2 [1,12,13] (zl 63 [vi p1, vs p3] (.tp [.ag (qa1274 r1), vi r1.2]) [(14, .tp [.ag (qa1274 r1), vi r1.2]), (1, vi p2), (12, vi p1), (13, vs p3)] (c_value_Local _ _ _ c3) (zg [8] 6 [1,8,9] (zd (hK2 _ _ (zq fun K4 hK4 => zq fun K5 hK5 => ?_))))))
 refine zr (zg [8] 2 [1,8,9,18] (zd (hK5 _ _ (zC h (fun b6 h => ?_) (fun b6 h => ?_)))))
 ·refine zq fun K7 hK7 => zr (zv [8] 3 [6,7] [] [(6, vi (0 : Int)), (7, vi r1.2)] [.box (qa1274 r1)] (zd (hK7 _ _ (ze ?_))))
  obtain rfl := Option.some.inj h
  exact zf [vi (0 : Int), vi r1.2] (.tpc (.one (.rfl _ rfl)) (.tpc (.one (.rfl _ rfl)) (.tp0)))
 ·refine zs (hK4 _ _ (zq fun K8 hK8 => ?_))
  obtain ⟨r2, c9, h⟩ := zB h
  refine zr (zg [8] 6 [1,8,21,23,25] (za (c_value_days _ _ _ _ c9) (zv [8] 1 [1,8,10] [] [(1, vi p2), (8, .one (.pt 0 0 0 0)), (10, vi r2)] [.box (qa1274 r1)] (zd (hK8 _ _ (zq fun K10 hK10 => zq fun K11 hK11 => ?_))))))
  refine zr (zg [8] 1 [8,10,27] (zd (hK11 _ _ (zb 0 (zq fun K12 hK12 => zr (zg [8] 2 [8,10,27,28] ?_))))))
  refine zd (hK12 _ _ (zC h (fun b13 h => ?_) (fun b13 h => ?_)))
  ·refine zq fun K14 hK14 => zr (zv [8] 4 [6,7] [] [(6, vi r1.1.year), (7, vi (0 : Int))] [.box (qa1274 r1)] (zd (hK14 _ _ (ze ?_))))
   obtain rfl := Option.some.inj h
   exact zf [vi r1.1.year, vi (0 : Int)] (.tpc (.one (.rfl _ rfl)) (.tpc (.one (.rfl _ rfl)) (.tp0)))
  ·refine zq fun K15 hK15 => zr (zg [8] 2 [8,10,27,32] (zd (hK15 _ _ (zC h (fun b16 h => ?_) (fun b16 h => ?_)))))
   ·refine zq fun K17 hK17 => zr (zg [8] 4 [6,7] (zd (hK17 _ _ (ze ?_))))
    obtain rfl := Option.some.inj h
    exact zf [vi r1.1.month, vi (0 : Int)] (.tpc (.one (.rfl _ rfl)) (.tpc (.one (.rfl _ rfl)) (.tp0)))
   ·refine zq fun K18 hK18 => zr (zv [8] 2 [8,10,27,36] [] [(8, .one (.pt 0 0 0 0)), (10, vi r2), (27, vi p2), (36, vb (p2 == (3 : Int)))] [.box (qa1274 r1)] (zd (hK18 _ _ (zC h (fun b19 h => ?_) (fun b19 h => ?_)))))
    ·refine zq fun K20 hK20 => zr (zg [8] 4 [6,7] (zd (hK20 _ _ (ze ?_))))
     obtain rfl := Option.some.inj h
     exact zf [vi r1.1.day, vi (0 : Int)] (.tpc (.one (.rfl _ rfl)) (.tpc (.one (.rfl _ rfl)) (.tp0)))
    ·refine zq fun K21 hK21 => zr (zg [8] 2 [8,10,27,40] (zd (hK21 _ _ (zC h (fun b22 h => ?_) (fun b22 h => ?_)))))
     ·refine zq fun K23 hK23 => zr (zv [8] 4 [6,7] [] [(6, vi r1.1.hour), (7, vi (0 : Int))] [.box (qa1274 r1)] (zd (hK23 _ _ (ze ?_))))
      obtain rfl := Option.some.inj h
      exact zf [vi r1.1.hour, vi (0 : Int)] (.tpc (.one (.rfl _ rfl)) (.tpc (.one (.rfl _ rfl)) (.tp0)))
     ·refine zq fun K24 hK24 => zr (zg [8] 2 [8,10,27,44] (zd (hK24 _ _ (zC h (fun b25 h => ?_) (fun b25 h => ?_)))))
      ·refine zq fun K26 hK26 => zr (zg [8] 4 [6,7] (zd (hK26 _ _ (ze ?_))))
       obtain rfl := Option.some.inj h
       exact zf [vi r1.1.minute, vi (0 : Int)] (.tpc (.one (.rfl _ rfl)) (.tpc (.one (.rfl _ rfl)) (.tp0)))
      ·refine zq fun K27 hK27 => zr (zv [8] 2 [8,10,27,48] [] [(8, .one (.pt 0 0 0 0)), (10, vi r2), (27, vi p2), (48, vb (p2 == (6 : Int)))] [.box (qa1274 r1)] (zd (hK27 _ _ (zC h (fun b28 h => ?_) (fun b28 h => ?_)))))
       ·refine zq fun K29 hK29 => zr (zg [8] 4 [6,7] (zd (hK29 _ _ (ze ?_))))
        obtain rfl := Option.some.inj h
        exact zf [vi r1.1.second, vi (0 : Int)] (.tpc (.one (.rfl _ rfl)) (.tpc (.one (.rfl _ rfl)) (.tp0)))
       ·refine zq fun K30 hK30 => zr (zg [8] 2 [8,10,27,52] (zd (hK30 _ _ (zC h (fun b31 h => ?_) (fun b31 h => ?_)))))
        ·refine zq fun K32 hK32 => ?_
         obtain ⟨r3, c33, h⟩ := zB h
         refine zr (zv [8] 1 [54] [] [(54, vi r2)] [.box (qa1274 r1)] (za (c_value_weekday _ _ c33) (zg [8] 2 [6,7] (zd (hK32 _ _ (ze ?_))))))
         obtain rfl := Option.some.inj h
         exact zf [vi r3, vi (0 : Int)] (.tpc (.one (.rfl _ rfl)) (.tpc (.one (.rfl _ rfl)) (.tp0)))
        ·refine zq fun K34 hK34 => zr (zv [8] 2 [8,10,56] [] [(8, .one (.pt 0 0 0 0)), (10, vi r2), (56, vb (p2 == (8 : Int)))] [.box (qa1274 r1)] (zd (hK34 _ _ (zC h (fun b35 h => ?_) (fun b35 h => ?_)))))
         ·refine zq fun K36 hK36 => ?_
          obtain ⟨r4, c37, h⟩ := zB h
          refine zr (zg [8] 3 [58,60] (za (c_value_days _ _ _ _ c37) (zv [8] 4 [6,7] [] [(6, vi (IntKind.i64.wrap ((IntKind.i64.wrap (r2 - r4)) + (1 : Int)))), (7, vi (0 : Int))] [.box (qa1274 r1)] (zd (hK36 _ _ (ze ?_))))))
          obtain rfl := Option.some.inj h
          exact zf [vi (IntKind.i64.wrap ((IntKind.i64.wrap (r2 - r4)) + (1 : Int))), vi (0 : Int)] (.tpc (.one (.rfl _ rfl)) (.tpc (.one (.rfl _ rfl)) (.tp0)))
         ·refine zs (hK10 _ _ (zq fun K38 hK38 => zr (zg [8] 2 [6,7] (zd (hK38 _ _ (ze ?_))))))
          obtain rfl := Option.some.inj h
          exact zf [vi (0 : Int), vi (3 : Int)] (.tpc (.one (.rfl _ rfl)) (.tpc (.one (.rfl _ rfl)) (.tp0)))

def value_Key_1 (p1 : GValue) : Option Bool :=
    bnd (value_Sound p1) fun r1 =>
    some (!r1)

abbrev qa1286 (p1 : GValue) : List CV := [ci p1.kind, ci p1.n, ci p1.scale, cst p1.s, cl eValue p1.items]

theorem c_value_Key_1 (p1 : GValue) (r : Bool) (h : value_Key_1 p1 = some r) : PC Tryd.prog 90 [.ag (qa1286 p1)] (vb r) := by
 unfold value_Key_1 at h
 refine zF 6 Tryd.f90 (zq fun K1 hK1 => zr (zg [] 2 [1] (zd (hK1 _ _ (zq fun K2 hK2 => ?_)))))
 obtain ⟨r1, c3, h⟩ := zB h
 refine zr (zu [] 1 [3] [[pi p1.kind, pi p1.n, pi p1.scale, .s (.string p1.s), .ro (eValue.els p1.items)]] (zl 36 [.ag (qa1286 p1)] (vb r1) [(4, vb r1), (3, .ag (qa1286 p1))] (c_value_Sound _ _ c3) (zg [] 2 [2] (zd (hK2 _ _ (ze ?_))))))
 obtain rfl := Option.some.inj h
 exact zf [vb (!r1)] (.one (.rfl _ rfl))

def slices_IndexFunc_api_Value_api_Value_of_value_Key_1_j1 : Option Int :=
    some (-1 : Int)

def slices_IndexFunc_api_Value_api_Value_of_value_Key_1_l1 (p1 : (List GValue)) : Nat → Int → Option Int
  | 0, _ => none
  | k1 + 1, x1 =>
    ift (decide (x1 < (p1.length : Int)))
      (bnd (at? p1 x1) fun e1 =>
       bnd (value_Key_1 e1) fun r1 =>
       ift r1
         (some x1)
         ((slices_IndexFunc_api_Value_api_Value_of_value_Key_1_l1 p1 k1) (IntKind.i64.wrap (x1 + (1 : Int)))))
      (slices_IndexFunc_api_Value_api_Value_of_value_Key_1_j1)

def slices_IndexFunc_api_Value_api_Value_of_value_Key_1 (p1 : (List GValue)) : Option Int :=
    slices_IndexFunc_api_Value_api_Value_of_value_Key_1_l1 p1 BIG (0 : Int)


theorem c_slices_IndexFunc_api_Value_api_Value_of_value_Key_1 (p1 : (List GValue)) (r : Int) (h : slices_IndexFunc_api_Value_api_Value_of_value_Key_1 p1 = some r) : PC Tryd.prog 100 [vl eValue p1, .one (.pv (.fn 90 []))] (vi r) := by
 unfold slices_IndexFunc_api_Value_api_Value_of_value_Key_1 at h
 refine zF 19 Tryd.f100 (zq fun K1 hK1 => zr (zg [] 1 [0,1] (zd (hK1 _ _ (zq fun K2 hK2 => ?_)))))
 have hJ1 : ∀ (_ : Unit), slices_IndexFunc_api_Value_api_Value_of_value_Key_1_j1 = some r → ∀ fr1 st1, Sub 19 0 [] fr1 st1 [] [] → K2 fr1 st1 := by
  intro _ h fr1 st1 hS
  unfold slices_IndexFunc_api_Value_api_Value_of_value_Key_1_j1 at h
  refine hK2 _ _ (XW.sub hS ?_)
  refine zq fun K14 hK14 => zr (zg [] 1 [4] (zd (hK14 _ _ (ze ?_))))
  obtain rfl := Option.some.inj h
  exact zf [vi (-1 : Int)] (.one (.rfl _ rfl))
 refine zq fun K3 hK3 => zr (zv [] 2 [0,1,7] [] [(0, vl eValue p1), (1, .one (.pv (.fn 90 []))), (7, vi ((eValue.els p1).length : Int))] [] ?_)
 rw [eValue.len p1]
 refine zg [] 1 [0,1,7,8] (zd (hK3 _ _ (zb 0 (XW.rounds' BIG (x := cd Tryd.f100 [1,0,1,0,0]) (by kernel_rfl) fun Q1 hQ1 => ?_))))
 have hL1 : ∀ (k1 : Nat) (x1 : Int), slices_IndexFunc_api_Value_api_Value_of_value_Key_1_l1 p1 k1 x1 = some r → XR Tryd.prog 19 0 [] (cd Tryd.f100 [1,0,1,0,0]) Q1 k1 [(0, vl eValue p1), (1, .one (.pv (.fn 90 []))), (7, vi (p1.length : Int)), (8, vi x1)] [] := by
  intro k1
  induction k1 with
  | zero => intro x1 h; rw [slices_IndexFunc_api_Value_api_Value_of_value_Key_1_l1.eq_1] at h; cases h
  | succ k1 ih1 =>
   intro x1 h
   rw [slices_IndexFunc_api_Value_api_Value_of_value_Key_1_l1.eq_2] at h
   refine zq fun K4 hK4 => zr (zg [] 1 [0,1,7,8,9] (zd (hK4 _ _ (zq fun K5 hK5 => zC h (fun b6 h => ?_) (fun b6 h => ?_)))))
   ·refine zs (hK5 _ _ (zq fun K7 hK7 => zb 1 (zq fun K8 hK8 => zr (zg [] 2 [0,1,5,7,8] (zd ?_)))))
    refine hK8 _ _ (zq fun K9 hK9 => ?_)
    obtain ⟨e1, a10, h⟩ := zB h
    obtain ⟨r1, c11, h⟩ := zB h
    refine zr (zp [] 5 [0,1,5,7,8,11,15] [[pi e1.kind, pi e1.n, pi e1.scale, .s (.string e1.s), .ro (eValue.els e1.items)]] [(0, vl eValue p1), (1, .one (.pv (.fn 90 []))), (5, vi x1), (7, vi (p1.length : Int)), (8, vi x1), (11, .one (.pv (.fn 90 []))), (15, .ag [ci e1.kind, ci e1.n, ci e1.scale, cst e1.s, cl eValue e1.items])] [] [0 ≤ x1 ∧ x1 < ((eValue.els p1).length : Int) ∧ elemsOk 5 (eValue.els p1), (eValue.els p1)[x1.toNat]? = some [pi e1.kind, pi e1.n, pi e1.scale, .s (.string e1.s), .ro (eValue.els e1.items)]] (⟨eValue.inb a10, ((eValue.get a10).trans (by cases e1; rfl)), trivial⟩) ?_)
    refine za (c_value_Key_1 _ _ c11) (zd (hK9 _ _ (zC h (fun b12 h => ?_) (fun b12 h => ?_))))
    ·refine zq fun K13 hK13 => zr (zg [] 2 [4] (zd (hK13 _ _ (ze (hQ1 _ _ _ ?_)))))
     obtain rfl := Option.some.inj h
     exact zf [vi x1] (.one (.rfl _ rfl))
    ·exact zs (hK7 _ _ (zr (zv [] 2 [0,1,7,8] [] [(0, vl eValue p1), (1, .one (.pv (.fn 90 []))), (7, vi (p1.length : Int)), (8, vi (IntKind.i64.wrap (x1 + (1 : Int))))] [] (zd (XR.sub (zk [0,1,7,8]) (ih1 (IntKind.i64.wrap (x1 + (1 : Int))) h))))))
   ·exact zx 0 (hQ1 _ _ _ (hJ1 () h _ _ (zk [])))
 exact XR.sub (zk [0,1,7,8]) (hL1 BIG (0 : Int) h)

def slices_ContainsFunc_api_Value_api_Value_of_value_Key_1 (p1 : (List GValue)) : Option Bool :=
    bnd (slices_IndexFunc_api_Value_api_Value_of_value_Key_1 p1) fun r1 =>
    some (decide ((0 : Int) ≤ r1))


theorem c_slices_ContainsFunc_api_Value_api_Value_of_value_Key_1 (p1 : (List GValue)) (r : Bool) (h : slices_ContainsFunc_api_Value_api_Value_of_value_Key_1 p1 = some r) : PC Tryd.prog 75 [vl eValue p1, .one (.pv (.fn 90 []))] (vb r) := by
 unfold slices_ContainsFunc_api_Value_api_Value_of_value_Key_1 at h
 refine zF 9 Tryd.f75 (zq fun K1 hK1 => zr (zg [] 1 [0,1] (zd (hK1 _ _ (zq fun K2 hK2 => ?_)))))
 obtain ⟨r1, c3, h⟩ := zB h
 refine zr (zg [] 2 [5,6] (zl 100 [vl eValue p1, .one (.pv (.fn 90 []))] (vi r1) [(7, vi r1), (5, vl eValue p1), (6, .one (.pv (.fn 90 [])))] (c_slices_IndexFunc_api_Value_api_Value_of_value_Key_1 _ _ c3) (zg [] 2 [4] (zd (hK2 _ _ (ze ?_))))))
 obtain rfl := Option.some.inj h
 exact zf [vb (decide ((0 : Int) ≤ r1))] (.one (.rfl _ rfl))

def value_word_s (p1 : Int) (p2 : (List Int)) : Option (Unit × (List Int)) :=
    bnd (some (IntKind.u8.wrap (p1.fdiv (2 ^ (min (56 : Int).toNat (IntKind.u64).bits))))) fun y1 =>
    grd (p2.length + 1 ≤ 4294967296) <|
    bnd (some (IntKind.u8.wrap (p1.fdiv (2 ^ (min (48 : Int).toNat (IntKind.u64).bits))))) fun y2 =>
    grd ((p2 ++ [y1]).length + 1 ≤ 4294967296) <|
    bnd (some (IntKind.u8.wrap (p1.fdiv (2 ^ (min (40 : Int).toNat (IntKind.u64).bits))))) fun y3 =>
    grd (((p2 ++ [y1]) ++ [y2]).length + 1 ≤ 4294967296) <|
    bnd (some (IntKind.u8.wrap (p1.fdiv (2 ^ (min (32 : Int).toNat (IntKind.u64).bits))))) fun y4 =>
    grd ((((p2 ++ [y1]) ++ [y2]) ++ [y3]).length + 1 ≤ 4294967296) <|
    bnd (some (IntKind.u8.wrap (p1.fdiv (2 ^ (min (24 : Int).toNat (IntKind.u64).bits))))) fun y5 =>
    grd (((((p2 ++ [y1]) ++ [y2]) ++ [y3]) ++ [y4]).length + 1 ≤ 4294967296) <|
    bnd (some (IntKind.u8.wrap (p1.fdiv (2 ^ (min (16 : Int).toNat (IntKind.u64).bits))))) fun y6 =>
    grd ((((((p2 ++ [y1]) ++ [y2]) ++ [y3]) ++ [y4]) ++ [y5]).length + 1 ≤ 4294967296) <|
    bnd (some (IntKind.u8.wrap (p1.fdiv (2 ^ (min (8 : Int).toNat (IntKind.u64).bits))))) fun y7 =>
    grd (((((((p2 ++ [y1]) ++ [y2]) ++ [y3]) ++ [y4]) ++ [y5]) ++ [y6]).length + 1 ≤ 4294967296) <|
    bnd (some (IntKind.u8.wrap (p1.fdiv (2 ^ (min (0 : Int).toNat (IntKind.u64).bits))))) fun y8 =>
    grd ((((((((p2 ++ [y1]) ++ [y2]) ++ [y3]) ++ [y4]) ++ [y5]) ++ [y6]) ++ [y7]).length + 1 ≤ 4294967296) <|
    some ((), ((((((((p2 ++ [y1]) ++ [y2]) ++ [y3]) ++ [y4]) ++ [y5]) ++ [y6]) ++ [y7]) ++ [y8]))


theorem c_value_word_s (p1 : Int) (p2 : (List Int)) (r : (Unit × (List Int))) (h : value_word_s p1 p2 = some r) : MX Tryd.prog 107 [.one (.sl 0 1 0 p2.length), vk .u64 p1] [.arr 1 ((eK .u8).els p2)] [0] (.one (.sl 0 1 0 r.2.length)) [.arr 1 ((eK .u8).els r.2)] := by
 unfold value_word_s at h
 refine MX.of 1 1 rfl (n := 18) (fn := Tryd.f107) (c := cd Tryd.f107 []) (by kernel_rfl) (by kernel_rfl) (by kernel_rfl) (Nat.le_of_ble_eq_true rfl) rfl (zq fun K1 hK1 => zr (zg [] 1 [0,1] (zd (hK1 _ _ (zq fun K2 hK2 => zq fun K3 hK3 => ?_)))))
 refine zr (zg [] 1 [0,1,5] (zd (hK3 _ _ (zb 0 (XW.rounds' 9 (x := cd Tryd.f107 [1,0,1,0,0]) (by kernel_rfl) fun Q1 hQ1 => XR.one (zq fun K4 hK4 => ?_))))))
 refine zq fun K5 hK5 => zr (zv [] 2 [0,1,5,7] [] [(0, .one (.sl 0 1 0 p2.length)), (1, vk .u64 p1), (5, vi (56 : Int)), (7, vb true)] [.arr 1 ((eK .u8).els p2)] (zd (hK5 _ _ (zc true (fun _ => ?_) (fun hx => by cases hx)))))
 refine zs (hK4 _ _ (zq fun K6 hK6 => zb 1 ?_))
 obtain ⟨y1, hy7, h⟩ := zB h
 obtain ⟨g8, h⟩ := zG h
 refine zr (zp [] 5 [1,5,10,14] [] [(1, vk .u64 p1), (5, vi (56 : Int)), (10, .one (.sl 0 1 0 p2.length)), (14, vk .u8 (IntKind.u8.wrap (p1.fdiv (2 ^ (min (56 : Int).toNat (IntKind.u64).bits)))))] [.arr 1 ((eK .u8).els p2)] [0 ≤ (56 : Int)] (⟨by decide, trivial⟩) ?_)
 rw [show (IntKind.u8.wrap (p1.fdiv (2 ^ (min (56 : Int).toNat (IntKind.u64).bits)))) = y1 from Option.some.inj hy7]
 refine zp [] 2 [1,5,16] [] [(1, vk .u64 p1), (5, vi (56 : Int)), (16, .one (.sl 0 1 0 (p2.length + ((eK .u8).els [y1]).length)))] [.arr 1 ((eK .u8).els p2 ++ (eK .u8).els [y1])] [elemsOk 1 ((eK .u8).els [y1]), p2.length = ((eK .u8).els p2).length, p2.length + ((eK .u8).els [y1]).length ≤ 4294967296] (⟨(eK .u8).ok _, ((eK .u8).len p2).symm, g8, trivial⟩) ?_
 rw [show p2.length + ((eK .u8).els [y1]).length = (p2 ++ [y1]).length from (eK .u8).lapp _ _]
 rw [show (eK .u8).els p2 ++ (eK .u8).els [y1] = (eK .u8).els (p2 ++ [y1]) from (eK .u8).app2 _ _]
 refine zg [] 1 [0,1,5] (zd (hK6 _ _ (zr (zv [] 3 [0,1,5] [] [(0, .one (.sl 0 1 0 ((p2 ++ [y1]).length))), (1, vk .u64 p1), (5, vi (48 : Int))] [.arr 1 ((eK .u8).els (p2 ++ [y1]))] (zd (XR.one (zq fun K9 hK9 => ?_)))))))
 refine zq fun K10 hK10 => zr (zg [] 2 [0,1,5,7] (zd (hK10 _ _ (zc true (fun _ => ?_) (fun hx => by cases hx)))))
 refine zs (hK9 _ _ (zq fun K11 hK11 => zb 1 ?_))
 obtain ⟨y2, hy12, h⟩ := zB h
 obtain ⟨g13, h⟩ := zG h
 refine zr (zp [] 5 [1,5,10,14] [] [(1, vk .u64 p1), (5, vi (48 : Int)), (10, .one (.sl 0 1 0 ((p2 ++ [y1]).length))), (14, vk .u8 (IntKind.u8.wrap (p1.fdiv (2 ^ (min (48 : Int).toNat (IntKind.u64).bits)))))] [.arr 1 ((eK .u8).els (p2 ++ [y1]))] [0 ≤ (48 : Int)] (⟨by decide, trivial⟩) ?_)
 rw [show (IntKind.u8.wrap (p1.fdiv (2 ^ (min (48 : Int).toNat (IntKind.u64).bits)))) = y2 from Option.some.inj hy12]
 refine zp [] 2 [1,5,16] [] [(1, vk .u64 p1), (5, vi (48 : Int)), (16, .one (.sl 0 1 0 ((p2 ++ [y1]).length + ((eK .u8).els [y2]).length)))] [.arr 1 ((eK .u8).els (p2 ++ [y1]) ++ (eK .u8).els [y2])] [elemsOk 1 ((eK .u8).els [y2]), (p2 ++ [y1]).length = ((eK .u8).els (p2 ++ [y1])).length, (p2 ++ [y1]).length + ((eK .u8).els [y2]).length ≤ 4294967296] (⟨(eK .u8).ok _, ((eK .u8).len (p2 ++ [y1])).symm, g13, trivial⟩) ?_
 rw [show (p2 ++ [y1]).length + ((eK .u8).els [y2]).length = ((p2 ++ [y1]) ++ [y2]).length from (eK .u8).lapp _ _]
 rw [show (eK .u8).els (p2 ++ [y1]) ++ (eK .u8).els [y2] = (eK .u8).els ((p2 ++ [y1]) ++ [y2]) from (eK .u8).app2 _ _]
 refine zg [] 1 [0,1,5] (zd (hK11 _ _ (zr (zv [] 3 [0,1,5] [] [(0, .one (.sl 0 1 0 (((p2 ++ [y1]) ++ [y2]).length))), (1, vk .u64 p1), (5, vi (40 : Int))] [.arr 1 ((eK .u8).els ((p2 ++ [y1]) ++ [y2]))] (zd (XR.one (zq fun K14 hK14 => ?_)))))))
 refine zq fun K15 hK15 => zr (zg [] 2 [0,1,5,7] (zd (hK15 _ _ (zc true (fun _ => ?_) (fun hx => by cases hx)))))
 refine zs (hK14 _ _ (zq fun K16 hK16 => zb 1 ?_))
 obtain ⟨y3, hy17, h⟩ := zB h
 obtain ⟨g18, h⟩ := zG h
 refine zr (zp [] 5 [1,5,10,14] [] [(1, vk .u64 p1), (5, vi (40 : Int)), (10, .one (.sl 0 1 0 (((p2 ++ [y1]) ++ [y2]).length))), (14, vk .u8 (IntKind.u8.wrap (p1.fdiv (2 ^ (min (40 : Int).toNat (IntKind.u64).bits)))))] [.arr 1 ((eK .u8).els ((p2 ++ [y1]) ++ [y2]))] [0 ≤ (40 : Int)] (⟨by decide, trivial⟩) ?_)
 rw [show (IntKind.u8.wrap (p1.fdiv (2 ^ (min (40 : Int).toNat (IntKind.u64).bits)))) = y3 from Option.some.inj hy17]
 refine zp [] 2 [1,5,16] [] [(1, vk .u64 p1), (5, vi (40 : Int)), (16, .one (.sl 0 1 0 (((p2 ++ [y1]) ++ [y2]).length + ((eK .u8).els [y3]).length)))] [.arr 1 ((eK .u8).els ((p2 ++ [y1]) ++ [y2]) ++ (eK .u8).els [y3])] [elemsOk 1 ((eK .u8).els [y3]), ((p2 ++ [y1]) ++ [y2]).length = ((eK .u8).els ((p2 ++ [y1]) ++ [y2])).length, ((p2 ++ [y1]) ++ [y2]).length + ((eK .u8).els [y3]).length ≤ 4294967296] (⟨(eK .u8).ok _, ((eK .u8).len ((p2 ++ [y1]) ++ [y2])).symm, g18, trivial⟩) ?_
 rw [show ((p2 ++ [y1]) ++ [y2]).length + ((eK .u8).els [y3]).length = (((p2 ++ [y1]) ++ [y2]) ++ [y3]).length from (eK .u8).lapp _ _]
 rw [show (eK .u8).els ((p2 ++ [y1]) ++ [y2]) ++ (eK .u8).els [y3] = (eK .u8).els (((p2 ++ [y1]) ++ [y2]) ++ [y3]) from (eK .u8).app2 _ _]
 refine zg [] 1 [0,1,5] (zd (hK16 _ _ (zr (zv [] 3 [0,1,5] [] [(0, .one (.sl 0 1 0 ((((p2 ++ [y1]) ++ [y2]) ++ [y3]).length))), (1, vk .u64 p1), (5, vi (32 : Int))] [.arr 1 ((eK .u8).els (((p2 ++ [y1]) ++ [y2]) ++ [y3]))] (zd (XR.one (zq fun K19 hK19 => ?_)))))))
 refine zq fun K20 hK20 => zr (zg [] 2 [0,1,5,7] (zd (hK20 _ _ (zc true (fun _ => ?_) (fun hx => by cases hx)))))
 refine zs (hK19 _ _ (zq fun K21 hK21 => zb 1 ?_))
 obtain ⟨y4, hy22, h⟩ := zB h
 obtain ⟨g23, h⟩ := zG h
 refine zr (zp [] 5 [1,5,10,14] [] [(1, vk .u64 p1), (5, vi (32 : Int)), (10, .one (.sl 0 1 0 ((((p2 ++ [y1]) ++ [y2]) ++ [y3]).length))), (14, vk .u8 (IntKind.u8.wrap (p1.fdiv (2 ^ (min (32 : Int).toNat (IntKind.u64).bits)))))] [.arr 1 ((eK .u8).els (((p2 ++ [y1]) ++ [y2]) ++ [y3]))] [0 ≤ (32 : Int)] (⟨by decide, trivial⟩) ?_)
 rw [show (IntKind.u8.wrap (p1.fdiv (2 ^ (min (32 : Int).toNat (IntKind.u64).bits)))) = y4 from Option.some.inj hy22]
 refine zp [] 2 [1,5,16] [] [(1, vk .u64 p1), (5, vi (32 : Int)), (16, .one (.sl 0 1 0 ((((p2 ++ [y1]) ++ [y2]) ++ [y3]).length + ((eK .u8).els [y4]).length)))] [.arr 1 ((eK .u8).els (((p2 ++ [y1]) ++ [y2]) ++ [y3]) ++ (eK .u8).els [y4])] [elemsOk 1 ((eK .u8).els [y4]), (((p2 ++ [y1]) ++ [y2]) ++ [y3]).length = ((eK .u8).els (((p2 ++ [y1]) ++ [y2]) ++ [y3])).length, (((p2 ++ [y1]) ++ [y2]) ++ [y3]).length + ((eK .u8).els [y4]).length ≤ 4294967296] (⟨(eK .u8).ok _, ((eK .u8).len (((p2 ++ [y1]) ++ [y2]) ++ [y3])).symm, g23, trivial⟩) ?_
 rw [show (((p2 ++ [y1]) ++ [y2]) ++ [y3]).length + ((eK .u8).els [y4]).length = ((((p2 ++ [y1]) ++ [y2]) ++ [y3]) ++ [y4]).length from (eK .u8).lapp _ _]
 rw [show (eK .u8).els (((p2 ++ [y1]) ++ [y2]) ++ [y3]) ++ (eK .u8).els [y4] = (eK .u8).els ((((p2 ++ [y1]) ++ [y2]) ++ [y3]) ++ [y4]) from (eK .u8).app2 _ _]
 refine zg [] 1 [0,1,5] (zd (hK21 _ _ (zr (zv [] 3 [0,1,5] [] [(0, .one (.sl 0 1 0 (((((p2 ++ [y1]) ++ [y2]) ++ [y3]) ++ [y4]).length))), (1, vk .u64 p1), (5, vi (24 : Int))] [.arr 1 ((eK .u8).els ((((p2 ++ [y1]) ++ [y2]) ++ [y3]) ++ [y4]))] (zd (XR.one (zq fun K24 hK24 => ?_)))))))
 refine zq fun K25 hK25 => zr (zg [] 2 [0,1,5,7] (zd (hK25 _ _ (zc true (fun _ => ?_) (fun hx => by cases hx)))))
 refine zs (hK24 _ _ (zq fun K26 hK26 => zb 1 ?_))
 obtain ⟨y5, hy27, h⟩ := zB h
 obtain ⟨g28, h⟩ := zG h
 refine zr (zp [] 5 [1,5,10,14] [] [(1, vk .u64 p1), (5, vi (24 : Int)), (10, .one (.sl 0 1 0 (((((p2 ++ [y1]) ++ [y2]) ++ [y3]) ++ [y4]).length))), (14, vk .u8 (IntKind.u8.wrap (p1.fdiv (2 ^ (min (24 : Int).toNat (IntKind.u64).bits)))))] [.arr 1 ((eK .u8).els ((((p2 ++ [y1]) ++ [y2]) ++ [y3]) ++ [y4]))] [0 ≤ (24 : Int)] (⟨by decide, trivial⟩) ?_)
 rw [show (IntKind.u8.wrap (p1.fdiv (2 ^ (min (24 : Int).toNat (IntKind.u64).bits)))) = y5 from Option.some.inj hy27]
 refine zp [] 2 [1,5,16] [] [(1, vk .u64 p1), (5, vi (24 : Int)), (16, .one (.sl 0 1 0 (((((p2 ++ [y1]) ++ [y2]) ++ [y3]) ++ [y4]).length + ((eK .u8).els [y5]).length)))] [.arr 1 ((eK .u8).els ((((p2 ++ [y1]) ++ [y2]) ++ [y3]) ++ [y4]) ++ (eK .u8).els [y5])] [elemsOk 1 ((eK .u8).els [y5]), ((((p2 ++ [y1]) ++ [y2]) ++ [y3]) ++ [y4]).length = ((eK .u8).els ((((p2 ++ [y1]) ++ [y2]) ++ [y3]) ++ [y4])).length, ((((p2 ++ [y1]) ++ [y2]) ++ [y3]) ++ [y4]).length + ((eK .u8).els [y5]).length ≤ 4294967296] (⟨(eK .u8).ok _, ((eK .u8).len ((((p2 ++ [y1]) ++ [y2]) ++ [y3]) ++ [y4])).symm, g28, trivial⟩) ?_
 rw [show ((((p2 ++ [y1]) ++ [y2]) ++ [y3]) ++ [y4]).length + ((eK .u8).els [y5]).length = (((((p2 ++ [y1]) ++ [y2]) ++ [y3]) ++ [y4]) ++ [y5]).length from (eK .u8).lapp _ _]
 rw [show (eK .u8).els ((((p2 ++ [y1]) ++ [y2]) ++ [y3]) ++ [y4]) ++ (eK .u8).els [y5] = (eK .u8).els (((((p2 ++ [y1]) ++ [y2]) ++ [y3]) ++ [y4]) ++ [y5]) from (eK .u8).app2 _ _]
 refine zg [] 1 [0,1,5] (zd (hK26 _ _ (zr (zv [] 3 [0,1,5] [] [(0, .one (.sl 0 1 0 ((((((p2 ++ [y1]) ++ [y2]) ++ [y3]) ++ [y4]) ++ [y5]).length))), (1, vk .u64 p1), (5, vi (16 : Int))] [.arr 1 ((eK .u8).els (((((p2 ++ [y1]) ++ [y2]) ++ [y3]) ++ [y4]) ++ [y5]))] (zd (XR.one (zq fun K29 hK29 => ?_)))))))
 refine zq fun K30 hK30 => zr (zg [] 2 [0,1,5,7] (zd (hK30 _ _ (zc true (fun _ => ?_) (fun hx => by cases hx)))))
 refine zs (hK29 _ _ (zq fun K31 hK31 => zb 1 ?_))
 obtain ⟨y6, hy32, h⟩ := zB h
 obtain ⟨g33, h⟩ := zG h
 refine zr (zp [] 5 [1,5,10,14] [] [(1, vk .u64 p1), (5, vi (16 : Int)), (10, .one (.sl 0 1 0 ((((((p2 ++ [y1]) ++ [y2]) ++ [y3]) ++ [y4]) ++ [y5]).length))), (14, vk .u8 (IntKind.u8.wrap (p1.fdiv (2 ^ (min (16 : Int).toNat (IntKind.u64).bits)))))] [.arr 1 ((eK .u8).els (((((p2 ++ [y1]) ++ [y2]) ++ [y3]) ++ [y4]) ++ [y5]))] [0 ≤ (16 : Int)] (⟨by decide, trivial⟩) ?_)
 rw [show (IntKind.u8.wrap (p1.fdiv (2 ^ (min (16 : Int).toNat (IntKind.u64).bits)))) = y6 from Option.some.inj hy32]
 refine zp [] 2 [1,5,16] [] [(1, vk .u64 p1), (5, vi (16 : Int)), (16, .one (.sl 0 1 0 ((((((p2 ++ [y1]) ++ [y2]) ++ [y3]) ++ [y4]) ++ [y5]).length + ((eK .u8).els [y6]).length)))] [.arr 1 ((eK .u8).els (((((p2 ++ [y1]) ++ [y2]) ++ [y3]) ++ [y4]) ++ [y5]) ++ (eK .u8).els [y6])] [elemsOk 1 ((eK .u8).els [y6]), (((((p2 ++ [y1]) ++ [y2]) ++ [y3]) ++ [y4]) ++ [y5]).length = ((eK .u8).els (((((p2 ++ [y1]) ++ [y2]) ++ [y3]) ++ [y4]) ++ [y5])).length, (((((p2 ++ [y1]) ++ [y2]) ++ [y3]) ++ [y4]) ++ [y5]).length + ((eK .u8).els [y6]).length ≤ 4294967296] (⟨(eK .u8).ok _, ((eK .u8).len (((((p2 ++ [y1]) ++ [y2]) ++ [y3]) ++ [y4]) ++ [y5])).symm, g33, trivial⟩) ?_
 rw [show (((((p2 ++ [y1]) ++ [y2]) ++ [y3]) ++ [y4]) ++ [y5]).length + ((eK .u8).els [y6]).length = ((((((p2 ++ [y1]) ++ [y2]) ++ [y3]) ++ [y4]) ++ [y5]) ++ [y6]).length from (eK .u8).lapp _ _]
 rw [show (eK .u8).els (((((p2 ++ [y1]) ++ [y2]) ++ [y3]) ++ [y4]) ++ [y5]) ++ (eK .u8).els [y6] = (eK .u8).els ((((((p2 ++ [y1]) ++ [y2]) ++ [y3]) ++ [y4]) ++ [y5]) ++ [y6]) from (eK .u8).app2 _ _]
 refine zg [] 1 [0,1,5] (zd (hK31 _ _ (zr (zv [] 3 [0,1,5] [] [(0, .one (.sl 0 1 0 (((((((p2 ++ [y1]) ++ [y2]) ++ [y3]) ++ [y4]) ++ [y5]) ++ [y6]).length))), (1, vk .u64 p1), (5, vi (8 : Int))] [.arr 1 ((eK .u8).els ((((((p2 ++ [y1]) ++ [y2]) ++ [y3]) ++ [y4]) ++ [y5]) ++ [y6]))] (zd (XR.one (zq fun K34 hK34 => ?_)))))))
 refine zq fun K35 hK35 => zr (zg [] 2 [0,1,5,7] (zd (hK35 _ _ (zc true (fun _ => ?_) (fun hx => by cases hx)))))
 refine zs (hK34 _ _ (zq fun K36 hK36 => zb 1 ?_))
 obtain ⟨y7, hy37, h⟩ := zB h
 obtain ⟨g38, h⟩ := zG h
 refine zr (zp [] 5 [1,5,10,14] [] [(1, vk .u64 p1), (5, vi (8 : Int)), (10, .one (.sl 0 1 0 (((((((p2 ++ [y1]) ++ [y2]) ++ [y3]) ++ [y4]) ++ [y5]) ++ [y6]).length))), (14, vk .u8 (IntKind.u8.wrap (p1.fdiv (2 ^ (min (8 : Int).toNat (IntKind.u64).bits)))))] [.arr 1 ((eK .u8).els ((((((p2 ++ [y1]) ++ [y2]) ++ [y3]) ++ [y4]) ++ [y5]) ++ [y6]))] [0 ≤ (8 : Int)] (⟨by decide, trivial⟩) ?_)
 rw [show (IntKind.u8.wrap (p1.fdiv (2 ^ (min (8 : Int).toNat (IntKind.u64).bits)))) = y7 from Option.some.inj hy37]
 refine zp [] 2 [1,5,16] [] [(1, vk .u64 p1), (5, vi (8 : Int)), (16, .one (.sl 0 1 0 (((((((p2 ++ [y1]) ++ [y2]) ++ [y3]) ++ [y4]) ++ [y5]) ++ [y6]).length + ((eK .u8).els [y7]).length)))] [.arr 1 ((eK .u8).els ((((((p2 ++ [y1]) ++ [y2]) ++ [y3]) ++ [y4]) ++ [y5]) ++ [y6]) ++ (eK .u8).els [y7])] [elemsOk 1 ((eK .u8).els [y7]), ((((((p2 ++ [y1]) ++ [y2]) ++ [y3]) ++ [y4]) ++ [y5]) ++ [y6]).length = ((eK .u8).els ((((((p2 ++ [y1]) ++ [y2]) ++ [y3]) ++ [y4]) ++ [y5]) ++ [y6])).length, ((((((p2 ++ [y1]) ++ [y2]) ++ [y3]) ++ [y4]) ++ [y5]) ++ [y6]).length + ((eK .u8).els [y7]).length ≤ 4294967296] (⟨(eK .u8).ok _, ((eK .u8).len ((((((p2 ++ [y1]) ++ [y2]) ++ [y3]) ++ [y4]) ++ [y5]) ++ [y6])).symm, g38, trivial⟩) ?_
 rw [show ((((((p2 ++ [y1]) ++ [y2]) ++ [y3]) ++ [y4]) ++ [y5]) ++ [y6]).length + ((eK .u8).els [y7]).length = (((((((p2 ++ [y1]) ++ [y2]) ++ [y3]) ++ [y4]) ++ [y5]) ++ [y6]) ++ [y7]).length from (eK .u8).lapp _ _]
 rw [show (eK .u8).els ((((((p2 ++ [y1]) ++ [y2]) ++ [y3]) ++ [y4]) ++ [y5]) ++ [y6]) ++ (eK .u8).els [y7] = (eK .u8).els (((((((p2 ++ [y1]) ++ [y2]) ++ [y3]) ++ [y4]) ++ [y5]) ++ [y6]) ++ [y7]) from (eK .u8).app2 _ _]
 refine zg [] 1 [0,1,5] (zd (hK36 _ _ (zr (zv [] 3 [0,1,5] [] [(0, .one (.sl 0 1 0 ((((((((p2 ++ [y1]) ++ [y2]) ++ [y3]) ++ [y4]) ++ [y5]) ++ [y6]) ++ [y7]).length))), (1, vk .u64 p1), (5, vi (0 : Int))] [.arr 1 ((eK .u8).els (((((((p2 ++ [y1]) ++ [y2]) ++ [y3]) ++ [y4]) ++ [y5]) ++ [y6]) ++ [y7]))] (zd (XR.one (zq fun K39 hK39 => ?_)))))))
 refine zq fun K40 hK40 => zr (zg [] 2 [0,1,5,7] (zd (hK40 _ _ (zc true (fun _ => ?_) (fun hx => by cases hx)))))
 refine zs (hK39 _ _ (zq fun K41 hK41 => zb 1 ?_))
 obtain ⟨y8, hy42, h⟩ := zB h
 obtain ⟨g43, h⟩ := zG h
 refine zr (zp [] 5 [1,5,10,14] [] [(1, vk .u64 p1), (5, vi (0 : Int)), (10, .one (.sl 0 1 0 ((((((((p2 ++ [y1]) ++ [y2]) ++ [y3]) ++ [y4]) ++ [y5]) ++ [y6]) ++ [y7]).length))), (14, vk .u8 (IntKind.u8.wrap (p1.fdiv (2 ^ (min (0 : Int).toNat (IntKind.u64).bits)))))] [.arr 1 ((eK .u8).els (((((((p2 ++ [y1]) ++ [y2]) ++ [y3]) ++ [y4]) ++ [y5]) ++ [y6]) ++ [y7]))] [0 ≤ (0 : Int)] (⟨by decide, trivial⟩) ?_)
 rw [show (IntKind.u8.wrap (p1.fdiv (2 ^ (min (0 : Int).toNat (IntKind.u64).bits)))) = y8 from Option.some.inj hy42]
 refine zp [] 2 [1,5,16] [] [(1, vk .u64 p1), (5, vi (0 : Int)), (16, .one (.sl 0 1 0 ((((((((p2 ++ [y1]) ++ [y2]) ++ [y3]) ++ [y4]) ++ [y5]) ++ [y6]) ++ [y7]).length + ((eK .u8).els [y8]).length)))] [.arr 1 ((eK .u8).els (((((((p2 ++ [y1]) ++ [y2]) ++ [y3]) ++ [y4]) ++ [y5]) ++ [y6]) ++ [y7]) ++ (eK .u8).els [y8])] [elemsOk 1 ((eK .u8).els [y8]), (((((((p2 ++ [y1]) ++ [y2]) ++ [y3]) ++ [y4]) ++ [y5]) ++ [y6]) ++ [y7]).length = ((eK .u8).els (((((((p2 ++ [y1]) ++ [y2]) ++ [y3]) ++ [y4]) ++ [y5]) ++ [y6]) ++ [y7])).length, (((((((p2 ++ [y1]) ++ [y2]) ++ [y3]) ++ [y4]) ++ [y5]) ++ [y6]) ++ [y7]).length + ((eK .u8).els [y8]).length ≤ 4294967296] (⟨(eK .u8).ok _, ((eK .u8).len (((((((p2 ++ [y1]) ++ [y2]) ++ [y3]) ++ [y4]) ++ [y5]) ++ [y6]) ++ [y7])).symm, g43, trivial⟩) ?_
 rw [show (((((((p2 ++ [y1]) ++ [y2]) ++ [y3]) ++ [y4]) ++ [y5]) ++ [y6]) ++ [y7]).length + ((eK .u8).els [y8]).length = ((((((((p2 ++ [y1]) ++ [y2]) ++ [y3]) ++ [y4]) ++ [y5]) ++ [y6]) ++ [y7]) ++ [y8]).length from (eK .u8).lapp _ _]
 rw [show (eK .u8).els (((((((p2 ++ [y1]) ++ [y2]) ++ [y3]) ++ [y4]) ++ [y5]) ++ [y6]) ++ [y7]) ++ (eK .u8).els [y8] = (eK .u8).els ((((((((p2 ++ [y1]) ++ [y2]) ++ [y3]) ++ [y4]) ++ [y5]) ++ [y6]) ++ [y7]) ++ [y8]) from (eK .u8).app2 _ _]
 refine zg [] 1 [0,1,5] (zd (hK41 _ _ (zr (zv [] 3 [0,1,5] [] [(0, .one (.sl 0 1 0 (((((((((p2 ++ [y1]) ++ [y2]) ++ [y3]) ++ [y4]) ++ [y5]) ++ [y6]) ++ [y7]) ++ [y8]).length))), (1, vk .u64 p1), (5, vi (-8 : Int))] [.arr 1 ((eK .u8).els ((((((((p2 ++ [y1]) ++ [y2]) ++ [y3]) ++ [y4]) ++ [y5]) ++ [y6]) ++ [y7]) ++ [y8]))] (zd (XR.one (zq fun K44 hK44 => ?_)))))))
 refine zq fun K45 hK45 => zr (zg [] 2 [0,1,5,7] (zd (hK45 _ _ (zc false (fun hx => by cases hx) (fun _ => ?_)))))
 refine zx 0 (hQ1 _ _ _ (hK2 _ _ (zq fun K46 hK46 => zr (zv [] 2 [4] [] [(4, .one (.sl 0 1 0 (((((((((p2 ++ [y1]) ++ [y2]) ++ [y3]) ++ [y4]) ++ [y5]) ++ [y6]) ++ [y7]) ++ [y8]).length)))] [.arr 1 ((eK .u8).els ((((((((p2 ++ [y1]) ++ [y2]) ++ [y3]) ++ [y4]) ++ [y5]) ++ [y6]) ++ [y7]) ++ [y8]))] (zd (hK46 _ _ ?_))))))
 refine ze ?_
 obtain rfl := Option.some.inj h
 exact FinM.fin (.inr rfl) [] [.one (.sl 0 1 0 (((((((((p2 ++ [y1]) ++ [y2]) ++ [y3]) ++ [y4]) ++ [y5]) ++ [y6]) ++ [y7]) ++ [y8]).length))] [] (by kernel_rfl) trivial (by kernel_rfl) (by kernel_rfl) (.one (.rfl _ rfl))

def value_whole (p1 : Int) : Option GWide :=
    ift (decide (p1 < (0 : Int)))
      (some (GWide.mk true ((IntKind.u64.wrap (0 - (IntKind.u64.wrap p1))), (0 : Int), (0 : Int), (0 : Int))))
      (some (GWide.mk false ((IntKind.u64.wrap p1), (0 : Int), (0 : Int), (0 : Int))))

abbrev qa1317 (p1 : Int) : List CV := [cb true, ck .u64 (IntKind.u64.wrap (0 - (IntKind.u64.wrap p1))), ck .u64 (0 : Int), ck .u64 (0 : Int), ck .u64 (0 : Int)]

theorem c_value_whole (p1 : Int) (r : GWide) (h : value_whole p1 = some r) : PC Tryd.prog 117 [vi p1] (.ag [cb r.neg, ck .u64 r.size.1, ck .u64 r.size.2.1, ck .u64 r.size.2.2.1, ck .u64 r.size.2.2.2]) := by
 unfold value_whole at h
 refine zF 14 Tryd.f117 (zq fun K1 hK1 => zr (zg [2] 1 [0,2] (zd (hK1 _ _ (zq fun K2 hK2 => zq fun K3 hK3 => ?_)))))
 refine zr (zg [2] 2 [0,2,4] (zd (hK3 _ _ (zC h (fun b4 h => ?_) (fun b4 h => ?_)))))
 ·refine zq fun K5 hK5 => zr (zv [2] 6 [2] [] [(2, .one (.pt 0 0 0 0))] [.box (qa1317 p1)] (zd (hK5 _ _ (ze ?_))))
  obtain rfl := Option.some.inj h
  exact zf [.ag (qa1317 p1)] (.ag (.cons (.rfl _ rfl) (.cons (.rfl _ rfl) (.cons (.rfl _ rfl) (.cons (.rfl _ rfl) (.cons (.rfl _ rfl) .nil))))))
 ·refine zs (hK2 _ _ (zq fun K6 hK6 => zr (zg [2] 5 [2] (zd (hK6 _ _ (ze ?_))))))
  obtain rfl := Option.some.inj h
  exact zf [.ag [cb false, ck .u64 (IntKind.u64.wrap p1), ck .u64 (0 : Int), ck .u64 (0 : Int), ck .u64 (0 : Int)]] (.ag (.cons (.rfl _ rfl) (.cons (.rfl _ rfl) (.cons (.rfl _ rfl) (.cons (.rfl _ rfl) (.cons (.rfl _ rfl) .nil))))))

def math_bits_Mul64 (p1 : Int) (p2 : Int) : Option (Int × Int) :=
    bnd (some (IntKind.u64.wrap (BitVec.ofInt (IntKind.u64).bits p1 &&& BitVec.ofInt (IntKind.u64).bits (4294967295 : Int)).toNat)) fun y1 =>
    bnd (some (IntKind.u64.wrap (BitVec.ofInt (IntKind.u64).bits p2 &&& BitVec.ofInt (IntKind.u64).bits (4294967295 : Int)).toNat)) fun y2 =>
    bnd (some (IntKind.u64.wrap ((p1.fdiv (2 ^ (min (32 : Int).toNat (IntKind.u64).bits))) * y2))) fun y3 =>
    bnd (some ((IntKind.u64.wrap (y1 * y2)).fdiv (2 ^ (min (32 : Int).toNat (IntKind.u64).bits)))) fun y4 =>
    bnd (some (IntKind.u64.wrap (BitVec.ofInt (IntKind.u64).bits (IntKind.u64.wrap (y3 + y4)) &&& BitVec.ofInt (IntKind.u64).bits (4294967295 : Int)).toNat)) fun y5 =>
    bnd (some ((IntKind.u64.wrap (y3 + y4)).fdiv (2 ^ (min (32 : Int).toNat (IntKind.u64).bits)))) fun y6 =>
    bnd (some (IntKind.u64.wrap (y1 * (p2.fdiv (2 ^ (min (32 : Int).toNat (IntKind.u64).bits)))))) fun y7 =>
    bnd (some (IntKind.u64.wrap ((p1.fdiv (2 ^ (min (32 : Int).toNat (IntKind.u64).bits))) * (p2.fdiv (2 ^ (min (32 : Int).toNat (IntKind.u64).bits)))))) fun y8 =>
    bnd (some ((IntKind.u64.wrap (y5 + y7)).fdiv (2 ^ (min (32 : Int).toNat (IntKind.u64).bits)))) fun y9 =>
    some ((IntKind.u64.wrap ((IntKind.u64.wrap (y8 + y6)) + y9)), (IntKind.u64.wrap (p1 * p2)))


theorem c_math_bits_Mul64 (p1 : Int) (p2 : Int) (r : (Int × Int)) (h : math_bits_Mul64 p1 p2 = some r) : PC Tryd.prog 126 [vk .u64 p1, vk .u64 p2] (.tp [vk .u64 r.1, vk .u64 r.2]) := by
 unfold math_bits_Mul64 at h
 refine zF 51 Tryd.f126 (zq fun K1 hK1 => zr (zg [] 2 [0,1] (zd (hK1 _ _ (zq fun K2 hK2 => ?_)))))
 obtain ⟨y1, hy3, h⟩ := zB h
 refine zr (zv [] 2 [0,1,15] [] [(0, vk .u64 p1), (1, vk .u64 p2), (15, vk .u64 (IntKind.u64.wrap (BitVec.ofInt (IntKind.u64).bits p1 &&& BitVec.ofInt (IntKind.u64).bits (4294967295 : Int)).toNat))] [] ?_)
 rw [show (IntKind.u64.wrap (BitVec.ofInt (IntKind.u64).bits p1 &&& BitVec.ofInt (IntKind.u64).bits (4294967295 : Int)).toNat) = y1 from Option.some.inj hy3]
 refine zg [] 1 [0,1,6] (zd (hK2 _ _ (zq fun K4 hK4 => zr (zo [] 3 [0,1,6,7] [] [0 ≤ (32 : Int)] (⟨by decide, trivial⟩) (zd (hK4 _ _ ?_))))))
 refine zq fun K5 hK5 => ?_
 obtain ⟨y2, hy6, h⟩ := zB h
 refine zr (zv [] 2 [0,1,6,7,19] [] [(0, vk .u64 p1), (1, vk .u64 p2), (6, vk .u64 y1), (7, vk .u64 (p1.fdiv (2 ^ (min (32 : Int).toNat (IntKind.u64).bits)))), (19, vk .u64 (IntKind.u64.wrap (BitVec.ofInt (IntKind.u64).bits p2 &&& BitVec.ofInt (IntKind.u64).bits (4294967295 : Int)).toNat))] [] ?_)
 rw [show (IntKind.u64.wrap (BitVec.ofInt (IntKind.u64).bits p2 &&& BitVec.ofInt (IntKind.u64).bits (4294967295 : Int)).toNat) = y2 from Option.some.inj hy6]
 refine zg [] 1 [0,1,6,7,8] (zd (hK5 _ _ (zq fun K7 hK7 => zr (zo [] 3 [0,1,6,7,8,9] [] [0 ≤ (32 : Int)] (⟨by decide, trivial⟩) (zd (hK7 _ _ ?_))))))
 refine zq fun K8 hK8 => zr (zv [] 4 [0,1,6,7,8,9,10] [] [(0, vk .u64 p1), (1, vk .u64 p2), (6, vk .u64 y1), (7, vk .u64 (p1.fdiv (2 ^ (min (32 : Int).toNat (IntKind.u64).bits)))), (8, vk .u64 y2), (9, vk .u64 (p2.fdiv (2 ^ (min (32 : Int).toNat (IntKind.u64).bits)))), (10, vk .u64 (IntKind.u64.wrap (y1 * y2)))] [] (zd (hK8 _ _ (zq fun K9 hK9 => ?_))))
 obtain ⟨y3, hy10, h⟩ := zB h
 obtain ⟨y4, hy11, h⟩ := zB h
 refine zr (zv [] 3 [0,1,6,7,9,10,27] [] [(0, vk .u64 p1), (1, vk .u64 p2), (6, vk .u64 y1), (7, vk .u64 (p1.fdiv (2 ^ (min (32 : Int).toNat (IntKind.u64).bits)))), (9, vk .u64 (p2.fdiv (2 ^ (min (32 : Int).toNat (IntKind.u64).bits)))), (10, vk .u64 (IntKind.u64.wrap (y1 * y2))), (27, vk .u64 (IntKind.u64.wrap ((p1.fdiv (2 ^ (min (32 : Int).toNat (IntKind.u64).bits))) * y2)))] [] ?_)
 rw [show (IntKind.u64.wrap ((p1.fdiv (2 ^ (min (32 : Int).toNat (IntKind.u64).bits))) * y2)) = y3 from Option.some.inj hy10]
 refine zp [] 2 [0,1,6,7,9,27,29] [] [(0, vk .u64 p1), (1, vk .u64 p2), (6, vk .u64 y1), (7, vk .u64 (p1.fdiv (2 ^ (min (32 : Int).toNat (IntKind.u64).bits)))), (9, vk .u64 (p2.fdiv (2 ^ (min (32 : Int).toNat (IntKind.u64).bits)))), (27, vk .u64 y3), (29, vk .u64 ((IntKind.u64.wrap (y1 * y2)).fdiv (2 ^ (min (32 : Int).toNat (IntKind.u64).bits))))] [] [0 ≤ (32 : Int)] (⟨by decide, trivial⟩) ?_
 rw [show ((IntKind.u64.wrap (y1 * y2)).fdiv (2 ^ (min (32 : Int).toNat (IntKind.u64).bits))) = y4 from Option.some.inj hy11]
 refine zg [] 2 [0,1,6,7,9,11] (zd (hK9 _ _ (zq fun K12 hK12 => ?_)))
 obtain ⟨y5, hy13, h⟩ := zB h
 refine zr (zv [] 2 [0,1,6,7,9,11,32] [] [(0, vk .u64 p1), (1, vk .u64 p2), (6, vk .u64 y1), (7, vk .u64 (p1.fdiv (2 ^ (min (32 : Int).toNat (IntKind.u64).bits)))), (9, vk .u64 (p2.fdiv (2 ^ (min (32 : Int).toNat (IntKind.u64).bits)))), (11, vk .u64 (IntKind.u64.wrap (y3 + y4))), (32, vk .u64 (IntKind.u64.wrap (BitVec.ofInt (IntKind.u64).bits (IntKind.u64.wrap (y3 + y4)) &&& BitVec.ofInt (IntKind.u64).bits (4294967295 : Int)).toNat))] [] ?_)
 rw [show (IntKind.u64.wrap (BitVec.ofInt (IntKind.u64).bits (IntKind.u64.wrap (y3 + y4)) &&& BitVec.ofInt (IntKind.u64).bits (4294967295 : Int)).toNat) = y5 from Option.some.inj hy13]
 refine zg [] 1 [0,1,6,7,9,11,12] (zd (hK12 _ _ (zq fun K14 hK14 => ?_)))
 obtain ⟨y6, hy15, h⟩ := zB h
 refine zr (zp [] 2 [0,1,6,7,9,12,34] [] [(0, vk .u64 p1), (1, vk .u64 p2), (6, vk .u64 y1), (7, vk .u64 (p1.fdiv (2 ^ (min (32 : Int).toNat (IntKind.u64).bits)))), (9, vk .u64 (p2.fdiv (2 ^ (min (32 : Int).toNat (IntKind.u64).bits)))), (12, vk .u64 y5), (34, vk .u64 ((IntKind.u64.wrap (y3 + y4)).fdiv (2 ^ (min (32 : Int).toNat (IntKind.u64).bits))))] [] [0 ≤ (32 : Int)] (⟨by decide, trivial⟩) ?_)
 rw [show ((IntKind.u64.wrap (y3 + y4)).fdiv (2 ^ (min (32 : Int).toNat (IntKind.u64).bits))) = y6 from Option.some.inj hy15]
 refine zg [] 1 [0,1,6,7,9,12,13] (zd (hK14 _ _ (zq fun K16 hK16 => ?_)))
 obtain ⟨y7, hy17, h⟩ := zB h
 refine zr (zv [] 4 [0,1,7,9,13,35,38] [] [(0, vk .u64 p1), (1, vk .u64 p2), (7, vk .u64 (p1.fdiv (2 ^ (min (32 : Int).toNat (IntKind.u64).bits)))), (9, vk .u64 (p2.fdiv (2 ^ (min (32 : Int).toNat (IntKind.u64).bits)))), (13, vk .u64 y6), (35, vk .u64 y5), (38, vk .u64 (IntKind.u64.wrap (y1 * (p2.fdiv (2 ^ (min (32 : Int).toNat (IntKind.u64).bits))))))] [] ?_)
 rw [show (IntKind.u64.wrap (y1 * (p2.fdiv (2 ^ (min (32 : Int).toNat (IntKind.u64).bits))))) = y7 from Option.some.inj hy17]
 refine zg [] 2 [0,1,7,9,12,13] (zd (hK16 _ _ (zq fun K18 hK18 => ?_)))
 obtain ⟨y8, hy19, h⟩ := zB h
 obtain ⟨y9, hy20, h⟩ := zB h
 refine zr (zv [] 3 [0,1,12,13,42] [] [(0, vk .u64 p1), (1, vk .u64 p2), (12, vk .u64 (IntKind.u64.wrap (y5 + y7))), (13, vk .u64 y6), (42, vk .u64 (IntKind.u64.wrap ((p1.fdiv (2 ^ (min (32 : Int).toNat (IntKind.u64).bits))) * (p2.fdiv (2 ^ (min (32 : Int).toNat (IntKind.u64).bits))))))] [] ?_)
 rw [show (IntKind.u64.wrap ((p1.fdiv (2 ^ (min (32 : Int).toNat (IntKind.u64).bits))) * (p2.fdiv (2 ^ (min (32 : Int).toNat (IntKind.u64).bits))))) = y8 from Option.some.inj hy19]
 refine zp [] 4 [0,1,44,46] [] [(0, vk .u64 p1), (1, vk .u64 p2), (44, vk .u64 (IntKind.u64.wrap (y8 + y6))), (46, vk .u64 ((IntKind.u64.wrap (y5 + y7)).fdiv (2 ^ (min (32 : Int).toNat (IntKind.u64).bits))))] [] [0 ≤ (32 : Int)] (⟨by decide, trivial⟩) ?_
 rw [show ((IntKind.u64.wrap (y5 + y7)).fdiv (2 ^ (min (32 : Int).toNat (IntKind.u64).bits))) = y9 from Option.some.inj hy20]
 refine zg [] 2 [0,1,4] (zd (hK18 _ _ (zq fun K21 hK21 => zr (zg [] 4 [4,5] (zd (hK21 _ _ ?_))))))
 refine ze ?_
 obtain rfl := Option.some.inj h
 exact zf [vk .u64 (IntKind.u64.wrap ((IntKind.u64.wrap (y8 + y6)) + y9)), vk .u64 (IntKind.u64.wrap (p1 * p2))] (.tpc (.one (.rfl _ rfl)) (.tpc (.one (.rfl _ rfl)) (.tp0)))

def value_wide_times (p1 : GWide) (p2 : Int) : Option GWide :=
    bnd (math_bits_Mul64 p1.size.1 p2) fun r1 =>
    grd (0 ≤ r1.2 ∧ 0 ≤ (0 : Int) ∧ 0 ≤ (0 : Int) ∧ (0 : Int) ≤ 1) <|
    bnd (some (IntKind.u64.wrap (r1.1 + ((r1.2 + (0 : Int) + (0 : Int)) / 18446744073709551616)))) fun y1 =>
    bnd (math_bits_Mul64 p1.size.2.1 p2) fun r2 =>
    grd (0 ≤ r2.2 ∧ 0 ≤ y1 ∧ 0 ≤ (0 : Int) ∧ (0 : Int) ≤ 1) <|
    bnd (some (IntKind.u64.wrap (r2.1 + ((r2.2 + y1 + (0 : Int)) / 18446744073709551616)))) fun y2 =>
    bnd (math_bits_Mul64 p1.size.2.2.1 p2) fun r3 =>
    grd (0 ≤ r3.2 ∧ 0 ≤ y2 ∧ 0 ≤ (0 : Int) ∧ (0 : Int) ≤ 1) <|
    bnd (some (IntKind.u64.wrap (r3.1 + ((r3.2 + y2 + (0 : Int)) / 18446744073709551616)))) fun y3 =>
    bnd (math_bits_Mul64 p1.size.2.2.2 p2) fun r4 =>
    grd (0 ≤ r4.2 ∧ 0 ≤ y3 ∧ 0 ≤ (0 : Int) ∧ (0 : Int) ≤ 1) <|
    bnd (some (IntKind.u64.wrap (r4.1 + ((r4.2 + y3 + (0 : Int)) / 18446744073709551616)))) fun y4 =>
    some (GWide.mk p1.neg (((r1.2 + (0 : Int) + (0 : Int)) % 18446744073709551616), ((r2.2 + y1 + (0 : Int)) % 18446744073709551616), ((r3.2 + y2 + (0 : Int)) % 18446744073709551616), ((r4.2 + y3 + (0 : Int)) % 18446744073709551616)))

abbrev qa1321 (p1 : GWide) : List CV := [cb p1.neg, ck .u64 p1.size.1, ck .u64 p1.size.2.1, ck .u64 p1.size.2.2.1, ck .u64 p1.size.2.2.2]
abbrev qa1323 (p1 : GWide) : List CV := [ck .u64 p1.size.1, ck .u64 p1.size.2.1, ck .u64 p1.size.2.2.1, ck .u64 p1.size.2.2.2]
abbrev qa1324 : List CV := [cb false, ck .u64 (0 : Int), ck .u64 (0 : Int), ck .u64 (0 : Int), ck .u64 (0 : Int)]
abbrev qa1325 (p1 : GWide) (r1 : (Int × Int)) : List CV := [cb p1.neg, ck .u64 ((r1.2 + (0 : Int) + (0 : Int)) % 18446744073709551616), ck .u64 p1.size.2.1, ck .u64 p1.size.2.2.1, ck .u64 p1.size.2.2.2]
abbrev qa1326 (p1 : GWide) (r1 : (Int × Int)) (y1 : Int) (r2 : (Int × Int)) : List CV := [cb p1.neg, ck .u64 ((r1.2 + (0 : Int) + (0 : Int)) % 18446744073709551616), ck .u64 ((r2.2 + y1 + (0 : Int)) % 18446744073709551616), ck .u64 p1.size.2.2.1, ck .u64 p1.size.2.2.2]
abbrev qa1327 (p1 : GWide) (r1 : (Int × Int)) (y1 : Int) (r2 : (Int × Int)) (y2 : Int) (r3 : (Int × Int)) : List CV := [cb p1.neg, ck .u64 ((r1.2 + (0 : Int) + (0 : Int)) % 18446744073709551616), ck .u64 ((r2.2 + y1 + (0 : Int)) % 18446744073709551616), ck .u64 ((r3.2 + y2 + (0 : Int)) % 18446744073709551616), ck .u64 p1.size.2.2.2]
abbrev qa1328 (p1 : GWide) (r1 : (Int × Int)) (y1 : Int) (r2 : (Int × Int)) (y2 : Int) (r3 : (Int × Int)) (y3 : Int) (r4 : (Int × Int)) : List CV := [cb p1.neg, ck .u64 ((r1.2 + (0 : Int) + (0 : Int)) % 18446744073709551616), ck .u64 ((r2.2 + y1 + (0 : Int)) % 18446744073709551616), ck .u64 ((r3.2 + y2 + (0 : Int)) % 18446744073709551616), ck .u64 ((r4.2 + y3 + (0 : Int)) % 18446744073709551616)]

theorem c_value_wide_times (p1 : GWide) (p2 : Int) (r : GWide) (h : value_wide_times p1 p2 = some r) : PC Tryd.prog 119 [.ag (qa1321 p1), vk .u64 p2] (.ag [cb r.neg, ck .u64 r.size.1, ck .u64 r.size.2.1, ck .u64 r.size.2.2.1, ck .u64 r.size.2.2.2]) := by
 unfold value_wide_times at h
 refine zF 37 Tryd.f119 (zq fun K1 hK1 => zr (zg [2, 4] 2 [1,2,4] (zd (hK1 _ _ (zq fun K2 hK2 => zr ?_)))))
 refine zg [2, 4] 1 [1,2,4,5] (zd (hK2 _ _ (zq fun K3 hK3 => zq fun K4 hK4 => zr (zv [2, 4] 3 [1,2,4,5,12,13] [] [(1, vk .u64 p2), (2, .one (.pt 0 0 0 0)), (4, .one (.pt 1 0 0 0)), (5, vk .u64 (0 : Int)), (12, .ag (qa1323 p1)), (13, vi (0 : Int))] [.box (qa1321 p1), .box qa1324] (zd ?_)))))
 refine hK4 _ _ (zb 0 (XW.rounds' 5 (x := cd Tryd.f119 [1,1,0,1,0,0]) (by kernel_rfl) fun Q1 hQ1 => XR.one (zq fun K5 hK5 => zr (zg [2, 4] 1 [1,2,4,5,12,13,14] (zd ?_)))))
 refine hK5 _ _ (zq fun K6 hK6 => zc true (fun _ => ?_) (fun hx => by cases hx))
 refine zs (hK6 _ _ (zq fun K7 hK7 => zb 1 (zq fun K8 hK8 => zr (zo [2, 4] 4 [1,2,4,5,6,7,12,13] [] [0 ≤ (0 : Int) ∧ (0 : Int) < 4] (⟨by decide, trivial⟩) (zd ?_)))))
 refine hK8 _ _ (zq fun K9 hK9 => ?_)
 obtain ⟨r1, c10, h⟩ := zB h
 refine zr (zv [2, 4] 2 [1,2,4,5,6,12,13,18,19] [] [(1, vk .u64 p2), (2, .one (.pt 0 0 0 0)), (4, .one (.pt 1 0 0 0)), (5, vk .u64 (0 : Int)), (6, vi (0 : Int)), (12, .ag (qa1323 p1)), (13, vi (0 : Int)), (18, vk .u64 p1.size.1), (19, vk .u64 p2)] [.box (qa1321 p1), .box qa1324] (za (c_math_bits_Mul64 _ _ _ c10) (zg [2, 4] 5 [1,2,4,5,6,8,9,12,13] (zd ?_))))
 refine hK9 _ _ (zq fun K11 hK11 => zr (zv [2, 4] 1 [1,2,4,5,6,8,9,12,13] [] [(1, vk .u64 p2), (2, .one (.pt 0 0 0 0)), (4, .one (.pt 1 0 0 0)), (5, vk .u64 (0 : Int)), (6, vi (0 : Int)), (8, vk .u64 r1.1), (9, vk .u64 r1.2), (12, .ag (qa1323 p1)), (13, vi (0 : Int))] [.box (qa1321 p1), .box qa1324] (zd (hK11 _ _ (zq fun K12 hK12 => ?_)))))
 obtain ⟨g13, h⟩ := zG h
 refine zr (zv [2, 4] 3 [1,2,4,8,12,13,24,25,26] [] [(1, vk .u64 p2), (2, .one (.pt 0 0 0 0)), (4, .one (.pt 1 0 0 0)), (8, vk .u64 r1.1), (12, .ag (qa1323 p1)), (13, vi (0 : Int)), (24, vi (0 : Int)), (25, vk .u64 r1.2), (26, vk .u64 (0 : Int))] [.box (qa1321 p1), .box qa1324] ?_)
 refine XO.ext 127 [.int .u64 r1.2, .int .u64 (0 : Int), .int .u64 (0 : Int)] [.int .u64 ((r1.2 + (0 : Int) + (0 : Int)) % 18446744073709551616), .int .u64 ((r1.2 + (0 : Int) + (0 : Int)) / 18446744073709551616)] [(27, .tp [vk .u64 ((r1.2 + (0 : Int) + (0 : Int)) % 18446744073709551616), vk .u64 ((r1.2 + (0 : Int) + (0 : Int)) / 18446744073709551616)]), (1, vk .u64 p2), (2, .one (.pt 0 0 0 0)), (4, .one (.pt 1 0 0 0)), (8, vk .u64 r1.1), (12, .ag (qa1323 p1)), (13, vi (0 : Int)), (24, vi (0 : Int)), (25, vk .u64 r1.2), (26, vk .u64 (0 : Int))] (by kernel_rfl) (ext_Add64 (fn := Tryd.f127) (by kernel_rfl) (by kernel_rfl) (by kernel_rfl) (by kernel_rfl) (by kernel_rfl) g13.1 g13.2.1 g13.2.2.1 g13.2.2.2) rfl (by kernel_rfl) ?_
 refine zo [2, 4] 7 [1,2,4,8,10,12,13] [] [0 ≤ (0 : Int) ∧ (0 : Int) < 4] (⟨by decide, trivial⟩) (zd (hK12 _ _ ?_))
 obtain ⟨y1, hy14, h⟩ := zB h
 refine zr (zv [2, 4] 3 [1,2,4,12,13,34] [] [(1, vk .u64 p2), (2, .one (.pt 0 0 0 0)), (4, .one (.pt 1 0 0 0)), (12, .ag [ck .u64 p1.size.1, ck .u64 p1.size.2.1, ck .u64 p1.size.2.2.1, ck .u64 p1.size.2.2.2]), (13, vi (0 : Int)), (34, vk .u64 (IntKind.u64.wrap (r1.1 + ((r1.2 + (0 : Int) + (0 : Int)) / 18446744073709551616))))] [.box [cb p1.neg, ck .u64 ((r1.2 + (0 : Int) + (0 : Int)) % 18446744073709551616), ck .u64 p1.size.2.1, ck .u64 p1.size.2.2.1, ck .u64 p1.size.2.2.2], .box [cb false, ck .u64 (0 : Int), ck .u64 (0 : Int), ck .u64 (0 : Int), ck .u64 (0 : Int)]] ?_)
 rw [show (IntKind.u64.wrap (r1.1 + ((r1.2 + (0 : Int) + (0 : Int)) / 18446744073709551616))) = y1 from Option.some.inj hy14]
 refine zg [2, 4] 1 [1,2,4,5,12,13] (zd (hK7 _ _ (zr (zv [2, 4] 2 [1,2,4,5,12,13] [] [(1, vk .u64 p2), (2, .one (.pt 0 0 0 0)), (4, .one (.pt 1 0 0 0)), (5, vk .u64 y1), (12, .ag (qa1323 p1)), (13, vi (1 : Int))] [.box (qa1325 p1 r1), .box qa1324] (zd (XR.one (zq fun K15 hK15 => ?_)))))))
 refine zr (zg [2, 4] 1 [1,2,4,5,12,13,14] (zd (hK15 _ _ (zq fun K16 hK16 => zc true (fun _ => ?_) (fun hx => by cases hx)))))
 refine zs (hK16 _ _ (zq fun K17 hK17 => zb 1 (zq fun K18 hK18 => zr (zo [2, 4] 4 [1,2,4,5,6,7,12,13] [] [0 ≤ (1 : Int) ∧ (1 : Int) < 4] (⟨by decide, trivial⟩) (zd ?_)))))
 refine hK18 _ _ (zq fun K19 hK19 => ?_)
 obtain ⟨r2, c20, h⟩ := zB h
 refine zr (zv [2, 4] 2 [1,2,4,5,6,12,13,18,19] [] [(1, vk .u64 p2), (2, .one (.pt 0 0 0 0)), (4, .one (.pt 1 0 0 0)), (5, vk .u64 y1), (6, vi (1 : Int)), (12, .ag (qa1323 p1)), (13, vi (1 : Int)), (18, vk .u64 p1.size.2.1), (19, vk .u64 p2)] [.box (qa1325 p1 r1), .box qa1324] (za (c_math_bits_Mul64 _ _ _ c20) ?_))
 refine zg [2, 4] 5 [1,2,4,5,6,8,9,12,13] (zd (hK19 _ _ (zq fun K21 hK21 => zr ?_)))
 refine zv [2, 4] 1 [1,2,4,5,6,8,9,12,13] [] [(1, vk .u64 p2), (2, .one (.pt 0 0 0 0)), (4, .one (.pt 1 0 0 0)), (5, vk .u64 y1), (6, vi (1 : Int)), (8, vk .u64 r2.1), (9, vk .u64 r2.2), (12, .ag (qa1323 p1)), (13, vi (1 : Int))] [.box (qa1325 p1 r1), .box qa1324] (zd (hK21 _ _ (zq fun K22 hK22 => ?_)))
 obtain ⟨g23, h⟩ := zG h
 refine zr (zv [2, 4] 3 [1,2,4,8,12,13,24,25,26] [] [(1, vk .u64 p2), (2, .one (.pt 0 0 0 0)), (4, .one (.pt 1 0 0 0)), (8, vk .u64 r2.1), (12, .ag (qa1323 p1)), (13, vi (1 : Int)), (24, vi (1 : Int)), (25, vk .u64 r2.2), (26, vk .u64 y1)] [.box (qa1325 p1 r1), .box qa1324] ?_)
 refine XO.ext 127 [.int .u64 r2.2, .int .u64 y1, .int .u64 (0 : Int)] [.int .u64 ((r2.2 + y1 + (0 : Int)) % 18446744073709551616), .int .u64 ((r2.2 + y1 + (0 : Int)) / 18446744073709551616)] [(27, .tp [vk .u64 ((r2.2 + y1 + (0 : Int)) % 18446744073709551616), vk .u64 ((r2.2 + y1 + (0 : Int)) / 18446744073709551616)]), (1, vk .u64 p2), (2, .one (.pt 0 0 0 0)), (4, .one (.pt 1 0 0 0)), (8, vk .u64 r2.1), (12, .ag (qa1323 p1)), (13, vi (1 : Int)), (24, vi (1 : Int)), (25, vk .u64 r2.2), (26, vk .u64 y1)] (by kernel_rfl) (ext_Add64 (fn := Tryd.f127) (by kernel_rfl) (by kernel_rfl) (by kernel_rfl) (by kernel_rfl) (by kernel_rfl) g23.1 g23.2.1 g23.2.2.1 g23.2.2.2) rfl (by kernel_rfl) ?_
 refine zo [2, 4] 7 [1,2,4,8,10,12,13] [] [0 ≤ (1 : Int) ∧ (1 : Int) < 4] (⟨by decide, trivial⟩) (zd (hK22 _ _ ?_))
 obtain ⟨y2, hy24, h⟩ := zB h
 refine zr ?_
 refine zv [2, 4] 3 [1,2,4,12,13,34] [] [(1, vk .u64 p2), (2, .one (.pt 0 0 0 0)), (4, .one (.pt 1 0 0 0)), (12, .ag [ck .u64 p1.size.1, ck .u64 p1.size.2.1, ck .u64 p1.size.2.2.1, ck .u64 p1.size.2.2.2]), (13, vi (1 : Int)), (34, vk .u64 (IntKind.u64.wrap (r2.1 + ((r2.2 + y1 + (0 : Int)) / 18446744073709551616))))] [.box [cb p1.neg, ck .u64 ((r1.2 + (0 : Int) + (0 : Int)) % 18446744073709551616), ck .u64 ((r2.2 + y1 + (0 : Int)) % 18446744073709551616), ck .u64 p1.size.2.2.1, ck .u64 p1.size.2.2.2], .box [cb false, ck .u64 (0 : Int), ck .u64 (0 : Int), ck .u64 (0 : Int), ck .u64 (0 : Int)]] ?_
 rw [show (IntKind.u64.wrap (r2.1 + ((r2.2 + y1 + (0 : Int)) / 18446744073709551616))) = y2 from Option.some.inj hy24]
 refine zg [2, 4] 1 [1,2,4,5,12,13] (zd (hK17 _ _ (zr (zv [2, 4] 2 [1,2,4,5,12,13] [] [(1, vk .u64 p2), (2, .one (.pt 0 0 0 0)), (4, .one (.pt 1 0 0 0)), (5, vk .u64 y2), (12, .ag (qa1323 p1)), (13, vi (2 : Int))] [.box (qa1326 p1 r1 y1 r2), .box qa1324] (zd (XR.one ?_))))))
 refine zq fun K25 hK25 => zr (zg [2, 4] 1 [1,2,4,5,12,13,14] (zd (hK25 _ _ (zq fun K26 hK26 => zc true (fun _ => ?_) (fun hx => by cases hx)))))
 refine zs (hK26 _ _ (zq fun K27 hK27 => zb 1 (zq fun K28 hK28 => zr (zo [2, 4] 4 [1,2,4,5,6,7,12,13] [] [0 ≤ (2 : Int) ∧ (2 : Int) < 4] (⟨by decide, trivial⟩) (zd ?_)))))
 refine hK28 _ _ (zq fun K29 hK29 => ?_)
 obtain ⟨r3, c30, h⟩ := zB h
 refine zr ?_
 refine zv [2, 4] 2 [1,2,4,5,6,12,13,18,19] [] [(1, vk .u64 p2), (2, .one (.pt 0 0 0 0)), (4, .one (.pt 1 0 0 0)), (5, vk .u64 y2), (6, vi (2 : Int)), (12, .ag (qa1323 p1)), (13, vi (2 : Int)), (18, vk .u64 p1.size.2.2.1), (19, vk .u64 p2)] [.box (qa1326 p1 r1 y1 r2), .box qa1324] ?_
 refine za (c_math_bits_Mul64 _ _ _ c30) (zg [2, 4] 5 [1,2,4,5,6,8,9,12,13] (zd (hK29 _ _ (zq fun K31 hK31 => zr ?_))))
 refine zv [2, 4] 1 [1,2,4,5,6,8,9,12,13] [] [(1, vk .u64 p2), (2, .one (.pt 0 0 0 0)), (4, .one (.pt 1 0 0 0)), (5, vk .u64 y2), (6, vi (2 : Int)), (8, vk .u64 r3.1), (9, vk .u64 r3.2), (12, .ag (qa1323 p1)), (13, vi (2 : Int))] [.box (qa1326 p1 r1 y1 r2), .box qa1324] (zd ?_)
 refine hK31 _ _ (zq fun K32 hK32 => ?_)
 obtain ⟨g33, h⟩ := zG h
 refine zr (zv [2, 4] 3 [1,2,4,8,12,13,24,25,26] [] [(1, vk .u64 p2), (2, .one (.pt 0 0 0 0)), (4, .one (.pt 1 0 0 0)), (8, vk .u64 r3.1), (12, .ag (qa1323 p1)), (13, vi (2 : Int)), (24, vi (2 : Int)), (25, vk .u64 r3.2), (26, vk .u64 y2)] [.box (qa1326 p1 r1 y1 r2), .box qa1324] ?_)
 refine XO.ext 127 [.int .u64 r3.2, .int .u64 y2, .int .u64 (0 : Int)] [.int .u64 ((r3.2 + y2 + (0 : Int)) % 18446744073709551616), .int .u64 ((r3.2 + y2 + (0 : Int)) / 18446744073709551616)] [(27, .tp [vk .u64 ((r3.2 + y2 + (0 : Int)) % 18446744073709551616), vk .u64 ((r3.2 + y2 + (0 : Int)) / 18446744073709551616)]), (1, vk .u64 p2), (2, .one (.pt 0 0 0 0)), (4, .one (.pt 1 0 0 0)), (8, vk .u64 r3.1), (12, .ag (qa1323 p1)), (13, vi (2 : Int)), (24, vi (2 : Int)), (25, vk .u64 r3.2), (26, vk .u64 y2)] (by kernel_rfl) (ext_Add64 (fn := Tryd.f127) (by kernel_rfl) (by kernel_rfl) (by kernel_rfl) (by kernel_rfl) (by kernel_rfl) g33.1 g33.2.1 g33.2.2.1 g33.2.2.2) rfl (by kernel_rfl) ?_
 refine zo [2, 4] 7 [1,2,4,8,10,12,13] [] [0 ≤ (2 : Int) ∧ (2 : Int) < 4] (⟨by decide, trivial⟩) (zd (hK32 _ _ ?_))
 obtain ⟨y3, hy34, h⟩ := zB h
 refine zr ?_
 refine zv [2, 4] 3 [1,2,4,12,13,34] [] [(1, vk .u64 p2), (2, .one (.pt 0 0 0 0)), (4, .one (.pt 1 0 0 0)), (12, .ag [ck .u64 p1.size.1, ck .u64 p1.size.2.1, ck .u64 p1.size.2.2.1, ck .u64 p1.size.2.2.2]), (13, vi (2 : Int)), (34, vk .u64 (IntKind.u64.wrap (r3.1 + ((r3.2 + y2 + (0 : Int)) / 18446744073709551616))))] [.box [cb p1.neg, ck .u64 ((r1.2 + (0 : Int) + (0 : Int)) % 18446744073709551616), ck .u64 ((r2.2 + y1 + (0 : Int)) % 18446744073709551616), ck .u64 ((r3.2 + y2 + (0 : Int)) % 18446744073709551616), ck .u64 p1.size.2.2.2], .box [cb false, ck .u64 (0 : Int), ck .u64 (0 : Int), ck .u64 (0 : Int), ck .u64 (0 : Int)]] ?_
 rw [show (IntKind.u64.wrap (r3.1 + ((r3.2 + y2 + (0 : Int)) / 18446744073709551616))) = y3 from Option.some.inj hy34]
 refine zg [2, 4] 1 [1,2,4,5,12,13] (zd (hK27 _ _ (zr ?_)))
 refine zv [2, 4] 2 [1,2,4,5,12,13] [] [(1, vk .u64 p2), (2, .one (.pt 0 0 0 0)), (4, .one (.pt 1 0 0 0)), (5, vk .u64 y3), (12, .ag (qa1323 p1)), (13, vi (3 : Int))] [.box (qa1327 p1 r1 y1 r2 y2 r3), .box qa1324] (zd (XR.one (zq fun K35 hK35 => zr ?_)))
 refine zg [2, 4] 1 [1,2,4,5,12,13,14] (zd (hK35 _ _ (zq fun K36 hK36 => zc true (fun _ => ?_) (fun hx => by cases hx))))
 refine zs (hK36 _ _ (zq fun K37 hK37 => zb 1 (zq fun K38 hK38 => zr (zo [2, 4] 4 [1,2,4,5,6,7,12,13] [] [0 ≤ (3 : Int) ∧ (3 : Int) < 4] (⟨by decide, trivial⟩) (zd ?_)))))
 refine hK38 _ _ (zq fun K39 hK39 => ?_)
 obtain ⟨r4, c40, h⟩ := zB h
 refine zr ?_
 refine zv [2, 4] 2 [1,2,4,5,6,12,13,18,19] [] [(1, vk .u64 p2), (2, .one (.pt 0 0 0 0)), (4, .one (.pt 1 0 0 0)), (5, vk .u64 y3), (6, vi (3 : Int)), (12, .ag (qa1323 p1)), (13, vi (3 : Int)), (18, vk .u64 p1.size.2.2.2), (19, vk .u64 p2)] [.box (qa1327 p1 r1 y1 r2 y2 r3), .box qa1324] ?_
 refine za (c_math_bits_Mul64 _ _ _ c40) (zg [2, 4] 5 [1,2,4,5,6,8,9,12,13] (zd (hK39 _ _ (zq fun K41 hK41 => zr ?_))))
 refine zv [2, 4] 1 [1,2,4,5,6,8,9,12,13] [] [(1, vk .u64 p2), (2, .one (.pt 0 0 0 0)), (4, .one (.pt 1 0 0 0)), (5, vk .u64 y3), (6, vi (3 : Int)), (8, vk .u64 r4.1), (9, vk .u64 r4.2), (12, .ag (qa1323 p1)), (13, vi (3 : Int))] [.box (qa1327 p1 r1 y1 r2 y2 r3), .box qa1324] ?_
 refine zd (hK41 _ _ (zq fun K42 hK42 => ?_))
 obtain ⟨g43, h⟩ := zG h
 refine zr ?_
 refine zv [2, 4] 3 [1,2,4,8,12,13,24,25,26] [] [(1, vk .u64 p2), (2, .one (.pt 0 0 0 0)), (4, .one (.pt 1 0 0 0)), (8, vk .u64 r4.1), (12, .ag (qa1323 p1)), (13, vi (3 : Int)), (24, vi (3 : Int)), (25, vk .u64 r4.2), (26, vk .u64 y3)] [.box (qa1327 p1 r1 y1 r2 y2 r3), .box qa1324] ?_
 refine XO.ext 127 [.int .u64 r4.2, .int .u64 y3, .int .u64 (0 : Int)] [.int .u64 ((r4.2 + y3 + (0 : Int)) % 18446744073709551616), .int .u64 ((r4.2 + y3 + (0 : Int)) / 18446744073709551616)] [(27, .tp [vk .u64 ((r4.2 + y3 + (0 : Int)) % 18446744073709551616), vk .u64 ((r4.2 + y3 + (0 : Int)) / 18446744073709551616)]), (1, vk .u64 p2), (2, .one (.pt 0 0 0 0)), (4, .one (.pt 1 0 0 0)), (8, vk .u64 r4.1), (12, .ag (qa1323 p1)), (13, vi (3 : Int)), (24, vi (3 : Int)), (25, vk .u64 r4.2), (26, vk .u64 y3)] (by kernel_rfl) (ext_Add64 (fn := Tryd.f127) (by kernel_rfl) (by kernel_rfl) (by kernel_rfl) (by kernel_rfl) (by kernel_rfl) g43.1 g43.2.1 g43.2.2.1 g43.2.2.2) rfl (by kernel_rfl) ?_
 refine zo [2, 4] 7 [1,2,4,8,10,12,13] [] [0 ≤ (3 : Int) ∧ (3 : Int) < 4] (⟨by decide, trivial⟩) (zd (hK42 _ _ ?_))
 obtain ⟨y4, hy44, h⟩ := zB h
 refine zr ?_
 refine zv [2, 4] 3 [1,2,4,12,13,34] [] [(1, vk .u64 p2), (2, .one (.pt 0 0 0 0)), (4, .one (.pt 1 0 0 0)), (12, .ag [ck .u64 p1.size.1, ck .u64 p1.size.2.1, ck .u64 p1.size.2.2.1, ck .u64 p1.size.2.2.2]), (13, vi (3 : Int)), (34, vk .u64 (IntKind.u64.wrap (r4.1 + ((r4.2 + y3 + (0 : Int)) / 18446744073709551616))))] [.box [cb p1.neg, ck .u64 ((r1.2 + (0 : Int) + (0 : Int)) % 18446744073709551616), ck .u64 ((r2.2 + y1 + (0 : Int)) % 18446744073709551616), ck .u64 ((r3.2 + y2 + (0 : Int)) % 18446744073709551616), ck .u64 ((r4.2 + y3 + (0 : Int)) % 18446744073709551616)], .box [cb false, ck .u64 (0 : Int), ck .u64 (0 : Int), ck .u64 (0 : Int), ck .u64 (0 : Int)]] ?_
 rw [show (IntKind.u64.wrap (r4.1 + ((r4.2 + y3 + (0 : Int)) / 18446744073709551616))) = y4 from Option.some.inj hy44]
 refine zg [2, 4] 1 [1,2,4,5,12,13] (zd (hK37 _ _ (zr ?_)))
 refine zv [2, 4] 2 [1,2,4,5,12,13] [] [(1, vk .u64 p2), (2, .one (.pt 0 0 0 0)), (4, .one (.pt 1 0 0 0)), (5, vk .u64 y4), (12, .ag (qa1323 p1)), (13, vi (4 : Int))] [.box (qa1328 p1 r1 y1 r2 y2 r3 y3 r4), .box qa1324] (zd ?_)
 refine XR.one (zq fun K45 hK45 => zr (zg [2, 4] 1 [1,2,4,5,12,13,14] (zd (hK45 _ _ (zq fun K46 hK46 => zc false (fun hx => by cases hx) (fun _ => ?_))))))
 refine zx 0 (hQ1 _ _ _ (hK3 _ _ (zq fun K47 hK47 => zr (zg [2, 4] 2 [4] (zd (hK47 _ _ ?_))))))
 refine ze ?_
 obtain rfl := Option.some.inj h
 exact zf [.ag (qa1328 p1 r1 y1 r2 y2 r3 y3 r4)] (.ag (.cons (.rfl _ rfl) (.cons (.rfl _ rfl) (.cons (.rfl _ rfl) (.cons (.rfl _ rfl) (.cons (.rfl _ rfl) .nil))))))

def value_wide_shifted_j1 (z6 : Bool) (z7 : Int) (z8 : Int) (z9 : Int) (z10 : Int) : Option GWide :=
    some (GWide.mk z6 (z7, z8, z9, z10))

def value_wide_shifted_l1 (p2 : Int) : Nat → Bool → Int → Int → Int → Int → Int → Option GWide
  | 0, _, _, _, _, _, _ => none
  | k1 + 1, z1, z2, z3, z4, z5, x1 =>
    ift (decide (x1 < p2))
      (bnd (value_wide_times (GWide.mk z1 (z2, z3, z4, z5)) (10 : Int)) fun r1 =>
       (value_wide_shifted_l1 p2 k1) r1.neg r1.size.1 r1.size.2.1 r1.size.2.2.1 r1.size.2.2.2 (IntKind.i64.wrap (x1 + (1 : Int))))
      (value_wide_shifted_j1 z1 z2 z3 z4 z5)

def value_wide_shifted (p1 : GWide) (p2 : Int) : Option GWide :=
    value_wide_shifted_l1 p2 BIG p1.neg p1.size.1 p1.size.2.1 p1.size.2.2.1 p1.size.2.2.2 (0 : Int)

abbrev qa1359 : List CV := [cb false, ck .u64 (0 : Int), ck .u64 (0 : Int), ck .u64 (0 : Int), ck .u64 (0 : Int)]
abbrev qa1362 (r1 : GWide) : List CV := [cb r1.neg, ck .u64 r1.size.1, ck .u64 r1.size.2.1, ck .u64 r1.size.2.2.1, ck .u64 r1.size.2.2.2]

theorem c_value_wide_shifted (p1 : GWide) (p2 : Int) (r : GWide) (h : value_wide_shifted p1 p2 = some r) : PC Tryd.prog 118 [.ag [cb p1.neg, ck .u64 p1.size.1, ck .u64 p1.size.2.1, ck .u64 p1.size.2.2.1, ck .u64 p1.size.2.2.2], vi p2] (.ag [cb r.neg, ck .u64 r.size.1, ck .u64 r.size.2.1, ck .u64 r.size.2.2.1, ck .u64 r.size.2.2.2]) := by
 unfold value_wide_shifted at h
 refine zF 12 Tryd.f118 (zq fun K1 hK1 => zr (zg [2, 4] 2 [1,2,4] (zd (hK1 _ _ (zq fun K2 hK2 => ?_)))))
 have hJ1 : ∀ (z6 : Bool) (z7 : Int) (z8 : Int) (z9 : Int) (z10 : Int), value_wide_shifted_j1 z6 z7 z8 z9 z10 = some r → ∀ fr1 st1, Sub 12 0 [] fr1 st1 [(2, .one (.pt 0 0 0 0)), (4, .one (.pt 1 0 0 0))] [.box [cb z6, ck .u64 z7, ck .u64 z8, ck .u64 z9, ck .u64 z10], .box qa1359] → K2 fr1 st1 := by
  intro z6 z7 z8 z9 z10 h fr1 st1 hS
  unfold value_wide_shifted_j1 at h
  refine hK2 _ _ (XW.sub hS ?_)
  refine zq fun K9 hK9 => zr (zg [2, 4] 2 [4] (zd (hK9 _ _ (ze ?_))))
  obtain rfl := Option.some.inj h
  exact zf [.ag [cb z6, ck .u64 z7, ck .u64 z8, ck .u64 z9, ck .u64 z10]] (.ag (.cons (.rfl _ rfl) (.cons (.rfl _ rfl) (.cons (.rfl _ rfl) (.cons (.rfl _ rfl) (.cons (.rfl _ rfl) .nil))))))
 refine zq fun K3 hK3 => zr (zg [2, 4] 2 [2,4,5,6] (zd (hK3 _ _ (zb 0 (XW.rounds' BIG (x := cd Tryd.f118 [1,0,1,0,0]) (by kernel_rfl) fun Q1 hQ1 => ?_)))))
 have hL1 : ∀ (k1 : Nat) (z1 : Bool) (z2 : Int) (z3 : Int) (z4 : Int) (z5 : Int) (x1 : Int), value_wide_shifted_l1 p2 k1 z1 z2 z3 z4 z5 x1 = some r → XR Tryd.prog 12 0 [] (cd Tryd.f118 [1,0,1,0,0]) Q1 k1 [(2, .one (.pt 0 0 0 0)), (4, .one (.pt 1 0 0 0)), (5, vi p2), (6, vi x1)] [.box [cb z1, ck .u64 z2, ck .u64 z3, ck .u64 z4, ck .u64 z5], .box qa1359] := by
  intro k1
  induction k1 with
  | zero => intro z1 z2 z3 z4 z5 x1 h; rw [value_wide_shifted_l1.eq_1] at h; cases h
  | succ k1 ih1 =>
   intro z1 z2 z3 z4 z5 x1 h
   rw [value_wide_shifted_l1.eq_2] at h
   refine zq fun K4 hK4 => zr (zg [2, 4] 1 [2,4,5,6,7] (zd (hK4 _ _ (zq fun K5 hK5 => zC h (fun b6 h => ?_) (fun b6 h => ?_)))))
   ·refine zs (hK5 _ _ (zq fun K7 hK7 => zb 1 ?_))
    obtain ⟨r1, c8, h⟩ := zB h
    refine zr (zg [2, 4] 1 [2,4,5,6,8] (zl 119 [.ag [cb z1, ck .u64 z2, ck .u64 z3, ck .u64 z4, ck .u64 z5], vk .u64 (10 : Int)] (.ag (qa1362 r1)) [(9, .ag (qa1362 r1)), (2, .one (.pt 0 0 0 0)), (4, .one (.pt 1 0 0 0)), (5, vi p2), (6, vi x1), (8, .ag [cb z1, ck .u64 z2, ck .u64 z3, ck .u64 z4, ck .u64 z5])] (c_value_wide_times _ _ _ c8) (zg [2, 4] 1 [2,4,5,6] (zd (hK7 _ _ (zr (zg [2, 4] 2 [2,4,5,6] ?_)))))))
    exact zd (XR.sub (zk [2,4,5,6]) (ih1 r1.neg r1.size.1 r1.size.2.1 r1.size.2.2.1 r1.size.2.2.2 (IntKind.i64.wrap (x1 + (1 : Int))) h))
   ·exact zx 0 (hQ1 _ _ _ (hJ1 z1 z2 z3 z4 z5 h _ _ (zk [2,4])))
 exact XR.sub (zk [2,4,5,6]) (hL1 BIG p1.neg p1.size.1 p1.size.2.1 p1.size.2.2.1 p1.size.2.2.2 (0 : Int) h)

def value_scaled (p1 : Int) (p2 : Int) : Option GWide :=
    bnd (value_whole p1) fun r1 =>
    bnd (value_wide_shifted (GWide.mk r1.neg (r1.size.1, r1.size.2.1, r1.size.2.2.1, r1.size.2.2.2)) p2) fun r2 =>
    some (GWide.mk r2.neg (r2.size.1, r2.size.2.1, r2.size.2.2.1, r2.size.2.2.2))

abbrev qa1367 (r1 : GWide) : List CV := [cb r1.neg, ck .u64 r1.size.1, ck .u64 r1.size.2.1, ck .u64 r1.size.2.2.1, ck .u64 r1.size.2.2.2]
abbrev qa1369 (r2 : GWide) : List CV := [cb r2.neg, ck .u64 r2.size.1, ck .u64 r2.size.2.1, ck .u64 r2.size.2.2.1, ck .u64 r2.size.2.2.2]

theorem c_value_scaled (p1 : Int) (p2 : Int) (r : GWide) (h : value_scaled p1 p2 = some r) : PC Tryd.prog 108 [vi p1, vi p2] (.ag [cb r.neg, ck .u64 r.size.1, ck .u64 r.size.2.1, ck .u64 r.size.2.2.1, ck .u64 r.size.2.2.2]) := by
 unfold value_scaled at h
 refine zF 9 Tryd.f108 (zq fun K1 hK1 => zr (zg [4] 1 [0,1,4] (zd (hK1 _ _ (zq fun K2 hK2 => ?_)))))
 obtain ⟨r1, c3, h⟩ := zB h
 obtain ⟨r2, c4, h⟩ := zB h
 refine zr (zg [4] 1 [1,4,5] (zl 117 [vi p1] (.ag (qa1367 r1)) [(6, .ag (qa1367 r1)), (1, vi p2), (4, .one (.pt 0 0 0 0)), (5, vi p1)] (c_value_whole _ _ c3) (zg [4] 1 [4,6,7] (za (c_value_wide_shifted _ _ _ c4) (zv [4] 1 [4] [] [(4, .one (.pt 0 0 0 0))] [.box (qa1369 r2)] (zd (hK2 _ _ ?_)))))))
 refine ze ?_
 obtain rfl := Option.some.inj h
 exact zf [.ag (qa1369 r2)] (.ag (.cons (.rfl _ rfl) (.cons (.rfl _ rfl) (.cons (.rfl _ rfl) (.cons (.rfl _ rfl) (.cons (.rfl _ rfl) .nil))))))

def value_wide_negated (p1 : GWide) : Option GWide :=
    some (GWide.mk (!p1.neg) (p1.size.1, p1.size.2.1, p1.size.2.2.1, p1.size.2.2.2))

abbrev qa1375 (p1 : GWide) : List CV := [cb (!p1.neg), ck .u64 p1.size.1, ck .u64 p1.size.2.1, ck .u64 p1.size.2.2.1, ck .u64 p1.size.2.2.2]

theorem c_value_wide_negated (p1 : GWide) (r : GWide) (h : value_wide_negated p1 = some r) : PC Tryd.prog 129 [.ag [cb p1.neg, ck .u64 p1.size.1, ck .u64 p1.size.2.1, ck .u64 p1.size.2.2.1, ck .u64 p1.size.2.2.2]] (.ag [cb r.neg, ck .u64 r.size.1, ck .u64 r.size.2.1, ck .u64 r.size.2.2.1, ck .u64 r.size.2.2.2]) := by
 unfold value_wide_negated at h
 refine zF 8 Tryd.f129 (zq fun K1 hK1 => zr (zg [1, 2] 2 [1,2] (zd (hK1 _ _ (zq fun K2 hK2 => zr ?_)))))
 refine zg [1, 2] 5 [1,2] (zd (hK2 _ _ (zq fun K3 hK3 => zr (zv [1, 2] 2 [2] [] [(2, .one (.pt 1 0 0 0))] [.box (qa1375 p1), .box (qa1375 p1)] (zd (hK3 _ _ ?_))))))
 refine ze ?_
 obtain rfl := Option.some.inj h
 exact zf [.ag (qa1375 p1)] (.ag (.cons (.rfl _ rfl) (.cons (.rfl _ rfl) (.cons (.rfl _ rfl) (.cons (.rfl _ rfl) (.cons (.rfl _ rfl) .nil))))))


end Go.Proofs.YtmaemlebpjnmoaaDoor
