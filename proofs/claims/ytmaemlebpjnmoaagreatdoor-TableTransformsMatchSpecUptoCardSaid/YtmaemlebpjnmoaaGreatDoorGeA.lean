/- The shelf's contract of utf8.ValidString, laid at this program. Printed by a program: what the functions compute, and the proofs of their contracts. -/
import Derived.Test.YtmaemlebpjnmoaaGreatDoorProg
import Derived.Test.YtmaemlebpjnmoaaGreatDoorChecked
import Derived.Test.YtmaemlebpjnmoaaGreatDoorSxB
namespace Go.Proofs.YtmaemlebpjnmoaaGreatDoor
open Go Go.SX Go.Shelf Go.Lib
set_option linter.unusedVariables false

def u8ren : Ren where
 f := fun n => if n = 196 then 180 else if n = 259 then 193 else n
 t := fun n => if n = 0 then 0 else if n = 3 then 3 else if n = 4 then 4 else if n = 5 then 5 else if n = 9 then 9 else if n = 12 then 12 else if n = 46 then 217 else if n = 53 then 64 else if n = 119 then 230 else if n = 138 then 232 else if n = 139 then 233 else n
 g := fun n => if n = 3 then 0 else if n = 4 then 1 else n

set_option maxRecDepth 100000 in
theorem u8lays : Lays.n196 Tryz.prog u8ren where
 mixed := by kernel_rfl
 f196 := by kernel_rfl
 f259 := by kernel_rfl
 t0 := by kernel_rfl
 a0 := fun w => by kernel_rfl
 z0 := fun w => by kernel_rfl
 v0 := fun w => by kernel_rfl
 t3 := by kernel_rfl
 a3 := fun w => by kernel_rfl
 z3 := fun w => by kernel_rfl
 v3 := fun w => by kernel_rfl
 t4 := by kernel_rfl
 a4 := fun w => by kernel_rfl
 z4 := fun w => by kernel_rfl
 v4 := fun w => by kernel_rfl
 t5 := by kernel_rfl
 a5 := fun w => by kernel_rfl
 z5 := fun w => by kernel_rfl
 v5 := fun w => by kernel_rfl
 t9 := by kernel_rfl
 a9 := fun w => by kernel_rfl
 z9 := fun w => by kernel_rfl
 v9 := fun w => by kernel_rfl
 t12 := by kernel_rfl
 a12 := fun w => by kernel_rfl
 z12 := fun w => by kernel_rfl
 v12 := fun w => by kernel_rfl
 t46 := by kernel_rfl
 a46 := fun w => by kernel_rfl
 z46 := fun w => by kernel_rfl
 v46 := fun w => by kernel_rfl
 t53 := by kernel_rfl
 a53 := fun w => by kernel_rfl
 z53 := fun w => by kernel_rfl
 v53 := fun w => by kernel_rfl
 t119 := by kernel_rfl
 a119 := fun w => by kernel_rfl
 z119 := fun w => by kernel_rfl
 t138 := by kernel_rfl
 a138 := fun w => by kernel_rfl
 z138 := fun w => by kernel_rfl
 v138 := fun w => by kernel_rfl
 t139 := by kernel_rfl
 a139 := fun w => by kernel_rfl
 z139 := fun w => by kernel_rfl
 v139 := fun w => by kernel_rfl
 g3 := by kernel_rfl
 g4 := by kernel_rfl

def utf8_ValidString (p1 : ByteArray) : Option Bool := grd (p1.size ≤ 9223372036854775807) <| some (validD p1.data.toList)

theorem c_utf8_ValidString (p1 : ByteArray) (r : Bool) (h : utf8_ValidString p1 = some r) : PC Tryz.prog 180 [vs p1] (vb r) := by
 unfold utf8_ValidString at h
 obtain ⟨g1, h⟩ := grd_some h
 obtain rfl := Option.some.inj h
 exact pc_validString u8lays (by kernel_rfl) (by kernel_rfl) p1 g1

end Go.Proofs.YtmaemlebpjnmoaaGreatDoor
namespace Go.Proofs.YtmaemlebpjnmoaaGreatDoor
open Go.SX Go
open Go.IntKind (i64 u64 u8 i32 u32)
set_option linter.unusedVariables false
set_option linter.unusedSimpArgs false
set_option maxRecDepth 100000
set_option maxHeartbeats 8000000
def value_leaf_j1 (x1 : Bool) : Option Bool :=
    some x1
def value_leaf (p1 : GType) : Option Bool :=
    ift (p1.kind != (6 : Int))
      (value_leaf_j1 (p1.kind != (7 : Int)))
      (value_leaf_j1 false)
abbrev qa1319 (p1 : GType) : List PV := [pi p1.kind, pi p1.scale, .ro (eField.els p1.fields)]
theorem c_value_leaf (p1 : GType) (r : Bool) (h : value_leaf p1 = some r) : PC Tryz.prog 107 [.ag [ci p1.kind, ci p1.scale, cl eField p1.fields]] (vb r) := by
 unfold value_leaf at h
 refine zF 11 Tryz.f107 (zq fun K1 m1 => zr (zg [] 2 [1] (zd (m1 _ _ (zq fun K2 m2 => ?_)))))
 have j1 : ∀ (x1 : Bool), value_leaf_j1 x1 = some r → ∀ w0 w1, Sub 11 0 [] w0 w1 [(2, vb x1)] [] → K2 w0 w1 := by
  intro x1 h w0 w1 hS
  unfold value_leaf_j1 at h
  refine m2 _ _ (XW.sub hS ?_)
  refine ze ?_
  obtain rfl := zj h
  exact zf [vb x1] (.one (.rfl _ rfl))
 rcases zW h with ⟨b3, h⟩ | ⟨b3, h⟩
 ·exact zr (zu [] 4 [1,6] [(qa1319 p1)] (zt 6 b3 (zv [] 5 [2] [(qa1319 p1)] [(2, vb (p1.kind != (7 : Int)))] [] (zd (j1 (p1.kind != (7 : Int)) h _ _ (zk [2]))))))
 ·exact zr (zu [] 4 [1,6] [(qa1319 p1)] (zt 6 b3 (zg [] 5 [2] (zd (j1 false h _ _ (zk [2]))))))
def value_Name_1_j1 (x1 : Bool) : Option Bool :=
    some x1
def value_Name_1 (p1 : Int) : Option Bool :=
    ift (decide (p1 < (97 : Int)))
      (ift (decide (p1 < (48 : Int)))
         (value_Name_1_j1 (p1 != (95 : Int)))
         (ift (decide ((57 : Int) < p1))
            (value_Name_1_j1 (p1 != (95 : Int)))
            (value_Name_1_j1 false)))
      (ift (decide ((122 : Int) < p1))
         (ift (decide (p1 < (48 : Int)))
            (value_Name_1_j1 (p1 != (95 : Int)))
            (ift (decide ((57 : Int) < p1))
               (value_Name_1_j1 (p1 != (95 : Int)))
               (value_Name_1_j1 false)))
         (value_Name_1_j1 false))
abbrev qa1325 (p1 : Int) : Fr := [(0, vk .i32 p1), (9, vb (decide ((122 : Int) < p1)))]
theorem c_value_Name_1 (p1 : Int) (r : Bool) (h : value_Name_1 p1 = some r) : PC Tryz.prog 178 [vk .i32 p1] (vb r) := by
 unfold value_Name_1 at h
 refine zF 21 Tryz.f178 (zq fun K1 m1 => zr (zg [] 1 [0] (zd (m1 _ _ (zq fun K2 m2 => ?_)))))
 have j1 : ∀ (x1 : Bool), value_Name_1_j1 x1 = some r → ∀ w0 w1, Sub 21 0 [] w0 w1 [(2, vb x1)] [] → K2 w0 w1 := by
  intro x1 h w0 w1 hS
  unfold value_Name_1_j1 at h
  refine m2 _ _ (XW.sub hS ?_)
  refine ze ?_
  obtain rfl := zj h
  exact zf [vb x1] (.one (.rfl _ rfl))
 rcases zW h with ⟨b3, h⟩ | ⟨b3, h⟩
 ·rcases zW h with ⟨b4, h⟩ | ⟨b4, h⟩
  ·exact zr (zg [] 3 [0,5] (zt 5 b3 (zv [] 7 [0,9,12] [] [(0, vk .i32 p1), (9, vb true), (12, vb (decide (p1 < (48 : Int))))] [] (zt 12 b4 (zg [] 9 [2] (zd (j1 (p1 != (95 : Int)) h _ _ (zk [2]))))))))
  ·rcases zW h with ⟨b5, h⟩ | ⟨b5, h⟩
   ·refine zr (zg [] 3 [0,5] (zt 5 b3 (zv [] 7 [0,9,12] [] [(0, vk .i32 p1), (9, vb true), (12, vb (decide (p1 < (48 : Int))))] [] (zt 12 b4 (zg [] 5 [0,17] (zt 17 b5 (zg [] 4 [2] ?_)))))))
    exact zd (j1 (p1 != (95 : Int)) h _ _ (zk [2]))
   ·refine zr (zv [] 3 [0,5] [] [(0, vk .i32 p1), (5, vb (decide (p1 < (97 : Int))))] [] (zt 5 b3 (zg [] 7 [0,9,12] (zt 12 b4 (zg [] 5 [0,17] (zt 17 b5 (zv [] 4 [2] [] [(2, vb false)] [] ?_)))))))
    exact zd (j1 false h _ _ (zk [2]))
 ·rcases zW h with ⟨b6, h⟩ | ⟨b6, h⟩
  ·rcases zW h with ⟨b7, h⟩ | ⟨b7, h⟩
   ·refine zr (zg [] 3 [0,5] (zt 5 b3 (zv [] 4 [0,9] [] (qa1325 p1) [] (zt 9 b6 (zg [] 3 [0,9,12] (zt 12 b7 (zg [] 9 [2] ?_)))))))
    exact zd (j1 (p1 != (95 : Int)) h _ _ (zk [2]))
   ·rcases zW h with ⟨b8, h⟩ | ⟨b8, h⟩
    ·refine zr (zv [] 3 [0,5] [] [(0, vk .i32 p1), (5, vb (decide (p1 < (97 : Int))))] [] (zt 5 b3 (zg [] 4 [0,9] (zt 9 b6 (zg [] 3 [0,9,12] (zt 12 b7 (zv [] 5 [0,17] [] [(0, vk .i32 p1), (17, vb (decide ((57 : Int) < p1)))] [] ?_)))))))
     exact zt 17 b8 (zg [] 4 [2] (zd (j1 (p1 != (95 : Int)) h _ _ (zk [2]))))
    ·refine zr (zg [] 3 [0,5] (zt 5 b3 (zv [] 4 [0,9] [] (qa1325 p1) [] (zt 9 b6 (zg [] 3 [0,9,12] (zt 12 b7 (zg [] 5 [0,17] ?_)))))))
     exact zt 17 b8 (zv [] 4 [2] [] [(2, vb false)] [] (zd (j1 false h _ _ (zk [2]))))
  ·exact zr (zg [] 3 [0,5] (zt 5 b3 (zv [] 4 [0,9] [] (qa1325 p1) [] (zt 9 b6 (zg [] 12 [2] (zd (j1 false h _ _ (zk [2]))))))))
def strings_indexFunc_of_value_Name_1_j1 : Option Int :=
    some (-1 : Int)
def strings_indexFunc_of_value_Name_1_l1 (p1 : ByteArray) (p2 : Bool) : Nat → Nat → Option Int
  | 0, _ => none
  | k1 + 1, z1 =>
    ift (decide (z1 < p1.size))
      (bnd (value_Name_1 (Int.ofNat (Utf8.decode p1 z1).1)) fun r1 =>
       ift (r1 == p2)
         (some (Int.ofNat z1))
         ((strings_indexFunc_of_value_Name_1_l1 p1 p2 k1) (z1 + (Utf8.decode p1 z1).2)))
      (strings_indexFunc_of_value_Name_1_j1)
def strings_indexFunc_of_value_Name_1 (p1 : ByteArray) (p2 : Bool) : Option Int :=
    strings_indexFunc_of_value_Name_1_l1 p1 p2 BIG 0
theorem c_strings_indexFunc_of_value_Name_1 (p1 : ByteArray) (p2 : Bool) (r : Int) (h : strings_indexFunc_of_value_Name_1 p1 p2 = some r) : PC Tryz.prog 197 [vs p1, .one (.pv (.fn 178 [])), vb p2] (vi r) := by
 unfold strings_indexFunc_of_value_Name_1 at h
 refine zF 21 Tryz.f197 (zq fun K1 m1 => zr (zg [] 1 [0,1,2] (zd (m1 _ _ (zq fun K2 m2 => ?_)))))
 have j1 : ∀ (_ : Unit), strings_indexFunc_of_value_Name_1_j1 = some r → ∀ w0 w1, Sub 21 0 [] w0 w1 [] [] → K2 w0 w1 := by
  intro _ h w0 w1 hS
  unfold strings_indexFunc_of_value_Name_1_j1 at h
  refine m2 _ _ (XW.sub hS ?_)
  refine zq fun K13 m13 => zr (zg [] 1 [6] (zd (m13 _ _ (ze ?_))))
  obtain rfl := zj h
  exact zf [vi (-1)] (.one (.rfl _ rfl))
 refine zq fun K3 m3 => zr (zv [] 1 [1,2,9] [] [(1, .one (.pv (.fn 178 []))), (2, vb p2), (9, vs p1)] [] (XO.rng p1 [(10, vq 0), (1, .one (.pv (.fn 178 []))), (2, vb p2), (9, vs p1)] [.raw (.stringIter p1 0)] (by kernel_rfl) (by kernel_rfl) (by kernel_rfl) (zd (m3 _ _ (zb 0 (XW.rounds' BIG (x := cd Tryz.f197 [1,0,1,0,0]) (by kernel_rfl) fun Q1 hQ1 => ?_))))))
 have hL1 : ∀ (k1 : Nat) (z1 : Nat), strings_indexFunc_of_value_Name_1_l1 p1 p2 k1 z1 = some r → XR Tryz.prog 21 0 [] (cd Tryz.f197 [1,0,1,0,0]) Q1 k1 [(1, .one (.pv (.fn 178 []))), (2, vb p2), (10, vq 0)] [.raw (.stringIter p1 z1)] := by
  intro k1
  induction k1 with
  | zero => intro z1 h; rw [strings_indexFunc_of_value_Name_1_l1.eq_1] at h; cases h
  | succ k1 ih1 =>
   intro z1 h
   rw [strings_indexFunc_of_value_Name_1_l1.eq_2] at h
   refine zq fun K4 m4 => ?_
   rcases zW h with ⟨b5, h⟩ | ⟨b5, h⟩
   ·refine zr (XO.nxt 0 p1 z1 [(11, .tp [vb true, vi (Int.ofNat z1), vk .i32 (Int.ofNat (Utf8.decode p1 z1).1)]), (1, .one (.pv (.fn 178 []))), (2, vb p2), (10, vq 0)] [.raw (.stringIter p1 (z1 + (Utf8.decode p1 z1).2))] (by kernel_rfl) (by kernel_rfl) (by kernel_rfl) (by kernel_rfl) b5 (zg [] 1 [1,2,10,11,12] (zd (m4 _ _ (zq fun K6 m6 => zc true (fun _ => ?_) (fun hx => by cases hx))))))
    refine zs (m6 _ _ (zb 1 (zq fun K7 m7 => zr (zg [] 4 [1,2,7,8,10] (zd (m7 _ _ ?_))))))
    refine zq fun K8 m8 => ?_
    obtain ⟨r1, c9, h⟩ := zB h
    refine zr (zv [] 2 [1,2,7,10,15,16] [] [(1, .one (.pv (.fn 178 []))), (2, vb p2), (7, vi (Int.ofNat z1)), (10, vq 0), (15, .one (.pv (.fn 178 []))), (16, vk .i32 (Int.ofNat (Utf8.decode p1 z1).1))] [.raw (.stringIter p1 (z1 + (Utf8.decode p1 z1).2))] (za (c_value_Name_1 _ _ c9) (zg [] 2 [1,2,7,10,19] (zd (m8 _ _ (zC h (fun b10 h => ?_) (fun b10 h => ?_)))))))
    ·refine zq fun K11 m11 => zr (zv [] 2 [6] [] [(6, vi (Int.ofNat z1))] [.raw (.stringIter p1 (z1 + (Utf8.decode p1 z1).2))] (zd (m11 _ _ (ze (hQ1 _ _ _ ?_)))))
     obtain rfl := zj h
     exact zf [vi (Int.ofNat z1)] (.one (.rfl _ rfl))
    ·exact zs (XR.sub (zk [1,2,10]) (ih1 (z1 + (Utf8.decode p1 z1).2) h))
   ·refine zr (XO.nxtE 0 p1 z1 [(11, .tp [vb false]), (1, .one (.pv (.fn 178 []))), (2, vb p2), (10, vq 0)] (by kernel_rfl) (by kernel_rfl) (by kernel_rfl) b5 (zv [] 1 [1,2,10,11,12] [] [(1, .one (.pv (.fn 178 []))), (2, vb p2), (10, vq 0), (11, .tp [vb false]), (12, vb false)] [.raw (.stringIter p1 z1)] (zd (m4 _ _ (zq fun K12 m12 => zc false (fun hx => by cases hx) (fun _ => ?_))))))
    exact zx 0 (hQ1 _ _ _ (j1 () h _ _ (Sub.trans (Sub.pick (fr' := []) [] (by kernel_rfl)) (Sub.take (fr' := []) 0 (Nat.zero_le _) (by kernel_rfl) (by kernel_rfl)))))
 exact XR.sub (zk [1,2,10]) (hL1 BIG 0 h)
def strings_IndexFunc_of_value_Name_1 (p1 : ByteArray) : Option Int :=
    bnd (strings_indexFunc_of_value_Name_1 p1 true) fun r1 =>
    some r1
theorem c_strings_IndexFunc_of_value_Name_1 (p1 : ByteArray) (r : Int) (h : strings_IndexFunc_of_value_Name_1 p1 = some r) : PC Tryz.prog 192 [vs p1, .one (.pv (.fn 178 []))] (vi r) := by
 unfold strings_IndexFunc_of_value_Name_1 at h
 refine zF 8 Tryz.f192 (zq fun K1 m1 => zr (zg [] 1 [0,1] (zd (m1 _ _ (zq fun K2 m2 => ?_)))))
 obtain ⟨r1, c3, h⟩ := zB h
 refine zr (zg [] 2 [5,6] (zl 197 [vs p1, .one (.pv (.fn 178 [])), vb true] (vi r1) [(7, vi r1), (5, vs p1), (6, .one (.pv (.fn 178 [])))] (c_strings_indexFunc_of_value_Name_1 _ _ _ c3) (zg [] 1 [4] (zd (m2 _ _ (ze ?_))))))
 obtain rfl := zj h
 exact zf [vi r1] (.one (.rfl _ rfl))
def strings_ContainsFunc_of_value_Name_1 (p1 : ByteArray) : Option Bool :=
    bnd (strings_IndexFunc_of_value_Name_1 p1) fun r1 =>
    some (decide ((0 : Int) ≤ r1))
theorem c_strings_ContainsFunc_of_value_Name_1 (p1 : ByteArray) (r : Bool) (h : strings_ContainsFunc_of_value_Name_1 p1 = some r) : PC Tryz.prog 179 [vs p1, .one (.pv (.fn 178 []))] (vb r) := by
 unfold strings_ContainsFunc_of_value_Name_1 at h
 refine zF 9 Tryz.f179 (zq fun K1 m1 => zr (zg [] 1 [0,1] (zd (m1 _ _ (zq fun K2 m2 => ?_)))))
 obtain ⟨r1, c3, h⟩ := zB h
 refine zr (zg [] 2 [5,6] (zl 192 [vs p1, .one (.pv (.fn 178 []))] (vi r1) [(7, vi r1), (5, vs p1), (6, .one (.pv (.fn 178 [])))] (c_strings_IndexFunc_of_value_Name_1 _ _ c3) (zg [] 2 [4] (zd (m2 _ _ (ze ?_))))))
 obtain rfl := zj h
 exact zf [vb (decide ((0 : Int) ≤ r1))] (.one (.rfl _ rfl))
def value_Name_j1 (p1 : ByteArray) (x1 : Bool) : Option Bool :=
    ift x1
      (some false)
      (bnd (strings_ContainsFunc_of_value_Name_1 p1) fun r1 =>
       some (!r1))
def value_Name (p1 : ByteArray) : Option Bool :=
    ift (p1.toList == (ByteArray.mk #[]).toList)
      (value_Name_j1 p1 true)
      (ift (decide ((24 : Int) < (p1.size : Int)))
         (value_Name_j1 p1 true)
         (grd (0 ≤ (0 : Int) ∧ (0 : Int) < (p1.size : Int)) <|
          bnd (some (decide (((p1.data.toList.getD (0 : Int).toNat 0).toNat : Int) < (97 : Int)))) fun y1 =>
          ift y1
            (value_Name_j1 p1 true)
            (grd (0 ≤ (0 : Int) ∧ (0 : Int) < (p1.size : Int)) <|
             bnd (some (decide ((122 : Int) < ((p1.data.toList.getD (0 : Int).toNat 0).toNat : Int)))) fun y2 =>
             value_Name_j1 p1 y2)))
theorem c_value_Name (p1 : ByteArray) (r : Bool) (h : value_Name p1 = some r) : PC Tryz.prog 152 [vs p1] (vb r) := by
 unfold value_Name at h
 refine zF 25 Tryz.f152 (zq fun K1 m1 => zr (zg [] 1 [0] (zd (m1 _ _ (zq fun K2 m2 => zq fun K3 m3 => ?_)))))
 have j1 : ∀ (x1 : Bool), value_Name_j1 p1 x1 = some r → ∀ w0 w1, Sub 25 0 [] w0 w1 [(0, vs p1), (20, vb x1)] [] → K3 w0 w1 := by
  intro x1 h w0 w1 hS
  unfold value_Name_j1 at h
  refine m3 _ _ (XW.sub hS ?_)
  refine zC h (fun b11 h => ?_) (fun b11 h => ?_)
  ·refine zq fun K12 m12 => zr (zg [] 1 [2] (zd (m12 _ _ (ze ?_))))
   obtain rfl := zj h
   exact zf [vb false] (.one (.rfl _ rfl))
  ·refine zs (m2 _ _ (zq fun K13 m13 => zr (zg [] 1 [0,3] (zd (m13 _ _ (zq fun K14 m14 => ?_))))))
   obtain ⟨r1, c15, h⟩ := zB h
   refine zr (zv [] 2 [21,22] [] [(21, vs p1), (22, .one (.pv (.fn 178 [])))] [] (za (c_strings_ContainsFunc_of_value_Name_1 _ _ c15) (zg [] 2 [2] (zd (m14 _ _ (ze ?_))))))
   obtain rfl := zj h
   exact zf [vb (!r1)] (.one (.rfl _ rfl))
 rcases zW h with ⟨b4, h⟩ | ⟨b4, h⟩
 ·exact zr (zg [] 3 [0,6] (zt 6 b4 (zv [] 14 [0,20] [] [(0, vs p1), (20, vb true)] [] (zd (j1 true h _ _ (zk [0,20]))))))
 ·rcases zW h with ⟨b5, h⟩ | ⟨b5, h⟩
  ·exact zr (zg [] 3 [0,6] (zt 6 b4 (zg [] 5 [0,11] (zt 11 b5 (zv [] 9 [0,20] [] [(0, vs p1), (20, vb true)] [] (zd (j1 true h _ _ (zk [0,20]))))))))
  ·obtain ⟨g6, h⟩ := zG h
   obtain ⟨y1, hy7, h⟩ := zB h
   rcases zW h with ⟨b8, h⟩ | ⟨b8, h⟩
   ·refine zr (zg [] 3 [0,6] (zt 6 b4 (zg [] 5 [0,11] (zt 11 b5 (zp [] 3 [0,11,14] [] [(0, vs p1), (11, vb false), (14, vb (decide (((p1.data.toList.getD (0 : Int).toNat 0).toNat : Int) < (97 : Int))))] [] [0 ≤ (0 : Int) ∧ (0 : Int) < (p1.size : Int)] (⟨g6, trivial⟩) ?_)))))
    rw [show (decide (((p1.data.toList.getD (0 : Int).toNat 0).toNat : Int) < (97 : Int))) = y1 from zj hy7]
    exact zg [] 2 [0,16] (zt 16 b8 (zg [] 4 [0,20] (zd (j1 true h _ _ (zk [0,20])))))
   ·obtain ⟨g9, h⟩ := zG h
    obtain ⟨y2, hy10, h⟩ := zB h
    refine zr (zv [] 3 [0,6] [] [(0, vs p1), (6, vb (p1.toList == (ByteArray.mk #[]).toList))] [] (zt 6 b4 (zg [] 5 [0,11] (zt 11 b5 (zp [] 3 [0,11,14] [] [(0, vs p1), (11, vb false), (14, vb (decide (((p1.data.toList.getD (0 : Int).toNat 0).toNat : Int) < (97 : Int))))] [] [0 ≤ (0 : Int) ∧ (0 : Int) < (p1.size : Int)] (⟨g6, trivial⟩) ?_)))))
    rw [show (decide (((p1.data.toList.getD (0 : Int).toNat 0).toNat : Int) < (97 : Int))) = y1 from zj hy7]
    refine zg [] 2 [0,16] (zt 16 b8 (zp [] 3 [0,16,19] [] [(0, vs p1), (16, vb false), (19, vb (decide ((122 : Int) < ((p1.data.toList.getD (0 : Int).toNat 0).toNat : Int))))] [] [0 ≤ (0 : Int) ∧ (0 : Int) < (p1.size : Int)] (⟨g9, trivial⟩) ?_))
    rw [show (decide ((122 : Int) < ((p1.data.toList.getD (0 : Int).toNat 0).toNat : Int))) = y2 from zj hy10]
    exact zg [] 1 [0,20] (zd (j1 y2 h _ _ (zk [0,20])))
def value_fields_1 (p1 : GField) : Option Bool :=
    bnd (value_Name p1.name) fun r1 =>
    some (!r1)
theorem c_value_fields_1 (p1 : GField) (r : Bool) (h : value_fields_1 p1 = some r) : PC Tryz.prog 151 [.ag [ci p1.id, cst p1.name, cb p1.need, ci p1.type.kind, ci p1.type.scale, cl eField p1.type.fields]] (vb r) := by
 unfold value_fields_1 at h
 refine zF 7 Tryz.f151 (zq fun K1 m1 => zr (zg [] 2 [1] (zd (m1 _ _ (zq fun K2 m2 => ?_)))))
 obtain ⟨r1, c3, h⟩ := zB h
 refine zr (zu [] 2 [4] [[pi p1.id, .s (.string p1.name), .s (.bool p1.need), pi p1.type.kind, pi p1.type.scale, .ro (eField.els p1.type.fields)]] (zl 152 [vs p1.name] (vb r1) [(5, vb r1), (4, vs p1.name)] (c_value_Name _ _ c3) (zg [] 2 [2] (zd (m2 _ _ (ze ?_))))))
 obtain rfl := zj h
 exact zf [vb (!r1)] (.one (.rfl _ rfl))
def slices_IndexFunc_api_Field_api_Field_of_value_fields_1_j1 : Option Int :=
    some (-1 : Int)
def slices_IndexFunc_api_Field_api_Field_of_value_fields_1_l1 (p1 : (List GField)) : Nat → Int → Option Int
  | 0, _ => none
  | k1 + 1, x1 =>
    ift (decide (x1 < (p1.length : Int)))
      (bnd (at? p1 x1) fun e1 =>
       bnd (value_fields_1 e1) fun r1 =>
       ift r1
         (some x1)
         ((slices_IndexFunc_api_Field_api_Field_of_value_fields_1_l1 p1 k1) (i64.wrap (x1 + (1 : Int)))))
      (slices_IndexFunc_api_Field_api_Field_of_value_fields_1_j1)
def slices_IndexFunc_api_Field_api_Field_of_value_fields_1 (p1 : (List GField)) : Option Int :=
    slices_IndexFunc_api_Field_api_Field_of_value_fields_1_l1 p1 BIG (0 : Int)
abbrev qa1344 (e1 : GField) : List PV := [pi e1.id, .s (.string e1.name), .s (.bool e1.need), pi e1.type.kind, pi e1.type.scale, .ro (eField.els e1.type.fields)]
theorem c_slices_IndexFunc_api_Field_api_Field_of_value_fields_1 (p1 : (List GField)) (r : Int) (h : slices_IndexFunc_api_Field_api_Field_of_value_fields_1 p1 = some r) : PC Tryz.prog 177 [vl eField p1, .one (.pv (.fn 151 []))] (vi r) := by
 unfold slices_IndexFunc_api_Field_api_Field_of_value_fields_1 at h
 refine zF 19 Tryz.f177 (zq fun K1 m1 => zr (zg [] 1 [0,1] (zd (m1 _ _ (zq fun K2 m2 => ?_)))))
 have j1 : ∀ (_ : Unit), slices_IndexFunc_api_Field_api_Field_of_value_fields_1_j1 = some r → ∀ w0 w1, Sub 19 0 [] w0 w1 [] [] → K2 w0 w1 := by
  intro _ h w0 w1 hS
  unfold slices_IndexFunc_api_Field_api_Field_of_value_fields_1_j1 at h
  refine m2 _ _ (XW.sub hS ?_)
  refine zq fun K14 m14 => zr (zg [] 1 [4] (zd (m14 _ _ (ze ?_))))
  obtain rfl := zj h
  exact zf [vi (-1)] (.one (.rfl _ rfl))
 refine zq fun K3 m3 => zr (zv [] 2 [0,1,7] [] [(0, vl eField p1), (1, .one (.pv (.fn 151 []))), (7, vi ((eField.els p1).length : Int))] [] ?_)
 rw [eField.len p1]
 refine zg [] 1 [0,1,7,8] (zd (m3 _ _ (zb 0 (XW.rounds' BIG (x := cd Tryz.f177 [1,0,1,0,0]) (by kernel_rfl) fun Q1 hQ1 => ?_))))
 have hL1 : ∀ (k1 : Nat) (x1 : Int), slices_IndexFunc_api_Field_api_Field_of_value_fields_1_l1 p1 k1 x1 = some r → XR Tryz.prog 19 0 [] (cd Tryz.f177 [1,0,1,0,0]) Q1 k1 [(0, vl eField p1), (1, .one (.pv (.fn 151 []))), (7, vi (p1.length : Int)), (8, vi x1)] [] := by
  intro k1
  induction k1 with
  | zero => intro x1 h; rw [slices_IndexFunc_api_Field_api_Field_of_value_fields_1_l1.eq_1] at h; cases h
  | succ k1 ih1 =>
   intro x1 h
   rw [slices_IndexFunc_api_Field_api_Field_of_value_fields_1_l1.eq_2] at h
   refine zq fun K4 m4 => zr (zg [] 1 [0,1,7,8,9] (zd (m4 _ _ (zq fun K5 m5 => zC h (fun b6 h => ?_) (fun b6 h => ?_)))))
   ·refine zs (m5 _ _ (zq fun K7 m7 => zb 1 (zq fun K8 m8 => zr (zg [] 2 [0,1,5,7,8] (zd ?_)))))
    refine m8 _ _ (zq fun K9 m9 => ?_)
    obtain ⟨e1, a10, h⟩ := zB h
    obtain ⟨r1, c11, h⟩ := zB h
    refine zr ?_
    refine zp [] 5 [0,1,5,7,8,11,15] [(qa1344 e1)] [(0, vl eField p1), (1, .one (.pv (.fn 151 []))), (5, vi x1), (7, vi (p1.length : Int)), (8, vi x1), (11, .one (.pv (.fn 151 []))), (15, .ag [ci e1.id, cst e1.name, cb e1.need, ci e1.type.kind, ci e1.type.scale, cl eField e1.type.fields])] [] [0 ≤ x1 ∧ x1 < ((eField.els p1).length : Int) ∧ elemsOk 6 (eField.els p1), (eField.els p1)[x1.toNat]? = some (qa1344 e1)] (⟨eField.inb a10, ((eField.get a10).trans (by rcases e1 with ⟨_, _, _, ⟨_, _, _⟩⟩; rfl)), trivial⟩) ?_
    refine za (c_value_fields_1 _ _ c11) (zd (m9 _ _ (zC h (fun b12 h => ?_) (fun b12 h => ?_))))
    ·refine zq fun K13 m13 => zr (zg [] 2 [4] (zd (m13 _ _ (ze (hQ1 _ _ _ ?_)))))
     obtain rfl := zj h
     exact zf [vi x1] (.one (.rfl _ rfl))
    ·exact zs (m7 _ _ (zr (zv [] 2 [0,1,7,8] [] [(0, vl eField p1), (1, .one (.pv (.fn 151 []))), (7, vi (p1.length : Int)), (8, vi (i64.wrap (x1 + (1 : Int))))] [] (zd (XR.sub (zk [0,1,7,8]) (ih1 (i64.wrap (x1 + (1 : Int))) h))))))
   ·exact zx 0 (hQ1 _ _ _ (j1 () h _ _ (zk [])))
 exact XR.sub (zk [0,1,7,8]) (hL1 BIG (0 : Int) h)
def slices_ContainsFunc_api_Field_api_Field_of_value_fields_1 (p1 : (List GField)) : Option Bool :=
    bnd (slices_IndexFunc_api_Field_api_Field_of_value_fields_1 p1) fun r1 =>
    some (decide ((0 : Int) ≤ r1))
theorem c_slices_ContainsFunc_api_Field_api_Field_of_value_fields_1 (p1 : (List GField)) (r : Bool) (h : slices_ContainsFunc_api_Field_api_Field_of_value_fields_1 p1 = some r) : PC Tryz.prog 150 [vl eField p1, .one (.pv (.fn 151 []))] (vb r) := by
 unfold slices_ContainsFunc_api_Field_api_Field_of_value_fields_1 at h
 refine zF 9 Tryz.f150 (zq fun K1 m1 => zr (zg [] 1 [0,1] (zd (m1 _ _ (zq fun K2 m2 => ?_)))))
 obtain ⟨r1, c3, h⟩ := zB h
 refine zr (zg [] 2 [5,6] (zl 177 [vl eField p1, .one (.pv (.fn 151 []))] (vi r1) [(7, vi r1), (5, vl eField p1), (6, .one (.pv (.fn 151 [])))] (c_slices_IndexFunc_api_Field_api_Field_of_value_fields_1 _ _ c3) (zg [] 2 [4] (zd (m2 _ _ (ze ?_))))))
 obtain rfl := zj h
 exact zf [vb (decide ((0 : Int) ≤ r1))] (.one (.rfl _ rfl))
def value_fields_2 (p1 : GField) (p2 : GField) : Option (Bool × GField) :=
    some ((p1.name.toList == p2.name.toList), p2)
abbrev qa1350 (p2 : GField) : List CV := [ci p2.id, cst p2.name, cb p2.need, ci p2.type.kind, ci p2.type.scale, cl eField p2.type.fields]
theorem c_value_fields_2 (p1 : GField) (p2 : GField) (r : (Bool × GField)) (h : value_fields_2 p1 p2 = some r) : MC Tryz.prog 153 [.ag [ci p1.id, cst p1.name, cb p1.need, ci p1.type.kind, ci p1.type.scale, cl eField p1.type.fields], vq 0] [.box (qa1350 p2)] (vb r.1) [.box [ci r.2.id, cst r.2.name, cb r.2.need, ci r.2.type.kind, ci r.2.type.scale, cl eField r.2.type.fields]] := by
 unfold value_fields_2 at h
 refine MC.of 1 (n := 9) (fn := Tryz.f153) (c := cd Tryz.f153 []) (by kernel_rfl) (by kernel_rfl) (by kernel_rfl) (Nat.le_of_ble_eq_true rfl) rfl (zq fun K1 m1 => zr (zg [] 2 [1,2] (zd (m1 _ _ (zq fun K2 m2 => zr ?_)))))
 refine zv [] 6 [3] [[pi p1.id, .s (.string p1.name), .s (.bool p1.need), pi p1.type.kind, pi p1.type.scale, .ro (eField.els p1.type.fields)]] [(3, vb (p1.name.toList == p2.name.toList))] [.box (qa1350 p2)] (zd (m2 _ _ (ze ?_)))
 obtain rfl := zj h
 exact FinM.fin (.inr rfl) [] [vb (p1.name.toList == p2.name.toList)] [] (by kernel_rfl) trivial (by kernel_rfl) (by kernel_rfl) (.one (.rfl _ rfl))
def slices_IndexFunc_api_Field_api_Field_of_value_fields_2_j1 (z7 : Int) (z8 : ByteArray) (z9 : Bool) (z10 : Int) (z11 : Int) (z12 : List GField) : Option (Int × GField) :=
    some ((-1 : Int), (FieldP.mk z7 z8 z9 (GType.mk z10 z11 z12)))
def slices_IndexFunc_api_Field_api_Field_of_value_fields_2_l1 (p1 : (List GField)) : Nat → Int → ByteArray → Bool → Int → Int → List GField → Int → Option (Int × GField)
  | 0, _, _, _, _, _, _, _ => none
  | k1 + 1, z1, z2, z3, z4, z5, z6, x1 =>
    ift (decide (x1 < (p1.length : Int)))
      (bnd (at? p1 x1) fun e1 =>
       bnd (value_fields_2 e1 (FieldP.mk z1 z2 z3 (GType.mk z4 z5 z6))) fun r1 =>
       ift r1.1
         (some (x1, r1.2))
         ((slices_IndexFunc_api_Field_api_Field_of_value_fields_2_l1 p1 k1) r1.2.id r1.2.name r1.2.need r1.2.type.kind r1.2.type.scale r1.2.type.fields (i64.wrap (x1 + (1 : Int)))))
      (slices_IndexFunc_api_Field_api_Field_of_value_fields_2_j1 z1 z2 z3 z4 z5 z6)
def slices_IndexFunc_api_Field_api_Field_of_value_fields_2 (p1 : (List GField)) (p2 : GField) : Option (Int × GField) :=
    slices_IndexFunc_api_Field_api_Field_of_value_fields_2_l1 p1 BIG p2.id p2.name p2.need p2.type.kind p2.type.scale p2.type.fields (0 : Int)
abbrev qa1362 (e1 : GField) : List PV := [pi e1.id, .s (.string e1.name), .s (.bool e1.need), pi e1.type.kind, pi e1.type.scale, .ro (eField.els e1.type.fields)]
abbrev qa1363 (e1 : GField) : List CV := [ci e1.id, cst e1.name, cb e1.need, ci e1.type.kind, ci e1.type.scale, cl eField e1.type.fields]
abbrev qa1364 (r1 : (Bool × GField)) : List CV := [ci r1.2.id, cst r1.2.name, cb r1.2.need, ci r1.2.type.kind, ci r1.2.type.scale, cl eField r1.2.type.fields]
theorem c_slices_IndexFunc_api_Field_api_Field_of_value_fields_2 (p1 : (List GField)) (p2 : GField) (r : (Int × GField)) (h : slices_IndexFunc_api_Field_api_Field_of_value_fields_2 p1 p2 = some r) : MC Tryz.prog 177 [vl eField p1, .one (.fn 153 [.pt 0 0 0 0])] [.box [ci p2.id, cst p2.name, cb p2.need, ci p2.type.kind, ci p2.type.scale, cl eField p2.type.fields]] (vi r.1) [.box [ci r.2.id, cst r.2.name, cb r.2.need, ci r.2.type.kind, ci r.2.type.scale, cl eField r.2.type.fields]] := by
 unfold slices_IndexFunc_api_Field_api_Field_of_value_fields_2 at h
 refine MC.of 1 (n := 19) (fn := Tryz.f177) (c := cd Tryz.f177 []) (by kernel_rfl) (by kernel_rfl) (by kernel_rfl) (Nat.le_of_ble_eq_true rfl) rfl (zq fun K1 m1 => zr (zg [] 1 [0,1] (zd (m1 _ _ (zq fun K2 m2 => ?_)))))
 have j1 : ∀ (z7 : Int) (z8 : ByteArray) (z9 : Bool) (z10 : Int) (z11 : Int) (z12 : List GField), slices_IndexFunc_api_Field_api_Field_of_value_fields_2_j1 z7 z8 z9 z10 z11 z12 = some r → ∀ w0 w1, Sub 19 1 [] w0 w1 [] [.box [ci z7, cst z8, cb z9, ci z10, ci z11, cl eField z12]] → K2 w0 w1 := by
  intro z7 z8 z9 z10 z11 z12 h w0 w1 hS
  unfold slices_IndexFunc_api_Field_api_Field_of_value_fields_2_j1 at h
  refine m2 _ _ (XW.sub hS ?_)
  refine zq fun K14 m14 => zr (zv [] 1 [4] [] [(4, vi (-1))] [.box [ci z7, cst z8, cb z9, ci z10, ci z11, cl eField z12]] (zd (m14 _ _ (ze ?_))))
  obtain rfl := zj h
  exact FinM.fin (.inr rfl) [] [vi (-1)] [] (by kernel_rfl) trivial (by kernel_rfl) (by kernel_rfl) (.one (.rfl _ rfl))
 refine zq fun K3 m3 => zr (zv [] 2 [0,1,7] [] [(0, vl eField p1), (1, .one (.fn 153 [.pt 0 0 0 0])), (7, vi ((eField.els p1).length : Int))] [.box [ci p2.id, cst p2.name, cb p2.need, ci p2.type.kind, ci p2.type.scale, cl eField p2.type.fields]] ?_)
 rw [eField.len p1]
 refine zg [] 1 [0,1,7,8] (zd (m3 _ _ (zb 0 (XW.rounds' BIG (x := cd Tryz.f177 [1,0,1,0,0]) (by kernel_rfl) fun Q1 hQ1 => ?_))))
 have hL1 : ∀ (k1 : Nat) (z1 : Int) (z2 : ByteArray) (z3 : Bool) (z4 : Int) (z5 : Int) (z6 : List GField) (x1 : Int), slices_IndexFunc_api_Field_api_Field_of_value_fields_2_l1 p1 k1 z1 z2 z3 z4 z5 z6 x1 = some r → XR Tryz.prog 19 1 [] (cd Tryz.f177 [1,0,1,0,0]) Q1 k1 [(0, vl eField p1), (1, .one (.fn 153 [.pt 0 0 0 0])), (7, vi (p1.length : Int)), (8, vi x1)] [.box [ci z1, cst z2, cb z3, ci z4, ci z5, cl eField z6]] := by
  intro k1
  induction k1 with
  | zero => intro z1 z2 z3 z4 z5 z6 x1 h; rw [slices_IndexFunc_api_Field_api_Field_of_value_fields_2_l1.eq_1] at h; cases h
  | succ k1 ih1 =>
   intro z1 z2 z3 z4 z5 z6 x1 h
   rw [slices_IndexFunc_api_Field_api_Field_of_value_fields_2_l1.eq_2] at h
   refine zq fun K4 m4 => zr (zg [] 1 [0,1,7,8,9] (zd (m4 _ _ (zq fun K5 m5 => zC h (fun b6 h => ?_) (fun b6 h => ?_)))))
   ·refine zs (m5 _ _ (zq fun K7 m7 => zb 1 (zq fun K8 m8 => zr (zg [] 2 [0,1,5,7,8] (zd ?_)))))
    refine m8 _ _ (zq fun K9 m9 => ?_)
    obtain ⟨e1, a10, h⟩ := zB h
    obtain ⟨r1, c11, h⟩ := zB h
    refine zr ?_
    refine zp [] 5 [0,1,5,7,8,11,15] [(qa1362 e1)] [(0, vl eField p1), (1, .one (.fn 153 [.pt 0 0 0 0])), (5, vi x1), (7, vi (p1.length : Int)), (8, vi x1), (11, .one (.fn 153 [.pt 0 0 0 0])), (15, .ag (qa1363 e1))] [.box [ci z1, cst z2, cb z3, ci z4, ci z5, cl eField z6]] [0 ≤ x1 ∧ x1 < ((eField.els p1).length : Int) ∧ elemsOk 6 (eField.els p1), (eField.els p1)[x1.toNat]? = some (qa1362 e1)] (⟨eField.inb a10, ((eField.get a10).trans (by rcases e1 with ⟨_, _, _, ⟨_, _, _⟩⟩; rfl)), trivial⟩) ?_
    refine XO.calm 153 [.ag (qa1363 e1), vq 0] [.box [ci z1, cst z2, cb z3, ci z4, ci z5, cl eField z6]] [.box (qa1364 r1)] (vb r1.1) [0] [(16, vb r1.1), (0, vl eField p1), (1, .one (.fn 153 [.pt 0 0 0 0])), (5, vi x1), (7, vi (p1.length : Int)), (8, vi x1), (11, .one (.fn 153 [.pt 0 0 0 0])), (15, .ag (qa1363 e1))] [.box (qa1364 r1)] (by kernel_rfl) (c_value_fields_2 _ _ _ c11) (by kernel_rfl) (by kernel_rfl) (by kernel_rfl) (by kernel_rfl) ?_
    refine zd (m9 _ _ (zC h (fun b12 h => ?_) (fun b12 h => ?_)))
    ·refine zq fun K13 m13 => zr (zv [] 2 [4] [] [(4, vi x1)] [.box (qa1364 r1)] (zd (m13 _ _ (ze (hQ1 _ _ _ ?_)))))
     obtain rfl := zj h
     exact FinM.fin (.inr rfl) [] [vi x1] [] (by kernel_rfl) trivial (by kernel_rfl) (by kernel_rfl) (.one (.rfl _ rfl))
    ·exact zs (m7 _ _ (zr (zg [] 2 [0,1,7,8] (zd (XR.sub (zk [0,1,7,8]) (ih1 r1.2.id r1.2.name r1.2.need r1.2.type.kind r1.2.type.scale r1.2.type.fields (i64.wrap (x1 + (1 : Int))) h))))))
   ·exact zx 0 (hQ1 _ _ _ (j1 z1 z2 z3 z4 z5 z6 h _ _ (zk [])))
 exact XR.sub (zk [0,1,7,8]) (hL1 BIG p2.id p2.name p2.need p2.type.kind p2.type.scale p2.type.fields (0 : Int) h)
def slices_ContainsFunc_api_Field_api_Field_of_value_fields_2 (p1 : (List GField)) (p2 : GField) : Option (Bool × GField) :=
    bnd (slices_IndexFunc_api_Field_api_Field_of_value_fields_2 p1 p2) fun r1 =>
    some ((decide ((0 : Int) ≤ r1.1)), r1.2)
abbrev qa1373 (p2 : GField) : List CV := [ci p2.id, cst p2.name, cb p2.need, ci p2.type.kind, ci p2.type.scale, cl eField p2.type.fields]
abbrev qa1376 (r1 : (Int × GField)) : List CV := [ci r1.2.id, cst r1.2.name, cb r1.2.need, ci r1.2.type.kind, ci r1.2.type.scale, cl eField r1.2.type.fields]
theorem c_slices_ContainsFunc_api_Field_api_Field_of_value_fields_2 (p1 : (List GField)) (p2 : GField) (r : (Bool × GField)) (h : slices_ContainsFunc_api_Field_api_Field_of_value_fields_2 p1 p2 = some r) : MC Tryz.prog 150 [vl eField p1, .one (.fn 153 [.pt 0 0 0 0])] [.box (qa1373 p2)] (vb r.1) [.box [ci r.2.id, cst r.2.name, cb r.2.need, ci r.2.type.kind, ci r.2.type.scale, cl eField r.2.type.fields]] := by
 unfold slices_ContainsFunc_api_Field_api_Field_of_value_fields_2 at h
 refine MC.of 1 (n := 9) (fn := Tryz.f150) (c := cd Tryz.f150 []) (by kernel_rfl) (by kernel_rfl) (by kernel_rfl) (Nat.le_of_ble_eq_true rfl) rfl (zq fun K1 m1 => zr (zg [] 1 [0,1] (zd (m1 _ _ (zq fun K2 m2 => ?_)))))
 obtain ⟨r1, c3, h⟩ := zB h
 refine zr (zv [] 2 [5,6] [] [(5, vl eField p1), (6, .one (.fn 153 [.pt 0 0 0 0]))] [.box (qa1373 p2)] ?_)
 refine XO.calm 177 [vl eField p1, .one (.fn 153 [.pt 0 0 0 0])] [.box (qa1373 p2)] [.box (qa1376 r1)] (vi r1.1) [0] [(7, vi r1.1), (5, vl eField p1), (6, .one (.fn 153 [.pt 0 0 0 0]))] [.box (qa1376 r1)] (by kernel_rfl) (c_slices_IndexFunc_api_Field_api_Field_of_value_fields_2 _ _ _ c3) (by kernel_rfl) (by kernel_rfl) (by kernel_rfl) (by kernel_rfl) ?_
 refine zv [] 2 [4] [] [(4, vb (decide ((0 : Int) ≤ r1.1)))] [.box (qa1376 r1)] (zd (m2 _ _ (ze ?_)))
 obtain rfl := zj h
 exact FinM.fin (.inr rfl) [] [vb (decide ((0 : Int) ≤ r1.1))] [] (by kernel_rfl) trivial (by kernel_rfl) (by kernel_rfl) (.one (.rfl _ rfl))
def value_fields_j1 (x1 : Bool) : Option Int :=
    ift x1
      (some (1 : Int))
      (some (0 : Int))
def value_fields_j2 : Option Int :=
    some (0 : Int)
def value_fields_l1 (p1 : GType) : Nat → Int → Option Int
  | 0, _ => none
  | k1 + 1, x2 =>
    ift (decide (x2 < (p1.fields.length : Int)))
      (bnd (at? p1.fields x2) fun e2 =>
       grd (0 ≤ (0 : Int) ∧ (0 : Int) ≤ x2 ∧ x2 ≤ (p1.fields.length : Int)) <|
       bnd (slices_ContainsFunc_api_Field_api_Field_of_value_fields_2 ((p1.fields.drop (0 : Int).toNat).take (x2.toNat - (0 : Int).toNat)) e2) fun r2 =>
       ift r2.1
         (some (5 : Int))
         ((value_fields_l1 p1 k1) (i64.wrap (x2 + (1 : Int)))))
      (value_fields_j2)
def value_fields (p1 : GType) : Option Int :=
    ift (p1.kind == (6 : Int))
      (ift ((p1.fields.length : Int) != (1 : Int))
         (value_fields_j1 true)
         (bnd (at? p1.fields (0 : Int)) fun e1 =>
          value_fields_j1 (!(e1.name.toList == (ByteArray.mk #[]).toList))))
      (ift (p1.kind != (7 : Int))
         (ift (decide ((0 : Int) < (p1.fields.length : Int)))
            (some (1 : Int))
            (some (0 : Int)))
         (ift ((p1.fields.length : Int) == (0 : Int))
            (some (1 : Int))
            (bnd (slices_ContainsFunc_api_Field_api_Field_of_value_fields_1 p1.fields) fun r1 =>
             ift r1
               (some (4 : Int))
               (value_fields_l1 p1 BIG (0 : Int)))))
abbrev qa1383 (p1 : GType) : List PV := [pi p1.kind, pi p1.scale, .ro (eField.els p1.fields)]
abbrev qa1385 (e1 : GField) : List PV := [pi e1.id, .s (.string e1.name), .s (.bool e1.need), pi e1.type.kind, pi e1.type.scale, .ro (eField.els e1.type.fields)]
abbrev qa1387 (e2 : GField) : List PV := [pi e2.id, .s (.string e2.name), .s (.bool e2.need), pi e2.type.kind, pi e2.type.scale, .ro (eField.els e2.type.fields)]
abbrev qa1388 (e2 : GField) : List CV := [ci e2.id, cst e2.name, cb e2.need, ci e2.type.kind, ci e2.type.scale, cl eField e2.type.fields]
abbrev qa1389 (r2 : (Bool × GField)) : List CV := [ci r2.2.id, cst r2.2.name, cb r2.2.need, ci r2.2.type.kind, ci r2.2.type.scale, cl eField r2.2.type.fields]
abbrev qa1397 (p1 : GType) (x2 : Int) : Fr := [(1, vR (qa1383 p1)), (38, vl eField p1.fields), (39, vi (p1.fields.length : Int)), (40, vi (i64.wrap (x2 + (1 : Int))))]
theorem c_value_fields (p1 : GType) (r : Int) (h : value_fields p1 = some r) : PC Tryz.prog 108 [.ag [ci p1.kind, ci p1.scale, cl eField p1.fields]] (vi r) := by
 unfold value_fields at h
 refine zF 52 Tryz.f108 (zq fun K1 m1 => zr (zg [4] 2 [1] (zd (m1 _ _ (zq fun K2 m2 => zb 0 ?_)))))
 refine zq fun K3 m3 => zr (zu [4] 4 [1,5] [(qa1383 p1)] (zd (m3 _ _ (zC h (fun b4 h => ?_) (fun b4 h => ?_)))))
 ·refine zq fun K5 m5 => zq fun K6 m6 => ?_
  have j1 : ∀ (x1 : Bool), value_fields_j1 x1 = some r → ∀ w0 w1, Sub 52 0 [] w0 w1 [(20, vb x1)] [] → K6 w0 w1 := by
   intro x1 h w0 w1 hS
   unfold value_fields_j1 at h
   refine m6 _ _ (XW.sub hS ?_)
   refine zC h (fun b9 h => ?_) (fun b9 h => ?_)
   ·refine zq fun K10 m10 => zr (zg [4] 1 [2] (zd (m10 _ _ (ze ?_))))
    obtain rfl := zj h
    exact zf [vi 1] (.one (.rfl _ rfl))
   ·refine zs (m5 _ _ (zq fun K11 m11 => zr (zg [4] 1 [2] (zd (m11 _ _ (ze ?_))))))
    obtain rfl := zj h
    exact zf [vi 0] (.one (.rfl _ rfl))
  rcases zW h with ⟨b7, h⟩ | ⟨b7, h⟩
  ·refine zr (zv [4] 3 [1,11] [[pi p1.kind, pi p1.scale, .ro (eField.els p1.fields)]] [(1, vR [pi p1.kind, pi p1.scale, .ro (eField.els p1.fields)]), (11, vi ((eField.els p1.fields).length : Int))] [] ?_)
   rw [eField.len p1.fields]
   exact zg [4] 2 [1,13] (zt 13 b7 (zg [4] 7 [20] (zd (j1 true h _ _ (zk [20])))))
  ·obtain ⟨e1, a8, h⟩ := zB h
   refine zr (zv [4] 3 [1,11] [[pi p1.kind, pi p1.scale, .ro (eField.els p1.fields)]] [(1, vR [pi p1.kind, pi p1.scale, .ro (eField.els p1.fields)]), (11, vi ((eField.els p1.fields).length : Int))] [] ?_)
   rw [eField.len p1.fields]
   refine zg [4] 2 [1,13] (zt 13 b7 ?_)
   refine zo [4] 7 [20] [(qa1383 p1), (qa1385 e1)] [([(qa1383 p1)] : List (List PV))[0]? = some (qa1383 p1), 0 ≤ (0 : Int) ∧ (0 : Int) < ((eField.els p1.fields).length : Int) ∧ elemsOk 6 (eField.els p1.fields), (eField.els p1.fields)[(0 : Int).toNat]? = some (qa1385 e1)] (⟨rfl, eField.inb a8, ((eField.get a8).trans (by rcases e1 with ⟨_, _, _, ⟨_, _, _⟩⟩; rfl)), trivial⟩) ?_
   exact zd (j1 (!(e1.name.toList == (ByteArray.mk #[]).toList)) h _ _ (zk [20]))
 ·refine zq fun K12 m12 => zr (zv [4] 4 [1,21] [(qa1383 p1)] [(1, vR (qa1383 p1)), (21, vb (p1.kind != (7 : Int)))] [] (zd (m12 _ _ (zC h (fun b13 h => ?_) (fun b13 h => ?_)))))
  ·refine zq fun K14 m14 => zq fun K15 m15 => zr (zv [4] 3 [27] [[pi p1.kind, pi p1.scale, .ro (eField.els p1.fields)]] [(27, vi ((eField.els p1.fields).length : Int))] [] ?_)
   rw [eField.len p1.fields]
   refine zg [4] 1 [28] (zd (m15 _ _ (zC h (fun b16 h => ?_) (fun b16 h => ?_))))
   ·refine zq fun K17 m17 => zr (zg [4] 1 [2] (zd (m17 _ _ (ze ?_))))
    obtain rfl := zj h
    exact zf [vi 1] (.one (.rfl _ rfl))
   ·refine zs (m14 _ _ (zq fun K18 m18 => zr (zv [4] 1 [2] [] [(2, vi 0)] [] (zd (m18 _ _ (ze ?_))))))
    obtain rfl := zj h
    exact zf [vi 0] (.one (.rfl _ rfl))
  ·refine zq fun K19 m19 => zr (zv [4] 3 [1,32] [[pi p1.kind, pi p1.scale, .ro (eField.els p1.fields)]] [(1, vR [pi p1.kind, pi p1.scale, .ro (eField.els p1.fields)]), (32, vi ((eField.els p1.fields).length : Int))] [] ?_)
   rw [eField.len p1.fields]
   refine zg [4] 2 [1,29] (zd (m19 _ _ (zC h (fun b20 h => ?_) (fun b20 h => ?_))))
   ·refine zq fun K21 m21 => zr (zg [4] 1 [2] (zd (m21 _ _ (ze ?_))))
    obtain rfl := zj h
    exact zf [vi 1] (.one (.rfl _ rfl))
   ·refine zs (m2 _ _ (zq fun K22 m22 => zq fun K23 m23 => ?_))
    obtain ⟨r1, c24, h⟩ := zB h
    refine zr (zv [4] 2 [1,35] [(qa1383 p1)] [(1, vR (qa1383 p1)), (35, vl eField p1.fields)] [] (za (c_slices_ContainsFunc_api_Field_api_Field_of_value_fields_1 _ _ c24) (zd (m23 _ _ (zC h (fun b25 h => ?_) (fun b25 h => ?_))))))
    ·refine zq fun K26 m26 => zr (zg [4] 1 [2] (zd (m26 _ _ (ze ?_))))
     obtain rfl := zj h
     exact zf [vi 4] (.one (.rfl _ rfl))
    ·refine zs (m22 _ _ (zq fun K27 m27 => ?_))
     have j2 : ∀ (_ : Unit), value_fields_j2 = some r → ∀ w0 w1, Sub 52 0 [] w0 w1 [] [] → K27 w0 w1 := by
      intro _ h w0 w1 hS
      unfold value_fields_j2 at h
      refine m27 _ _ (XW.sub hS ?_)
      refine zq fun K40 m40 => zr (zg [4] 1 [2] (zd (m40 _ _ (ze ?_))))
      obtain rfl := zj h
      exact zf [vi 0] (.one (.rfl _ rfl))
     refine zq fun K28 m28 => zr (zv [4] 3 [1,38,39] [[pi p1.kind, pi p1.scale, .ro (eField.els p1.fields)]] [(1, vR [pi p1.kind, pi p1.scale, .ro (eField.els p1.fields)]), (38, vl eField p1.fields), (39, vi ((eField.els p1.fields).length : Int))] [] ?_)
     rw [eField.len p1.fields]
     refine zg [4] 1 [1,38,39,40] (zd (m28 _ _ (zb 1 (XW.rounds' BIG (x := cd Tryz.f108 [1,1,1,0,1,0,0]) (by kernel_rfl) fun Q1 hQ1 => ?_))))
     have hL1 : ∀ (k1 : Nat) (x2 : Int), value_fields_l1 p1 k1 x2 = some r → XR Tryz.prog 52 0 [] (cd Tryz.f108 [1,1,1,0,1,0,0]) Q1 k1 [(1, vR (qa1383 p1)), (38, vl eField p1.fields), (39, vi (p1.fields.length : Int)), (40, vi x2)] [] := by
      intro k1
      induction k1 with
      | zero => intro x2 h; rw [value_fields_l1.eq_1] at h; cases h
      | succ k1 ih1 =>
       intro x2 h
       rw [value_fields_l1.eq_2] at h
       refine zq fun K29 m29 => zr (zg [4] 1 [1,38,39,40,41] (zd (m29 _ _ (zq fun K30 m30 => zC h (fun b31 h => ?_) (fun b31 h => ?_)))))
       ·refine zs (m30 _ _ (zq fun K32 m32 => zb 2 (zq fun K33 m33 => ?_)))
        obtain ⟨e2, a34, h⟩ := zB h
        refine zr (zo [4] 6 [1,3,4,38,39,40] [(qa1387 e2)] [0 ≤ x2 ∧ x2 < ((eField.els p1.fields).length : Int) ∧ elemsOk 6 (eField.els p1.fields), (eField.els p1.fields)[x2.toNat]? = some (qa1387 e2)] (⟨eField.inb a34, ((eField.get a34).trans (by rcases e2 with ⟨_, _, _, ⟨_, _, _⟩⟩; rfl)), trivial⟩) (zd (m33 _ _ (zq fun K35 m35 => ?_))))
        obtain ⟨g36, h⟩ := zG h
        obtain ⟨r2, c37, h⟩ := zB h
        refine zr ?_
        refine zp [4] 4 [1,4,38,39,40,48] [[pi p1.kind, pi p1.scale, .ro (eField.els p1.fields)]] [(1, vR [pi p1.kind, pi p1.scale, .ro (eField.els p1.fields)]), (4, vq 0), (38, vl eField p1.fields), (39, vi (p1.fields.length : Int)), (40, vi x2), (48, .one (.pv (.ro (((eField.els p1.fields).drop (0 : Int).toNat).take (x2.toNat - (0 : Int).toNat)))))] [.box [ci e2.id, cst e2.name, cb e2.need, ci e2.type.kind, ci e2.type.scale, cl eField e2.type.fields]] [([[pi p1.kind, pi p1.scale, .ro (eField.els p1.fields)]] : List (List PV))[0]? = some [pi p1.kind, pi p1.scale, .ro (eField.els p1.fields)], (0 ≤ (0 : Int) ∧ (0 : Int) ≤ x2 ∧ x2 ≤ ((eField.els p1.fields).length : Int)) ∧ elemsOk 6 (eField.els p1.fields)] (⟨rfl, eField.cutOk g36, trivial⟩) ?_
        rw [show ((eField.els p1.fields).drop (0 : Int).toNat).take (x2.toNat - (0 : Int).toNat) = eField.els ((p1.fields.drop (0 : Int).toNat).take (x2.toNat - (0 : Int).toNat)) from eField.cut _ _ _]
        refine zv [4] 1 [1,38,39,40,48,49] [] [(1, vR (qa1383 p1)), (38, vl eField p1.fields), (39, vi (p1.fields.length : Int)), (40, vi x2), (48, vl eField ((p1.fields.drop (0 : Int).toNat).take (x2.toNat - (0 : Int).toNat))), (49, .one (.fn 153 [.pt 0 0 0 0]))] [.box (qa1388 e2)] ?_
        refine XO.calm 150 [vl eField ((p1.fields.drop (0 : Int).toNat).take (x2.toNat - (0 : Int).toNat)), .one (.fn 153 [.pt 0 0 0 0])] [.box (qa1388 e2)] [.box (qa1389 r2)] (vb r2.1) [0] [(50, vb r2.1), (1, vR (qa1383 p1)), (38, vl eField p1.fields), (39, vi (p1.fields.length : Int)), (40, vi x2), (48, vl eField ((p1.fields.drop (0 : Int).toNat).take (x2.toNat - (0 : Int).toNat))), (49, .one (.fn 153 [.pt 0 0 0 0]))] [.box (qa1389 r2)] (by kernel_rfl) (c_slices_ContainsFunc_api_Field_api_Field_of_value_fields_2 _ _ _ c37) (by kernel_rfl) (by kernel_rfl) (by kernel_rfl) (by kernel_rfl) ?_
        refine zd (m35 _ _ (zC h (fun b38 h => ?_) (fun b38 h => ?_)))
        ·refine zq fun K39 m39 => zr (zg [4] 1 [2] (zd (m39 _ _ (ze (hQ1 _ _ _ ?_)))))
         obtain rfl := zj h
         exact zf [vi 5] (.one (.rfl _ rfl))
        ·refine zs (m32 _ _ (zr (zg [4] 2 [1,38,39,40] (zd ?_))))
         exact XR.sub (Sub.trans (Sub.pick (fr' := (qa1397 p1 x2)) [1,38,39,40] (by kernel_rfl)) (Sub.take (fr' := (qa1397 p1 x2)) 0 (Nat.zero_le _) (by kernel_rfl) (by kernel_rfl))) (ih1 (i64.wrap (x2 + (1 : Int))) h)
       ·exact zx 1 (hQ1 _ _ _ (j2 () h _ _ (zk [])))
     exact XR.sub (zk [1,38,39,40]) (hL1 BIG (0 : Int) h)
def value_checker_check_j5 (z3 : Int) : Option (Int × GChecker) :=
    some ((0 : Int), (GChecker.mk z3))
def value_checker_check_l1 (q_value_checker_check : GType → Int → GChecker → Option (Int × GChecker)) (p1 : GType) (p2 : Int) : Nat → Int → Int → Option (Int × GChecker)
  | 0, _, _ => none
  | k1 + 1, z2, x4 =>
    ift (decide (x4 < (p1.fields.length : Int)))
      (bnd (at? p1.fields x4) fun e1 =>
       bnd (q_value_checker_check e1.type (i64.wrap (p2 + (1 : Int))) (GChecker.mk z2)) fun r4 =>
       ift (r4.1 != (0 : Int))
         (some (r4.1, r4.2))
         ((value_checker_check_l1 q_value_checker_check p1 p2 k1) r4.2.leaves (i64.wrap (x4 + (1 : Int)))))
      (value_checker_check_j5 z2)
def value_checker_check_j4 (q_value_checker_check : GType → Int → GChecker → Option (Int × GChecker)) (p1 : GType) (p2 : Int) (z1 : Int) (x3 : Bool) : Option (Int × GChecker) :=
    ift x3
      (some ((1 : Int), (GChecker.mk z1)))
      (bnd (value_fields p1) fun r3 =>
       ift (r3 != (0 : Int))
         (some (r3, (GChecker.mk z1)))
         (value_checker_check_l1 q_value_checker_check p1 p2 BIG z1 (0 : Int)))
def value_checker_check_j3 (q_value_checker_check : GType → Int → GChecker → Option (Int × GChecker)) (p1 : GType) (p2 : Int) (z1 : Int) (x2 : Bool) : Option (Int × GChecker) :=
    ift x2
      (some ((3 : Int), (GChecker.mk z1)))
      (ift (p1.scale != (0 : Int))
         (ift (p1.kind != (3 : Int))
            (value_checker_check_j4 q_value_checker_check p1 p2 z1 true)
            (ift (decide (p1.scale < (0 : Int)))
               (value_checker_check_j4 q_value_checker_check p1 p2 z1 true)
               (value_checker_check_j4 q_value_checker_check p1 p2 z1 (decide ((12 : Int) < p1.scale)))))
         (value_checker_check_j4 q_value_checker_check p1 p2 z1 false))
def value_checker_check_j2 (q_value_checker_check : GType → Int → GChecker → Option (Int × GChecker)) (p1 : GType) (p2 : Int) (z1 : Int) : Option (Int × GChecker) :=
    ift (decide (p1.kind < (1 : Int)))
      (value_checker_check_j3 q_value_checker_check p1 p2 z1 true)
      (value_checker_check_j3 q_value_checker_check p1 p2 z1 (decide ((7 : Int) < p1.kind)))
def value_checker_check_j1 (q_value_checker_check : GType → Int → GChecker → Option (Int × GChecker)) (p1 : GType) (p2 : Int) (p3 : GChecker) (x1 : Bool) : Option (Int × GChecker) :=
    ift x1
      (some ((7 : Int), p3))
      (bnd (value_leaf p1) fun r2 =>
       ift r2
         (value_checker_check_j2 q_value_checker_check p1 p2 (i64.wrap (p3.leaves + (1 : Int))))
         (value_checker_check_j2 q_value_checker_check p1 p2 p3.leaves))
def value_checker_check : Nat → GType → Int → GChecker → Option (Int × GChecker)
  | 0, _, _, _ => none
  | k0 + 1, p1, p2, p3 =>
    ift (decide ((4 : Int) < p2))
      (value_checker_check_j1 (value_checker_check k0) p1 p2 p3 true)
      (bnd (value_leaf p1) fun r1 =>
       ift r1
         (value_checker_check_j1 (value_checker_check k0) p1 p2 p3 (p3.leaves == (40 : Int)))
         (value_checker_check_j1 (value_checker_check k0) p1 p2 p3 false))
abbrev qa1401 (p1 : GType) : List PV := [pi p1.kind, pi p1.scale, .ro (eField.els p1.fields)]
abbrev qa1411 (e1 : GField) : List PV := [pi e1.id, .s (.string e1.name), .s (.bool e1.need), pi e1.type.kind, pi e1.type.scale, .ro (eField.els e1.type.fields)]
abbrev qa1412 (e1 : GField) : List CV := [ci e1.type.kind, ci e1.type.scale, cl eField e1.type.fields]
abbrev qa1413 (e1 : GField) : List CV := [ci e1.id, cst e1.name, cb e1.need, ci e1.type.kind, ci e1.type.scale, cl eField e1.type.fields]
abbrev qa1416 (p1 : GType) (p2 : Int) (x4 : Int) : Fr := [(0, vq 0), (2, vi p2), (67, vl eField p1.fields), (68, vi (p1.fields.length : Int)), (69, vi (i64.wrap (x4 + (1 : Int))))]
theorem c_value_checker_check : ∀ (k0 : Nat) (p1 : GType) (p2 : Int) (p3 : GChecker) (r : (Int × GChecker)), value_checker_check k0 p1 p2 p3 = some r → MC Tryz.prog 65 [vq 0, .ag [ci p1.kind, ci p1.scale, cl eField p1.fields], vi p2] [.box [ci p3.leaves]] (vi r.1) [.box [ci r.2.leaves]]
 | 0, _, _, _, r, h => by rw [value_checker_check.eq_1] at h; cases h
 | k0 + 1, p1, p2, p3, r, h => by
  rw [value_checker_check.eq_2] at h
  refine MC.of 1 (n := 83) (fn := Tryz.f65) (c := cd Tryz.f65 []) (by kernel_rfl) (by kernel_rfl) (by kernel_rfl) (Nat.le_of_ble_eq_true rfl) rfl (zq fun K1 m1 => zr (zg [9] 2 [0,2,4] (zd (m1 _ _ (zq fun K2 m2 => zq fun K3 m3 => ?_)))))
  have j1 : ∀ (x1 : Bool), value_checker_check_j1 (value_checker_check k0) p1 p2 p3 x1 = some r → ∀ w0 w1, Sub 83 1 [] w0 w1 [(0, vq 0), (2, vi p2), (4, vR (qa1401 p1)), (23, vb x1)] [.box [ci p3.leaves]] → K3 w0 w1 := by
   intro x1 h w0 w1 hS
   unfold value_checker_check_j1 at h
   refine m3 _ _ (XW.sub hS ?_)
   refine zC h (fun b7 h => ?_) (fun b7 h => ?_)
   ·refine zq fun K8 m8 => zr (zv [9] 1 [6] [] [(6, vi 7)] [.box [ci p3.leaves]] (zd (m8 _ _ (ze ?_))))
    obtain rfl := zj h
    exact FinM.fin (.inr rfl) [] [vi 7] [] (by kernel_rfl) trivial (by kernel_rfl) (by kernel_rfl) (.one (.rfl _ rfl))
   ·refine zs (m2 _ _ (zq fun K9 m9 => ?_))
    have j2 : ∀ (z1 : Int), value_checker_check_j2 (value_checker_check k0) p1 p2 z1 = some r → ∀ w0 w1, Sub 83 1 [] w0 w1 [(0, vq 0), (2, vi p2), (4, vR (qa1401 p1))] [.box [ci z1]] → K9 w0 w1 := by
     intro z1 h w0 w1 hS
     unfold value_checker_check_j2 at h
     refine m9 _ _ (XW.sub hS ?_)
     refine zq fun K13 m13 => zb 0 (zq fun K14 m14 => ?_)
     have j3 : ∀ (x2 : Bool), value_checker_check_j3 (value_checker_check k0) p1 p2 z1 x2 = some r → ∀ w0 w1, Sub 83 1 [] w0 w1 [(0, vq 0), (2, vi p2), (4, vR (qa1401 p1)), (33, vb x2)] [.box [ci z1]] → K14 w0 w1 := by
      intro x2 h w0 w1 hS
      unfold value_checker_check_j3 at h
      refine m14 _ _ (XW.sub hS ?_)
      refine zC h (fun b16 h => ?_) (fun b16 h => ?_)
      ·refine zq fun K17 m17 => zr (zv [9] 1 [6] [] [(6, vi 3)] [.box [ci z1]] (zd (m17 _ _ (ze ?_))))
       obtain rfl := zj h
       exact FinM.fin (.inr rfl) [] [vi 3] [] (by kernel_rfl) trivial (by kernel_rfl) (by kernel_rfl) (.one (.rfl _ rfl))
      ·refine zq fun K18 m18 => ?_
       have j4 : ∀ (x3 : Bool), value_checker_check_j4 (value_checker_check k0) p1 p2 z1 x3 = some r → ∀ w0 w1, Sub 83 1 [] w0 w1 [(0, vq 0), (2, vi p2), (4, vR (qa1401 p1)), (42, vb x3)] [.box [ci z1]] → K18 w0 w1 := by
        intro x3 h w0 w1 hS
        unfold value_checker_check_j4 at h
        refine m18 _ _ (XW.sub hS ?_)
        refine zC h (fun b22 h => ?_) (fun b22 h => ?_)
        ·refine zq fun K23 m23 => zr (zv [9] 1 [6] [] [(6, vi 1)] [.box [ci z1]] (zd (m23 _ _ (ze ?_))))
         obtain rfl := zj h
         exact FinM.fin (.inr rfl) [] [vi 1] [] (by kernel_rfl) trivial (by kernel_rfl) (by kernel_rfl) (.one (.rfl _ rfl))
        ·refine zs (m13 _ _ (zq fun K24 m24 => zq fun K25 m25 => ?_))
         obtain ⟨r3, c26, h⟩ := zB h
         refine zr (zu [9] 1 [0,2,4,61] [(qa1401 p1)] (za (c_value_fields _ _ c26) (zv [9] 1 [0,2,4,7] [] [(0, vq 0), (2, vi p2), (4, vR (qa1401 p1)), (7, vi r3)] [.box [ci z1]] (zd (m25 _ _ (zq fun K27 m27 => zr ?_))))))
         refine zg [9] 2 [0,2,4,7,64] (zd (m27 _ _ (zC h (fun b28 h => ?_) (fun b28 h => ?_))))
         ·refine zq fun K29 m29 => zr (zv [9] 2 [6] [] [(6, vi r3)] [.box [ci z1]] (zd (m29 _ _ (ze ?_))))
          obtain rfl := zj h
          exact FinM.fin (.inr rfl) [] [vi r3] [] (by kernel_rfl) trivial (by kernel_rfl) (by kernel_rfl) (.one (.rfl _ rfl))
         ·refine zs (m24 _ _ (zq fun K30 m30 => ?_))
          have j5 : ∀ (z3 : Int), value_checker_check_j5 z3 = some r → ∀ w0 w1, Sub 83 1 [] w0 w1 [] [.box [ci z3]] → K30 w0 w1 := by
           intro z3 h w0 w1 hS
           unfold value_checker_check_j5 at h
           refine m30 _ _ (XW.sub hS ?_)
           refine zq fun K43 m43 => zr (zv [9] 1 [6] [] [(6, vi 0)] [.box [ci z3]] (zd (m43 _ _ (ze ?_))))
           obtain rfl := zj h
           exact FinM.fin (.inr rfl) [] [vi 0] [] (by kernel_rfl) trivial (by kernel_rfl) (by kernel_rfl) (.one (.rfl _ rfl))
          refine zq fun K31 m31 => zr (zv [9] 3 [0,2,67,68] [[pi p1.kind, pi p1.scale, .ro (eField.els p1.fields)]] [(0, vq 0), (2, vi p2), (67, vl eField p1.fields), (68, vi ((eField.els p1.fields).length : Int))] [.box [ci z1]] ?_)
          rw [eField.len p1.fields]
          refine zg [9] 1 [0,2,67,68,69] (zd (m31 _ _ (zb 1 (XW.rounds' BIG (x := cd Tryz.f65 [1,1,1,1,1,0,1,0,0]) (by kernel_rfl) fun Q1 hQ1 => ?_))))
          have hL1 : ∀ (k1 : Nat) (z2 : Int) (x4 : Int), value_checker_check_l1 (value_checker_check k0) p1 p2 k1 z2 x4 = some r → XR Tryz.prog 83 1 [] (cd Tryz.f65 [1,1,1,1,1,0,1,0,0]) Q1 k1 [(0, vq 0), (2, vi p2), (67, vl eField p1.fields), (68, vi (p1.fields.length : Int)), (69, vi x4)] [.box [ci z2]] := by
           intro k1
           induction k1 with
           | zero => intro z2 x4 h; rw [value_checker_check_l1.eq_1] at h; cases h
           | succ k1 ih1 =>
            intro z2 x4 h
            rw [value_checker_check_l1.eq_2] at h
            refine zq fun K32 m32 => zr (zg [9] 1 [0,2,67,68,69,70] (zd (m32 _ _ (zq fun K33 m33 => zC h (fun b34 h => ?_) (fun b34 h => ?_)))))
            ·refine zs (m33 _ _ (zq fun K35 m35 => zb 2 (zq fun K36 m36 => ?_)))
             obtain ⟨e1, a37, h⟩ := zB h
             refine zr (zo [9] 4 [0,2,9,67,68,69] [(qa1411 e1)] [0 ≤ x4 ∧ x4 < ((eField.els p1.fields).length : Int) ∧ elemsOk 6 (eField.els p1.fields), (eField.els p1.fields)[x4.toNat]? = some (qa1411 e1)] (⟨eField.inb a37, ((eField.get a37).trans (by rcases e1 with ⟨_, _, _, ⟨_, _, _⟩⟩; rfl)), trivial⟩) (zd (m36 _ _ (zq fun K38 m38 => ?_))))
             obtain ⟨r4, c39, h⟩ := zB h
             refine zr (zv [9] 5 [0,2,67,68,69,73,75,77] [] [(0, vq 0), (2, vi p2), (67, vl eField p1.fields), (68, vi (p1.fields.length : Int)), (69, vi x4), (73, vq 0), (75, .ag (qa1412 e1)), (77, vi (i64.wrap (p2 + (1 : Int))))] [.box [ci z2], .box (qa1413 e1)] ?_)
             refine XO.calm 65 [vq 0, .ag (qa1412 e1), vi (i64.wrap (p2 + (1 : Int)))] [.box [ci z2]] [.box [ci r4.2.leaves]] (vi r4.1) [0] [(78, vi r4.1), (0, vq 0), (2, vi p2), (67, vl eField p1.fields), (68, vi (p1.fields.length : Int)), (69, vi x4), (73, vq 0), (75, .ag (qa1412 e1)), (77, vi (i64.wrap (p2 + (1 : Int))))] [.box [ci r4.2.leaves], .box (qa1413 e1)] (by kernel_rfl) (c_value_checker_check k0 _ _ _ _ c39) (by kernel_rfl) (by kernel_rfl) (by kernel_rfl) (by kernel_rfl) ?_
             refine zg [9] 1 [0,2,10,67,68,69] (zd (m38 _ _ (zq fun K40 m40 => zr (zg [9] 2 [0,2,10,67,68,69,80] (zd (m40 _ _ ?_))))))
             refine zC h (fun b41 h => ?_) (fun b41 h => ?_)
             ·refine zq fun K42 m42 => zr (zv [9] 2 [6] [] [(6, vi r4.1)] [.box [ci r4.2.leaves], .box (qa1413 e1)] (zd (m42 _ _ (ze (hQ1 _ _ _ ?_)))))
              obtain rfl := zj h
              exact FinM.fin (.inr rfl) [] [vi r4.1] [] (by kernel_rfl) trivial (by kernel_rfl) (by kernel_rfl) (.one (.rfl _ rfl))
             ·exact zs (m35 _ _ (zr (zg [9] 2 [0,2,67,68,69] (zd (XR.sub (Sub.trans (Sub.pick (fr' := (qa1416 p1 p2 x4)) [0,2,67,68,69] (by kernel_rfl)) (Sub.take (fr' := (qa1416 p1 p2 x4)) 1 (by decide) (by kernel_rfl) (by kernel_rfl))) (ih1 r4.2.leaves (i64.wrap (x4 + (1 : Int))) h))))))
            ·exact zx 1 (hQ1 _ _ _ (j5 z2 h _ _ (zk [])))
          exact XR.sub (zk [0,2,67,68,69]) (hL1 BIG z1 (0 : Int) h)
       rcases zW h with ⟨b19, h⟩ | ⟨b19, h⟩
       ·rcases zW h with ⟨b20, h⟩ | ⟨b20, h⟩
        ·exact zr (zu [9] 4 [0,2,4,46] [(qa1401 p1)] (zt 46 b19 (zu [9] 4 [0,2,4,46,50] [(qa1401 p1)] (zt 50 b20 (zv [9] 11 [0,2,4,42] [] [(0, vq 0), (2, vi p2), (4, vR (qa1401 p1)), (42, vb true)] [.box [ci z1]] (zd (j4 true h _ _ (zk [0,2,4,42]))))))))
        ·rcases zW h with ⟨b21, h⟩ | ⟨b21, h⟩
         ·refine zr (zu [9] 4 [0,2,4,46] [(qa1401 p1)] (zt 46 b19 (zu [9] 4 [0,2,4,46,50] [(qa1401 p1)] (zt 50 b20 (zv [9] 5 [0,2,4,46,55] [(qa1401 p1)] [(0, vq 0), (2, vi p2), (4, vR (qa1401 p1)), (46, vb true), (55, vb (decide (p1.scale < (0 : Int))))] [.box [ci z1]] (zt 55 b21 (zg [9] 6 [0,2,4,42] ?_)))))))
          exact zd (j4 true h _ _ (zk [0,2,4,42]))
         ·refine zr (zu [9] 4 [0,2,4,46] [(qa1401 p1)] (zt 46 b19 (zv [9] 4 [0,2,4,46,50] [(qa1401 p1)] [(0, vq 0), (2, vi p2), (4, vR (qa1401 p1)), (46, vb true), (50, vb (p1.kind != (3 : Int)))] [.box [ci z1]] (zt 50 b20 (zu [9] 5 [0,2,4,46,55] [(qa1401 p1)] (zt 55 b21 (zu [9] 6 [0,2,4,42] [(qa1401 p1)] ?_)))))))
          exact zd (j4 (decide ((12 : Int) < p1.scale)) h _ _ (zk [0,2,4,42]))
       ·exact zr (zu [9] 4 [0,2,4,46] [(qa1401 p1)] (zt 46 b19 (zg [9] 15 [0,2,4,42] (zd (j4 false h _ _ (zk [0,2,4,42]))))))
     rcases zW h with ⟨b15, h⟩ | ⟨b15, h⟩
     ·exact zr (zu [9] 4 [0,2,4,37] [(qa1401 p1)] (zt 37 b15 (zg [9] 5 [0,2,4,33] (zd (j3 true h _ _ (zk [0,2,4,33]))))))
     ·exact zr (zv [9] 4 [0,2,4,37] [(qa1401 p1)] [(0, vq 0), (2, vi p2), (4, vR (qa1401 p1)), (37, vb (decide (p1.kind < (1 : Int))))] [.box [ci z1]] (zt 37 b15 (zu [9] 5 [0,2,4,33] [(qa1401 p1)] (zd (j3 (decide ((7 : Int) < p1.kind)) h _ _ (zk [0,2,4,33]))))))
    refine zq fun K10 m10 => ?_
    obtain ⟨r2, c11, h⟩ := zB h
    refine zr (zu [9] 1 [0,2,4,24] [(qa1401 p1)] (za (c_value_leaf _ _ c11) (zd (m10 _ _ (zC h (fun b12 h => ?_) (fun b12 h => ?_))))))
    ·exact zr (zv [9] 8 [0,2,4] [] [(0, vq 0), (2, vi p2), (4, vR (qa1401 p1))] [.box [ci (i64.wrap (p3.leaves + (1 : Int)))]] (zd (j2 (i64.wrap (p3.leaves + (1 : Int))) h _ _ (zk [0,2,4]))))
    ·exact zs (j2 p3.leaves h _ _ (zk [0,2,4]))
  rcases zW h with ⟨b4, h⟩ | ⟨b4, h⟩
  ·exact zr (zg [9] 3 [0,2,4,13] (zt 13 b4 (zv [9] 10 [0,2,4,23] [] [(0, vq 0), (2, vi p2), (4, vR (qa1401 p1)), (23, vb true)] [.box [ci p3.leaves]] (zd (j1 true h _ _ (zk [0,2,4,23]))))))
  ·obtain ⟨r1, c5, h⟩ := zB h
   rcases zW h with ⟨b6, h⟩ | ⟨b6, h⟩
   ·refine zr (zg [9] 3 [0,2,4,13] (zt 13 b4 (zu [9] 1 [0,2,4,13,14] [(qa1401 p1)] (zl 107 [.ag [ci p1.kind, ci p1.scale, cl eField p1.fields]] (vb r1) [(15, vb r1), (0, vq 0), (2, vi p2), (4, vR (qa1401 p1)), (13, vb false), (14, .ag [ci p1.kind, ci p1.scale, cl eField p1.fields])] (c_value_leaf _ _ c5) (zg [9] 1 [0,2,4,13,16] (zt 16 b6 (zg [9] 7 [0,2,4,23] ?_)))))))
    exact zd (j1 (p3.leaves == (40 : Int)) h _ _ (zk [0,2,4,23]))
   ·refine zr (zv [9] 3 [0,2,4,13] [] [(0, vq 0), (2, vi p2), (4, vR (qa1401 p1)), (13, vb (decide ((4 : Int) < p2)))] [.box [ci p3.leaves]] (zt 13 b4 (zu [9] 1 [0,2,4,13,14] [(qa1401 p1)] (za (c_value_leaf _ _ c5) (zv [9] 1 [0,2,4,13,16] [] [(0, vq 0), (2, vi p2), (4, vR (qa1401 p1)), (13, vb false), (16, vb r1)] [.box [ci p3.leaves]] (zt 16 b6 (zg [9] 7 [0,2,4,23] ?_)))))))
    exact zd (j1 false h _ _ (zk [0,2,4,23]))
def value_CheckType (p1 : GType) : Option Int :=
    bnd (value_checker_check BIG p1 (1 : Int) (GChecker.mk (0 : Int))) fun r1 =>
    some r1.1
abbrev qa1442 (p1 : GType) : List CV := [ci p1.kind, ci p1.scale, cl eField p1.fields]
theorem c_value_CheckType (p1 : GType) (r : Int) (h : value_CheckType p1 = some r) : PC Tryz.prog 22 [.ag (qa1442 p1)] (vi r) := by
 unfold value_CheckType at h
 refine zF 9 Tryz.f22 (zq fun K1 m1 => zr (zg [5] 2 [1] (zd (m1 _ _ (zq fun K2 m2 => zr ?_)))))
 refine zg [5] 3 [1,3] (zd (m2 _ _ (zq fun K3 m3 => ?_)))
 obtain ⟨r1, c4, h⟩ := zB h
 refine zr (zv [5] 2 [6,7] [[pi p1.kind, pi p1.scale, .ro (eField.els p1.fields)]] [(6, vq 0), (7, .ag (qa1442 p1))] [.box [ci 0]] (XO.calm 65 [vq 0, .ag (qa1442 p1), vi 1] [.box [ci 0]] [.box [ci r1.2.leaves]] (vi r1.1) [0] [(8, vi r1.1), (6, vq 0), (7, .ag (qa1442 p1))] [.box [ci r1.2.leaves]] (by kernel_rfl) (c_value_checker_check BIG _ _ _ _ c4) (by kernel_rfl) (by kernel_rfl) (by kernel_rfl) (by kernel_rfl) ?_))
 refine zg [5] 1 [2] (zd (m3 _ _ (ze ?_)))
 obtain rfl := zj h
 exact zf [vi r1.1] (.one (.rfl _ rfl))
def table_leaf_j1 (x1 : Bool) : Option Bool :=
    some x1
def table_leaf (p1 : GType) : Option Bool :=
    ift (p1.kind != (6 : Int))
      (table_leaf_j1 (p1.kind != (7 : Int)))
      (table_leaf_j1 false)
abbrev qa1452 (p1 : GType) : List PV := [pi p1.kind, pi p1.scale, .ro (eField.els p1.fields)]
theorem c_table_leaf (p1 : GType) (r : Bool) (h : table_leaf p1 = some r) : PC Tryz.prog 23 [.ag [ci p1.kind, ci p1.scale, cl eField p1.fields]] (vb r) := by
 unfold table_leaf at h
 refine zF 11 Tryz.f23 (zq fun K1 m1 => zr (zg [] 2 [1] (zd (m1 _ _ (zq fun K2 m2 => ?_)))))
 have j1 : ∀ (x1 : Bool), table_leaf_j1 x1 = some r → ∀ w0 w1, Sub 11 0 [] w0 w1 [(2, vb x1)] [] → K2 w0 w1 := by
  intro x1 h w0 w1 hS
  unfold table_leaf_j1 at h
  refine m2 _ _ (XW.sub hS ?_)
  refine ze ?_
  obtain rfl := zj h
  exact zf [vb x1] (.one (.rfl _ rfl))
 rcases zW h with ⟨b3, h⟩ | ⟨b3, h⟩
 ·exact zr (zu [] 4 [1,6] [(qa1452 p1)] (zt 6 b3 (zv [] 5 [2] [(qa1452 p1)] [(2, vb (p1.kind != (7 : Int)))] [] (zd (j1 (p1.kind != (7 : Int)) h _ _ (zk [2]))))))
 ·exact zr (zu [] 4 [1,6] [(qa1452 p1)] (zt 6 b3 (zg [] 5 [2] (zd (j1 false h _ _ (zk [2]))))))
def table_TransformType_j7 (p2 : GType) (x6 : Bool) : Option (GType × Int) :=
    ift x6
      (some ((GType.mk (2 : Int) (0 : Int) []), (0 : Int)))
      (some (p2, (0 : Int)))
def table_TransformType_j6 (p1 : GTransform) (p2 : GType) (x5 : Bool) : Option (GType × Int) :=
    ift x5
      (some ((GType.mk (0 : Int) (0 : Int) []), (2 : Int)))
      (ift (p1.kind == (2 : Int))
         (table_TransformType_j7 p2 true)
         (table_TransformType_j7 p2 (decide ((4 : Int) ≤ p1.kind))))
def table_TransformType_j5 (p1 : GTransform) (p2 : GType) (x4 : Bool) : Option (GType × Int) :=
    ift x4
      (table_TransformType_j6 p1 p2 x4)
      (ift (decide ((4 : Int) ≤ p1.kind))
         (table_TransformType_j6 p1 p2 (p2.kind != (5 : Int)))
         (table_TransformType_j6 p1 p2 false))
def table_TransformType_j4 (p1 : GTransform) (p2 : GType) : Option (GType × Int) :=
    bnd (table_leaf p2) fun r2 =>
    ift (!r2)
      (table_TransformType_j6 p1 p2 (!r2))
      (ift (p1.kind == (3 : Int))
         (ift (p2.kind != (2 : Int))
            (ift (p2.kind != (3 : Int))
               (table_TransformType_j5 p1 p2 (p2.kind != (4 : Int)))
               (table_TransformType_j5 p1 p2 false))
            (table_TransformType_j5 p1 p2 false))
         (table_TransformType_j5 p1 p2 false))
def table_TransformType_j3 (p1 : GTransform) (p2 : GType) (x3 : Bool) : Option (GType × Int) :=
    ift x3
      (some ((GType.mk (0 : Int) (0 : Int) []), (3 : Int)))
      (table_TransformType_j4 p1 p2)
def table_TransformType_j2 (p1 : GTransform) (p2 : GType) (x2 : Bool) : Option (GType × Int) :=
    ift x2
      (ift (decide (p1.param < (1 : Int)))
         (table_TransformType_j3 p1 p2 true)
         (table_TransformType_j3 p1 p2 (decide ((1000000 : Int) < p1.param))))
      (ift (p1.param != (0 : Int))
         (some ((GType.mk (0 : Int) (0 : Int) []), (3 : Int)))
         (table_TransformType_j4 p1 p2))
def table_TransformType_j1 (p1 : GTransform) (p2 : GType) (x1 : Bool) : Option (GType × Int) :=
    ift x1
      (some ((GType.mk (0 : Int) (0 : Int) []), (3 : Int)))
      (ift (p1.kind == (2 : Int))
         (table_TransformType_j2 p1 p2 true)
         (table_TransformType_j2 p1 p2 (p1.kind == (3 : Int))))
def table_TransformType (p1 : GTransform) (p2 : GType) : Option (GType × Int) :=
    bnd (value_CheckType p2) fun r1 =>
    ift (r1 != (0 : Int))
      (some ((GType.mk (0 : Int) (0 : Int) []), r1))
      (ift (decide (p1.kind < (0 : Int)))
         (table_TransformType_j1 p1 p2 true)
         (table_TransformType_j1 p1 p2 (decide ((7 : Int) < p1.kind))))
abbrev qa1455 (p2 : GType) : List CV := [ci p2.kind, ci p2.scale, cl eField p2.fields]
abbrev qa1457 (p2 : GType) : List PV := [pi p2.kind, pi p2.scale, .ro (eField.els p2.fields)]
abbrev qa1458 (p1 : GTransform) : List PV := [pi p1.kind, pi p1.param]
abbrev qa1460 : List CV := [ci 0, ci 0, .pv (.s (.slice none 0 0))]
abbrev qa1463 : St := [.box qa1460]
theorem c_table_TransformType (p1 : GTransform) (p2 : GType) (r : (GType × Int)) (h : table_TransformType p1 p2 = some r) : PC Tryz.prog 7 [.ag [ci p1.kind, ci p1.param], .ag (qa1455 p2)] (.tp [.ag [ci r.1.kind, ci r.1.scale, cl eField r.1.fields], vi r.2]) := by
 unfold table_TransformType at h
 refine zF 85 Tryz.f7 (zq fun K1 m1 => zr (zg [4] 4 [2,3,4] (zd (m1 _ _ (zq fun K2 m2 => zq fun K3 m3 => ?_)))))
 obtain ⟨r1, c4, h⟩ := zB h
 refine zr (zu [4] 1 [2,3,4,7] [(qa1457 p2)] (zl 22 [.ag (qa1455 p2)] (vi r1) [(8, vi r1), (2, vR (qa1458 p1)), (3, vR (qa1457 p2)), (4, vq 0), (7, .ag (qa1455 p2))] (c_value_CheckType _ _ c4) (zg [4] 1 [2,3,4,6] (zd (m3 _ _ (zq fun K5 m5 => zr ?_))))))
 refine zg [4] 2 [2,3,4,6,10] (zd (m5 _ _ (zC h (fun b6 h => ?_) (fun b6 h => ?_))))
 ·refine zq fun K7 m7 => zr (zv [4] 4 [4,5] [] [(4, vq 0), (5, vi r1)] qa1463 (zd (m7 _ _ (ze ?_))))
  obtain rfl := zj h
  exact zf [.ag qa1460, vi r1] (.tpc (.ag (.cons (.rfl _ rfl) (.cons (.rfl _ rfl) (.cons (.nl) .nil)))) (.tpc (.one (.rfl _ rfl)) (.tp0)))
 ·refine zs (m2 _ _ (zq fun K8 m8 => zq fun K9 m9 => ?_))
  have j1 : ∀ (x1 : Bool), table_TransformType_j1 p1 p2 x1 = some r → ∀ w0 w1, Sub 85 0 [] w0 w1 [(2, vR (qa1458 p1)), (3, vR (qa1457 p2)), (4, vq 0), (20, vb x1)] qa1463 → K9 w0 w1 := by
   intro x1 h w0 w1 hS
   unfold table_TransformType_j1 at h
   refine m9 _ _ (XW.sub hS ?_)
   refine zC h (fun b11 h => ?_) (fun b11 h => ?_)
   ·refine zq fun K12 m12 => zr (zg [4] 3 [4,5] (zd (m12 _ _ (ze ?_))))
    obtain rfl := zj h
    exact zf [.ag qa1460, vi 3] (.tpc (.ag (.cons (.rfl _ rfl) (.cons (.rfl _ rfl) (.cons (.nl) .nil)))) (.tpc (.one (.rfl _ rfl)) (.tp0)))
   ·refine zs (m8 _ _ (zq fun K13 m13 => ?_))
    have j4 : ∀ (_ : Unit), table_TransformType_j4 p1 p2 = some r → ∀ w0 w1, Sub 85 0 [] w0 w1 [(2, vR (qa1458 p1)), (3, vR (qa1457 p2)), (4, vq 0)] qa1463 → K13 w0 w1 := by
     intro _ h w0 w1 hS
     unfold table_TransformType_j4 at h
     refine m13 _ _ (XW.sub hS ?_)
     refine zq fun K24 m24 => zb 0 (zq fun K25 m25 => ?_)
     have j6 : ∀ (x5 : Bool), table_TransformType_j6 p1 p2 x5 = some r → ∀ w0 w1, Sub 85 0 [] w0 w1 [(2, vR (qa1458 p1)), (3, vR (qa1457 p2)), (4, vq 0), (43, vb x5)] qa1463 → K25 w0 w1 := by
      intro x5 h w0 w1 hS
      unfold table_TransformType_j6 at h
      refine m25 _ _ (XW.sub hS ?_)
      refine zC h (fun b35 h => ?_) (fun b35 h => ?_)
      ·refine zq fun K36 m36 => zr (zg [4] 3 [4,5] (zd (m36 _ _ (ze ?_))))
       obtain rfl := zj h
       exact zf [.ag qa1460, vi 2] (.tpc (.ag (.cons (.rfl _ rfl) (.cons (.rfl _ rfl) (.cons (.nl) .nil)))) (.tpc (.one (.rfl _ rfl)) (.tp0)))
      ·refine zq fun K37 m37 => ?_
       have j7 : ∀ (x6 : Bool), table_TransformType_j7 p2 x6 = some r → ∀ w0 w1, Sub 85 0 [] w0 w1 [(3, vR (qa1457 p2)), (4, vq 0), (74, vb x6)] qa1463 → K37 w0 w1 := by
        intro x6 h w0 w1 hS
        unfold table_TransformType_j7 at h
        refine m37 _ _ (XW.sub hS ?_)
        refine zC h (fun b39 h => ?_) (fun b39 h => ?_)
        ·refine zq fun K40 m40 => zr (zg [4] 3 [4,5] (zd (m40 _ _ (ze ?_))))
         obtain rfl := zj h
         exact zf [.ag [ci 2, ci 0, .pv (.s (.slice none 0 0))], vi 0] (.tpc (.ag (.cons (.rfl _ rfl) (.cons (.rfl _ rfl) (.cons (.nl) .nil)))) (.tpc (.one (.rfl _ rfl)) (.tp0)))
        ·refine zs (m24 _ _ (zq fun K41 m41 => zr (zu [4] 3 [4,5] [(qa1457 p2)] (zd (m41 _ _ (ze ?_))))))
         obtain rfl := zj h
         exact zf [.ag (qa1455 p2), vi 0] (.tpc (.ag (.cons (.rfl _ rfl) (.cons (.rfl _ rfl) (.cons (.rfl _ rfl) .nil)))) (.tpc (.one (.rfl _ rfl)) (.tp0)))
       rcases zW h with ⟨b38, h⟩ | ⟨b38, h⟩
       ·exact zr (zu [4] 4 [2,3,4,78] [(qa1458 p1)] (zt 78 b38 (zv [4] 5 [3,4,74] [] [(3, vR (qa1457 p2)), (4, vq 0), (74, vb true)] qa1463 (zd (j7 true h _ _ (zk [3,4,74]))))))
       ·exact zr (zu [4] 4 [2,3,4,78] [(qa1458 p1)] (zt 78 b38 (zu [4] 5 [3,4,74] [(qa1458 p1)] (zd (j7 (decide ((4 : Int) ≤ p1.kind)) h _ _ (zk [3,4,74]))))))
     refine zq fun K26 m26 => ?_
     obtain ⟨r2, c27, h⟩ := zB h
     refine zr (zu [4] 1 [2,3,4,44] [(qa1457 p2)] (za (c_table_leaf _ _ c27) (zv [4] 2 [2,3,4,43] [] [(2, vR (qa1458 p1)), (3, vR (qa1457 p2)), (4, vq 0), (43, vb (!r2))] qa1463 (zd (m26 _ _ (zC h (fun b28 h => ?_) (fun b28 h => ?_)))))))
     ·exact zs (j6 (!r2) h _ _ (zk [2,3,4,43]))
     ·refine zq fun K29 m29 => ?_
      have j5 : ∀ (x4 : Bool), table_TransformType_j5 p1 p2 x4 = some r → ∀ w0 w1, Sub 85 0 [] w0 w1 [(2, vR (qa1458 p1)), (3, vR (qa1457 p2)), (4, vq 0), (43, vb x4)] qa1463 → K29 w0 w1 := by
       intro x4 h w0 w1 hS
       unfold table_TransformType_j5 at h
       refine m29 _ _ (XW.sub hS ?_)
       refine zC h (fun b33 h => ?_) (fun b33 h => ?_)
       ·exact zs (j6 x4 h _ _ (zk [2,3,4,43]))
       ·rcases zW h with ⟨b34, h⟩ | ⟨b34, h⟩
        ·exact zr (zu [4] 4 [2,3,4,68] [(qa1458 p1)] (zt 68 b34 (zu [4] 5 [2,3,4,43] [(qa1457 p2)] (zd (j6 (p2.kind != (5 : Int)) h _ _ (zk [2,3,4,43]))))))
        ·exact zr (zv [4] 4 [2,3,4,68] [(qa1458 p1)] [(2, vR (qa1458 p1)), (3, vR (qa1457 p2)), (4, vq 0), (68, vb (decide ((4 : Int) ≤ p1.kind)))] qa1463 (zt 68 b34 (zg [4] 5 [2,3,4,43] (zd (j6 false h _ _ (zk [2,3,4,43]))))))
      rcases zW h with ⟨b30, h⟩ | ⟨b30, h⟩
      ·rcases zW h with ⟨b31, h⟩ | ⟨b31, h⟩
       ·rcases zW h with ⟨b32, h⟩ | ⟨b32, h⟩
        ·refine zr (zu [4] 4 [2,3,4,50] [(qa1458 p1)] (zt 50 b30 (zu [4] 5 [2,3,4,55] [(qa1457 p2)] (zt 55 b31 (zv [4] 5 [2,3,4,60] [(qa1457 p2)] [(2, vR (qa1458 p1)), (3, vR (qa1457 p2)), (4, vq 0), (60, vb (p2.kind != (3 : Int)))] qa1463 (zt 60 b32 (zu [4] 5 [2,3,4,43] [(qa1457 p2)] ?_)))))))
         exact zd (j5 (p2.kind != (4 : Int)) h _ _ (zk [2,3,4,43]))
        ·refine zr (zu [4] 4 [2,3,4,50] [(qa1458 p1)] (zt 50 b30 (zv [4] 5 [2,3,4,55] [(qa1457 p2)] [(2, vR (qa1458 p1)), (3, vR (qa1457 p2)), (4, vq 0), (55, vb (p2.kind != (2 : Int)))] qa1463 (zt 55 b31 (zu [4] 5 [2,3,4,60] [(qa1457 p2)] (zt 60 b32 (zg [4] 5 [2,3,4,43] ?_)))))))
         exact zd (j5 false h _ _ (zk [2,3,4,43]))
       ·exact zr (zu [4] 4 [2,3,4,50] [(qa1458 p1)] (zt 50 b30 (zu [4] 5 [2,3,4,55] [(qa1457 p2)] (zt 55 b31 (zv [4] 10 [2,3,4,43] [] [(2, vR (qa1458 p1)), (3, vR (qa1457 p2)), (4, vq 0), (43, vb false)] qa1463 (zd (j5 false h _ _ (zk [2,3,4,43]))))))))
      ·exact zr (zu [4] 4 [2,3,4,50] [(qa1458 p1)] (zt 50 b30 (zg [4] 15 [2,3,4,43] (zd (j5 false h _ _ (zk [2,3,4,43]))))))
    refine zq fun K14 m14 => ?_
    have j2 : ∀ (x2 : Bool), table_TransformType_j2 p1 p2 x2 = some r → ∀ w0 w1, Sub 85 0 [] w0 w1 [(2, vR (qa1458 p1)), (3, vR (qa1457 p2)), (4, vq 0), (29, vb x2)] qa1463 → K14 w0 w1 := by
     intro x2 h w0 w1 hS
     unfold table_TransformType_j2 at h
     refine m14 _ _ (XW.sub hS ?_)
     refine zC h (fun b16 h => ?_) (fun b16 h => ?_)
     ·refine zq fun K17 m17 => ?_
      have j3 : ∀ (x3 : Bool), table_TransformType_j3 p1 p2 x3 = some r → ∀ w0 w1, Sub 85 0 [] w0 w1 [(2, vR (qa1458 p1)), (3, vR (qa1457 p2)), (4, vq 0), (37, vb x3)] qa1463 → K17 w0 w1 := by
       intro x3 h w0 w1 hS
       unfold table_TransformType_j3 at h
       refine m17 _ _ (XW.sub hS ?_)
       refine zC h (fun b19 h => ?_) (fun b19 h => ?_)
       ·refine zq fun K20 m20 => zr (zg [4] 3 [4,5] (zd (m20 _ _ (ze ?_))))
        obtain rfl := zj h
        exact zf [.ag qa1460, vi 3] (.tpc (.ag (.cons (.rfl _ rfl) (.cons (.rfl _ rfl) (.cons (.nl) .nil)))) (.tpc (.one (.rfl _ rfl)) (.tp0)))
       ·exact zs (j4 () h _ _ (zk [2,3,4]))
      rcases zW h with ⟨b18, h⟩ | ⟨b18, h⟩
      ·exact zr (zu [4] 4 [2,3,4,33] [(qa1458 p1)] (zt 33 b18 (zg [4] 4 [2,3,4,37] (zd (j3 true h _ _ (zk [2,3,4,37]))))))
      ·exact zr (zv [4] 4 [2,3,4,33] [(qa1458 p1)] [(2, vR (qa1458 p1)), (3, vR (qa1457 p2)), (4, vq 0), (33, vb (decide (p1.param < (1 : Int))))] qa1463 (zt 33 b18 (zu [4] 4 [2,3,4,37] [(qa1458 p1)] (zd (j3 (decide ((1000000 : Int) < p1.param)) h _ _ (zk [2,3,4,37]))))))
     ·refine zq fun K21 m21 => zr (zu [4] 3 [2,3,4,41] [(qa1458 p1)] (zd (m21 _ _ (zC h (fun b22 h => ?_) (fun b22 h => ?_)))))
      ·refine zq fun K23 m23 => zr (zg [4] 3 [4,5] (zd (m23 _ _ (ze ?_))))
       obtain rfl := zj h
       exact zf [.ag qa1460, vi 3] (.tpc (.ag (.cons (.rfl _ rfl) (.cons (.rfl _ rfl) (.cons (.nl) .nil)))) (.tpc (.one (.rfl _ rfl)) (.tp0)))
      ·exact zs (j4 () h _ _ (zk [2,3,4]))
    rcases zW h with ⟨b15, h⟩ | ⟨b15, h⟩
    ·exact zr (zu [4] 4 [2,3,4,25] [(qa1458 p1)] (zt 25 b15 (zv [4] 4 [2,3,4,29] [] [(2, vR (qa1458 p1)), (3, vR (qa1457 p2)), (4, vq 0), (29, vb true)] qa1463 (zd (j2 true h _ _ (zk [2,3,4,29]))))))
    ·exact zr (zu [4] 4 [2,3,4,25] [(qa1458 p1)] (zt 25 b15 (zu [4] 4 [2,3,4,29] [(qa1458 p1)] (zd (j2 (p1.kind == (3 : Int)) h _ _ (zk [2,3,4,29]))))))
  rcases zW h with ⟨b10, h⟩ | ⟨b10, h⟩
  ·exact zr (zu [4] 4 [2,3,4,16] [(qa1458 p1)] (zt 16 b10 (zg [4] 4 [2,3,4,20] (zd (j1 true h _ _ (zk [2,3,4,20]))))))
  ·exact zr (zv [4] 4 [2,3,4,16] [(qa1458 p1)] [(2, vR (qa1458 p1)), (3, vR (qa1457 p2)), (4, vq 0), (16, vb (decide (p1.kind < (0 : Int))))] qa1463 (zt 16 b10 (zu [4] 4 [2,3,4,20] [(qa1458 p1)] (zd (j1 (decide ((7 : Int) < p1.kind)) h _ _ (zk [2,3,4,20]))))))
def ref1_Leaf_j1 (x1 : Bool) : Option Bool :=
    some x1
def ref1_Leaf (p1 : Int) : Option Bool :=
    ift (p1 != (6 : Int))
      (ref1_Leaf_j1 (p1 != (7 : Int)))
      (ref1_Leaf_j1 false)
theorem c_ref1_Leaf (p1 : Int) (r : Bool) (h : ref1_Leaf p1 = some r) : PC Tryz.prog 26 [vi p1] (vb r) := by
 unfold ref1_Leaf at h
 refine zF 9 Tryz.f26 (zq fun K1 m1 => zr (zg [] 1 [0] (zd (m1 _ _ (zq fun K2 m2 => ?_)))))
 have j1 : ∀ (x1 : Bool), ref1_Leaf_j1 x1 = some r → ∀ w0 w1, Sub 9 0 [] w0 w1 [(2, vb x1)] [] → K2 w0 w1 := by
  intro x1 h w0 w1 hS
  unfold ref1_Leaf_j1 at h
  refine m2 _ _ (XW.sub hS ?_)
  refine ze ?_
  obtain rfl := zj h
  exact zf [vb x1] (.one (.rfl _ rfl))
 rcases zW h with ⟨b3, h⟩ | ⟨b3, h⟩
 ·exact zr (zg [] 3 [0,5] (zt 5 b3 (zv [] 4 [2] [] [(2, vb (p1 != (7 : Int)))] [] (zd (j1 (p1 != (7 : Int)) h _ _ (zk [2]))))))
 ·exact zr (zg [] 3 [0,5] (zt 5 b3 (zg [] 4 [2] (zd (j1 false h _ _ (zk [2]))))))
def ref1_within_j1 (x1 : Bool) : Option Bool :=
    some x1
def ref1_within (p1 : Int) (p2 : Int) (p3 : Int) : Option Bool :=
    ift (decide (p2 ≤ p1))
      (ref1_within_j1 (decide (p1 ≤ p3)))
      (ref1_within_j1 false)
theorem c_ref1_within (p1 : Int) (p2 : Int) (p3 : Int) (r : Bool) (h : ref1_within p1 p2 p3 = some r) : PC Tryz.prog 73 [vi p1, vi p2, vi p3] (vb r) := by
 unfold ref1_within at h
 refine zF 15 Tryz.f73 (zq fun K1 m1 => zr (zg [] 1 [0,1,2] (zd (m1 _ _ (zq fun K2 m2 => ?_)))))
 have j1 : ∀ (x1 : Bool), ref1_within_j1 x1 = some r → ∀ w0 w1, Sub 15 0 [] w0 w1 [(6, vb x1)] [] → K2 w0 w1 := by
  intro x1 h w0 w1 hS
  unfold ref1_within_j1 at h
  refine m2 _ _ (XW.sub hS ?_)
  refine ze ?_
  obtain rfl := zj h
  exact zf [vb x1] (.one (.rfl _ rfl))
 rcases zW h with ⟨b3, h⟩ | ⟨b3, h⟩
 ·exact zr (zg [] 4 [0,2,10] (zt 10 b3 (zv [] 5 [6] [] [(6, vb (decide (p1 ≤ p3)))] [] (zd (j1 (decide (p1 ≤ p3)) h _ _ (zk [6]))))))
 ·exact zr (zg [] 4 [0,2,10] (zt 10 b3 (zg [] 5 [6] (zd (j1 false h _ _ (zk [6]))))))
def ref1_Name_j4 (rec1 : Int → Option Bool) (x2 : Int) (x5 : Bool) : Option Bool :=
    ift x5
      (some false)
      (rec1 (i64.wrap (x2 + (1 : Int))))
def ref1_Name_j3 (rec1 : Int → Option Bool) (x2 : Int) (x3 : Bool) (x4 : Bool) : Option Bool :=
    ift (!x3)
      (ift (x2 == (0 : Int))
         (ref1_Name_j4 rec1 x2 true)
         (ref1_Name_j4 rec1 x2 (!x4)))
      (ref1_Name_j4 rec1 x2 false)
def ref1_Name_j2 (rec1 : Int → Option Bool) (p1 : ByteArray) (x2 : Int) (x3 : Bool) : Option Bool :=
    grd (0 ≤ x2 ∧ x2 < (p1.size : Int)) <|
    ift (((p1.data.toList.getD x2.toNat 0).toNat : Int) == (95 : Int))
      (ref1_Name_j3 rec1 x2 x3 true)
      (grd (0 ≤ x2 ∧ x2 < (p1.size : Int)) <|
       bnd (some (decide ((48 : Int) ≤ ((p1.data.toList.getD x2.toNat 0).toNat : Int)))) fun y3 =>
       ift y3
         (grd (0 ≤ x2 ∧ x2 < (p1.size : Int)) <|
          bnd (some (decide (((p1.data.toList.getD x2.toNat 0).toNat : Int) ≤ (57 : Int)))) fun y4 =>
          ref1_Name_j3 rec1 x2 x3 y4)
         (ref1_Name_j3 rec1 x2 x3 false))
def ref1_Name_j5 : Option Bool :=
    some true
def ref1_Name_l1 (p1 : ByteArray) : Nat → Int → Option Bool
  | 0, _ => none
  | k1 + 1, x2 =>
    ift (decide (x2 < (p1.size : Int)))
      (grd (0 ≤ x2 ∧ x2 < (p1.size : Int)) <|
       bnd (some (decide ((97 : Int) ≤ ((p1.data.toList.getD x2.toNat 0).toNat : Int)))) fun y1 =>
       ift y1
         (grd (0 ≤ x2 ∧ x2 < (p1.size : Int)) <|
          bnd (some (decide (((p1.data.toList.getD x2.toNat 0).toNat : Int) ≤ (122 : Int)))) fun y2 =>
          ref1_Name_j2 (ref1_Name_l1 p1 k1) p1 x2 y2)
         (ref1_Name_j2 (ref1_Name_l1 p1 k1) p1 x2 false))
      (ref1_Name_j5)
def ref1_Name_j1 (p1 : ByteArray) (x1 : Bool) : Option Bool :=
    ift x1
      (some false)
      (ref1_Name_l1 p1 BIG (0 : Int))
def ref1_Name (p1 : ByteArray) : Option Bool :=
    ift (decide ((p1.size : Int) < (1 : Int)))
      (ref1_Name_j1 p1 true)
      (ref1_Name_j1 p1 (decide ((24 : Int) < (p1.size : Int))))
theorem c_ref1_Name (p1 : ByteArray) (r : Bool) (h : ref1_Name p1 = some r) : PC Tryz.prog 154 [vs p1] (vb r) := by
 unfold ref1_Name at h
 refine zF 56 Tryz.f154 (zq fun K1 m1 => zr (zg [] 1 [0] (zd (m1 _ _ (zq fun K2 m2 => zq fun K3 m3 => ?_)))))
 have j1 : ∀ (x1 : Bool), ref1_Name_j1 p1 x1 = some r → ∀ w0 w1, Sub 56 0 [] w0 w1 [(0, vs p1), (13, vb x1)] [] → K3 w0 w1 := by
  intro x1 h w0 w1 hS
  unfold ref1_Name_j1 at h
  refine m3 _ _ (XW.sub hS ?_)
  refine zC h (fun b5 h => ?_) (fun b5 h => ?_)
  ·refine zq fun K6 m6 => zr (zg [] 1 [2] (zd (m6 _ _ (ze ?_))))
   obtain rfl := zj h
   exact zf [vb false] (.one (.rfl _ rfl))
  ·refine zs (m2 _ _ (zq fun K7 m7 => ?_))
   have j5 : ∀ (_ : Unit), ref1_Name_j5 = some r → ∀ w0 w1, Sub 56 0 [] w0 w1 [] [] → K7 w0 w1 := by
    intro _ h w0 w1 hS
    unfold ref1_Name_j5 at h
    refine m7 _ _ (XW.sub hS ?_)
    refine zq fun K32 m32 => zr (zg [] 1 [2] (zd (m32 _ _ (ze ?_))))
    obtain rfl := zj h
    exact zf [vb true] (.one (.rfl _ rfl))
   refine zq fun K8 m8 => zr (zg [] 1 [0,3] (zd (m8 _ _ (zb 0 (XW.rounds' BIG (x := cd Tryz.f154 [1,1,0,1,0,0]) (by kernel_rfl) fun Q1 hQ1 => ?_)))))
   have hL1 : ∀ (k1 : Nat) (x2 : Int), ref1_Name_l1 p1 k1 x2 = some r → XR Tryz.prog 56 0 [] (cd Tryz.f154 [1,1,0,1,0,0]) Q1 k1 [(0, vs p1), (3, vi x2)] [] := by
    intro k1
    induction k1 with
    | zero => intro x2 h; rw [ref1_Name_l1.eq_1] at h; cases h
    | succ k1 ih1 =>
     intro x2 h
     rw [ref1_Name_l1.eq_2] at h
     refine zq fun K9 m9 => zq fun K10 m10 => zr (zg [] 4 [0,3,17] (zd (m10 _ _ (zC h (fun b11 h => ?_) (fun b11 h => ?_)))))
     ·refine zs (m9 _ _ (zq fun K12 m12 => zb 1 (zq fun K13 m13 => ?_)))
      have j2 : ∀ (x3 : Bool), ref1_Name_j2 (ref1_Name_l1 p1 k1) p1 x2 x3 = some r → ∀ w0 w1, Sub 56 0 [] w0 w1 [(0, vs p1), (3, vi x2), (4, vb x3)] [] → K13 w0 w1 := by
       intro x3 h w0 w1 hS
       unfold ref1_Name_j2 at h
       refine m13 _ _ (XW.sub hS ?_)
       refine zq fun K19 m19 => ?_
       have j3 : ∀ (x4 : Bool), ref1_Name_j3 (ref1_Name_l1 p1 k1) x2 x3 x4 = some r → ∀ w0 w1, Sub 56 0 [] w0 w1 [(0, vs p1), (3, vi x2), (4, vb x3), (5, vb x4)] [] → K19 w0 w1 := by
        intro x4 h w0 w1 hS
        unfold ref1_Name_j3 at h
        refine m19 _ _ (XW.sub hS ?_)
        refine zq fun K27 m27 => ?_
        have j4 : ∀ (x5 : Bool), ref1_Name_j4 (ref1_Name_l1 p1 k1) x2 x5 = some r → ∀ w0 w1, Sub 56 0 [] w0 w1 [(0, vs p1), (3, vi x2), (55, vb x5)] [] → K27 w0 w1 := by
         intro x5 h w0 w1 hS
         unfold ref1_Name_j4 at h
         refine m27 _ _ (XW.sub hS ?_)
         refine zC h (fun b30 h => ?_) (fun b30 h => ?_)
         ·refine zq fun K31 m31 => zr (zg [] 1 [2] (zd (m31 _ _ (ze (hQ1 _ _ _ ?_)))))
          obtain rfl := zj h
          exact zf [vb false] (.one (.rfl _ rfl))
         ·exact zs (m12 _ _ (zr (zg [] 3 [0,3] (zd (XR.sub (zk [0,3]) (ih1 (i64.wrap (x2 + (1 : Int))) h))))))
        rcases zW h with ⟨b28, h⟩ | ⟨b28, h⟩
        ·rcases zW h with ⟨b29, h⟩ | ⟨b29, h⟩
         ·exact zr (zg [] 3 [0,3,5,48] (zt 48 b28 (zg [] 3 [0,3,5,48,51] (zt 51 b29 (zv [] 4 [0,3,55] [] [(0, vs p1), (3, vi x2), (55, vb true)] [] (zd (j4 true h _ _ (zk [0,3,55]))))))))
         ·exact zr (zg [] 3 [0,3,5,48] (zt 48 b28 (zg [] 3 [0,3,5,48,51] (zt 51 b29 (zv [] 4 [0,3,55] [] [(0, vs p1), (3, vi x2), (55, vb (!x4))] [] (zd (j4 (!x4) h _ _ (zk [0,3,55]))))))))
        ·exact zr (zg [] 3 [0,3,5,48] (zt 48 b28 (zg [] 7 [0,3,55] (zd (j4 false h _ _ (zk [0,3,55]))))))
       obtain ⟨g20, h⟩ := zG h
       rcases zW h with ⟨b21, h⟩ | ⟨b21, h⟩
       ·exact zr (zo [] 5 [0,3,4,34] [] [0 ≤ x2 ∧ x2 < (p1.size : Int)] (⟨g20, trivial⟩) (zt 34 b21 (zg [] 12 [0,3,4,5] (zd (j3 true h _ _ (zk [0,3,4,5]))))))
       ·obtain ⟨g22, h⟩ := zG h
        obtain ⟨y3, hy23, h⟩ := zB h
        rcases zW h with ⟨b24, h⟩ | ⟨b24, h⟩
        ·obtain ⟨g25, h⟩ := zG h
         obtain ⟨y4, hy26, h⟩ := zB h
         refine zr (zp [] 5 [0,3,4,34] [] [(0, vs p1), (3, vi x2), (4, vb x3), (34, vb (((p1.data.toList.getD x2.toNat 0).toNat : Int) == (95 : Int)))] [] [0 ≤ x2 ∧ x2 < (p1.size : Int)] (⟨g20, trivial⟩) (zt 34 b21 (zp [] 4 [0,3,4,34,38] [] [(0, vs p1), (3, vi x2), (4, vb x3), (34, vb false), (38, vb (decide ((48 : Int) ≤ ((p1.data.toList.getD x2.toNat 0).toNat : Int))))] [] [0 ≤ x2 ∧ x2 < (p1.size : Int)] (⟨g22, trivial⟩) ?_)))
         rw [show (decide ((48 : Int) ≤ ((p1.data.toList.getD x2.toNat 0).toNat : Int))) = y3 from zj hy23]
         refine zg [] 1 [0,3,4,34,39] (zt 39 b24 (zp [] 4 [0,3,4,34,39,43] [] [(0, vs p1), (3, vi x2), (4, vb x3), (34, vb false), (39, vb true), (43, vb (decide (((p1.data.toList.getD x2.toNat 0).toNat : Int) ≤ (57 : Int))))] [] [0 ≤ x2 ∧ x2 < (p1.size : Int)] (⟨g25, trivial⟩) ?_))
         rw [show (decide (((p1.data.toList.getD x2.toNat 0).toNat : Int) ≤ (57 : Int))) = y4 from zj hy26]
         exact zg [] 3 [0,3,4,5] (zd (j3 y4 h _ _ (zk [0,3,4,5])))
        ·refine zr (zo [] 5 [0,3,4,34] [] [0 ≤ x2 ∧ x2 < (p1.size : Int)] (⟨g20, trivial⟩) (zt 34 b21 (zp [] 4 [0,3,4,34,38] [] [(0, vs p1), (3, vi x2), (4, vb x3), (34, vb false), (38, vb (decide ((48 : Int) ≤ ((p1.data.toList.getD x2.toNat 0).toNat : Int))))] [] [0 ≤ x2 ∧ x2 < (p1.size : Int)] (⟨g22, trivial⟩) ?_)))
         rw [show (decide ((48 : Int) ≤ ((p1.data.toList.getD x2.toNat 0).toNat : Int))) = y3 from zj hy23]
         exact zg [] 1 [0,3,4,34,39] (zt 39 b24 (zg [] 7 [0,3,4,5] (zd (j3 false h _ _ (zk [0,3,4,5])))))
      obtain ⟨g14, h⟩ := zG h
      obtain ⟨y1, hy15, h⟩ := zB h
      rcases zW h with ⟨b16, h⟩ | ⟨b16, h⟩
      ·obtain ⟨g17, h⟩ := zG h
       obtain ⟨y2, hy18, h⟩ := zB h
       refine zr (zp [] 4 [0,3,23] [] [(0, vs p1), (3, vi x2), (23, vb (decide ((97 : Int) ≤ ((p1.data.toList.getD x2.toNat 0).toNat : Int))))] [] [0 ≤ x2 ∧ x2 < (p1.size : Int)] (⟨g14, trivial⟩) ?_)
       rw [show (decide ((97 : Int) ≤ ((p1.data.toList.getD x2.toNat 0).toNat : Int))) = y1 from zj hy15]
       refine zg [] 1 [0,3,24] (zt 24 b16 (zp [] 4 [0,3,24,28] [] [(0, vs p1), (3, vi x2), (24, vb true), (28, vb (decide (((p1.data.toList.getD x2.toNat 0).toNat : Int) ≤ (122 : Int))))] [] [0 ≤ x2 ∧ x2 < (p1.size : Int)] (⟨g17, trivial⟩) ?_))
       rw [show (decide (((p1.data.toList.getD x2.toNat 0).toNat : Int) ≤ (122 : Int))) = y2 from zj hy18]
       exact zg [] 2 [0,3,4] (zd (j2 y2 h _ _ (zk [0,3,4])))
      ·refine zr (zp [] 4 [0,3,23] [] [(0, vs p1), (3, vi x2), (23, vb (decide ((97 : Int) ≤ ((p1.data.toList.getD x2.toNat 0).toNat : Int))))] [] [0 ≤ x2 ∧ x2 < (p1.size : Int)] (⟨g14, trivial⟩) ?_)
       rw [show (decide ((97 : Int) ≤ ((p1.data.toList.getD x2.toNat 0).toNat : Int))) = y1 from zj hy15]
       exact zg [] 1 [0,3,24] (zt 24 b16 (zg [] 6 [0,3,4] (zd (j2 false h _ _ (zk [0,3,4])))))
     ·exact zx 0 (hQ1 _ _ _ (j5 () h _ _ (zk [])))
   exact XR.sub (zk [0,3]) (hL1 BIG (0 : Int) h)
 rcases zW h with ⟨b4, h⟩ | ⟨b4, h⟩
 ·exact zr (zg [] 4 [0,9] (zt 9 b4 (zv [] 4 [0,13] [] [(0, vs p1), (13, vb true)] [] (zd (j1 true h _ _ (zk [0,13]))))))
 ·exact zr (zg [] 4 [0,9] (zt 9 b4 (zg [] 4 [0,13] (zd (j1 (decide ((24 : Int) < (p1.size : Int))) h _ _ (zk [0,13]))))))
def ref1_shape_j5 (rec2 : Int → Option Int) (x5 : Int) : Option Int :=
    rec2 (i64.wrap (x5 + (1 : Int)))
def ref1_shape_l3 (rec2 : Int → Option Int) (p1 : GType) (x5 : Int) : Nat → Int → Option Int
  | 0, _ => none
  | k3 + 1, x6 =>
    ift (decide (x6 < x5))
      (bnd (at? p1.fields x6) fun e3 =>
       bnd (at? p1.fields x5) fun e4 =>
       ift (e3.name.toList == e4.name.toList)
         (some (5 : Int))
         ((ref1_shape_l3 rec2 p1 x5 k3) (i64.wrap (x6 + (1 : Int)))))
      (ref1_shape_j5 rec2 x5)
def ref1_shape_j6 : Option Int :=
    some (0 : Int)
def ref1_shape_l2 (p1 : GType) : Nat → Int → Option Int
  | 0, _ => none
  | k2 + 1, x5 =>
    ift (decide (x5 < (p1.fields.length : Int)))
      (ref1_shape_l3 (ref1_shape_l2 p1 k2) p1 x5 BIG (0 : Int))
      (ref1_shape_j6)
def ref1_shape_j4 (p1 : GType) : Option Int :=
    ref1_shape_l2 p1 BIG (0 : Int)
def ref1_shape_l1 (p1 : GType) : Nat → Int → Option Int
  | 0, _ => none
  | k1 + 1, x4 =>
    ift (decide (x4 < (p1.fields.length : Int)))
      (bnd (at? p1.fields x4) fun e2 =>
       bnd (ref1_Name e2.name) fun r5 =>
       ift (!r5)
         (some (4 : Int))
         ((ref1_shape_l1 p1 k1) (i64.wrap (x4 + (1 : Int)))))
      (ref1_shape_j4 p1)
def ref1_shape_j3 (p1 : GType) (x3 : Bool) : Option Int :=
    ift x3
      (some (1 : Int))
      (ift (p1.kind != (7 : Int))
         (some (0 : Int))
         (ref1_shape_l1 p1 BIG (0 : Int)))
def ref1_shape_j2 (p1 : GType) (x2 : Bool) : Option Int :=
    ift x2
      (some (1 : Int))
      (ift (p1.kind == (7 : Int))
         (ift ((p1.fields.length : Int) == (0 : Int))
            (ref1_shape_j3 p1 true)
            (bnd (ref1_Leaf p1.kind) fun r3 =>
             ift r3
               (ref1_shape_j3 p1 (decide ((0 : Int) < (p1.fields.length : Int))))
               (ref1_shape_j3 p1 false)))
         (bnd (ref1_Leaf p1.kind) fun r4 =>
          ift r4
            (ref1_shape_j3 p1 (decide ((0 : Int) < (p1.fields.length : Int))))
            (ref1_shape_j3 p1 false)))
def ref1_shape_j1 (p1 : GType) (x1 : Bool) : Option Int :=
    ift x1
      (some (1 : Int))
      (ift (p1.kind == (6 : Int))
         (ift ((p1.fields.length : Int) != (1 : Int))
            (ref1_shape_j2 p1 true)
            (bnd (at? p1.fields (0 : Int)) fun e1 =>
             ref1_shape_j2 p1 (!(e1.name.toList == (ByteArray.mk #[]).toList))))
         (ref1_shape_j2 p1 false))
def ref1_shape (p1 : GType) : Option Int :=
    bnd (ref1_within p1.kind (1 : Int) (7 : Int)) fun r1 =>
    ift (!r1)
      (some (3 : Int))
      (ift (p1.kind == (3 : Int))
         (bnd (ref1_within p1.scale (0 : Int) (12 : Int)) fun r2 =>
          ift (!r2)
            (ref1_shape_j1 p1 true)
            (ift (p1.kind != (3 : Int))
               (ref1_shape_j1 p1 (p1.scale != (0 : Int)))
               (ref1_shape_j1 p1 false)))
         (ift (p1.kind != (3 : Int))
            (ref1_shape_j1 p1 (p1.scale != (0 : Int)))
            (ref1_shape_j1 p1 false)))
abbrev qa1493 (p1 : GType) : List PV := [pi p1.kind, pi p1.scale, .ro (eField.els p1.fields)]
abbrev qa1495 (e3 : GField) : List PV := [pi e3.id, .s (.string e3.name), .s (.bool e3.need), pi e3.type.kind, pi e3.type.scale, .ro (eField.els e3.type.fields)]
abbrev qa1496 (e4 : GField) : List PV := [pi e4.id, .s (.string e4.name), .s (.bool e4.need), pi e4.type.kind, pi e4.type.scale, .ro (eField.els e4.type.fields)]
abbrev qa1498 (e2 : GField) : List PV := [pi e2.id, .s (.string e2.name), .s (.bool e2.need), pi e2.type.kind, pi e2.type.scale, .ro (eField.els e2.type.fields)]
abbrev qa1500 (e1 : GField) : List PV := [pi e1.id, .s (.string e1.name), .s (.bool e1.need), pi e1.type.kind, pi e1.type.scale, .ro (eField.els e1.type.fields)]
abbrev qa1515 (p1 : GType) : Fr := [(1, vR (qa1493 p1)), (13, vb (p1.kind == (3 : Int)))]
abbrev qa1518 (p1 : GType) : Fr := [(1, vR (qa1493 p1)), (19, vb false), (23, vb (p1.kind != (3 : Int)))]
theorem c_ref1_shape (p1 : GType) (r : Int) (h : ref1_shape p1 = some r) : PC Tryz.prog 109 [.ag [ci p1.kind, ci p1.scale, cl eField p1.fields]] (vi r) := by
 unfold ref1_shape at h
 refine zF 109 Tryz.f109 (zq fun K1 m1 => zr (zg [] 2 [1] (zd (m1 _ _ (zq fun K2 m2 => zq fun K3 m3 => ?_)))))
 obtain ⟨r1, c4, h⟩ := zB h
 refine zr (zu [] 2 [1,7] [(qa1493 p1)] (zl 73 [vi p1.kind, vi 1, vi 7] (vb r1) [(8, vb r1), (1, vR (qa1493 p1)), (7, vi p1.kind)] (c_ref1_within _ _ _ _ c4) (zg [] 1 [1,9] (zd (m3 _ _ (zC h (fun b5 h => ?_) (fun b5 h => ?_)))))))
 ·refine zq fun K6 m6 => zr (zg [] 1 [2] (zd (m6 _ _ (ze ?_))))
  obtain rfl := zj h
  exact zf [vi 3] (.one (.rfl _ rfl))
 ·refine zs (m2 _ _ (zq fun K7 m7 => zq fun K8 m8 => ?_))
  have j1 : ∀ (x1 : Bool), ref1_shape_j1 p1 x1 = some r → ∀ w0 w1, Sub 109 0 [] w0 w1 [(1, vR (qa1493 p1)), (28, vb x1)] [] → K8 w0 w1 := by
   intro x1 h w0 w1 hS
   unfold ref1_shape_j1 at h
   refine m8 _ _ (XW.sub hS ?_)
   refine zC h (fun b14 h => ?_) (fun b14 h => ?_)
   ·refine zq fun K15 m15 => zr (zg [] 1 [2] (zd (m15 _ _ (ze ?_))))
    obtain rfl := zj h
    exact zf [vi 1] (.one (.rfl _ rfl))
   ·refine zs (m7 _ _ (zq fun K16 m16 => zq fun K17 m17 => ?_))
    have j2 : ∀ (x2 : Bool), ref1_shape_j2 p1 x2 = some r → ∀ w0 w1, Sub 109 0 [] w0 w1 [(1, vR (qa1493 p1)), (45, vb x2)] [] → K17 w0 w1 := by
     intro x2 h w0 w1 hS
     unfold ref1_shape_j2 at h
     refine m17 _ _ (XW.sub hS ?_)
     refine zC h (fun b21 h => ?_) (fun b21 h => ?_)
     ·refine zq fun K22 m22 => zr (zg [] 1 [2] (zd (m22 _ _ (ze ?_))))
      obtain rfl := zj h
      exact zf [vi 1] (.one (.rfl _ rfl))
     ·refine zs (m16 _ _ (zq fun K23 m23 => zq fun K24 m24 => ?_))
      have j3 : ∀ (x3 : Bool), ref1_shape_j3 p1 x3 = some r → ∀ w0 w1, Sub 109 0 [] w0 w1 [(1, vR (qa1493 p1)), (65, vb x3)] [] → K24 w0 w1 := by
       intro x3 h w0 w1 hS
       unfold ref1_shape_j3 at h
       refine m24 _ _ (XW.sub hS ?_)
       refine zC h (fun b31 h => ?_) (fun b31 h => ?_)
       ·refine zq fun K32 m32 => zr (zg [] 1 [2] (zd (m32 _ _ (ze ?_))))
        obtain rfl := zj h
        exact zf [vi 1] (.one (.rfl _ rfl))
       ·refine zs (m23 _ _ (zq fun K33 m33 => zq fun K34 m34 => zr (zu [] 3 [1,68] [(qa1493 p1)] (zd (m34 _ _ ?_)))))
        refine zC h (fun b35 h => ?_) (fun b35 h => ?_)
        ·refine zq fun K36 m36 => zr (zv [] 1 [2] [] [(2, vi 0)] [] (zd (m36 _ _ (ze ?_))))
         obtain rfl := zj h
         exact zf [vi 0] (.one (.rfl _ rfl))
        ·refine zs (m33 _ _ (zq fun K37 m37 => ?_))
         have j4 : ∀ (_ : Unit), ref1_shape_j4 p1 = some r → ∀ w0 w1, Sub 109 0 [] w0 w1 [(1, vR (qa1493 p1))] [] → K37 w0 w1 := by
          intro _ h w0 w1 hS
          unfold ref1_shape_j4 at h
          refine m37 _ _ (XW.sub hS ?_)
          refine zq fun K49 m49 => ?_
          have j6 : ∀ (_ : Unit), ref1_shape_j6 = some r → ∀ w0 w1, Sub 109 0 [] w0 w1 [] [] → K49 w0 w1 := by
           intro _ h w0 w1 hS
           unfold ref1_shape_j6 at h
           refine m49 _ _ (XW.sub hS ?_)
           refine zq fun K66 m66 => zr (zg [] 1 [2] (zd (m66 _ _ (ze ?_))))
           obtain rfl := zj h
           exact zf [vi 0] (.one (.rfl _ rfl))
          refine zq fun K50 m50 => zr (zv [] 3 [1,86] [[pi p1.kind, pi p1.scale, .ro (eField.els p1.fields)]] [(1, vR [pi p1.kind, pi p1.scale, .ro (eField.els p1.fields)]), (86, vi ((eField.els p1.fields).length : Int))] [] ?_)
          rw [eField.len p1.fields]
          refine zg [] 1 [1,86,87] (zd (m50 _ _ (zb 2 (XW.rounds' BIG (x := cd Tryz.f109 [1,1,1,1,1,1,1,0,1,0,0]) (by kernel_rfl) fun Q2 hQ2 => ?_))))
          have hL2 : ∀ (k2 : Nat) (x5 : Int), ref1_shape_l2 p1 k2 x5 = some r → XR Tryz.prog 109 0 [] (cd Tryz.f109 [1,1,1,1,1,1,1,0,1,0,0]) Q2 k2 [(1, vR (qa1493 p1)), (86, vi (p1.fields.length : Int)), (87, vi x5)] [] := by
           intro k2
           induction k2 with
           | zero => intro x5 h; rw [ref1_shape_l2.eq_1] at h; cases h
           | succ k2 ih2 =>
            intro x5 h
            rw [ref1_shape_l2.eq_2] at h
            refine zq fun K51 m51 => zr (zg [] 1 [1,86,87,88] (zd (m51 _ _ (zq fun K52 m52 => zC h (fun b53 h => ?_) (fun b53 h => ?_)))))
            ·refine zs (m52 _ _ (zq fun K54 m54 => ?_))
             have j5 : ∀ (_ : Unit), ref1_shape_j5 (ref1_shape_l2 p1 k2) x5 = some r → ∀ w0 w1, Sub 109 0 [] w0 w1 [(1, vR (qa1493 p1)), (86, vi (p1.fields.length : Int)), (87, vi x5)] [] → K54 w0 w1 := by
              intro _ h w0 w1 hS
              unfold ref1_shape_j5 at h
              refine m54 _ _ (XW.sub hS ?_)
              exact zr (zg [] 2 [1,86,87] (zd (XR.sub (zk [1,86,87]) (ih2 (i64.wrap (x5 + (1 : Int))) h))))
             refine zb 3 (zq fun K55 m55 => zr (zg [] 2 [1,4,86,87] (zd (m55 _ _ (zq fun K56 m56 => zr ?_)))))
             refine zv [] 1 [1,4,5,86,87] [] [(1, vR [pi p1.kind, pi p1.scale, .ro (eField.els p1.fields)]), (4, vi x5), (5, vi 0), (86, vi (p1.fields.length : Int)), (87, vi x5)] [] (zd (m56 _ _ (zb 4 (XW.rounds' BIG (x := cd Tryz.f109 [1,1,1,1,1,1,1,0,1,0,0,1,1,0,0,1,1,0,0]) (by kernel_rfl) fun Q3 hQ3 => ?_))))
             have hL3 : ∀ (k3 : Nat) (x6 : Int), ref1_shape_l3 (ref1_shape_l2 p1 k2) p1 x5 k3 x6 = some r → XR Tryz.prog 109 0 [] (cd Tryz.f109 [1,1,1,1,1,1,1,0,1,0,0,1,1,0,0,1,1,0,0]) Q3 k3 [(1, vR (qa1493 p1)), (4, vi x5), (5, vi x6), (86, vi (p1.fields.length : Int)), (87, vi x5)] [] := by
              intro k3
              induction k3 with
              | zero => intro x6 h; rw [ref1_shape_l3.eq_1] at h; cases h
              | succ k3 ih3 =>
               intro x6 h
               rw [ref1_shape_l3.eq_2] at h
               refine zq fun K57 m57 => zq fun K58 m58 => zr (zg [] 3 [1,4,5,86,87,92] (zd (m58 _ _ (zC h (fun b59 h => ?_) (fun b59 h => ?_)))))
               ·refine zs (m57 _ _ (zq fun K60 m60 => zb 5 (zq fun K61 m61 => ?_)))
                obtain ⟨e3, a62, h⟩ := zB h
                obtain ⟨e4, a63, h⟩ := zB h
                refine zw 12 [(106, vs e4.name), (105, .one (.pv (.rp (eField.els p1.fields) x5.toNat 1))), (104, .one (.pv (.rp (eField.els p1.fields) x5.toNat 0))), (103, vi x5), (102, vl eField p1.fields), (101, .one (.pv (.rp [(qa1493 p1)] 0 2))), (100, vs e3.name), (99, .one (.pv (.rp (eField.els p1.fields) x6.toNat 1))), (98, .one (.pv (.rp (eField.els p1.fields) x6.toNat 0))), (97, vi x6), (96, vl eField p1.fields), (95, .one (.pv (.rp [(qa1493 p1)] 0 2))), (1, vR (qa1493 p1)), (4, vi x5), (5, vi x6), (86, vi (p1.fields.length : Int)), (87, vi x5), (92, vb (decide (x6 < x5)))] ?_ ?_
                ·refine zyo 12 [(qa1493 p1), (qa1495 e3), (qa1493 p1), (qa1496 e4)] [([(qa1493 p1)] : List (List PV))[0]? = some (qa1493 p1), 0 ≤ x6 ∧ x6 < ((eField.els p1.fields).length : Int) ∧ elemsOk 6 (eField.els p1.fields), (eField.els p1.fields)[x6.toNat]? = some (qa1495 e3), ([(qa1493 p1)] : List (List PV))[0]? = some (qa1493 p1), 0 ≤ x5 ∧ x5 < ((eField.els p1.fields).length : Int) ∧ elemsOk 6 (eField.els p1.fields), (eField.els p1.fields)[x5.toNat]? = some (qa1496 e4)] (⟨rfl, eField.inb a62, ((eField.get a62).trans (by rcases e3 with ⟨_, _, _, ⟨_, _, _⟩⟩; rfl)), rfl, eField.inb a63, ((eField.get a63).trans (by rcases e4 with ⟨_, _, _, ⟨_, _, _⟩⟩; rfl)), trivial⟩) ?_
                 exact zyd
                refine zg [] 1 [1,4,5,86,87,107] (zd (m61 _ _ (zC h (fun b64 h => ?_) (fun b64 h => ?_))))
                ·refine zq fun K65 m65 => zr (zv [] 1 [2] [] [(2, vi 5)] [] (zd (m65 _ _ (ze (hQ3 _ _ _ (hQ2 _ _ _ ?_))))))
                 obtain rfl := zj h
                 exact zf [vi 5] (.one (.rfl _ rfl))
                ·exact zs (m60 _ _ (zr (zg [] 3 [1,4,5,86,87] (zd (XR.sub (zk [1,4,5,86,87]) (ih3 (i64.wrap (x6 + (1 : Int))) h))))))
               ·exact zx 4 (hQ3 _ _ _ (j5 () h _ _ (zk [1,86,87])))
             exact XR.sub (zk [1,4,5,86,87]) (hL3 BIG (0 : Int) h)
            ·exact zx 2 (hQ2 _ _ _ (j6 () h _ _ (zk [])))
          exact XR.sub (zk [1,86,87]) (hL2 BIG (0 : Int) h)
         refine zq fun K38 m38 => zr (zv [] 3 [1,71] [[pi p1.kind, pi p1.scale, .ro (eField.els p1.fields)]] [(1, vR [pi p1.kind, pi p1.scale, .ro (eField.els p1.fields)]), (71, vi ((eField.els p1.fields).length : Int))] [] ?_)
         rw [eField.len p1.fields]
         refine zg [] 1 [1,71,72] (zd (m38 _ _ (zb 0 (XW.rounds' BIG (x := cd Tryz.f109 [1,1,1,1,1,1,0,1,0,0]) (by kernel_rfl) fun Q1 hQ1 => ?_))))
         have hL1 : ∀ (k1 : Nat) (x4 : Int), ref1_shape_l1 p1 k1 x4 = some r → XR Tryz.prog 109 0 [] (cd Tryz.f109 [1,1,1,1,1,1,0,1,0,0]) Q1 k1 [(1, vR (qa1493 p1)), (71, vi (p1.fields.length : Int)), (72, vi x4)] [] := by
          intro k1
          induction k1 with
          | zero => intro x4 h; rw [ref1_shape_l1.eq_1] at h; cases h
          | succ k1 ih1 =>
           intro x4 h
           rw [ref1_shape_l1.eq_2] at h
           refine zq fun K39 m39 => zr (zg [] 1 [1,71,72,73] (zd (m39 _ _ (zq fun K40 m40 => zC h (fun b41 h => ?_) (fun b41 h => ?_)))))
           ·refine zs (m40 _ _ (zq fun K42 m42 => zb 1 (zq fun K43 m43 => zr (zg [] 2 [1,3,71,72] (zd ?_)))))
            refine m43 _ _ (zq fun K44 m44 => ?_)
            obtain ⟨e2, a45, h⟩ := zB h
            obtain ⟨r5, c46, h⟩ := zB h
            refine zr ?_
            refine zp [] 6 [1,71,72,80] [(qa1493 p1), (qa1498 e2)] [(1, vR (qa1493 p1)), (71, vi (p1.fields.length : Int)), (72, vi x4), (80, vs e2.name)] [] [([(qa1493 p1)] : List (List PV))[0]? = some (qa1493 p1), 0 ≤ x4 ∧ x4 < ((eField.els p1.fields).length : Int) ∧ elemsOk 6 (eField.els p1.fields), (eField.els p1.fields)[x4.toNat]? = some (qa1498 e2)] (⟨rfl, eField.inb a45, ((eField.get a45).trans (by rcases e2 with ⟨_, _, _, ⟨_, _, _⟩⟩; rfl)), trivial⟩) ?_
            refine za (c_ref1_Name _ _ c46) (zg [] 1 [1,71,72,82] (zd (m44 _ _ (zC h (fun b47 h => ?_) (fun b47 h => ?_)))))
            ·refine zq fun K48 m48 => zr (zv [] 1 [2] [] [(2, vi 4)] [] (zd (m48 _ _ (ze (hQ1 _ _ _ ?_)))))
             obtain rfl := zj h
             exact zf [vi 4] (.one (.rfl _ rfl))
            ·exact zs (m42 _ _ (zr (zg [] 2 [1,71,72] (zd (XR.sub (zk [1,71,72]) (ih1 (i64.wrap (x4 + (1 : Int))) h))))))
           ·exact zx 0 (hQ1 _ _ _ (j4 () h _ _ (zk [1])))
         exact XR.sub (zk [1,71,72]) (hL1 BIG (0 : Int) h)
      rcases zW h with ⟨b25, h⟩ | ⟨b25, h⟩
      ·rcases zW h with ⟨b26, h⟩ | ⟨b26, h⟩
       ·refine zr (zu [] 4 [1,49] [[pi p1.kind, pi p1.scale, .ro (eField.els p1.fields)]] (zt 49 b25 (zv [] 3 [1,49,52] [[pi p1.kind, pi p1.scale, .ro (eField.els p1.fields)]] [(1, vR [pi p1.kind, pi p1.scale, .ro (eField.els p1.fields)]), (49, vb true), (52, vi ((eField.els p1.fields).length : Int))] [] ?_)))
        rw [eField.len p1.fields]
        exact zg [] 3 [1,55] (zt 55 b26 (zg [] 10 [1,65] (zd (j3 true h _ _ (zk [1,65])))))
       ·obtain ⟨r3, c27, h⟩ := zB h
        rcases zW h with ⟨b28, h⟩ | ⟨b28, h⟩
        ·refine zr (zv [] 4 [1,49] [[pi p1.kind, pi p1.scale, .ro (eField.els p1.fields)]] [(1, vR [pi p1.kind, pi p1.scale, .ro (eField.els p1.fields)]), (49, vb (p1.kind == (7 : Int)))] [] (zt 49 b25 (zv [] 3 [1,49,52] [[pi p1.kind, pi p1.scale, .ro (eField.els p1.fields)]] [(1, vR [pi p1.kind, pi p1.scale, .ro (eField.els p1.fields)]), (49, vb true), (52, vi ((eField.els p1.fields).length : Int))] [] ?_)))
         rw [eField.len p1.fields]
         refine zg [] 3 [1,55] (zt 55 b26 (zu [] 2 [1,55,57] [[pi p1.kind, pi p1.scale, .ro (eField.els p1.fields)]] (zl 26 [vi p1.kind] (vb r3) [(58, vb r3), (1, vR [pi p1.kind, pi p1.scale, .ro (eField.els p1.fields)]), (55, vb false), (57, vi p1.kind)] (c_ref1_Leaf _ _ c27) (zg [] 1 [1,55,59] (zt 59 b28 (zv [] 3 [1,55,59,62] [[pi p1.kind, pi p1.scale, .ro (eField.els p1.fields)]] [(1, vR [pi p1.kind, pi p1.scale, .ro (eField.els p1.fields)]), (55, vb false), (59, vb true), (62, vi ((eField.els p1.fields).length : Int))] [] ?_))))))
         rw [eField.len p1.fields]
         exact zg [] 3 [1,65] (zd (j3 (decide ((0 : Int) < (p1.fields.length : Int))) h _ _ (zk [1,65])))
        ·refine zr (zu [] 4 [1,49] [[pi p1.kind, pi p1.scale, .ro (eField.els p1.fields)]] (zt 49 b25 (zv [] 3 [1,49,52] [[pi p1.kind, pi p1.scale, .ro (eField.els p1.fields)]] [(1, vR [pi p1.kind, pi p1.scale, .ro (eField.els p1.fields)]), (49, vb true), (52, vi ((eField.els p1.fields).length : Int))] [] ?_)))
         rw [eField.len p1.fields]
         refine zg [] 3 [1,55] (zt 55 b26 (zu [] 2 [1,55,57] [(qa1493 p1)] (zl 26 [vi p1.kind] (vb r3) [(58, vb r3), (1, vR (qa1493 p1)), (55, vb false), (57, vi p1.kind)] (c_ref1_Leaf _ _ c27) (zg [] 1 [1,55,59] (zt 59 b28 (zg [] 6 [1,65] (zd ?_)))))))
         exact j3 false h _ _ (zk [1,65])
      ·obtain ⟨r4, c29, h⟩ := zB h
       rcases zW h with ⟨b30, h⟩ | ⟨b30, h⟩
       ·refine zr (zu [] 4 [1,49] [[pi p1.kind, pi p1.scale, .ro (eField.els p1.fields)]] (zt 49 b25 (zv [] 8 [1,55,57] [[pi p1.kind, pi p1.scale, .ro (eField.els p1.fields)]] [(1, vR [pi p1.kind, pi p1.scale, .ro (eField.els p1.fields)]), (55, vb false), (57, vi p1.kind)] [] (za (c_ref1_Leaf _ _ c29) (zg [] 1 [1,55,59] (zt 59 b30 (zv [] 3 [1,55,59,62] [[pi p1.kind, pi p1.scale, .ro (eField.els p1.fields)]] [(1, vR [pi p1.kind, pi p1.scale, .ro (eField.els p1.fields)]), (55, vb false), (59, vb true), (62, vi ((eField.els p1.fields).length : Int))] [] ?_)))))))
        rw [eField.len p1.fields]
        exact zg [] 3 [1,65] (zd (j3 (decide ((0 : Int) < (p1.fields.length : Int))) h _ _ (zk [1,65])))
       ·refine zr (zu [] 4 [1,49] [(qa1493 p1)] (zt 49 b25 (zv [] 8 [1,55,57] [(qa1493 p1)] [(1, vR (qa1493 p1)), (55, vb false), (57, vi p1.kind)] [] (za (c_ref1_Leaf _ _ c29) (zg [] 1 [1,55,59] (zt 59 b30 (zv [] 6 [1,65] [] [(1, vR (qa1493 p1)), (65, vb false)] [] ?_)))))))
        exact zd (j3 false h _ _ (zk [1,65]))
    rcases zW h with ⟨b18, h⟩ | ⟨b18, h⟩
    ·rcases zW h with ⟨b19, h⟩ | ⟨b19, h⟩
     ·refine zr (zu [] 4 [1,32] [[pi p1.kind, pi p1.scale, .ro (eField.els p1.fields)]] (zt 32 b18 (zv [] 3 [1,32,35] [[pi p1.kind, pi p1.scale, .ro (eField.els p1.fields)]] [(1, vR [pi p1.kind, pi p1.scale, .ro (eField.els p1.fields)]), (32, vb true), (35, vi ((eField.els p1.fields).length : Int))] [] ?_)))
      rw [eField.len p1.fields]
      exact zg [] 2 [1,32,37] (zt 37 b19 (zg [] 8 [1,45] (zd (j2 true h _ _ (zk [1,45])))))
     ·obtain ⟨e1, a20, h⟩ := zB h
      refine zr (zv [] 4 [1,32] [[pi p1.kind, pi p1.scale, .ro (eField.els p1.fields)]] [(1, vR [pi p1.kind, pi p1.scale, .ro (eField.els p1.fields)]), (32, vb (p1.kind == (6 : Int)))] [] (zt 32 b18 (zv [] 3 [1,32,35] [[pi p1.kind, pi p1.scale, .ro (eField.els p1.fields)]] [(1, vR [pi p1.kind, pi p1.scale, .ro (eField.els p1.fields)]), (32, vb true), (35, vi ((eField.els p1.fields).length : Int))] [] ?_)))
      rw [eField.len p1.fields]
      refine zg [] 2 [1,32,37] (zt 37 b19 ?_)
      refine zo [] 8 [1,45] [(qa1493 p1), (qa1500 e1)] [([(qa1493 p1)] : List (List PV))[0]? = some (qa1493 p1), 0 ≤ (0 : Int) ∧ (0 : Int) < ((eField.els p1.fields).length : Int) ∧ elemsOk 6 (eField.els p1.fields), (eField.els p1.fields)[(0 : Int).toNat]? = some (qa1500 e1)] (⟨rfl, eField.inb a20, ((eField.get a20).trans (by rcases e1 with ⟨_, _, _, ⟨_, _, _⟩⟩; rfl)), trivial⟩) ?_
      exact zd (j2 (!(e1.name.toList == (ByteArray.mk #[]).toList)) h _ _ (zk [1,45]))
    ·exact zr (zu [] 4 [1,32] [(qa1493 p1)] (zt 32 b18 (zv [] 13 [1,45] [] [(1, vR (qa1493 p1)), (45, vb false)] [] (zd (j2 false h _ _ (zk [1,45]))))))
  rcases zW h with ⟨b9, h⟩ | ⟨b9, h⟩
  ·obtain ⟨r2, c10, h⟩ := zB h
   rcases zW h with ⟨b11, h⟩ | ⟨b11, h⟩
   ·refine zr (zv [] 4 [1,13] [(qa1493 p1)] (qa1515 p1) [] (zt 13 b9 (zu [] 2 [1,13,15] [(qa1493 p1)] (za (c_ref1_within _ _ _ _ c10) (zv [] 3 [1,19] [] [(1, vR (qa1493 p1)), (19, vb (!r2))] [] (zt 19 b11 (zg [] 9 [1,28] ?_)))))))
    exact zd (j1 true h _ _ (zk [1,28]))
   ·rcases zW h with ⟨b12, h⟩ | ⟨b12, h⟩
    ·refine zr (zu [] 4 [1,13] [(qa1493 p1)] (zt 13 b9 (zv [] 2 [1,13,15] [(qa1493 p1)] [(1, vR (qa1493 p1)), (13, vb true), (15, vi p1.scale)] [] (za (c_ref1_within _ _ _ _ c10) (zg [] 3 [1,19] (zt 19 b11 (zv [] 4 [1,19,23] [(qa1493 p1)] (qa1518 p1) [] ?_)))))))
     exact zt 23 b12 (zu [] 5 [1,28] [(qa1493 p1)] (zd (j1 (p1.scale != (0 : Int)) h _ _ (zk [1,28]))))
    ·refine zr (zu [] 4 [1,13] [(qa1493 p1)] (zt 13 b9 (zv [] 2 [1,13,15] [(qa1493 p1)] [(1, vR (qa1493 p1)), (13, vb true), (15, vi p1.scale)] [] (za (c_ref1_within _ _ _ _ c10) (zg [] 3 [1,19] (zt 19 b11 (zv [] 4 [1,19,23] [(qa1493 p1)] (qa1518 p1) [] ?_)))))))
     exact zt 23 b12 (zg [] 5 [1,28] (zd (j1 false h _ _ (zk [1,28]))))
  ·rcases zW h with ⟨b13, h⟩ | ⟨b13, h⟩
   ·exact zr (zv [] 4 [1,13] [(qa1493 p1)] (qa1515 p1) [] (zt 13 b9 (zu [] 10 [1,19,23] [(qa1493 p1)] (zt 23 b13 (zu [] 5 [1,28] [(qa1493 p1)] (zd (j1 (p1.scale != (0 : Int)) h _ _ (zk [1,28]))))))))
   ·exact zr (zv [] 4 [1,13] [(qa1493 p1)] (qa1515 p1) [] (zt 13 b9 (zu [] 10 [1,19,23] [(qa1493 p1)] (zt 23 b13 (zg [] 5 [1,28] (zd (j1 false h _ _ (zk [1,28]))))))))
def ref1_checkType_j2 (z3 : Int) : Option (Int × Int) :=
    some ((0 : Int), z3)
def ref1_checkType_l1 (q_ref1_checkType : GType → Int → Int → Option (Int × Int)) (p1 : GType) (p2 : Int) : Nat → Int → Int → Option (Int × Int)
  | 0, _, _ => none
  | k1 + 1, z2, x1 =>
    ift (decide (x1 < (p1.fields.length : Int)))
      (bnd (at? p1.fields x1) fun e1 =>
       bnd (q_ref1_checkType e1.type (i64.wrap (p2 + (1 : Int))) z2) fun r3 =>
       ift (r3.1 != (0 : Int))
         (some (r3.1, r3.2))
         ((ref1_checkType_l1 q_ref1_checkType p1 p2 k1) r3.2 (i64.wrap (x1 + (1 : Int)))))
      (ref1_checkType_j2 z2)
def ref1_checkType_j1 (q_ref1_checkType : GType → Int → Int → Option (Int × Int)) (p1 : GType) (p2 : Int) (z1 : Int) : Option (Int × Int) :=
    bnd (ref1_shape p1) fun r2 =>
    ift (r2 != (0 : Int))
      (some (r2, z1))
      (ref1_checkType_l1 q_ref1_checkType p1 p2 BIG z1 (0 : Int))
def ref1_checkType : Nat → GType → Int → Int → Option (Int × Int)
  | 0, _, _, _ => none
  | k0 + 1, p1, p2, p3 =>
    ift (decide ((4 : Int) < p2))
      (some ((7 : Int), p3))
      (bnd (ref1_Leaf p1.kind) fun r1 =>
       ift r1
         (ift (p3 == (40 : Int))
            (some ((7 : Int), p3))
            (ref1_checkType_j1 (ref1_checkType k0) p1 p2 (i64.wrap (p3 + (1 : Int)))))
         (ref1_checkType_j1 (ref1_checkType k0) p1 p2 p3))
abbrev qa1523 (p1 : GType) : List PV := [pi p1.kind, pi p1.scale, .ro (eField.els p1.fields)]
abbrev qa1529 (e1 : GField) : List PV := [pi e1.id, .s (.string e1.name), .s (.bool e1.need), pi e1.type.kind, pi e1.type.scale, .ro (eField.els e1.type.fields)]
abbrev qa1530 (e1 : GField) : List CV := [ci e1.type.kind, ci e1.type.scale, cl eField e1.type.fields]
theorem c_ref1_checkType : ∀ (k0 : Nat) (p1 : GType) (p2 : Int) (p3 : Int) (r : (Int × Int)), ref1_checkType k0 p1 p2 p3 = some r → MC Tryz.prog 66 [.ag [ci p1.kind, ci p1.scale, cl eField p1.fields], vi p2, vq 0] [.box [ci p3]] (vi r.1) [.box [ci r.2]]
 | 0, _, _, _, r, h => by rw [ref1_checkType.eq_1] at h; cases h
 | k0 + 1, p1, p2, p3, r, h => by
  rw [ref1_checkType.eq_2] at h
  refine MC.of 1 (n := 49) (fn := Tryz.f66) (c := cd Tryz.f66 []) (by kernel_rfl) (by kernel_rfl) (by kernel_rfl) (Nat.le_of_ble_eq_true rfl) rfl (zq fun K1 m1 => zr (zg [] 2 [1,2,3] (zd (m1 _ _ (zq fun K2 m2 => zq fun K3 m3 => ?_)))))
  refine zr (zg [] 2 [1,2,3,11] (zd (m3 _ _ (zC h (fun b4 h => ?_) (fun b4 h => ?_)))))
  ·refine zq fun K5 m5 => zr (zv [] 1 [6] [] [(6, vi 7)] [.box [ci p3]] (zd (m5 _ _ (ze ?_))))
   obtain rfl := zj h
   exact FinM.fin (.inr rfl) [] [vi 7] [] (by kernel_rfl) trivial (by kernel_rfl) (by kernel_rfl) (.one (.rfl _ rfl))
  ·refine zs (m2 _ _ (zq fun K6 m6 => ?_))
   have j1 : ∀ (z1 : Int), ref1_checkType_j1 (ref1_checkType k0) p1 p2 z1 = some r → ∀ w0 w1, Sub 49 1 [] w0 w1 [(1, vi p2), (2, vq 0), (3, vR (qa1523 p1))] [.box [ci z1]] → K6 w0 w1 := by
    intro z1 h w0 w1 hS
    unfold ref1_checkType_j1 at h
    refine m6 _ _ (XW.sub hS ?_)
    refine zq fun K14 m14 => zq fun K15 m15 => ?_
    obtain ⟨r2, c16, h⟩ := zB h
    refine zr (zu [] 1 [1,2,3,24] [(qa1523 p1)] (za (c_ref1_shape _ _ c16) (zv [] 1 [1,2,3,7] [] [(1, vi p2), (2, vq 0), (3, vR (qa1523 p1)), (7, vi r2)] [.box [ci z1]] (zd (m15 _ _ (zq fun K17 m17 => zr ?_))))))
    refine zg [] 2 [1,2,3,7,27] (zd (m17 _ _ (zC h (fun b18 h => ?_) (fun b18 h => ?_))))
    ·refine zq fun K19 m19 => zr (zv [] 2 [6] [] [(6, vi r2)] [.box [ci z1]] (zd (m19 _ _ (ze ?_))))
     obtain rfl := zj h
     exact FinM.fin (.inr rfl) [] [vi r2] [] (by kernel_rfl) trivial (by kernel_rfl) (by kernel_rfl) (.one (.rfl _ rfl))
    ·refine zs (m14 _ _ (zq fun K20 m20 => ?_))
     have j2 : ∀ (z3 : Int), ref1_checkType_j2 z3 = some r → ∀ w0 w1, Sub 49 1 [] w0 w1 [] [.box [ci z3]] → K20 w0 w1 := by
      intro z3 h w0 w1 hS
      unfold ref1_checkType_j2 at h
      refine m20 _ _ (XW.sub hS ?_)
      refine zq fun K33 m33 => zr (zv [] 1 [6] [] [(6, vi 0)] [.box [ci z3]] (zd (m33 _ _ (ze ?_))))
      obtain rfl := zj h
      exact FinM.fin (.inr rfl) [] [vi 0] [] (by kernel_rfl) trivial (by kernel_rfl) (by kernel_rfl) (.one (.rfl _ rfl))
     refine zq fun K21 m21 => zr (zv [] 3 [1,2,3,31] [[pi p1.kind, pi p1.scale, .ro (eField.els p1.fields)]] [(1, vi p2), (2, vq 0), (3, vR [pi p1.kind, pi p1.scale, .ro (eField.els p1.fields)]), (31, vi ((eField.els p1.fields).length : Int))] [.box [ci z1]] ?_)
     rw [eField.len p1.fields]
     refine zg [] 1 [1,2,3,31,32] (zd (m21 _ _ (zb 0 (XW.rounds' BIG (x := cd Tryz.f66 [1,1,1,1,0,1,0,0]) (by kernel_rfl) fun Q1 hQ1 => ?_))))
     have hL1 : ∀ (k1 : Nat) (z2 : Int) (x1 : Int), ref1_checkType_l1 (ref1_checkType k0) p1 p2 k1 z2 x1 = some r → XR Tryz.prog 49 1 [] (cd Tryz.f66 [1,1,1,1,0,1,0,0]) Q1 k1 [(1, vi p2), (2, vq 0), (3, vR (qa1523 p1)), (31, vi (p1.fields.length : Int)), (32, vi x1)] [.box [ci z2]] := by
      intro k1
      induction k1 with
      | zero => intro z2 x1 h; rw [ref1_checkType_l1.eq_1] at h; cases h
      | succ k1 ih1 =>
       intro z2 x1 h
       rw [ref1_checkType_l1.eq_2] at h
       refine zq fun K22 m22 => zr (zg [] 1 [1,2,3,31,32,33] (zd (m22 _ _ (zq fun K23 m23 => zC h (fun b24 h => ?_) (fun b24 h => ?_)))))
       ·refine zs (m23 _ _ (zq fun K25 m25 => zb 1 (zq fun K26 m26 => zr (zg [] 2 [1,2,3,8,31,32] (zd ?_)))))
        refine m26 _ _ (zq fun K27 m27 => ?_)
        obtain ⟨e1, a28, h⟩ := zB h
        obtain ⟨r3, c29, h⟩ := zB h
        refine zr ?_
        refine zp [] 9 [1,2,3,31,32,40,42,43] [(qa1523 p1), (qa1529 e1)] [(1, vi p2), (2, vq 0), (3, vR (qa1523 p1)), (31, vi (p1.fields.length : Int)), (32, vi x1), (40, .ag (qa1530 e1)), (42, vi (i64.wrap (p2 + (1 : Int)))), (43, vq 0)] [.box [ci z2]] [([(qa1523 p1)] : List (List PV))[0]? = some (qa1523 p1), 0 ≤ x1 ∧ x1 < ((eField.els p1.fields).length : Int) ∧ elemsOk 6 (eField.els p1.fields), (eField.els p1.fields)[x1.toNat]? = some (qa1529 e1)] (⟨rfl, eField.inb a28, ((eField.get a28).trans (by rcases e1 with ⟨_, _, _, ⟨_, _, _⟩⟩; rfl)), trivial⟩) ?_
        refine XO.calm 66 [.ag (qa1530 e1), vi (i64.wrap (p2 + (1 : Int))), vq 0] [.box [ci z2]] [.box [ci r3.2]] (vi r3.1) [0] [(44, vi r3.1), (1, vi p2), (2, vq 0), (3, vR (qa1523 p1)), (31, vi (p1.fields.length : Int)), (32, vi x1), (40, .ag (qa1530 e1)), (42, vi (i64.wrap (p2 + (1 : Int)))), (43, vq 0)] [.box [ci r3.2]] (by kernel_rfl) (c_ref1_checkType k0 _ _ _ _ c29) (by kernel_rfl) (by kernel_rfl) (by kernel_rfl) (by kernel_rfl) ?_
        refine zg [] 1 [1,2,3,9,31,32] (zd (m27 _ _ (zq fun K30 m30 => zr (zg [] 2 [1,2,3,9,31,32,46] (zd (m30 _ _ ?_))))))
        refine zC h (fun b31 h => ?_) (fun b31 h => ?_)
        ·refine zq fun K32 m32 => zr (zv [] 2 [6] [] [(6, vi r3.1)] [.box [ci r3.2]] (zd (m32 _ _ (ze (hQ1 _ _ _ ?_)))))
         obtain rfl := zj h
         exact FinM.fin (.inr rfl) [] [vi r3.1] [] (by kernel_rfl) trivial (by kernel_rfl) (by kernel_rfl) (.one (.rfl _ rfl))
        ·exact zs (m25 _ _ (zr (zg [] 2 [1,2,3,31,32] (zd (XR.sub (zk [1,2,3,31,32]) (ih1 r3.2 (i64.wrap (x1 + (1 : Int))) h))))))
       ·exact zx 0 (hQ1 _ _ _ (j2 z2 h _ _ (zk [])))
     exact XR.sub (zk [1,2,3,31,32]) (hL1 BIG z1 (0 : Int) h)
   refine zq fun K7 m7 => ?_
   obtain ⟨r1, c8, h⟩ := zB h
   refine zr (zu [] 2 [1,2,3,13] [(qa1523 p1)] (za (c_ref1_Leaf _ _ c8) (zd (m7 _ _ (zC h (fun b9 h => ?_) (fun b9 h => ?_))))))
   ·refine zq fun K10 m10 => zq fun K11 m11 => zr (zv [] 4 [1,2,3,18] [] [(1, vi p2), (2, vq 0), (3, vR (qa1523 p1)), (18, vb (p3 == (40 : Int)))] [.box [ci p3]] (zd (m11 _ _ (zC h (fun b12 h => ?_) (fun b12 h => ?_)))))
    ·refine zq fun K13 m13 => zr (zv [] 1 [6] [] [(6, vi 7)] [.box [ci p3]] (zd (m13 _ _ (ze ?_))))
     obtain rfl := zj h
     exact FinM.fin (.inr rfl) [] [vi 7] [] (by kernel_rfl) trivial (by kernel_rfl) (by kernel_rfl) (.one (.rfl _ rfl))
    ·exact zs (m10 _ _ (zr (zg [] 6 [1,2,3] (zd (j1 (i64.wrap (p3 + (1 : Int))) h _ _ (zk [1,2,3]))))))
   ·exact zs (j1 p3 h _ _ (zk [1,2,3]))
def ref1_CheckType (p1 : GType) : Option Int :=
    bnd (ref1_checkType BIG p1 (1 : Int) (0 : Int)) fun r1 =>
    some r1.1
abbrev qa1545 (p1 : GType) : List CV := [ci p1.kind, ci p1.scale, cl eField p1.fields]
theorem c_ref1_CheckType (p1 : GType) (r : Int) (h : ref1_CheckType p1 = some r) : PC Tryz.prog 24 [.ag (qa1545 p1)] (vi r) := by
 unfold ref1_CheckType at h
 refine zF 6 Tryz.f24 (zq fun K1 m1 => zr (zg [3] 2 [1] (zd (m1 _ _ (zq fun K2 m2 => zr ?_)))))
 refine zg [3] 2 [1,3] (zd (m2 _ _ (zq fun K3 m3 => ?_)))
 obtain ⟨r1, c4, h⟩ := zB h
 refine zr (zv [3] 1 [3,4] [[pi p1.kind, pi p1.scale, .ro (eField.els p1.fields)]] [(3, vq 0), (4, .ag (qa1545 p1))] [.box [ci 0]] (XO.calm 66 [.ag (qa1545 p1), vi 1, vq 0] [.box [ci 0]] [.box [ci r1.2]] (vi r1.1) [0] [(5, vi r1.1), (3, vq 0), (4, .ag (qa1545 p1))] [.box [ci r1.2]] (by kernel_rfl) (c_ref1_checkType BIG _ _ _ _ c4) (by kernel_rfl) (by kernel_rfl) (by kernel_rfl) (by kernel_rfl) (zg [3] 1 [2] (zd (m3 _ _ ?_)))))
 refine ze ?_
 obtain rfl := zj h
 exact zf [vi r1.1] (.one (.rfl _ rfl))
def ref3_within_j1 (x1 : Bool) : Option Bool :=
    some x1
def ref3_within (p1 : Int) (p2 : Int) (p3 : Int) : Option Bool :=
    ift (decide (p2 ≤ p1))
      (ref3_within_j1 (decide (p1 ≤ p3)))
      (ref3_within_j1 false)
theorem c_ref3_within (p1 : Int) (p2 : Int) (p3 : Int) (r : Bool) (h : ref3_within p1 p2 p3 = some r) : PC Tryz.prog 25 [vi p1, vi p2, vi p3] (vb r) := by
 unfold ref3_within at h
 refine zF 15 Tryz.f25 (zq fun K1 m1 => zr (zg [] 1 [0,1,2] (zd (m1 _ _ (zq fun K2 m2 => ?_)))))
 have j1 : ∀ (x1 : Bool), ref3_within_j1 x1 = some r → ∀ w0 w1, Sub 15 0 [] w0 w1 [(6, vb x1)] [] → K2 w0 w1 := by
  intro x1 h w0 w1 hS
  unfold ref3_within_j1 at h
  refine m2 _ _ (XW.sub hS ?_)
  refine ze ?_
  obtain rfl := zj h
  exact zf [vb x1] (.one (.rfl _ rfl))
 rcases zW h with ⟨b3, h⟩ | ⟨b3, h⟩
 ·exact zr (zg [] 4 [0,2,10] (zt 10 b3 (zv [] 5 [6] [] [(6, vb (decide (p1 ≤ p3)))] [] (zd (j1 (decide (p1 ≤ p3)) h _ _ (zk [6]))))))
 ·exact zr (zg [] 4 [0,2,10] (zt 10 b3 (zg [] 5 [6] (zd (j1 false h _ _ (zk [6]))))))
def ref3_TransformType_j5 (p2 : GType) (x5 : Bool) : Option (GType × Int) :=
    ift x5
      (some ((GType.mk (2 : Int) (0 : Int) []), (0 : Int)))
      (some (p2, (0 : Int)))
def ref3_TransformType_j4 (p1 : GTransform) (p2 : GType) (x4 : Bool) : Option (GType × Int) :=
    ift x4
      (some ((GType.mk (0 : Int) (0 : Int) []), (2 : Int)))
      (ift (p1.kind == (2 : Int))
         (ref3_TransformType_j5 p2 true)
         (ref3_TransformType_j5 p2 (decide ((4 : Int) ≤ p1.kind))))
def ref3_TransformType_j3 (p1 : GTransform) (p2 : GType) (x3 : Bool) : Option (GType × Int) :=
    ift x3
      (some ((GType.mk (0 : Int) (0 : Int) []), (2 : Int)))
      (ift (decide ((4 : Int) ≤ p1.kind))
         (ref3_TransformType_j4 p1 p2 (p2.kind != (5 : Int)))
         (ref3_TransformType_j4 p1 p2 false))
def ref3_TransformType_j2 (p1 : GTransform) (p2 : GType) (x2 : Bool) : Option (GType × Int) :=
    ift x2
      (some ((GType.mk (0 : Int) (0 : Int) []), (3 : Int)))
      (bnd (ref1_Leaf p2.kind) fun r4 =>
       ift (!r4)
         (some ((GType.mk (0 : Int) (0 : Int) []), (2 : Int)))
         (ift (p1.kind == (3 : Int))
            (ift (p2.kind != (2 : Int))
               (ift (p2.kind != (3 : Int))
                  (ref3_TransformType_j3 p1 p2 (p2.kind != (4 : Int)))
                  (ref3_TransformType_j3 p1 p2 false))
               (ref3_TransformType_j3 p1 p2 false))
            (ref3_TransformType_j3 p1 p2 false)))
def ref3_TransformType_j1 (p1 : GTransform) (p2 : GType) (x1 : Bool) : Option (GType × Int) :=
    ift x1
      (bnd (ref3_within p1.param (1 : Int) (1000000 : Int)) fun r3 =>
       ift (!r3)
         (ref3_TransformType_j2 p1 p2 true)
         (ift (!x1)
            (ref3_TransformType_j2 p1 p2 (p1.param != (0 : Int)))
            (ref3_TransformType_j2 p1 p2 false)))
      (ift (!x1)
         (ref3_TransformType_j2 p1 p2 (p1.param != (0 : Int)))
         (ref3_TransformType_j2 p1 p2 false))
def ref3_TransformType (p1 : GTransform) (p2 : GType) : Option (GType × Int) :=
    bnd (ref1_CheckType p2) fun r1 =>
    ift (r1 != (0 : Int))
      (some ((GType.mk (0 : Int) (0 : Int) []), r1))
      (bnd (ref3_within p1.kind (0 : Int) (7 : Int)) fun r2 =>
       ift (!r2)
         (some ((GType.mk (0 : Int) (0 : Int) []), (3 : Int)))
         (ift (p1.kind == (2 : Int))
            (ref3_TransformType_j1 p1 p2 true)
            (ref3_TransformType_j1 p1 p2 (p1.kind == (3 : Int)))))
abbrev qa1556 (p2 : GType) : List CV := [ci p2.kind, ci p2.scale, cl eField p2.fields]
abbrev qa1558 (p2 : GType) : List PV := [pi p2.kind, pi p2.scale, .ro (eField.els p2.fields)]
abbrev qa1559 (p1 : GTransform) : List PV := [pi p1.kind, pi p1.param]
abbrev qa1561 : List CV := [ci 0, ci 0, .pv (.s (.slice none 0 0))]
abbrev qa1564 : St := [.box qa1561]
abbrev qa1574 (p1 : GTransform) (p2 : GType) : Fr := [(2, vR (qa1559 p1)), (3, vR (qa1558 p2)), (4, vq 0), (52, vb (p1.kind == (3 : Int)))]
abbrev qa1578 (p1 : GTransform) (p2 : GType) (x1 : Bool) : Fr := [(2, vR (qa1559 p1)), (3, vR (qa1558 p2)), (4, vq 0), (7, vb x1), (28, vb x1)]
theorem c_ref3_TransformType (p1 : GTransform) (p2 : GType) (r : (GType × Int)) (h : ref3_TransformType p1 p2 = some r) : PC Tryz.prog 8 [.ag [ci p1.kind, ci p1.param], .ag (qa1556 p2)] (.tp [.ag [ci r.1.kind, ci r.1.scale, cl eField r.1.fields], vi r.2]) := by
 unfold ref3_TransformType at h
 refine zF 87 Tryz.f8 (zq fun K1 m1 => zr (zg [4] 4 [2,3,4] (zd (m1 _ _ (zq fun K2 m2 => zq fun K3 m3 => ?_)))))
 obtain ⟨r1, c4, h⟩ := zB h
 refine zr (zu [4] 1 [2,3,4,8] [(qa1558 p2)] (zl 24 [.ag (qa1556 p2)] (vi r1) [(9, vi r1), (2, vR (qa1559 p1)), (3, vR (qa1558 p2)), (4, vq 0), (8, .ag (qa1556 p2))] (c_ref1_CheckType _ _ c4) (zg [4] 1 [2,3,4,6] (zd (m3 _ _ (zq fun K5 m5 => zr ?_))))))
 refine zg [4] 2 [2,3,4,6,11] (zd (m5 _ _ (zC h (fun b6 h => ?_) (fun b6 h => ?_))))
 ·refine zq fun K7 m7 => zr (zv [4] 4 [4,5] [] [(4, vq 0), (5, vi r1)] qa1564 (zd (m7 _ _ (ze ?_))))
  obtain rfl := zj h
  exact zf [.ag qa1561, vi r1] (.tpc (.ag (.cons (.rfl _ rfl) (.cons (.rfl _ rfl) (.cons (.nl) .nil)))) (.tpc (.one (.rfl _ rfl)) (.tp0)))
 ·refine zs (m2 _ _ (zq fun K8 m8 => zq fun K9 m9 => ?_))
  obtain ⟨r2, c10, h⟩ := zB h
  refine zr (zu [4] 2 [2,3,4,15] [(qa1559 p1)] (za (c_ref3_within _ _ _ _ c10) (zv [4] 1 [2,3,4,17] [] [(2, vR (qa1559 p1)), (3, vR (qa1558 p2)), (4, vq 0), (17, vb (!r2))] qa1564 (zd (m9 _ _ (zC h (fun b11 h => ?_) (fun b11 h => ?_)))))))
  ·refine zq fun K12 m12 => zr (zg [4] 3 [4,5] (zd (m12 _ _ (ze ?_))))
   obtain rfl := zj h
   exact zf [.ag qa1561, vi 3] (.tpc (.ag (.cons (.rfl _ rfl) (.cons (.rfl _ rfl) (.cons (.nl) .nil)))) (.tpc (.one (.rfl _ rfl)) (.tp0)))
  ·refine zs (m8 _ _ (zq fun K13 m13 => ?_))
   have j1 : ∀ (x1 : Bool), ref3_TransformType_j1 p1 p2 x1 = some r → ∀ w0 w1, Sub 87 0 [] w0 w1 [(2, vR (qa1559 p1)), (3, vR (qa1558 p2)), (4, vq 0), (7, vb x1)] qa1564 → K13 w0 w1 := by
    intro x1 h w0 w1 hS
    unfold ref3_TransformType_j1 at h
    refine m13 _ _ (XW.sub hS ?_)
    refine zq fun K15 m15 => zq fun K16 m16 => ?_
    have j2 : ∀ (x2 : Bool), ref3_TransformType_j2 p1 p2 x2 = some r → ∀ w0 w1, Sub 87 0 [] w0 w1 [(2, vR (qa1559 p1)), (3, vR (qa1558 p2)), (4, vq 0), (42, vb x2)] qa1564 → K16 w0 w1 := by
     intro x2 h w0 w1 hS
     unfold ref3_TransformType_j2 at h
     refine m16 _ _ (XW.sub hS ?_)
     refine zC h (fun b22 h => ?_) (fun b22 h => ?_)
     ·refine zq fun K23 m23 => zr (zg [4] 3 [4,5] (zd (m23 _ _ (ze ?_))))
      obtain rfl := zj h
      exact zf [.ag qa1561, vi 3] (.tpc (.ag (.cons (.rfl _ rfl) (.cons (.rfl _ rfl) (.cons (.nl) .nil)))) (.tpc (.one (.rfl _ rfl)) (.tp0)))
     ·refine zs (m15 _ _ (zq fun K24 m24 => zq fun K25 m25 => ?_))
      obtain ⟨r4, c26, h⟩ := zB h
      refine zr (zu [4] 2 [2,3,4,45] [(qa1558 p2)] (zl 26 [vi p2.kind] (vb r4) [(46, vb r4), (2, vR (qa1559 p1)), (3, vR (qa1558 p2)), (4, vq 0), (45, vi p2.kind)] (c_ref1_Leaf _ _ c26) (zg [4] 1 [2,3,4,47] (zd (m25 _ _ (zC h (fun b27 h => ?_) (fun b27 h => ?_)))))))
      ·refine zq fun K28 m28 => zr (zg [4] 3 [4,5] (zd (m28 _ _ (ze ?_))))
       obtain rfl := zj h
       exact zf [.ag qa1561, vi 2] (.tpc (.ag (.cons (.rfl _ rfl) (.cons (.rfl _ rfl) (.cons (.nl) .nil)))) (.tpc (.one (.rfl _ rfl)) (.tp0)))
      ·refine zs (m24 _ _ (zq fun K29 m29 => zq fun K30 m30 => ?_))
       have j3 : ∀ (x3 : Bool), ref3_TransformType_j3 p1 p2 x3 = some r → ∀ w0 w1, Sub 87 0 [] w0 w1 [(2, vR (qa1559 p1)), (3, vR (qa1558 p2)), (4, vq 0), (66, vb x3)] qa1564 → K30 w0 w1 := by
        intro x3 h w0 w1 hS
        unfold ref3_TransformType_j3 at h
        refine m30 _ _ (XW.sub hS ?_)
        refine zC h (fun b34 h => ?_) (fun b34 h => ?_)
        ·refine zq fun K35 m35 => zr (zg [4] 3 [4,5] (zd (m35 _ _ (ze ?_))))
         obtain rfl := zj h
         exact zf [.ag qa1561, vi 2] (.tpc (.ag (.cons (.rfl _ rfl) (.cons (.rfl _ rfl) (.cons (.nl) .nil)))) (.tpc (.one (.rfl _ rfl)) (.tp0)))
        ·refine zs (m29 _ _ (zq fun K36 m36 => zq fun K37 m37 => ?_))
         have j4 : ∀ (x4 : Bool), ref3_TransformType_j4 p1 p2 x4 = some r → ∀ w0 w1, Sub 87 0 [] w0 w1 [(2, vR (qa1559 p1)), (3, vR (qa1558 p2)), (4, vq 0), (75, vb x4)] qa1564 → K37 w0 w1 := by
          intro x4 h w0 w1 hS
          unfold ref3_TransformType_j4 at h
          refine m37 _ _ (XW.sub hS ?_)
          refine zC h (fun b39 h => ?_) (fun b39 h => ?_)
          ·refine zq fun K40 m40 => zr (zg [4] 3 [4,5] (zd (m40 _ _ (ze ?_))))
           obtain rfl := zj h
           exact zf [.ag qa1561, vi 2] (.tpc (.ag (.cons (.rfl _ rfl) (.cons (.rfl _ rfl) (.cons (.nl) .nil)))) (.tpc (.one (.rfl _ rfl)) (.tp0)))
          ·refine zs (m36 _ _ (zq fun K41 m41 => zq fun K42 m42 => ?_))
           have j5 : ∀ (x5 : Bool), ref3_TransformType_j5 p2 x5 = some r → ∀ w0 w1, Sub 87 0 [] w0 w1 [(3, vR (qa1558 p2)), (4, vq 0), (84, vb x5)] qa1564 → K42 w0 w1 := by
            intro x5 h w0 w1 hS
            unfold ref3_TransformType_j5 at h
            refine m42 _ _ (XW.sub hS ?_)
            refine zC h (fun b44 h => ?_) (fun b44 h => ?_)
            ·refine zq fun K45 m45 => zr (zg [4] 3 [4,5] (zd (m45 _ _ (ze ?_))))
             obtain rfl := zj h
             exact zf [.ag [ci 2, ci 0, .pv (.s (.slice none 0 0))], vi 0] (.tpc (.ag (.cons (.rfl _ rfl) (.cons (.rfl _ rfl) (.cons (.nl) .nil)))) (.tpc (.one (.rfl _ rfl)) (.tp0)))
            ·refine zs (m41 _ _ (zq fun K46 m46 => zr (zu [4] 3 [4,5] [(qa1558 p2)] (zd (m46 _ _ (ze ?_))))))
             obtain rfl := zj h
             exact zf [.ag (qa1556 p2), vi 0] (.tpc (.ag (.cons (.rfl _ rfl) (.cons (.rfl _ rfl) (.cons (.rfl _ rfl) .nil)))) (.tpc (.one (.rfl _ rfl)) (.tp0)))
           rcases zW h with ⟨b43, h⟩ | ⟨b43, h⟩
           ·exact zr (zu [4] 4 [2,3,4,80] [(qa1559 p1)] (zt 80 b43 (zv [4] 4 [3,4,84] [] [(3, vR (qa1558 p2)), (4, vq 0), (84, vb true)] qa1564 (zd (j5 true h _ _ (zk [3,4,84]))))))
           ·exact zr (zu [4] 4 [2,3,4,80] [(qa1559 p1)] (zt 80 b43 (zu [4] 4 [3,4,84] [(qa1559 p1)] (zd (j5 (decide ((4 : Int) ≤ p1.kind)) h _ _ (zk [3,4,84]))))))
         rcases zW h with ⟨b38, h⟩ | ⟨b38, h⟩
         ·exact zr (zu [4] 4 [2,3,4,71] [(qa1559 p1)] (zt 71 b38 (zv [4] 4 [2,3,4,75] [(qa1558 p2)] [(2, vR (qa1559 p1)), (3, vR (qa1558 p2)), (4, vq 0), (75, vb (p2.kind != (5 : Int)))] qa1564 (zd (j4 (p2.kind != (5 : Int)) h _ _ (zk [2,3,4,75]))))))
         ·exact zr (zu [4] 4 [2,3,4,71] [(qa1559 p1)] (zt 71 b38 (zg [4] 4 [2,3,4,75] (zd (j4 false h _ _ (zk [2,3,4,75]))))))
       rcases zW h with ⟨b31, h⟩ | ⟨b31, h⟩
       ·rcases zW h with ⟨b32, h⟩ | ⟨b32, h⟩
        ·rcases zW h with ⟨b33, h⟩ | ⟨b33, h⟩
         ·refine zr (zv [4] 4 [2,3,4,52] [(qa1559 p1)] (qa1574 p1 p2) qa1564 (zt 52 b31 (zu [4] 5 [2,3,4,57] [(qa1558 p2)] (zt 57 b32 (zu [4] 5 [2,3,4,62] [(qa1558 p2)] (zt 62 b33 ?_))))))
          exact zv [4] 4 [2,3,4,66] [(qa1558 p2)] [(2, vR (qa1559 p1)), (3, vR (qa1558 p2)), (4, vq 0), (66, vb (p2.kind != (4 : Int)))] qa1564 (zd (j3 (p2.kind != (4 : Int)) h _ _ (zk [2,3,4,66])))
         ·refine zr (zu [4] 4 [2,3,4,52] [(qa1559 p1)] (zt 52 b31 (zu [4] 5 [2,3,4,57] [(qa1558 p2)] (zt 57 b32 (zv [4] 5 [2,3,4,62] [(qa1558 p2)] [(2, vR (qa1559 p1)), (3, vR (qa1558 p2)), (4, vq 0), (62, vb (p2.kind != (3 : Int)))] qa1564 (zt 62 b33 (zg [4] 4 [2,3,4,66] ?_)))))))
          exact zd (j3 false h _ _ (zk [2,3,4,66]))
        ·exact zr (zv [4] 4 [2,3,4,52] [(qa1559 p1)] (qa1574 p1 p2) qa1564 (zt 52 b31 (zu [4] 5 [2,3,4,57] [(qa1558 p2)] (zt 57 b32 (zg [4] 9 [2,3,4,66] (zd (j3 false h _ _ (zk [2,3,4,66]))))))))
       ·exact zr (zv [4] 4 [2,3,4,52] [(qa1559 p1)] (qa1574 p1 p2) qa1564 (zt 52 b31 (zg [4] 14 [2,3,4,66] (zd (j3 false h _ _ (zk [2,3,4,66]))))))
    rcases zW h with ⟨b17, h⟩ | ⟨b17, h⟩
    ·obtain ⟨r3, c18, h⟩ := zB h
     rcases zW h with ⟨b19, h⟩ | ⟨b19, h⟩
     ·refine zr (zg [4] 2 [2,3,4,7,28] (zt 28 b17 (zu [4] 2 [2,3,4,7,28,30] [(qa1559 p1)] (zl 25 [vi p1.param, vi 1, vi 1000000] (vb r3) [(31, vb r3), (2, vR (qa1559 p1)), (3, vR (qa1558 p2)), (4, vq 0), (7, vb x1), (28, vb true), (30, vi p1.param)] (c_ref3_within _ _ _ _ c18) (zg [4] 3 [2,3,4,7,34] (zt 34 b19 (zg [4] 8 [2,3,4,42] ?_)))))))
      exact zd (j2 true h _ _ (zk [2,3,4,42]))
     ·rcases zW h with ⟨b20, h⟩ | ⟨b20, h⟩
      ·refine zr (zv [4] 2 [2,3,4,7,28] [] (qa1578 p1 p2 x1) qa1564 (zt 28 b17 (zu [4] 2 [2,3,4,7,28,30] [(qa1559 p1)] (za (c_ref3_within _ _ _ _ c18) ?_))))
       exact zv [4] 3 [2,3,4,7,34] [] [(2, vR (qa1559 p1)), (3, vR (qa1558 p2)), (4, vq 0), (7, vb x1), (34, vb (!r3))] qa1564 (zt 34 b19 (zg [4] 3 [2,3,4,34,37] (zt 37 b20 (zu [4] 5 [2,3,4,42] [(qa1559 p1)] (zd (j2 (p1.param != (0 : Int)) h _ _ (zk [2,3,4,42])))))))
      ·refine zr (zv [4] 2 [2,3,4,7,28] [] (qa1578 p1 p2 x1) qa1564 (zt 28 b17 (zu [4] 2 [2,3,4,7,28,30] [(qa1559 p1)] (za (c_ref3_within _ _ _ _ c18) ?_))))
       exact zv [4] 3 [2,3,4,7,34] [] [(2, vR (qa1559 p1)), (3, vR (qa1558 p2)), (4, vq 0), (7, vb x1), (34, vb (!r3))] qa1564 (zt 34 b19 (zg [4] 3 [2,3,4,34,37] (zt 37 b20 (zg [4] 5 [2,3,4,42] (zd (j2 false h _ _ (zk [2,3,4,42])))))))
    ·rcases zW h with ⟨b21, h⟩ | ⟨b21, h⟩
     ·exact zr (zg [4] 2 [2,3,4,7,28] (zt 28 b17 (zg [4] 9 [2,3,4,34,37] (zt 37 b21 (zv [4] 5 [2,3,4,42] [(qa1559 p1)] [(2, vR (qa1559 p1)), (3, vR (qa1558 p2)), (4, vq 0), (42, vb (p1.param != (0 : Int)))] qa1564 (zd (j2 (p1.param != (0 : Int)) h _ _ (zk [2,3,4,42]))))))))
     ·exact zr (zg [4] 2 [2,3,4,7,28] (zt 28 b17 (zg [4] 9 [2,3,4,34,37] (zt 37 b21 (zv [4] 5 [2,3,4,42] [] [(2, vR (qa1559 p1)), (3, vR (qa1558 p2)), (4, vq 0), (42, vb false)] qa1564 (zd (j2 false h _ _ (zk [2,3,4,42]))))))))
   rcases zW h with ⟨b14, h⟩ | ⟨b14, h⟩
   ·exact zr (zu [4] 4 [2,3,4,22] [(qa1559 p1)] (zt 22 b14 (zv [4] 5 [2,3,4,7] [] [(2, vR (qa1559 p1)), (3, vR (qa1558 p2)), (4, vq 0), (7, vb true)] qa1564 (zd (j1 true h _ _ (zk [2,3,4,7]))))))
   ·exact zr (zu [4] 4 [2,3,4,22] [(qa1559 p1)] (zt 22 b14 (zu [4] 5 [2,3,4,7] [(qa1559 p1)] (zd (j1 (p1.kind == (3 : Int)) h _ _ (zk [2,3,4,7]))))))
def law3_number (p1 : Int) : Option GValue :=
    some (GValue.mk (2 : Int) p1 (0 : Int) ByteArray.empty [])
theorem c_law3_number (p1 : Int) (r : GValue) (h : law3_number p1 = some r) : PC Tryz.prog 10 [vi p1] (.ag [ci r.kind, ci r.n, ci r.scale, cst r.s, cl eValue r.items]) := by
 unfold law3_number at h
 refine zF 5 Tryz.f10 (zq fun K1 m1 => zr (zg [2] 1 [0,2] (zd (m1 _ _ (zq fun K2 m2 => zr ?_)))))
 refine zg [2] 3 [2] (zd (m2 _ _ (ze ?_)))
 obtain rfl := zj h
 exact zf [.ag [ci 2, ci p1, ci 0, cst ByteArray.empty, .pv (.s (.slice none 0 0))]] (.ag (.cons (.rfl _ rfl) (.cons (.rfl _ rfl) (.cons (.rfl _ rfl) (.cons (.rfl _ rfl) (.cons (.nl) .nil))))))
def value_within_j1 (x1 : Bool) : Option Bool :=
    some x1
def value_within (p1 : Int) (p2 : Int) (p3 : Int) : Option Bool :=
    ift (decide (p2 ≤ p1))
      (value_within_j1 (decide (p1 ≤ p3)))
      (value_within_j1 false)
theorem c_value_within (p1 : Int) (p2 : Int) (p3 : Int) (r : Bool) (h : value_within p1 p2 p3 = some r) : PC Tryz.prog 114 [vi p1, vi p2, vi p3] (vb r) := by
 unfold value_within at h
 refine zF 15 Tryz.f114 (zq fun K1 m1 => zr (zg [] 1 [0,1,2] (zd (m1 _ _ (zq fun K2 m2 => ?_)))))
 have j1 : ∀ (x1 : Bool), value_within_j1 x1 = some r → ∀ w0 w1, Sub 15 0 [] w0 w1 [(6, vb x1)] [] → K2 w0 w1 := by
  intro x1 h w0 w1 hS
  unfold value_within_j1 at h
  refine m2 _ _ (XW.sub hS ?_)
  refine ze ?_
  obtain rfl := zj h
  exact zf [vb x1] (.one (.rfl _ rfl))
 rcases zW h with ⟨b3, h⟩ | ⟨b3, h⟩
 ·exact zr (zg [] 4 [0,2,10] (zt 10 b3 (zv [] 5 [6] [] [(6, vb (decide (p1 ≤ p3)))] [] (zd (j1 (decide (p1 ≤ p3)) h _ _ (zk [6]))))))
 ·exact zr (zg [] 4 [0,2,10] (zt 10 b3 (zg [] 5 [6] (zd (j1 false h _ _ (zk [6]))))))
def value_text_j2 (rec1 : Nat → Option Bool) (p1 : ByteArray) (z1 : Nat) (x2 : Bool) : Option Bool :=
    ift x2
      (some false)
      (rec1 (z1 + (Utf8.decode p1 z1).2))
def value_text_j3 : Option Bool :=
    some true
def value_text_l1 (p1 : ByteArray) : Nat → Nat → Option Bool
  | 0, _ => none
  | k1 + 1, z1 =>
    ift (decide (z1 < p1.size))
      (ift (decide (Int.ofNat (Utf8.decode p1 z1).1 < (32 : Int)))
         (value_text_j2 (value_text_l1 p1 k1) p1 z1 true)
         (value_text_j2 (value_text_l1 p1 k1) p1 z1 (Int.ofNat (Utf8.decode p1 z1).1 == (127 : Int))))
      (value_text_j3)
def value_text_j1 (p1 : ByteArray) (x1 : Bool) : Option Bool :=
    ift x1
      (some false)
      (value_text_l1 p1 BIG 0)
def value_text (p1 : ByteArray) : Option Bool :=
    ift (decide ((256 : Int) < (p1.size : Int)))
      (value_text_j1 p1 true)
      (bnd (utf8_ValidString p1) fun r1 =>
       value_text_j1 p1 (!r1))
abbrev qa1591 (p1 : ByteArray) (z1 : Nat) : St := [.raw (.stringIter p1 (z1 + (Utf8.decode p1 z1).2))]
theorem c_value_text (p1 : ByteArray) (r : Bool) (h : value_text p1 = some r) : PC Tryz.prog 155 [vs p1] (vb r) := by
 unfold value_text at h
 refine zF 24 Tryz.f155 (zq fun K1 m1 => zr (zg [] 1 [0] (zd (m1 _ _ (zq fun K2 m2 => zq fun K3 m3 => ?_)))))
 have j1 : ∀ (x1 : Bool), value_text_j1 p1 x1 = some r → ∀ w0 w1, Sub 24 0 [] w0 w1 [(0, vs p1), (12, vb x1)] [] → K3 w0 w1 := by
  intro x1 h w0 w1 hS
  unfold value_text_j1 at h
  refine m3 _ _ (XW.sub hS ?_)
  refine zC h (fun b6 h => ?_) (fun b6 h => ?_)
  ·refine zq fun K7 m7 => zr (zg [] 1 [2] (zd (m7 _ _ (ze ?_))))
   obtain rfl := zj h
   exact zf [vb false] (.one (.rfl _ rfl))
  ·refine zs (m2 _ _ (zq fun K8 m8 => ?_))
   have j3 : ∀ (_ : Unit), value_text_j3 = some r → ∀ w0 w1, Sub 24 0 [] w0 w1 [] [] → K8 w0 w1 := by
    intro _ h w0 w1 hS
    unfold value_text_j3 at h
    refine m8 _ _ (XW.sub hS ?_)
    refine zq fun K19 m19 => zr (zg [] 1 [2] (zd (m19 _ _ (ze ?_))))
    obtain rfl := zj h
    exact zf [vb true] (.one (.rfl _ rfl))
   refine zq fun K9 m9 => zr (zv [] 1 [13] [] [(13, vs p1)] [] (XO.rng p1 [(14, vq 0), (13, vs p1)] [.raw (.stringIter p1 0)] (by kernel_rfl) (by kernel_rfl) (by kernel_rfl) (zd (m9 _ _ (zb 0 (XW.rounds' BIG (x := cd Tryz.f155 [1,1,0,1,0,0]) (by kernel_rfl) fun Q1 hQ1 => ?_))))))
   have hL1 : ∀ (k1 : Nat) (z1 : Nat), value_text_l1 p1 k1 z1 = some r → XR Tryz.prog 24 0 [] (cd Tryz.f155 [1,1,0,1,0,0]) Q1 k1 [(14, vq 0)] [.raw (.stringIter p1 z1)] := by
    intro k1
    induction k1 with
    | zero => intro z1 h; rw [value_text_l1.eq_1] at h; cases h
    | succ k1 ih1 =>
     intro z1 h
     rw [value_text_l1.eq_2] at h
     refine zq fun K10 m10 => ?_
     rcases zW h with ⟨b11, h⟩ | ⟨b11, h⟩
     ·refine zr (XO.nxt 0 p1 z1 [(15, .tp [vb true, vi (Int.ofNat z1), vk .i32 (Int.ofNat (Utf8.decode p1 z1).1)]), (14, vq 0)] (qa1591 p1 z1) (by kernel_rfl) (by kernel_rfl) (by kernel_rfl) (by kernel_rfl) b11 (zg [] 1 [14,15,16] (zd (m10 _ _ (zq fun K12 m12 => zc true (fun _ => ?_) (fun hx => by cases hx))))))
      refine zs (m12 _ _ (zb 1 (zq fun K13 m13 => zr (zg [] 2 [4,14] (zd (m13 _ _ ?_))))))
      refine zq fun K14 m14 => ?_
      have j2 : ∀ (x2 : Bool), value_text_j2 (value_text_l1 p1 k1) p1 z1 x2 = some r → ∀ w0 w1, Sub 24 0 [] w0 w1 [(14, vq 0), (23, vb x2)] (qa1591 p1 z1) → K14 w0 w1 := by
       intro x2 h w0 w1 hS
       unfold value_text_j2 at h
       refine m14 _ _ (XW.sub hS ?_)
       refine zC h (fun b16 h => ?_) (fun b16 h => ?_)
       ·refine zq fun K17 m17 => zr (zg [] 1 [2] (zd (m17 _ _ (ze (hQ1 _ _ _ ?_)))))
        obtain rfl := zj h
        exact zf [vb false] (.one (.rfl _ rfl))
       ·exact zs (XR.sub (zk [14]) (ih1 (z1 + (Utf8.decode p1 z1).2) h))
      rcases zW h with ⟨b15, h⟩ | ⟨b15, h⟩
      ·exact zr (zv [] 3 [4,14,20] [] [(4, vk .i32 (Int.ofNat (Utf8.decode p1 z1).1)), (14, vq 0), (20, vb (decide (Int.ofNat (Utf8.decode p1 z1).1 < (32 : Int))))] (qa1591 p1 z1) (zt 20 b15 (zg [] 3 [14,23] (zd (j2 true h _ _ (zk [14,23]))))))
      ·exact zr (zg [] 3 [4,14,20] (zt 20 b15 (zv [] 3 [14,23] [] [(14, vq 0), (23, vb (Int.ofNat (Utf8.decode p1 z1).1 == (127 : Int)))] (qa1591 p1 z1) (zd (j2 (Int.ofNat (Utf8.decode p1 z1).1 == (127 : Int)) h _ _ (zk [14,23]))))))
     ·refine zr (XO.nxtE 0 p1 z1 [(15, .tp [vb false]), (14, vq 0)] (by kernel_rfl) (by kernel_rfl) (by kernel_rfl) b11 (zv [] 1 [14,15,16] [] [(14, vq 0), (15, .tp [vb false]), (16, vb false)] [.raw (.stringIter p1 z1)] (zd (m10 _ _ (zq fun K18 m18 => zc false (fun hx => by cases hx) (fun _ => ?_))))))
      exact zx 0 (hQ1 _ _ _ (j3 () h _ _ (Sub.trans (Sub.pick (fr' := []) [] (by kernel_rfl)) (Sub.take (fr' := []) 0 (Nat.zero_le _) (by kernel_rfl) (by kernel_rfl)))))
   exact XR.sub (zk [14]) (hL1 BIG 0 h)
 rcases zW h with ⟨b4, h⟩ | ⟨b4, h⟩
 ·exact zr (zg [] 4 [0,8] (zt 8 b4 (zv [] 4 [0,12] [] [(0, vs p1), (12, vb true)] [] (zd (j1 true h _ _ (zk [0,12]))))))
 ·obtain ⟨r1, c5, h⟩ := zB h
  exact zr (zg [] 4 [0,8] (zt 8 b4 (zg [] 1 [0,8,9] (zl 180 [vs p1] (vb r1) [(10, vb r1), (0, vs p1), (8, vb false), (9, vs p1)] (c_utf8_ValidString _ _ c5) (zg [] 2 [0,12] (zd (j1 (!r1) h _ _ (zk [0,12]))))))))
def value_plain_j2 (x2 : Bool) : Option Bool :=
    some x2
def value_plain_j3 (x3 : Bool) : Option Bool :=
    some x3
def value_plain_j4 (x4 : Bool) : Option Bool :=
    some x4
def value_plain_j5 (x5 : Bool) : Option Bool :=
    some x5
def value_plain_j6 (x6 : Bool) : Option Bool :=
    some x6
def value_plain_j7 (x7 : Bool) : Option Bool :=
    some x7
def value_plain_j8 (x8 : Bool) : Option Bool :=
    some x8
def value_plain_j9 (x9 : Bool) : Option Bool :=
    some x9
def value_plain_j1 (p1 : GValue) (x1 : Bool) : Option Bool :=
    ift (p1.kind == (0 : Int))
      (ift x1
         (ift (p1.s.toList == (ByteArray.mk #[]).toList)
            (value_plain_j2 ((p1.items.length : Int) == (0 : Int)))
            (value_plain_j2 false))
         (value_plain_j2 false))
      (ift (p1.kind == (1 : Int))
         (bnd (value_within p1.n (0 : Int) (1 : Int)) fun r1 =>
          ift r1
            (ift (p1.scale == (0 : Int))
               (ift (p1.s.toList == (ByteArray.mk #[]).toList)
                  (value_plain_j3 ((p1.items.length : Int) == (0 : Int)))
                  (value_plain_j3 false))
               (value_plain_j3 false))
            (value_plain_j3 false))
         (ift (p1.kind == (2 : Int))
            (bnd (value_within p1.n (-999999999999999999 : Int) (999999999999999999 : Int)) fun r2 =>
             ift r2
               (ift (p1.scale == (0 : Int))
                  (ift (p1.s.toList == (ByteArray.mk #[]).toList)
                     (value_plain_j4 ((p1.items.length : Int) == (0 : Int)))
                     (value_plain_j4 false))
                  (value_plain_j4 false))
               (value_plain_j4 false))
            (ift (p1.kind == (3 : Int))
               (bnd (value_within p1.n (-999999999999999999 : Int) (999999999999999999 : Int)) fun r3 =>
                ift r3
                  (bnd (value_within p1.scale (0 : Int) (12 : Int)) fun r4 =>
                   ift r4
                     (ift (p1.s.toList == (ByteArray.mk #[]).toList)
                        (value_plain_j5 ((p1.items.length : Int) == (0 : Int)))
                        (value_plain_j5 false))
                     (value_plain_j5 false))
                  (value_plain_j5 false))
               (ift (p1.kind == (4 : Int))
                  (ift x1
                     (bnd (value_text p1.s) fun r5 =>
                      ift r5
                        (value_plain_j6 ((p1.items.length : Int) == (0 : Int)))
                        (value_plain_j6 false))
                     (value_plain_j6 false))
                  (ift (p1.kind == (5 : Int))
                     (bnd (value_within p1.n (-62135596800 : Int) (253402300799 : Int)) fun r6 =>
                      ift r6
                        (ift (p1.scale == (0 : Int))
                           (ift (p1.s.toList == (ByteArray.mk #[]).toList)
                              (value_plain_j7 ((p1.items.length : Int) == (0 : Int)))
                              (value_plain_j7 false))
                           (value_plain_j7 false))
                        (value_plain_j7 false))
                     (ift (p1.kind == (6 : Int))
                        (ift x1
                           (ift (p1.s.toList == (ByteArray.mk #[]).toList)
                              (value_plain_j8 (decide ((p1.items.length : Int) ≤ (64 : Int))))
                              (value_plain_j8 false))
                           (value_plain_j8 false))
                        (ift (p1.kind == (7 : Int))
                           (ift x1
                              (ift (p1.s.toList == (ByteArray.mk #[]).toList)
                                 (value_plain_j9 (decide ((0 : Int) < (p1.items.length : Int))))
                                 (value_plain_j9 false))
                              (value_plain_j9 false))
                           (some false))))))))
def value_plain (p1 : GValue) : Option Bool :=
    ift (p1.n == (0 : Int))
      (value_plain_j1 p1 (p1.scale == (0 : Int)))
      (value_plain_j1 p1 false)
abbrev qa1600 (p1 : GValue) : List PV := [pi p1.kind, pi p1.n, pi p1.scale, .s (.string p1.s), .ro (eValue.els p1.items)]
abbrev qa1617 (p1 : GValue) (r2 : Bool) : Fr := [(53, vb r2), (1, vR (qa1600 p1)), (52, vi p1.n)]
abbrev qa1619 (p1 : GValue) : Fr := [(1, vR (qa1600 p1)), (73, vi p1.n)]
abbrev qa1625 (p1 : GValue) (r6 : Bool) : Fr := [(109, vb r6), (1, vR (qa1600 p1)), (108, vi p1.n)]
theorem c_value_plain (p1 : GValue) (r : Bool) (h : value_plain p1 = some r) : PC Tryz.prog 110 [.ag [ci p1.kind, ci p1.n, ci p1.scale, cst p1.s, cl eValue p1.items]] (vb r) := by
 unfold value_plain at h
 refine zF 154 Tryz.f110 (zq fun K1 m1 => zr (zg [] 2 [1] (zd (m1 _ _ (zq fun K2 m2 => ?_)))))
 have j1 : ∀ (x1 : Bool), value_plain_j1 p1 x1 = some r → ∀ w0 w1, Sub 154 0 [] w0 w1 [(1, vR (qa1600 p1)), (3, vb x1)] [] → K2 w0 w1 := by
  intro x1 h w0 w1 hS
  unfold value_plain_j1 at h
  refine m2 _ _ (XW.sub hS ?_)
  refine zq fun K4 m4 => zq fun K5 m5 => zr (zu [] 2 [1,3,13] [(qa1600 p1)] (zd (m5 _ _ (zb 0 (zq fun K6 m6 => ?_)))))
  refine zr (zg [] 2 [1,3,13,14] (zd (m6 _ _ (zC h (fun b7 h => ?_) (fun b7 h => ?_)))))
  ·refine zq fun K8 m8 => ?_
   have j2 : ∀ (x2 : Bool), value_plain_j2 x2 = some r → ∀ w0 w1, Sub 154 0 [] w0 w1 [(2, vb x2)] [] → K8 w0 w1 := by
    intro x2 h w0 w1 hS
    unfold value_plain_j2 at h
    refine m8 _ _ (XW.sub hS ?_)
    refine ze ?_
    obtain rfl := zj h
    exact zf [vb x2] (.one (.rfl _ rfl))
   rcases zW h with ⟨b9, h⟩ | ⟨b9, h⟩
   ·rcases zW h with ⟨b10, h⟩ | ⟨b10, h⟩
    ·refine zr (zv [] 2 [1,17] [] [(1, vR [pi p1.kind, pi p1.n, pi p1.scale, .s (.string p1.s), .ro (eValue.els p1.items)]), (17, vb x1)] [] (zt 17 b9 (zu [] 5 [1,22] [[pi p1.kind, pi p1.n, pi p1.scale, .s (.string p1.s), .ro (eValue.els p1.items)]] (zt 22 b10 (zv [] 3 [22,25] [[pi p1.kind, pi p1.n, pi p1.scale, .s (.string p1.s), .ro (eValue.els p1.items)]] [(22, vb true), (25, vi ((eValue.els p1.items).length : Int))] [] ?_)))))
     rw [eValue.len p1.items]
     exact zg [] 3 [2] (zd (j2 ((p1.items.length : Int) == (0 : Int)) h _ _ (zk [2])))
    ·exact zr (zg [] 2 [1,17] (zt 17 b9 (zv [] 5 [1,22] [(qa1600 p1)] [(1, vR (qa1600 p1)), (22, vb (p1.s.toList == (ByteArray.mk #[]).toList))] [] (zt 22 b10 (zg [] 6 [2] (zd (j2 false h _ _ (zk [2]))))))))
   ·exact zr (zv [] 2 [1,17] [] [(1, vR (qa1600 p1)), (17, vb x1)] [] (zt 17 b9 (zg [] 11 [2] (zd (j2 false h _ _ (zk [2]))))))
  ·refine zq fun K11 m11 => zr (zv [] 2 [1,3,13,28] [] [(1, vR (qa1600 p1)), (3, vb x1), (13, vi p1.kind), (28, vb (p1.kind == (1 : Int)))] [] (zd (m11 _ _ (zC h (fun b12 h => ?_) (fun b12 h => ?_)))))
   ·refine zq fun K13 m13 => ?_
    have j3 : ∀ (x3 : Bool), value_plain_j3 x3 = some r → ∀ w0 w1, Sub 154 0 [] w0 w1 [(2, vb x3)] [] → K13 w0 w1 := by
     intro x3 h w0 w1 hS
     unfold value_plain_j3 at h
     refine m13 _ _ (XW.sub hS ?_)
     refine ze ?_
     obtain rfl := zj h
     exact zf [vb x3] (.one (.rfl _ rfl))
    obtain ⟨r1, c14, h⟩ := zB h
    rcases zW h with ⟨b15, h⟩ | ⟨b15, h⟩
    ·rcases zW h with ⟨b16, h⟩ | ⟨b16, h⟩
     ·rcases zW h with ⟨b17, h⟩ | ⟨b17, h⟩
      ·refine zr (zu [] 2 [1,31] [(qa1600 p1)] (za (c_value_within _ _ _ _ c14) (zv [] 1 [1,33] [] [(1, vR (qa1600 p1)), (33, vb r1)] [] (zt 33 b15 (zu [] 5 [1,38] [(qa1600 p1)] (zt 38 b16 (zu [] 5 [1,43] [(qa1600 p1)] ?_)))))))
       refine zt 43 b17 (zv [] 3 [43,46] [[pi p1.kind, pi p1.n, pi p1.scale, .s (.string p1.s), .ro (eValue.els p1.items)]] [(43, vb true), (46, vi ((eValue.els p1.items).length : Int))] [] ?_)
       rw [eValue.len p1.items]
       exact zg [] 3 [2] (zd (j3 ((p1.items.length : Int) == (0 : Int)) h _ _ (zk [2])))
      ·refine zr (zu [] 2 [1,31] [(qa1600 p1)] (zl 114 [vi p1.n, vi 0, vi 1] (vb r1) [(32, vb r1), (1, vR (qa1600 p1)), (31, vi p1.n)] (c_value_within _ _ _ _ c14) (zg [] 1 [1,33] (zt 33 b15 (zu [] 5 [1,38] [(qa1600 p1)] (zt 38 b16 ?_))))))
       exact zv [] 5 [1,43] [(qa1600 p1)] [(1, vR (qa1600 p1)), (43, vb (p1.s.toList == (ByteArray.mk #[]).toList))] [] (zt 43 b17 (zg [] 6 [2] (zd (j3 false h _ _ (zk [2])))))
     ·refine zr (zu [] 2 [1,31] [(qa1600 p1)] (za (c_value_within _ _ _ _ c14) (zv [] 1 [1,33] [] [(1, vR (qa1600 p1)), (33, vb r1)] [] (zt 33 b15 (zu [] 5 [1,38] [(qa1600 p1)] (zt 38 b16 (zg [] 11 [2] ?_)))))))
      exact zd (j3 false h _ _ (zk [2]))
    ·exact zr (zu [] 2 [1,31] [(qa1600 p1)] (za (c_value_within _ _ _ _ c14) (zv [] 1 [1,33] [] [(1, vR (qa1600 p1)), (33, vb r1)] [] (zt 33 b15 (zg [] 16 [2] (zd (j3 false h _ _ (zk [2]))))))))
   ·refine zq fun K18 m18 => zr (zg [] 2 [1,3,13,49] (zd (m18 _ _ (zC h (fun b19 h => ?_) (fun b19 h => ?_)))))
    ·refine zq fun K20 m20 => ?_
     have j4 : ∀ (x4 : Bool), value_plain_j4 x4 = some r → ∀ w0 w1, Sub 154 0 [] w0 w1 [(2, vb x4)] [] → K20 w0 w1 := by
      intro x4 h w0 w1 hS
      unfold value_plain_j4 at h
      refine m20 _ _ (XW.sub hS ?_)
      refine ze ?_
      obtain rfl := zj h
      exact zf [vb x4] (.one (.rfl _ rfl))
     obtain ⟨r2, c21, h⟩ := zB h
     rcases zW h with ⟨b22, h⟩ | ⟨b22, h⟩
     ·rcases zW h with ⟨b23, h⟩ | ⟨b23, h⟩
      ·rcases zW h with ⟨b24, h⟩ | ⟨b24, h⟩
       ·refine zr (zu [] 2 [1,52] [(qa1600 p1)] (zl 114 [vi p1.n, vi (-999999999999999999), vi 999999999999999999] (vb r2) (qa1617 p1 r2) (c_value_within _ _ _ _ c21) (zg [] 1 [1,54] (zt 54 b22 (zu [] 5 [1,59] [(qa1600 p1)] (zt 59 b23 ?_))))))
        refine zv [] 5 [1,64] [[pi p1.kind, pi p1.n, pi p1.scale, .s (.string p1.s), .ro (eValue.els p1.items)]] [(1, vR [pi p1.kind, pi p1.n, pi p1.scale, .s (.string p1.s), .ro (eValue.els p1.items)]), (64, vb (p1.s.toList == (ByteArray.mk #[]).toList))] [] (zt 64 b24 (zv [] 3 [64,67] [[pi p1.kind, pi p1.n, pi p1.scale, .s (.string p1.s), .ro (eValue.els p1.items)]] [(64, vb true), (67, vi ((eValue.els p1.items).length : Int))] [] ?_))
        rw [eValue.len p1.items]
        exact zg [] 3 [2] (zd (j4 ((p1.items.length : Int) == (0 : Int)) h _ _ (zk [2])))
       ·refine zr (zu [] 2 [1,52] [(qa1600 p1)] (zl 114 [vi p1.n, vi (-999999999999999999), vi 999999999999999999] (vb r2) (qa1617 p1 r2) (c_value_within _ _ _ _ c21) (zg [] 1 [1,54] (zt 54 b22 (zu [] 5 [1,59] [(qa1600 p1)] (zt 59 b23 ?_))))))
        exact zv [] 5 [1,64] [(qa1600 p1)] [(1, vR (qa1600 p1)), (64, vb (p1.s.toList == (ByteArray.mk #[]).toList))] [] (zt 64 b24 (zg [] 6 [2] (zd (j4 false h _ _ (zk [2])))))
      ·refine zr (zu [] 2 [1,52] [(qa1600 p1)] (zl 114 [vi p1.n, vi (-999999999999999999), vi 999999999999999999] (vb r2) (qa1617 p1 r2) (c_value_within _ _ _ _ c21) (zg [] 1 [1,54] (zt 54 b22 (zu [] 5 [1,59] [(qa1600 p1)] (zt 59 b23 (zv [] 11 [2] [] [(2, vb false)] [] ?_)))))))
       exact zd (j4 false h _ _ (zk [2]))
     ·exact zr (zu [] 2 [1,52] [(qa1600 p1)] (zl 114 [vi p1.n, vi (-999999999999999999), vi 999999999999999999] (vb r2) (qa1617 p1 r2) (c_value_within _ _ _ _ c21) (zg [] 1 [1,54] (zt 54 b22 (zg [] 16 [2] (zd (j4 false h _ _ (zk [2]))))))))
    ·refine zq fun K25 m25 => zr (zg [] 2 [1,3,13,70] (zd (m25 _ _ (zC h (fun b26 h => ?_) (fun b26 h => ?_)))))
     ·refine zq fun K27 m27 => ?_
      have j5 : ∀ (x5 : Bool), value_plain_j5 x5 = some r → ∀ w0 w1, Sub 154 0 [] w0 w1 [(2, vb x5)] [] → K27 w0 w1 := by
       intro x5 h w0 w1 hS
       unfold value_plain_j5 at h
       refine m27 _ _ (XW.sub hS ?_)
       refine ze ?_
       obtain rfl := zj h
       exact zf [vb x5] (.one (.rfl _ rfl))
      obtain ⟨r3, c28, h⟩ := zB h
      rcases zW h with ⟨b29, h⟩ | ⟨b29, h⟩
      ·obtain ⟨r4, c30, h⟩ := zB h
       rcases zW h with ⟨b31, h⟩ | ⟨b31, h⟩
       ·rcases zW h with ⟨b32, h⟩ | ⟨b32, h⟩
        ·refine zr (zv [] 2 [1,73] [(qa1600 p1)] (qa1619 p1) [] (za (c_value_within _ _ _ _ c28) (zg [] 1 [1,75] (zt 75 b29 (zv [] 2 [1,75,77] [(qa1600 p1)] [(1, vR (qa1600 p1)), (75, vb true), (77, vi p1.scale)] [] (za (c_value_within _ _ _ _ c30) ?_))))))
         refine zg [] 2 [1,80] (zt 80 b31 (zv [] 5 [1,85] [[pi p1.kind, pi p1.n, pi p1.scale, .s (.string p1.s), .ro (eValue.els p1.items)]] [(1, vR [pi p1.kind, pi p1.n, pi p1.scale, .s (.string p1.s), .ro (eValue.els p1.items)]), (85, vb (p1.s.toList == (ByteArray.mk #[]).toList))] [] (zt 85 b32 (zv [] 3 [85,88] [[pi p1.kind, pi p1.n, pi p1.scale, .s (.string p1.s), .ro (eValue.els p1.items)]] [(85, vb true), (88, vi ((eValue.els p1.items).length : Int))] [] ?_))))
         rw [eValue.len p1.items]
         exact zg [] 3 [2] (zd (j5 ((p1.items.length : Int) == (0 : Int)) h _ _ (zk [2])))
        ·refine zr (zu [] 2 [1,73] [(qa1600 p1)] (zl 114 [vi p1.n, vi (-999999999999999999), vi 999999999999999999] (vb r3) [(74, vb r3), (1, vR (qa1600 p1)), (73, vi p1.n)] (c_value_within _ _ _ _ c28) (zg [] 1 [1,75] (zt 75 b29 (zu [] 2 [1,75,77] [(qa1600 p1)] ?_)))))
         exact zl 114 [vi p1.scale, vi 0, vi 12] (vb r4) [(78, vb r4), (1, vR (qa1600 p1)), (75, vb true), (77, vi p1.scale)] (c_value_within _ _ _ _ c30) (zg [] 2 [1,80] (zt 80 b31 (zu [] 5 [1,85] [(qa1600 p1)] (zt 85 b32 (zv [] 6 [2] [] [(2, vb false)] [] (zd (j5 false h _ _ (zk [2]))))))))
       ·refine zr (zv [] 2 [1,73] [(qa1600 p1)] (qa1619 p1) [] (za (c_value_within _ _ _ _ c28) (zg [] 1 [1,75] (zt 75 b29 (zv [] 2 [1,75,77] [(qa1600 p1)] [(1, vR (qa1600 p1)), (75, vb true), (77, vi p1.scale)] [] (za (c_value_within _ _ _ _ c30) ?_))))))
        exact zg [] 2 [1,80] (zt 80 b31 (zv [] 11 [2] [] [(2, vb false)] [] (zd (j5 false h _ _ (zk [2])))))
      ·exact zr (zv [] 2 [1,73] [(qa1600 p1)] (qa1619 p1) [] (za (c_value_within _ _ _ _ c28) (zg [] 1 [1,75] (zt 75 b29 (zv [] 16 [2] [] [(2, vb false)] [] (zd (j5 false h _ _ (zk [2]))))))))
     ·refine zq fun K33 m33 => zr (zv [] 2 [1,3,13,91] [] [(1, vR (qa1600 p1)), (3, vb x1), (13, vi p1.kind), (91, vb (p1.kind == (4 : Int)))] [] (zd (m33 _ _ (zC h (fun b34 h => ?_) (fun b34 h => ?_)))))
      ·refine zq fun K35 m35 => ?_
       have j6 : ∀ (x6 : Bool), value_plain_j6 x6 = some r → ∀ w0 w1, Sub 154 0 [] w0 w1 [(2, vb x6)] [] → K35 w0 w1 := by
        intro x6 h w0 w1 hS
        unfold value_plain_j6 at h
        refine m35 _ _ (XW.sub hS ?_)
        refine ze ?_
        obtain rfl := zj h
        exact zf [vb x6] (.one (.rfl _ rfl))
       rcases zW h with ⟨b36, h⟩ | ⟨b36, h⟩
       ·obtain ⟨r5, c37, h⟩ := zB h
        rcases zW h with ⟨b38, h⟩ | ⟨b38, h⟩
        ·refine zr (zg [] 2 [1,94] (zt 94 b36 (zu [] 2 [1,94,96] [[pi p1.kind, pi p1.n, pi p1.scale, .s (.string p1.s), .ro (eValue.els p1.items)]] (zl 155 [vs p1.s] (vb r5) [(97, vb r5), (1, vR [pi p1.kind, pi p1.n, pi p1.scale, .s (.string p1.s), .ro (eValue.els p1.items)]), (94, vb true), (96, vs p1.s)] (c_value_text _ _ c37) (zg [] 2 [1,99] (zt 99 b38 (zv [] 3 [99,102] [[pi p1.kind, pi p1.n, pi p1.scale, .s (.string p1.s), .ro (eValue.els p1.items)]] [(99, vb true), (102, vi ((eValue.els p1.items).length : Int))] [] ?_)))))))
         rw [eValue.len p1.items]
         exact zg [] 3 [2] (zd (j6 ((p1.items.length : Int) == (0 : Int)) h _ _ (zk [2])))
        ·refine zr (zg [] 2 [1,94] (zt 94 b36 (zv [] 2 [1,94,96] [(qa1600 p1)] [(1, vR (qa1600 p1)), (94, vb true), (96, vs p1.s)] [] (za (c_value_text _ _ c37) (zg [] 2 [1,99] (zt 99 b38 (zv [] 6 [2] [] [(2, vb false)] [] ?_)))))))
         exact zd (j6 false h _ _ (zk [2]))
       ·exact zr (zg [] 2 [1,94] (zt 94 b36 (zg [] 11 [2] (zd (j6 false h _ _ (zk [2]))))))
      ·refine zq fun K39 m39 => zr (zg [] 2 [1,3,13,105] (zd (m39 _ _ (zC h (fun b40 h => ?_) (fun b40 h => ?_)))))
       ·refine zq fun K41 m41 => ?_
        have j7 : ∀ (x7 : Bool), value_plain_j7 x7 = some r → ∀ w0 w1, Sub 154 0 [] w0 w1 [(2, vb x7)] [] → K41 w0 w1 := by
         intro x7 h w0 w1 hS
         unfold value_plain_j7 at h
         refine m41 _ _ (XW.sub hS ?_)
         refine ze ?_
         obtain rfl := zj h
         exact zf [vb x7] (.one (.rfl _ rfl))
        obtain ⟨r6, c42, h⟩ := zB h
        rcases zW h with ⟨b43, h⟩ | ⟨b43, h⟩
        ·rcases zW h with ⟨b44, h⟩ | ⟨b44, h⟩
         ·rcases zW h with ⟨b45, h⟩ | ⟨b45, h⟩
          ·refine zr (zu [] 2 [1,108] [(qa1600 p1)] (zl 114 [vi p1.n, vi (-62135596800), vi 253402300799] (vb r6) (qa1625 p1 r6) (c_value_within _ _ _ _ c42) (zg [] 1 [1,110] (zt 110 b43 (zu [] 5 [1,115] [(qa1600 p1)] (zt 115 b44 ?_))))))
           refine zv [] 5 [1,120] [[pi p1.kind, pi p1.n, pi p1.scale, .s (.string p1.s), .ro (eValue.els p1.items)]] [(1, vR [pi p1.kind, pi p1.n, pi p1.scale, .s (.string p1.s), .ro (eValue.els p1.items)]), (120, vb (p1.s.toList == (ByteArray.mk #[]).toList))] [] (zt 120 b45 (zv [] 3 [120,123] [[pi p1.kind, pi p1.n, pi p1.scale, .s (.string p1.s), .ro (eValue.els p1.items)]] [(120, vb true), (123, vi ((eValue.els p1.items).length : Int))] [] ?_))
           rw [eValue.len p1.items]
           exact zg [] 3 [2] (zd (j7 ((p1.items.length : Int) == (0 : Int)) h _ _ (zk [2])))
          ·refine zr (zu [] 2 [1,108] [(qa1600 p1)] (zl 114 [vi p1.n, vi (-62135596800), vi 253402300799] (vb r6) (qa1625 p1 r6) (c_value_within _ _ _ _ c42) (zg [] 1 [1,110] (zt 110 b43 (zu [] 5 [1,115] [(qa1600 p1)] (zt 115 b44 ?_))))))
           exact zv [] 5 [1,120] [(qa1600 p1)] [(1, vR (qa1600 p1)), (120, vb (p1.s.toList == (ByteArray.mk #[]).toList))] [] (zt 120 b45 (zg [] 6 [2] (zd (j7 false h _ _ (zk [2])))))
         ·refine zr (zu [] 2 [1,108] [(qa1600 p1)] (zl 114 [vi p1.n, vi (-62135596800), vi 253402300799] (vb r6) (qa1625 p1 r6) (c_value_within _ _ _ _ c42) (zg [] 1 [1,110] (zt 110 b43 (zu [] 5 [1,115] [(qa1600 p1)] (zt 115 b44 (zv [] 11 [2] [] [(2, vb false)] [] ?_)))))))
          exact zd (j7 false h _ _ (zk [2]))
        ·exact zr (zu [] 2 [1,108] [(qa1600 p1)] (zl 114 [vi p1.n, vi (-62135596800), vi 253402300799] (vb r6) (qa1625 p1 r6) (c_value_within _ _ _ _ c42) (zg [] 1 [1,110] (zt 110 b43 (zg [] 16 [2] (zd (j7 false h _ _ (zk [2]))))))))
       ·refine zq fun K46 m46 => zr (zg [] 2 [1,3,13,126] (zd (m46 _ _ (zC h (fun b47 h => ?_) (fun b47 h => ?_)))))
        ·refine zq fun K48 m48 => ?_
         have j8 : ∀ (x8 : Bool), value_plain_j8 x8 = some r → ∀ w0 w1, Sub 154 0 [] w0 w1 [(2, vb x8)] [] → K48 w0 w1 := by
          intro x8 h w0 w1 hS
          unfold value_plain_j8 at h
          refine m48 _ _ (XW.sub hS ?_)
          refine ze ?_
          obtain rfl := zj h
          exact zf [vb x8] (.one (.rfl _ rfl))
         rcases zW h with ⟨b49, h⟩ | ⟨b49, h⟩
         ·rcases zW h with ⟨b50, h⟩ | ⟨b50, h⟩
          ·refine zr (zv [] 2 [1,129] [] [(1, vR [pi p1.kind, pi p1.n, pi p1.scale, .s (.string p1.s), .ro (eValue.els p1.items)]), (129, vb x1)] [] (zt 129 b49 (zu [] 5 [1,134] [[pi p1.kind, pi p1.n, pi p1.scale, .s (.string p1.s), .ro (eValue.els p1.items)]] (zt 134 b50 (zv [] 3 [134,137] [[pi p1.kind, pi p1.n, pi p1.scale, .s (.string p1.s), .ro (eValue.els p1.items)]] [(134, vb true), (137, vi ((eValue.els p1.items).length : Int))] [] ?_)))))
           rw [eValue.len p1.items]
           exact zg [] 3 [2] (zd (j8 (decide ((p1.items.length : Int) ≤ (64 : Int))) h _ _ (zk [2])))
          ·exact zr (zg [] 2 [1,129] (zt 129 b49 (zv [] 5 [1,134] [(qa1600 p1)] [(1, vR (qa1600 p1)), (134, vb (p1.s.toList == (ByteArray.mk #[]).toList))] [] (zt 134 b50 (zg [] 6 [2] (zd (j8 false h _ _ (zk [2]))))))))
         ·exact zr (zv [] 2 [1,129] [] [(1, vR (qa1600 p1)), (129, vb x1)] [] (zt 129 b49 (zg [] 11 [2] (zd (j8 false h _ _ (zk [2]))))))
        ·refine zq fun K51 m51 => zr (zv [] 2 [1,3,140] [] [(1, vR (qa1600 p1)), (3, vb x1), (140, vb (p1.kind == (7 : Int)))] [] (zd (m51 _ _ (zC h (fun b52 h => ?_) (fun b52 h => ?_)))))
         ·refine zq fun K53 m53 => ?_
          have j9 : ∀ (x9 : Bool), value_plain_j9 x9 = some r → ∀ w0 w1, Sub 154 0 [] w0 w1 [(2, vb x9)] [] → K53 w0 w1 := by
           intro x9 h w0 w1 hS
           unfold value_plain_j9 at h
           refine m53 _ _ (XW.sub hS ?_)
           refine ze ?_
           obtain rfl := zj h
           exact zf [vb x9] (.one (.rfl _ rfl))
          rcases zW h with ⟨b54, h⟩ | ⟨b54, h⟩
          ·rcases zW h with ⟨b55, h⟩ | ⟨b55, h⟩
           ·refine zr (zg [] 2 [1,143] (zt 143 b54 (zu [] 5 [1,148] [[pi p1.kind, pi p1.n, pi p1.scale, .s (.string p1.s), .ro (eValue.els p1.items)]] (zt 148 b55 (zv [] 3 [148,151] [[pi p1.kind, pi p1.n, pi p1.scale, .s (.string p1.s), .ro (eValue.els p1.items)]] [(148, vb true), (151, vi ((eValue.els p1.items).length : Int))] [] ?_)))))
            rw [eValue.len p1.items]
            exact zg [] 3 [2] (zd (j9 (decide ((0 : Int) < (p1.items.length : Int))) h _ _ (zk [2])))
           ·exact zr (zg [] 2 [1,143] (zt 143 b54 (zv [] 5 [1,148] [(qa1600 p1)] [(1, vR (qa1600 p1)), (148, vb (p1.s.toList == (ByteArray.mk #[]).toList))] [] (zt 148 b55 (zg [] 6 [2] (zd (j9 false h _ _ (zk [2]))))))))
          ·exact zr (zg [] 2 [1,143] (zt 143 b54 (zg [] 11 [2] (zd (j9 false h _ _ (zk [2]))))))
         ·refine zs (m4 _ _ (zq fun K56 m56 => zr (zg [] 1 [2] (zd (m56 _ _ (ze ?_))))))
          obtain rfl := zj h
          exact zf [vb false] (.one (.rfl _ rfl))
 rcases zW h with ⟨b3, h⟩ | ⟨b3, h⟩
 ·exact zr (zu [] 4 [1,7] [(qa1600 p1)] (zt 7 b3 (zv [] 5 [1,3] [(qa1600 p1)] [(1, vR (qa1600 p1)), (3, vb (p1.scale == (0 : Int)))] [] (zd (j1 (p1.scale == (0 : Int)) h _ _ (zk [1,3]))))))
 ·exact zr (zu [] 4 [1,7] [(qa1600 p1)] (zt 7 b3 (zg [] 5 [1,3] (zd (j1 false h _ _ (zk [1,3]))))))
def slices_IndexFunc_api_Value_api_Value_of_value_sound_1_j1 (z2 : Int) : Option (Int × Int) :=
    some ((-1 : Int), z2)
def slices_IndexFunc_api_Value_api_Value_of_value_sound_1_l1 (q_value_sound_1_s : GValue → Int → Int → Option (Bool × Int)) (p1 : (List GValue)) (p2 : Int) : Nat → Int → Int → Option (Int × Int)
  | 0, _, _ => none
  | k1 + 1, z1, x1 =>
    ift (decide (x1 < (p1.length : Int)))
      (bnd (at? p1 x1) fun e1 =>
       bnd (q_value_sound_1_s e1 p2 z1) fun r1 =>
       ift r1.1
         (some (x1, r1.2))
         ((slices_IndexFunc_api_Value_api_Value_of_value_sound_1_l1 q_value_sound_1_s p1 p2 k1) r1.2 (i64.wrap (x1 + (1 : Int)))))
      (slices_IndexFunc_api_Value_api_Value_of_value_sound_1_j1 z1)
def value_sound_j2 (q_slices_ContainsFunc_api_Value_api_Value_of_value_sound_1 : (List GValue) → Int → Int → Option (Bool × Int)) (p1 : GValue) (p2 : Int) (z1 : Int) (x1 : Bool) : Option (Bool × Int) :=
    ift x1
      (some (false, z1))
      (bnd (q_slices_ContainsFunc_api_Value_api_Value_of_value_sound_1 p1.items p2 z1) fun r2 =>
       some ((!r2.1), r2.2))
def value_sound_j1 (q_slices_ContainsFunc_api_Value_api_Value_of_value_sound_1 : (List GValue) → Int → Int → Option (Bool × Int)) (p1 : GValue) (p2 : Int) (z1 : Int) : Option (Bool × Int) :=
    ift (decide ((4 : Int) < p2))
      (value_sound_j2 q_slices_ContainsFunc_api_Value_api_Value_of_value_sound_1 p1 p2 z1 true)
      (ift (decide ((256 : Int) < z1))
         (value_sound_j2 q_slices_ContainsFunc_api_Value_api_Value_of_value_sound_1 p1 p2 z1 true)
         (bnd (value_plain p1) fun r1 =>
          value_sound_j2 q_slices_ContainsFunc_api_Value_api_Value_of_value_sound_1 p1 p2 z1 (!r1)))
mutual
def slices_ContainsFunc_api_Value_api_Value_of_value_sound_1 : Nat → (List GValue) → Int → Int → Option (Bool × Int)
  | 0, _, _, _ => none
  | k0 + 1, p1, p2, p3 =>
    bnd ((slices_IndexFunc_api_Value_api_Value_of_value_sound_1 k0) p1 p2 p3) fun r1 =>
    some ((decide ((0 : Int) ≤ r1.1)), r1.2)
def slices_IndexFunc_api_Value_api_Value_of_value_sound_1 : Nat → (List GValue) → Int → Int → Option (Int × Int)
  | 0, _, _, _ => none
  | k0 + 1, p1, p2, p3 =>
    slices_IndexFunc_api_Value_api_Value_of_value_sound_1_l1 (value_sound_1_s k0) p1 p2 BIG p3 (0 : Int)
def value_sound : Nat → GValue → Int → Int → Option (Bool × Int)
  | 0, _, _, _ => none
  | k0 + 1, p1, p2, p3 =>
    ift (p1.kind != (0 : Int))
      (value_sound_j1 (slices_ContainsFunc_api_Value_api_Value_of_value_sound_1 k0) p1 p2 (i64.wrap (p3 + (1 : Int))))
      (value_sound_j1 (slices_ContainsFunc_api_Value_api_Value_of_value_sound_1 k0) p1 p2 p3)
def value_sound_1_s : Nat → GValue → Int → Int → Option (Bool × Int)
  | 0, _, _, _ => none
  | k0 + 1, p1, p2, p3 =>
    bnd ((value_sound k0) p1 (i64.wrap (p2 + (1 : Int))) p3) fun r1 =>
    some ((!r1.1), r1.2)
end
abbrev qa1644 : List CV := [.pt 1 0 0 0]
abbrev qa1651 (e1 : GValue) : List CV := [ci e1.kind, ci e1.n, ci e1.scale, cst e1.s, cl eValue e1.items]
abbrev qa1662 (p1 : GValue) : List CV := [ci p1.kind, ci p1.n, ci p1.scale, cst p1.s, cl eValue p1.items]
abbrev qa1665 (p1 : GValue) : List PV := [pi p1.kind, pi p1.n, pi p1.scale, .s (.string p1.s), .ro (eValue.els p1.items)]
abbrev qa1668 : List CV := [.pt 0 0 0 0]
abbrev qa1676 (p1 : GValue) (p2 : Int) : Fr := [(3, vR (qa1665 p1)), (4, vR [pi p2]), (5, vq 1)]
abbrev qa1677 (z1 : Int) : St := [.box [ci z1], .box qa1668]
abbrev qa1684 (p1 : GValue) (p2 : Int) : Fr := [(3, vR (qa1665 p1)), (4, vR [pi p2]), (5, vq 1), (17, vb (decide ((4 : Int) < p2)))]
abbrev qa1687 (p1 : GValue) : List CV := [ci p1.kind, ci p1.n, ci p1.scale, cst p1.s, cl eValue p1.items]
mutual
theorem c_slices_ContainsFunc_api_Value_api_Value_of_value_sound_1 : ∀ (k0 : Nat) (p1 : (List GValue)) (p2 : Int) (p3 : Int) (r : (Bool × Int)), slices_ContainsFunc_api_Value_api_Value_of_value_sound_1 k0 p1 p2 p3 = some r → MC Tryz.prog 111 [vl eValue p1, .one (.fn 112 [.pv (.rp [[pi p2]] 0 0), .pt 0 0 0 0])] [.box [.pt 1 0 0 0], .box [ci p3]] (vb r.1) [.box [.pt 1 0 0 0], .box [ci r.2]]
 | 0, _, _, _, r, h => by rw [slices_ContainsFunc_api_Value_api_Value_of_value_sound_1.eq_1] at h; cases h
 | k0 + 1, p1, p2, p3, r, h => by
  rw [slices_ContainsFunc_api_Value_api_Value_of_value_sound_1.eq_2] at h
  refine MC.of 2 (n := 9) (fn := Tryz.f111) (c := cd Tryz.f111 []) (by kernel_rfl) (by kernel_rfl) (by kernel_rfl) (Nat.le_of_ble_eq_true rfl) rfl (zq fun K1 m1 => zr (zg [] 1 [0,1] (zd (m1 _ _ (zq fun K2 m2 => ?_)))))
  obtain ⟨r1, c3, h⟩ := zB h
  refine zr (zv [] 2 [5,6] [] [(5, vl eValue p1), (6, .one (.fn 112 [.pv (.rp [[pi p2]] 0 0), .pt 0 0 0 0]))] [.box [.pt 1 0 0 0], .box [ci p3]] ?_)
  refine XO.calm 156 [vl eValue p1, .one (.fn 112 [.pv (.rp [[pi p2]] 0 0), .pt 0 0 0 0])] [.box [.pt 1 0 0 0], .box [ci p3]] [.box [.pt 1 0 0 0], .box [ci r1.2]] (vi r1.1) [0, 1] [(7, vi r1.1), (5, vl eValue p1), (6, .one (.fn 112 [.pv (.rp [[pi p2]] 0 0), .pt 0 0 0 0]))] [.box [.pt 1 0 0 0], .box [ci r1.2]] (by kernel_rfl) (c_slices_IndexFunc_api_Value_api_Value_of_value_sound_1 k0 _ _ _ _ c3) (by kernel_rfl) (by kernel_rfl) (by kernel_rfl) (by kernel_rfl) (zv [] 2 [4] [] [(4, vb (decide ((0 : Int) ≤ r1.1)))] [.box [.pt 1 0 0 0], .box [ci r1.2]] (zd (m2 _ _ (ze ?_))))
  obtain rfl := zj h
  exact FinM.fin (.inr rfl) [] [vb (decide ((0 : Int) ≤ r1.1))] [] (by kernel_rfl) trivial (by kernel_rfl) (by kernel_rfl) (.one (.rfl _ rfl))
theorem c_slices_IndexFunc_api_Value_api_Value_of_value_sound_1 : ∀ (k0 : Nat) (p1 : (List GValue)) (p2 : Int) (p3 : Int) (r : (Int × Int)), slices_IndexFunc_api_Value_api_Value_of_value_sound_1 k0 p1 p2 p3 = some r → MC Tryz.prog 156 [vl eValue p1, .one (.fn 112 [.pv (.rp [[pi p2]] 0 0), .pt 0 0 0 0])] [.box qa1644, .box [ci p3]] (vi r.1) [.box qa1644, .box [ci r.2]]
 | 0, _, _, _, r, h => by rw [slices_IndexFunc_api_Value_api_Value_of_value_sound_1.eq_1] at h; cases h
 | k0 + 1, p1, p2, p3, r, h => by
  rw [slices_IndexFunc_api_Value_api_Value_of_value_sound_1.eq_2] at h
  refine MC.of 2 (n := 19) (fn := Tryz.f156) (c := cd Tryz.f156 []) (by kernel_rfl) (by kernel_rfl) (by kernel_rfl) (Nat.le_of_ble_eq_true rfl) rfl (zq fun K1 m1 => zr (zg [] 1 [0,1] (zd (m1 _ _ (zq fun K2 m2 => ?_)))))
  have j1 : ∀ (z2 : Int), slices_IndexFunc_api_Value_api_Value_of_value_sound_1_j1 z2 = some r → ∀ w0 w1, Sub 19 2 [] w0 w1 [] [.box qa1644, .box [ci z2]] → K2 w0 w1 := by
   intro z2 h w0 w1 hS
   unfold slices_IndexFunc_api_Value_api_Value_of_value_sound_1_j1 at h
   refine m2 _ _ (XW.sub hS ?_)
   refine zq fun K14 m14 => zr (zv [] 1 [4] [] [(4, vi (-1))] [.box qa1644, .box [ci z2]] (zd (m14 _ _ (ze ?_))))
   obtain rfl := zj h
   exact FinM.fin (.inr rfl) [] [vi (-1)] [] (by kernel_rfl) trivial (by kernel_rfl) (by kernel_rfl) (.one (.rfl _ rfl))
  refine zq fun K3 m3 => zr (zv [] 2 [0,1,7] [] [(0, vl eValue p1), (1, .one (.fn 112 [.pv (.rp [[pi p2]] 0 0), .pt 0 0 0 0])), (7, vi ((eValue.els p1).length : Int))] [.box [.pt 1 0 0 0], .box [ci p3]] ?_)
  rw [eValue.len p1]
  refine zg [] 1 [0,1,7,8] (zd (m3 _ _ (zb 0 (XW.rounds' BIG (x := cd Tryz.f156 [1,0,1,0,0]) (by kernel_rfl) fun Q1 hQ1 => ?_))))
  have hL1 : ∀ (k1 : Nat) (z1 : Int) (x1 : Int), slices_IndexFunc_api_Value_api_Value_of_value_sound_1_l1 (value_sound_1_s k0) p1 p2 k1 z1 x1 = some r → XR Tryz.prog 19 2 [] (cd Tryz.f156 [1,0,1,0,0]) Q1 k1 [(0, vl eValue p1), (1, .one (.fn 112 [.pv (.rp [[pi p2]] 0 0), .pt 0 0 0 0])), (7, vi (p1.length : Int)), (8, vi x1)] [.box qa1644, .box [ci z1]] := by
   intro k1
   induction k1 with
   | zero => intro z1 x1 h; rw [slices_IndexFunc_api_Value_api_Value_of_value_sound_1_l1.eq_1] at h; cases h
   | succ k1 ih1 =>
    intro z1 x1 h
    rw [slices_IndexFunc_api_Value_api_Value_of_value_sound_1_l1.eq_2] at h
    refine zq fun K4 m4 => zr (zg [] 1 [0,1,7,8,9] (zd (m4 _ _ (zq fun K5 m5 => zC h (fun b6 h => ?_) (fun b6 h => ?_)))))
    ·refine zs (m5 _ _ (zq fun K7 m7 => zb 1 (zq fun K8 m8 => zr (zg [] 2 [0,1,5,7,8] (zd ?_)))))
     refine m8 _ _ (zq fun K9 m9 => ?_)
     obtain ⟨e1, a10, h⟩ := zB h
     obtain ⟨r1, c11, h⟩ := zB h
     refine zr ?_
     refine zp [] 5 [0,1,5,7,8,11,15] [[pi e1.kind, pi e1.n, pi e1.scale, .s (.string e1.s), .ro (eValue.els e1.items)]] [(0, vl eValue p1), (1, .one (.fn 112 [.pv (.rp [[pi p2]] 0 0), .pt 0 0 0 0])), (5, vi x1), (7, vi (p1.length : Int)), (8, vi x1), (11, .one (.fn 112 [.pv (.rp [[pi p2]] 0 0), .pt 0 0 0 0])), (15, .ag (qa1651 e1))] [.box qa1644, .box [ci z1]] [0 ≤ x1 ∧ x1 < ((eValue.els p1).length : Int) ∧ elemsOk 5 (eValue.els p1), (eValue.els p1)[x1.toNat]? = some [pi e1.kind, pi e1.n, pi e1.scale, .s (.string e1.s), .ro (eValue.els e1.items)]] (⟨eValue.inb a10, ((eValue.get a10).trans (by cases e1; rfl)), trivial⟩) ?_
     refine XO.calm 112 [.ag (qa1651 e1), vR [pi p2], vq 0] [.box qa1644, .box [ci z1]] [.box qa1644, .box [ci r1.2]] (vb r1.1) [0, 1] [(16, vb r1.1), (0, vl eValue p1), (1, .one (.fn 112 [.pv (.rp [[pi p2]] 0 0), .pt 0 0 0 0])), (5, vi x1), (7, vi (p1.length : Int)), (8, vi x1), (11, .one (.fn 112 [.pv (.rp [[pi p2]] 0 0), .pt 0 0 0 0])), (15, .ag (qa1651 e1))] [.box qa1644, .box [ci r1.2]] (by kernel_rfl) (c_value_sound_1_s k0 _ _ _ _ c11) (by kernel_rfl) (by kernel_rfl) (by kernel_rfl) (by kernel_rfl) ?_
     refine zd (m9 _ _ (zC h (fun b12 h => ?_) (fun b12 h => ?_)))
     ·refine zq fun K13 m13 => zr (zv [] 2 [4] [] [(4, vi x1)] [.box qa1644, .box [ci r1.2]] (zd (m13 _ _ (ze (hQ1 _ _ _ ?_)))))
      obtain rfl := zj h
      exact FinM.fin (.inr rfl) [] [vi x1] [] (by kernel_rfl) trivial (by kernel_rfl) (by kernel_rfl) (.one (.rfl _ rfl))
     ·exact zs (m7 _ _ (zr (zg [] 2 [0,1,7,8] (zd (XR.sub (zk [0,1,7,8]) (ih1 r1.2 (i64.wrap (x1 + (1 : Int))) h))))))
    ·exact zx 0 (hQ1 _ _ _ (j1 z1 h _ _ (zk [])))
  exact XR.sub (zk [0,1,7,8]) (hL1 BIG p3 (0 : Int) h)
theorem c_value_sound : ∀ (k0 : Nat) (p1 : GValue) (p2 : Int) (p3 : Int) (r : (Bool × Int)), value_sound k0 p1 p2 p3 = some r → MC Tryz.prog 67 [.ag (qa1662 p1), vi p2, vq 0] [.box [ci p3]] (vb r.1) [.box [ci r.2]]
 | 0, _, _, _, r, h => by rw [value_sound.eq_1] at h; cases h
 | k0 + 1, p1, p2, p3, r, h => by
  rw [value_sound.eq_2] at h
  refine MC.of 1 (n := 33) (fn := Tryz.f67) (c := cd Tryz.f67 []) (by kernel_rfl) (by kernel_rfl) (by kernel_rfl) (Nat.le_of_ble_eq_true rfl) rfl (zq fun K1 m1 => zr (zg [5] 4 [3,4,5] (zd (m1 _ _ (zq fun K2 m2 => ?_)))))
  have j1 : ∀ (z1 : Int), value_sound_j1 (slices_ContainsFunc_api_Value_api_Value_of_value_sound_1 k0) p1 p2 z1 = some r → ∀ w0 w1, Sub 33 1 [] w0 w1 (qa1676 p1 p2) (qa1677 z1) → K2 w0 w1 := by
   intro z1 h w0 w1 hS
   unfold value_sound_j1 at h
   refine m2 _ _ (XW.sub hS ?_)
   refine zq fun K5 m5 => zq fun K6 m6 => ?_
   have j2 : ∀ (x1 : Bool), value_sound_j2 (slices_ContainsFunc_api_Value_api_Value_of_value_sound_1 k0) p1 p2 z1 x1 = some r → ∀ w0 w1, Sub 33 1 [] w0 w1 [(3, vR (qa1665 p1)), (4, vR [pi p2]), (5, vq 1), (27, vb x1)] (qa1677 z1) → K6 w0 w1 := by
    intro x1 h w0 w1 hS
    unfold value_sound_j2 at h
    refine m6 _ _ (XW.sub hS ?_)
    refine zC h (fun b10 h => ?_) (fun b10 h => ?_)
    ·refine zq fun K11 m11 => zr (zv [5] 1 [6] [] [(6, vb false)] (qa1677 z1) (zd (m11 _ _ (ze ?_))))
     obtain rfl := zj h
     exact FinM.fin (.inr rfl) [] [vb false] [] (by kernel_rfl) trivial (by kernel_rfl) (by kernel_rfl) (.one (.rfl _ rfl))
    ·refine zs (m5 _ _ (zq fun K12 m12 => ?_))
     obtain ⟨r2, c13, h⟩ := zB h
     refine zr (zv [5] 3 [29,30] [(qa1665 p1)] [(29, vl eValue p1.items), (30, .one (.fn 112 [.pv (.rp [[pi p2]] 0 0), .pt 1 0 0 0]))] (qa1677 z1) ?_)
     refine XO.calm 111 [vl eValue p1.items, .one (.fn 112 [.pv (.rp [[pi p2]] 0 0), .pt 0 0 0 0])] [.box [.pt 1 0 0 0], .box [ci z1]] [.box [.pt 1 0 0 0], .box [ci r2.2]] (vb r2.1) [1, 0] [(31, vb r2.1), (29, vl eValue p1.items), (30, .one (.fn 112 [.pv (.rp [[pi p2]] 0 0), .pt 1 0 0 0]))] [.box [ci r2.2], .box qa1668] (by kernel_rfl) (c_slices_ContainsFunc_api_Value_api_Value_of_value_sound_1 k0 _ _ _ _ c13) (by kernel_rfl) (by kernel_rfl) (by kernel_rfl) (by kernel_rfl) (zv [5] 2 [6] [] [(6, vb (!r2.1))] [.box [ci r2.2], .box qa1668] (zd (m12 _ _ (ze ?_))))
     obtain rfl := zj h
     exact FinM.fin (.inr rfl) [] [vb (!r2.1)] [] (by kernel_rfl) trivial (by kernel_rfl) (by kernel_rfl) (.one (.rfl _ rfl))
   rcases zW h with ⟨b7, h⟩ | ⟨b7, h⟩
   ·exact zr (zu [5] 3 [3,4,5,17] [[pi p2]] (zt 17 b7 (zg [5] 10 [3,4,5,27] (zd (j2 true h _ _ (zk [3,4,5,27]))))))
   ·rcases zW h with ⟨b8, h⟩ | ⟨b8, h⟩
    ·exact zr (zv [5] 3 [3,4,5,17] [[pi p2]] (qa1684 p1 p2) (qa1677 z1) (zt 17 b7 (zg [5] 6 [3,4,5,23] (zt 23 b8 (zg [5] 4 [3,4,5,27] (zd (j2 true h _ _ (zk [3,4,5,27]))))))))
    ·obtain ⟨r1, c9, h⟩ := zB h
     refine zr (zv [5] 3 [3,4,5,17] [[pi p2]] (qa1684 p1 p2) (qa1677 z1) (zt 17 b7 (zg [5] 6 [3,4,5,23] (zt 23 b8 (zu [5] 1 [3,4,5,23,24] [(qa1665 p1)] ?_)))))
     exact zl 110 [.ag (qa1662 p1)] (vb r1) [(25, vb r1), (3, vR (qa1665 p1)), (4, vR [pi p2]), (5, vq 1), (23, vb false), (24, .ag (qa1662 p1))] (c_value_plain _ _ c9) (zg [5] 2 [3,4,5,27] (zd (j2 (!r1) h _ _ (zk [3,4,5,27]))))
  refine zq fun K3 m3 => zr (zu [5] 3 [3,4,5,9] [(qa1665 p1)] (zd (m3 _ _ (zC h (fun b4 h => ?_) (fun b4 h => ?_)))))
  ·exact zr (zv [5] 6 [3,4,5] [] (qa1676 p1 p2) [.box [ci (i64.wrap (p3 + (1 : Int)))], .box qa1668] (zd (j1 (i64.wrap (p3 + (1 : Int))) h _ _ (zk [3,4,5]))))
  ·exact zs (j1 p3 h _ _ (zk [3,4,5]))
theorem c_value_sound_1_s : ∀ (k0 : Nat) (p1 : GValue) (p2 : Int) (p3 : Int) (r : (Bool × Int)), value_sound_1_s k0 p1 p2 p3 = some r → MC Tryz.prog 112 [.ag (qa1687 p1), vR [pi p2], vq 0] [.box [.pt 1 0 0 0], .box [ci p3]] (vb r.1) [.box [.pt 1 0 0 0], .box [ci r.2]]
 | 0, _, _, _, r, h => by rw [value_sound_1_s.eq_1] at h; cases h
 | k0 + 1, p1, p2, p3, r, h => by
  rw [value_sound_1_s.eq_2] at h
  refine MC.of 2 (n := 11) (fn := Tryz.f112) (c := cd Tryz.f112 []) (by kernel_rfl) (by kernel_rfl) (by kernel_rfl) (Nat.le_of_ble_eq_true rfl) rfl (zq fun K1 m1 => zr (zg [] 2 [1,2,3] (zd (m1 _ _ (zq fun K2 m2 => ?_)))))
  obtain ⟨r1, c3, h⟩ := zB h
  refine zr (zv [] 4 [5,7,8] [[pi p1.kind, pi p1.n, pi p1.scale, .s (.string p1.s), .ro (eValue.els p1.items)], [pi p2]] [(5, .ag (qa1687 p1)), (7, vi (i64.wrap (p2 + (1 : Int)))), (8, vq 1)] [.box [.pt 1 0 0 0], .box [ci p3]] ?_)
  refine XO.calm 67 [.ag (qa1687 p1), vi (i64.wrap (p2 + (1 : Int))), vq 0] [.box [ci p3]] [.box [ci r1.2]] (vb r1.1) [1] [(9, vb r1.1), (5, .ag (qa1687 p1)), (7, vi (i64.wrap (p2 + (1 : Int)))), (8, vq 1)] [.box [.pt 1 0 0 0], .box [ci r1.2]] (by kernel_rfl) (c_value_sound k0 _ _ _ _ c3) (by kernel_rfl) (by kernel_rfl) (by kernel_rfl) (by kernel_rfl) (zv [] 2 [4] [] [(4, vb (!r1.1))] [.box [.pt 1 0 0 0], .box [ci r1.2]] (zd (m2 _ _ (ze ?_))))
  obtain rfl := zj h
  exact FinM.fin (.inr rfl) [] [vb (!r1.1)] [] (by kernel_rfl) trivial (by kernel_rfl) (by kernel_rfl) (.one (.rfl _ rfl))
end
def value_Sound (p1 : GValue) : Option Bool :=
    bnd (value_sound BIG p1 (1 : Int) (0 : Int)) fun r1 =>
    some r1.1
abbrev qa1702 (p1 : GValue) : List CV := [ci p1.kind, ci p1.n, ci p1.scale, cst p1.s, cl eValue p1.items]
theorem c_value_Sound (p1 : GValue) (r : Bool) (h : value_Sound p1 = some r) : PC Tryz.prog 27 [.ag (qa1702 p1)] (vb r) := by
 unfold value_Sound at h
 refine zF 6 Tryz.f27 (zq fun K1 m1 => zr (zg [3] 2 [1] (zd (m1 _ _ (zq fun K2 m2 => zr ?_)))))
 refine zg [3] 2 [1,3] (zd (m2 _ _ (zq fun K3 m3 => ?_)))
 obtain ⟨r1, c4, h⟩ := zB h
 refine zr (zv [3] 1 [3,4] [[pi p1.kind, pi p1.n, pi p1.scale, .s (.string p1.s), .ro (eValue.els p1.items)]] [(3, vq 0), (4, .ag (qa1702 p1))] [.box [ci 0]] ?_)
 refine XO.calm 67 [.ag (qa1702 p1), vi 1, vq 0] [.box [ci 0]] [.box [ci r1.2]] (vb r1.1) [0] [(5, vb r1.1), (3, vq 0), (4, .ag (qa1702 p1))] [.box [ci r1.2]] (by kernel_rfl) (c_value_sound BIG _ _ _ _ c4) (by kernel_rfl) (by kernel_rfl) (by kernel_rfl) (by kernel_rfl) (zg [3] 1 [2] (zd (m3 _ _ (ze ?_))))
 obtain rfl := zj h
 exact zf [vb r1.1] (.one (.rfl _ rfl))
def api_Zones : Option (List GZone) :=
    some ([(GZone.mk (ByteArray.mk #[117, 116, 99]) (0 : Int) (0 : Int) (GTurn.mk (0 : Int) (0 : Int) (0 : Int) (0 : Int)) (GTurn.mk (0 : Int) (0 : Int) (0 : Int) (0 : Int))), (GZone.mk (ByteArray.mk #[109, 105, 100]) (60 : Int) (60 : Int) (GTurn.mk (3 : Int) (5 : Int) (7 : Int) (120 : Int)) (GTurn.mk (10 : Int) (5 : Int) (7 : Int) (180 : Int))), (GZone.mk (ByteArray.mk #[101, 97, 115, 116]) (330 : Int) (0 : Int) (GTurn.mk (0 : Int) (0 : Int) (0 : Int) (0 : Int)) (GTurn.mk (0 : Int) (0 : Int) (0 : Int) (0 : Int))), (GZone.mk (ByteArray.mk #[115, 111, 117, 116, 104]) (600 : Int) (60 : Int) (GTurn.mk (10 : Int) (1 : Int) (7 : Int) (120 : Int)) (GTurn.mk (4 : Int) (1 : Int) (7 : Int) (180 : Int))), (GZone.mk (ByteArray.mk #[119, 101, 115, 116]) (-480 : Int) (60 : Int) (GTurn.mk (3 : Int) (2 : Int) (7 : Int) (120 : Int)) (GTurn.mk (11 : Int) (1 : Int) (7 : Int) (120 : Int))), (GZone.mk (ByteArray.mk #[105, 115, 108, 101]) (630 : Int) (30 : Int) (GTurn.mk (10 : Int) (1 : Int) (7 : Int) (120 : Int)) (GTurn.mk (4 : Int) (1 : Int) (7 : Int) (120 : Int)))])
theorem c_api_Zones (r : (List GZone)) (h : api_Zones = some r) : PC Tryz.prog 126 [] (vl eZone r) := by
 unfold api_Zones at h
 refine zF 16 Tryz.f126 (zq fun K1 m1 => zr (zg [] 1 [] (zd (m1 _ _ (zq fun K2 m2 => zr ?_)))))
 refine zg [] 16 [0] (zd (m2 _ _ (ze ?_)))
 obtain rfl := zj h
 exact zf [vl eZone ([(GZone.mk (ByteArray.mk #[117, 116, 99]) (0 : Int) (0 : Int) (GTurn.mk (0 : Int) (0 : Int) (0 : Int) (0 : Int)) (GTurn.mk (0 : Int) (0 : Int) (0 : Int) (0 : Int))), (GZone.mk (ByteArray.mk #[109, 105, 100]) (60 : Int) (60 : Int) (GTurn.mk (3 : Int) (5 : Int) (7 : Int) (120 : Int)) (GTurn.mk (10 : Int) (5 : Int) (7 : Int) (180 : Int))), (GZone.mk (ByteArray.mk #[101, 97, 115, 116]) (330 : Int) (0 : Int) (GTurn.mk (0 : Int) (0 : Int) (0 : Int) (0 : Int)) (GTurn.mk (0 : Int) (0 : Int) (0 : Int) (0 : Int))), (GZone.mk (ByteArray.mk #[115, 111, 117, 116, 104]) (600 : Int) (60 : Int) (GTurn.mk (10 : Int) (1 : Int) (7 : Int) (120 : Int)) (GTurn.mk (4 : Int) (1 : Int) (7 : Int) (180 : Int))), (GZone.mk (ByteArray.mk #[119, 101, 115, 116]) (-480 : Int) (60 : Int) (GTurn.mk (3 : Int) (2 : Int) (7 : Int) (120 : Int)) (GTurn.mk (11 : Int) (1 : Int) (7 : Int) (120 : Int))), (GZone.mk (ByteArray.mk #[105, 115, 108, 101]) (630 : Int) (30 : Int) (GTurn.mk (10 : Int) (1 : Int) (7 : Int) (120 : Int)) (GTurn.mk (4 : Int) (1 : Int) (7 : Int) (120 : Int)))])] (.one (.rfl _ rfl))
def value_zone_1_s (p1 : GZone) (p2 : ByteArray) : Option Bool :=
    some (p1.name.toList == p2.toList)
theorem c_value_zone_1_s (p1 : GZone) (p2 : ByteArray) (r : Bool) (h : value_zone_1_s p1 p2 = some r) : PC Tryz.prog 158 [.ag [cst p1.name, ci p1.offset, ci p1.summer, ci p1.start.month, ci p1.start.week, ci p1.start.weekday, ci p1.start.minute, ci p1.stop.month, ci p1.stop.week, ci p1.stop.weekday, ci p1.stop.minute], vR [.s (.string p2)]] (vb r) := by
 unfold value_zone_1_s at h
 refine zF 8 Tryz.f158 (zq fun K1 m1 => zr (zg [] 2 [1,2] (zd (m1 _ _ (zq fun K2 m2 => zr ?_)))))
 refine zu [] 5 [3] [[.s (.string p1.name), pi p1.offset, pi p1.summer, pi p1.start.month, pi p1.start.week, pi p1.start.weekday, pi p1.start.minute, pi p1.stop.month, pi p1.stop.week, pi p1.stop.weekday, pi p1.stop.minute], [.s (.string p2)]] (zd (m2 _ _ (ze ?_)))
 obtain rfl := zj h
 exact zf [vb (p1.name.toList == p2.toList)] (.one (.rfl _ rfl))
def slices_IndexFunc_api_Zone_api_Zone_of_value_zone_1_j1 : Option Int :=
    some (-1 : Int)
def slices_IndexFunc_api_Zone_api_Zone_of_value_zone_1_l1 (p1 : (List GZone)) (p2 : ByteArray) : Nat → Int → Option Int
  | 0, _ => none
  | k1 + 1, x1 =>
    ift (decide (x1 < (p1.length : Int)))
      (bnd (at? p1 x1) fun e1 =>
       bnd (value_zone_1_s e1 p2) fun r1 =>
       ift r1
         (some x1)
         ((slices_IndexFunc_api_Zone_api_Zone_of_value_zone_1_l1 p1 p2 k1) (i64.wrap (x1 + (1 : Int)))))
      (slices_IndexFunc_api_Zone_api_Zone_of_value_zone_1_j1)
def slices_IndexFunc_api_Zone_api_Zone_of_value_zone_1 (p1 : (List GZone)) (p2 : ByteArray) : Option Int :=
    slices_IndexFunc_api_Zone_api_Zone_of_value_zone_1_l1 p1 p2 BIG (0 : Int)
abbrev qa1714 (e1 : GZone) : List PV := [.s (.string e1.name), pi e1.offset, pi e1.summer, pi e1.start.month, pi e1.start.week, pi e1.start.weekday, pi e1.start.minute, pi e1.stop.month, pi e1.stop.week, pi e1.stop.weekday, pi e1.stop.minute]
theorem c_slices_IndexFunc_api_Zone_api_Zone_of_value_zone_1 (p1 : (List GZone)) (p2 : ByteArray) (r : Int) (h : slices_IndexFunc_api_Zone_api_Zone_of_value_zone_1 p1 p2 = some r) : PC Tryz.prog 157 [vl eZone p1, .one (.fn 158 [.pv (.rp [[.s (.string p2)]] 0 0)])] (vi r) := by
 unfold slices_IndexFunc_api_Zone_api_Zone_of_value_zone_1 at h
 refine zF 19 Tryz.f157 (zq fun K1 m1 => zr (zg [] 1 [0,1] (zd (m1 _ _ (zq fun K2 m2 => ?_)))))
 have j1 : ∀ (_ : Unit), slices_IndexFunc_api_Zone_api_Zone_of_value_zone_1_j1 = some r → ∀ w0 w1, Sub 19 0 [] w0 w1 [] [] → K2 w0 w1 := by
  intro _ h w0 w1 hS
  unfold slices_IndexFunc_api_Zone_api_Zone_of_value_zone_1_j1 at h
  refine m2 _ _ (XW.sub hS ?_)
  refine zq fun K14 m14 => zr (zg [] 1 [4] (zd (m14 _ _ (ze ?_))))
  obtain rfl := zj h
  exact zf [vi (-1)] (.one (.rfl _ rfl))
 refine zq fun K3 m3 => zr (zv [] 2 [0,1,7] [] [(0, vl eZone p1), (1, .one (.fn 158 [.pv (.rp [[.s (.string p2)]] 0 0)])), (7, vi ((eZone.els p1).length : Int))] [] ?_)
 rw [eZone.len p1]
 refine zg [] 1 [0,1,7,8] (zd (m3 _ _ (zb 0 (XW.rounds' BIG (x := cd Tryz.f157 [1,0,1,0,0]) (by kernel_rfl) fun Q1 hQ1 => ?_))))
 have hL1 : ∀ (k1 : Nat) (x1 : Int), slices_IndexFunc_api_Zone_api_Zone_of_value_zone_1_l1 p1 p2 k1 x1 = some r → XR Tryz.prog 19 0 [] (cd Tryz.f157 [1,0,1,0,0]) Q1 k1 [(0, vl eZone p1), (1, .one (.fn 158 [.pv (.rp [[.s (.string p2)]] 0 0)])), (7, vi (p1.length : Int)), (8, vi x1)] [] := by
  intro k1
  induction k1 with
  | zero => intro x1 h; rw [slices_IndexFunc_api_Zone_api_Zone_of_value_zone_1_l1.eq_1] at h; cases h
  | succ k1 ih1 =>
   intro x1 h
   rw [slices_IndexFunc_api_Zone_api_Zone_of_value_zone_1_l1.eq_2] at h
   refine zq fun K4 m4 => zr (zg [] 1 [0,1,7,8,9] (zd (m4 _ _ (zq fun K5 m5 => zC h (fun b6 h => ?_) (fun b6 h => ?_)))))
   ·refine zs (m5 _ _ (zq fun K7 m7 => zb 1 (zq fun K8 m8 => zr (zg [] 2 [0,1,5,7,8] (zd ?_)))))
    refine m8 _ _ (zq fun K9 m9 => ?_)
    obtain ⟨e1, a10, h⟩ := zB h
    obtain ⟨r1, c11, h⟩ := zB h
    refine zr ?_
    refine zp [] 5 [0,1,5,7,8,11,15] [(qa1714 e1)] [(0, vl eZone p1), (1, .one (.fn 158 [.pv (.rp [[.s (.string p2)]] 0 0)])), (5, vi x1), (7, vi (p1.length : Int)), (8, vi x1), (11, .one (.fn 158 [.pv (.rp [[.s (.string p2)]] 0 0)])), (15, .ag [cst e1.name, ci e1.offset, ci e1.summer, ci e1.start.month, ci e1.start.week, ci e1.start.weekday, ci e1.start.minute, ci e1.stop.month, ci e1.stop.week, ci e1.stop.weekday, ci e1.stop.minute])] [] [0 ≤ x1 ∧ x1 < ((eZone.els p1).length : Int) ∧ elemsOk 11 (eZone.els p1), (eZone.els p1)[x1.toNat]? = some (qa1714 e1)] (⟨eZone.inb a10, (eZone.get a10), trivial⟩) ?_
    refine za (c_value_zone_1_s _ _ _ c11) (zd (m9 _ _ (zC h (fun b12 h => ?_) (fun b12 h => ?_))))
    ·refine zq fun K13 m13 => zr (zg [] 2 [4] (zd (m13 _ _ (ze (hQ1 _ _ _ ?_)))))
     obtain rfl := zj h
     exact zf [vi x1] (.one (.rfl _ rfl))
    ·exact zs (m7 _ _ (zr (zv [] 2 [0,1,7,8] [] [(0, vl eZone p1), (1, .one (.fn 158 [.pv (.rp [[.s (.string p2)]] 0 0)])), (7, vi (p1.length : Int)), (8, vi (i64.wrap (x1 + (1 : Int))))] [] (zd (XR.sub (zk [0,1,7,8]) (ih1 (i64.wrap (x1 + (1 : Int))) h))))))
   ·exact zx 0 (hQ1 _ _ _ (j1 () h _ _ (zk [])))
 exact XR.sub (zk [0,1,7,8]) (hL1 BIG (0 : Int) h)
def value_zone (p1 : ByteArray) : Option (GZone × Bool) :=
    bnd (api_Zones) fun r1 =>
    bnd (slices_IndexFunc_api_Zone_api_Zone_of_value_zone_1 r1 p1) fun r2 =>
    ift (decide (r2 < (0 : Int)))
      (some ((GZone.mk ByteArray.empty (0 : Int) (0 : Int) (GTurn.mk (0 : Int) (0 : Int) (0 : Int) (0 : Int)) (GTurn.mk (0 : Int) (0 : Int) (0 : Int) (0 : Int))), false))
      (bnd (at? r1 r2) fun e1 =>
       some (e1, true))
abbrev qa1721 : List CV := [cst ByteArray.empty, ci 0, ci 0, ci 0, ci 0, ci 0, ci 0, ci 0, ci 0, ci 0, ci 0]
abbrev qa1723 (e1 : GZone) : List PV := [.s (.string e1.name), pi e1.offset, pi e1.summer, pi e1.start.month, pi e1.start.week, pi e1.start.weekday, pi e1.start.minute, pi e1.stop.month, pi e1.stop.week, pi e1.stop.weekday, pi e1.stop.minute]
abbrev qa1725 (e1 : GZone) : List CV := [cst e1.name, ci e1.offset, ci e1.summer, ci e1.start.month, ci e1.start.week, ci e1.start.weekday, ci e1.start.minute, ci e1.stop.month, ci e1.stop.week, ci e1.stop.weekday, ci e1.stop.minute]
theorem c_value_zone (p1 : ByteArray) (r : (GZone × Bool)) (h : value_zone p1 = some r) : PC Tryz.prog 113 [vs p1] (.tp [.ag [cst r.1.name, ci r.1.offset, ci r.1.summer, ci r.1.start.month, ci r.1.start.week, ci r.1.start.weekday, ci r.1.start.minute, ci r.1.stop.month, ci r.1.stop.week, ci r.1.stop.weekday, ci r.1.stop.minute], vb r.2]) := by
 unfold value_zone at h
 refine zF 17 Tryz.f113 (zq fun K1 m1 => zr (zg [2] 3 [1,2] (zd (m1 _ _ (zq fun K2 m2 => ?_)))))
 obtain ⟨r1, c3, h⟩ := zB h
 refine zr (za (c_api_Zones _ c3) (zv [2] 1 [1,2,4] [] [(1, vR [.s (.string p1)]), (2, vq 0), (4, vl eZone r1)] [.box qa1721] (zd (m2 _ _ (zq fun K4 m4 => ?_)))))
 obtain ⟨r2, c5, h⟩ := zB h
 refine zr (zg [2] 2 [2,4,7,8] (za (c_slices_IndexFunc_api_Zone_api_Zone_of_value_zone_1 _ _ _ c5) (zv [2] 1 [2,4,5] [] [(2, vq 0), (4, vl eZone r1), (5, vi r2)] [.box qa1721] (zd (m4 _ _ (zq fun K6 m6 => zq fun K7 m7 => ?_))))))
 refine zr (zg [2] 2 [2,4,5,11] (zd (m7 _ _ (zC h (fun b8 h => ?_) (fun b8 h => ?_)))))
 ·refine zq fun K9 m9 => zr (zg [2] 3 [2,3] (zd (m9 _ _ (ze ?_))))
  obtain rfl := zj h
  exact zf [.ag qa1721, vb false] (.tpc (.ag (.cons (.rfl _ rfl) (.cons (.rfl _ rfl) (.cons (.rfl _ rfl) (.cons (.rfl _ rfl) (.cons (.rfl _ rfl) (.cons (.rfl _ rfl) (.cons (.rfl _ rfl) (.cons (.rfl _ rfl) (.cons (.rfl _ rfl) (.cons (.rfl _ rfl) (.cons (.rfl _ rfl) .nil)))))))))))) (.tpc (.one (.rfl _ rfl)) (.tp0)))
 ·refine zs (m6 _ _ (zq fun K10 m10 => ?_))
  obtain ⟨e1, a11, h⟩ := zB h
  refine zr ?_
  refine zp [2] 6 [2,3] [(qa1723 e1)] [(2, vq 0), (3, vb true)] [.box (qa1725 e1)] [0 ≤ r2 ∧ r2 < ((eZone.els r1).length : Int) ∧ elemsOk 11 (eZone.els r1), (eZone.els r1)[r2.toNat]? = some (qa1723 e1)] (⟨eZone.inb a11, (eZone.get a11), trivial⟩) ?_
  refine zd (m10 _ _ (ze ?_))
  obtain rfl := zj h
  exact zf [.ag (qa1725 e1), vb true] (.tpc (.ag (.cons (.rfl _ rfl) (.cons (.rfl _ rfl) (.cons (.rfl _ rfl) (.cons (.rfl _ rfl) (.cons (.rfl _ rfl) (.cons (.rfl _ rfl) (.cons (.rfl _ rfl) (.cons (.rfl _ rfl) (.cons (.rfl _ rfl) (.cons (.rfl _ rfl) (.cons (.rfl _ rfl) .nil)))))))))))) (.tpc (.one (.rfl _ rfl)) (.tp0)))
def value_floor_j1 (x1 : Int) (x2 : Int) : Option (Int × Int) :=
    some (x1, x2)
def value_floor (p1 : Int) (p2 : Int) : Option (Int × Int) :=
    grd (p2 ≠ 0) <|
    grd (p2 ≠ 0) <|
    ift (decide ((p1.tmod p2) < (0 : Int)))
      (value_floor_j1 (i64.wrap ((i64.wrap (p1.tdiv p2)) - (1 : Int))) (i64.wrap ((p1.tmod p2) + p2)))
      (value_floor_j1 (i64.wrap (p1.tdiv p2)) (p1.tmod p2))
theorem c_value_floor (p1 : Int) (p2 : Int) (r : (Int × Int)) (h : value_floor p1 p2 = some r) : PC Tryz.prog 117 [vi p1, vi p2] (.tp [vi r.1, vi r.2]) := by
 unfold value_floor at h
 refine zF 23 Tryz.f117 (zq fun K1 m1 => zr (zg [] 2 [0,1] (zd (m1 _ _ (zq fun K2 m2 => ?_)))))
 obtain ⟨g3, h⟩ := zG h
 obtain ⟨g4, h⟩ := zG h
 refine zw 7 [(6, vi (i64.wrap (p1.tdiv p2))), (13, vi (p1.tmod p2)), (12, vi p2), (11, vi p1), (10, vi (i64.wrap (p1.tdiv p2))), (9, vi p2), (8, vi p1), (0, vi p1), (1, vi p2)] ?_ ?_
 ·exact zyo 7 [] [p2 ≠ 0, p2 ≠ 0] (⟨g3, g4, trivial⟩) zyd
 refine zg [] 1 [1,6,7] (zd (m2 _ _ (zq fun K5 m5 => ?_)))
 have j1 : ∀ (x1 : Int) (x2 : Int), value_floor_j1 x1 x2 = some r → ∀ w0 w1, Sub 23 0 [] w0 w1 [(6, vi x1), (7, vi x2)] [] → K5 w0 w1 := by
  intro x1 x2 h w0 w1 hS
  unfold value_floor_j1 at h
  refine m5 _ _ (XW.sub hS ?_)
  refine zq fun K8 m8 => zr (zg [] 4 [4,5] (zd (m8 _ _ (ze ?_))))
  obtain rfl := zj h
  exact zf [vi x1, vi x2] (.tpc (.one (.rfl _ rfl)) (.tpc (.one (.rfl _ rfl)) (.tp0)))
 refine zq fun K6 m6 => zr (zv [] 2 [1,6,7,15] [] [(1, vi p2), (6, vi (i64.wrap (p1.tdiv p2))), (7, vi (p1.tmod p2)), (15, vb (decide ((p1.tmod p2) < (0 : Int))))] [] (zd (m6 _ _ (zC h (fun b7 h => ?_) (fun b7 h => ?_)))))
 ·exact zr (zg [] 7 [6,7] (zd (j1 (i64.wrap ((i64.wrap (p1.tdiv p2)) - (1 : Int))) (i64.wrap ((p1.tmod p2) + p2)) h _ _ (zk [6,7]))))
 ·exact zs (j1 (i64.wrap (p1.tdiv p2)) (p1.tmod p2) h _ _ (zk [6,7]))
def value_date_j1 (y10 : Int) (x1 : Int) (x2 : Int) : Option (Int × Int × Int) :=
    some (x1, x2, y10)
def value_date (p1 : Int) : Option (Int × Int × Int) :=
    bnd (value_floor (i64.wrap (p1 + (719468 : Int))) (146097 : Int)) fun r1 =>
    bnd (some (i64.wrap (r1.2 - (i64.wrap (r1.2.tdiv (1460 : Int)))))) fun y1 =>
    bnd (some (i64.wrap (y1 + (i64.wrap (r1.2.tdiv (36524 : Int)))))) fun y2 =>
    bnd (some (i64.wrap (y2 - (i64.wrap (r1.2.tdiv (146096 : Int)))))) fun y3 =>
    bnd (some (i64.wrap ((i64.wrap (y3.tdiv (365 : Int))) * (365 : Int)))) fun y4 =>
    bnd (some (i64.wrap ((i64.wrap (y3.tdiv (365 : Int))).tdiv (4 : Int)))) fun y5 =>
    bnd (some (i64.wrap ((i64.wrap (y3.tdiv (365 : Int))).tdiv (100 : Int)))) fun y6 =>
    bnd (some (i64.wrap (r1.2 - (i64.wrap ((i64.wrap (y4 + y5)) - y6))))) fun y7 =>
    bnd (some (i64.wrap ((i64.wrap ((i64.wrap ((5 : Int) * y7)) + (2 : Int))).tdiv (153 : Int)))) fun y8 =>
    bnd (some (i64.wrap ((i64.wrap ((153 : Int) * y8)) + (2 : Int)))) fun y9 =>
    bnd (some (i64.wrap ((i64.wrap (y7 - (i64.wrap (y9.tdiv (5 : Int))))) + (1 : Int)))) fun y10 =>
    bnd (some (i64.wrap ((i64.wrap (r1.1 * (400 : Int))) + (i64.wrap (y3.tdiv (365 : Int)))))) fun y11 =>
    ift (decide ((12 : Int) < (i64.wrap (y8 + (3 : Int)))))
      (value_date_j1 y10 (i64.wrap (y11 + (1 : Int))) (i64.wrap ((i64.wrap (y8 + (3 : Int))) - (12 : Int))))
      (value_date_j1 y10 y11 (i64.wrap (y8 + (3 : Int))))
theorem c_value_date (p1 : Int) (r : (Int × Int × Int)) (h : value_date p1 = some r) : PC Tryz.prog 159 [vi p1] (.tp [vi r.1, vi r.2.1, vi r.2.2]) := by
 unfold value_date at h
 refine zF 61 Tryz.f159 (zq fun K1 m1 => zr (zg [] 3 [0] (zd (m1 _ _ (zq fun K2 m2 => ?_)))))
 obtain ⟨r1, c3, h⟩ := zB h
 refine zr (zg [] 2 [10] (zl 117 [vi (i64.wrap (p1 + (719468 : Int))), vi 146097] (.tp [vi r1.1, vi r1.2]) [(11, .tp [vi r1.1, vi r1.2]), (10, vi (i64.wrap (p1 + (719468 : Int))))] (c_value_floor _ _ _ c3) (zg [] 5 [0,5] (zd (m2 _ _ (zq fun K4 m4 => ?_))))))
 obtain ⟨y1, hy5, h⟩ := zB h
 obtain ⟨y2, hy6, h⟩ := zB h
 obtain ⟨y3, hy7, h⟩ := zB h
 refine zr (zp [] 4 [0,5,17] [] [(0, vi r1.2), (5, vi r1.1), (17, vi (i64.wrap (r1.2 - (i64.wrap (r1.2.tdiv (1460 : Int))))))] [] [(1460 : Int) ≠ 0] (⟨by decide, trivial⟩) ?_)
 rw [show (i64.wrap (r1.2 - (i64.wrap (r1.2.tdiv (1460 : Int))))) = y1 from zj hy5]
 refine zp [] 3 [0,5,20] [] [(0, vi r1.2), (5, vi r1.1), (20, vi (i64.wrap (y1 + (i64.wrap (r1.2.tdiv (36524 : Int))))))] [] [(36524 : Int) ≠ 0] (⟨by decide, trivial⟩) ?_
 rw [show (i64.wrap (y1 + (i64.wrap (r1.2.tdiv (36524 : Int))))) = y2 from zj hy6]
 refine zp [] 3 [0,5,23] [] [(0, vi r1.2), (5, vi r1.1), (23, vi (i64.wrap (y2 - (i64.wrap (r1.2.tdiv (146096 : Int))))))] [] [(146096 : Int) ≠ 0] (⟨by decide, trivial⟩) ?_
 rw [show (i64.wrap (y2 - (i64.wrap (r1.2.tdiv (146096 : Int))))) = y3 from zj hy7]
 refine zo [] 2 [0,5,6] [] [(365 : Int) ≠ 0] (⟨by decide, trivial⟩) (zd (m4 _ _ (zq fun K8 m8 => ?_)))
 obtain ⟨y4, hy9, h⟩ := zB h
 obtain ⟨y5, hy10, h⟩ := zB h
 obtain ⟨y6, hy11, h⟩ := zB h
 obtain ⟨y7, hy12, h⟩ := zB h
 refine zr (zv [] 3 [5,6,25,27] [] [(5, vi r1.1), (6, vi (i64.wrap (y3.tdiv (365 : Int)))), (25, vi r1.2), (27, vi (i64.wrap ((i64.wrap (y3.tdiv (365 : Int))) * (365 : Int))))] [] ?_)
 rw [show (i64.wrap ((i64.wrap (y3.tdiv (365 : Int))) * (365 : Int))) = y4 from zj hy9]
 refine zp [] 2 [5,6,25,27,29] [] [(5, vi r1.1), (6, vi (i64.wrap (y3.tdiv (365 : Int)))), (25, vi r1.2), (27, vi y4), (29, vi (i64.wrap ((i64.wrap (y3.tdiv (365 : Int))).tdiv (4 : Int))))] [] [(4 : Int) ≠ 0] (⟨by decide, trivial⟩) ?_
 rw [show (i64.wrap ((i64.wrap (y3.tdiv (365 : Int))).tdiv (4 : Int))) = y5 from zj hy10]
 refine zp [] 3 [5,6,25,30,32] [] [(5, vi r1.1), (6, vi (i64.wrap (y3.tdiv (365 : Int)))), (25, vi r1.2), (30, vi (i64.wrap (y4 + y5))), (32, vi (i64.wrap ((i64.wrap (y3.tdiv (365 : Int))).tdiv (100 : Int))))] [] [(100 : Int) ≠ 0] (⟨by decide, trivial⟩) ?_
 rw [show (i64.wrap ((i64.wrap (y3.tdiv (365 : Int))).tdiv (100 : Int))) = y6 from zj hy11]
 refine zv [] 2 [5,6,34] [] [(5, vi r1.1), (6, vi (i64.wrap (y3.tdiv (365 : Int)))), (34, vi (i64.wrap (r1.2 - (i64.wrap ((i64.wrap (y4 + y5)) - y6)))))] [] ?_
 rw [show (i64.wrap (r1.2 - (i64.wrap ((i64.wrap (y4 + y5)) - y6)))) = y7 from zj hy12]
 refine zg [] 1 [0,5,6] (zd (m8 _ _ (zq fun K13 m13 => ?_)))
 obtain ⟨y8, hy14, h⟩ := zB h
 refine zr (zp [] 4 [0,5,6,38] [] [(0, vi y7), (5, vi r1.1), (6, vi (i64.wrap (y3.tdiv (365 : Int)))), (38, vi (i64.wrap ((i64.wrap ((i64.wrap ((5 : Int) * y7)) + (2 : Int))).tdiv (153 : Int))))] [] [(153 : Int) ≠ 0] (⟨by decide, trivial⟩) ?_)
 rw [show (i64.wrap ((i64.wrap ((i64.wrap ((5 : Int) * y7)) + (2 : Int))).tdiv (153 : Int))) = y8 from zj hy14]
 refine zg [] 1 [0,5,6,7] (zd (m13 _ _ (zq fun K15 m15 => ?_)))
 obtain ⟨y9, hy16, h⟩ := zB h
 obtain ⟨y10, hy17, h⟩ := zB h
 refine zr (zv [] 4 [5,6,7,39,42] [] [(5, vi r1.1), (6, vi (i64.wrap (y3.tdiv (365 : Int)))), (7, vi y8), (39, vi y7), (42, vi (i64.wrap ((i64.wrap ((153 : Int) * y8)) + (2 : Int))))] [] ?_)
 rw [show (i64.wrap ((i64.wrap ((153 : Int) * y8)) + (2 : Int))) = y9 from zj hy16]
 refine zp [] 3 [5,6,7,45] [] [(5, vi r1.1), (6, vi (i64.wrap (y3.tdiv (365 : Int)))), (7, vi y8), (45, vi (i64.wrap ((i64.wrap (y7 - (i64.wrap (y9.tdiv (5 : Int))))) + (1 : Int))))] [] [(5 : Int) ≠ 0] (⟨by decide, trivial⟩) ?_
 rw [show (i64.wrap ((i64.wrap (y7 - (i64.wrap (y9.tdiv (5 : Int))))) + (1 : Int))) = y10 from zj hy17]
 refine zg [] 1 [4,5,6,7] (zd (m15 _ _ (zq fun K18 m18 => ?_)))
 obtain ⟨y11, hy19, h⟩ := zB h
 refine zr (zv [] 4 [4,7,49] [] [(4, vi y10), (7, vi y8), (49, vi (i64.wrap ((i64.wrap (r1.1 * (400 : Int))) + (i64.wrap (y3.tdiv (365 : Int))))))] [] ?_)
 rw [show (i64.wrap ((i64.wrap (r1.1 * (400 : Int))) + (i64.wrap (y3.tdiv (365 : Int))))) = y11 from zj hy19]
 refine zg [] 4 [2,3,4] (zd (m18 _ _ (zq fun K20 m20 => ?_)))
 have j1 : ∀ (x1 : Int) (x2 : Int), value_date_j1 y10 x1 x2 = some r → ∀ w0 w1, Sub 61 0 [] w0 w1 [(2, vi x1), (3, vi x2), (4, vi y10)] [] → K20 w0 w1 := by
  intro x1 x2 h w0 w1 hS
  unfold value_date_j1 at h
  refine m20 _ _ (XW.sub hS ?_)
  refine zq fun K23 m23 => zr (zg [] 6 [2,3,4] (zd (m23 _ _ (ze ?_))))
  obtain rfl := zj h
  exact zf [vi x1, vi x2, vi y10] (.tpc (.one (.rfl _ rfl)) (.tpc (.one (.rfl _ rfl)) (.tpc (.one (.rfl _ rfl)) (.tp0))))
 refine zq fun K21 m21 => zr (zg [] 2 [2,3,4,53] (zd (m21 _ _ (zC h (fun b22 h => ?_) (fun b22 h => ?_)))))
 ·exact zr (zv [] 6 [2,3,4] [] [(2, vi (i64.wrap (y11 + (1 : Int)))), (3, vi (i64.wrap ((i64.wrap (y8 + (3 : Int))) - (12 : Int)))), (4, vi y10)] [] (zd (j1 (i64.wrap (y11 + (1 : Int))) (i64.wrap ((i64.wrap (y8 + (3 : Int))) - (12 : Int))) h _ _ (zk [2,3,4]))))
 ·exact zs (j1 y11 (i64.wrap (y8 + (3 : Int))) h _ _ (zk [2,3,4]))
def value_civil (p1 : Int) : Option GCivil :=
    bnd (value_floor p1 (86400 : Int)) fun r1 =>
    bnd (value_date r1.1) fun r2 =>
    some (GCivil.mk r2.1 r2.2.1 r2.2.2 (i64.wrap (r1.2.tdiv (3600 : Int))) (i64.wrap ((r1.2.tmod (3600 : Int)).tdiv (60 : Int))) (r1.2.tmod (60 : Int)))
theorem c_value_civil (p1 : Int) (r : GCivil) (h : value_civil p1 = some r) : PC Tryz.prog 115 [vi p1] (.ag [ci r.year, ci r.month, ci r.day, ci r.hour, ci r.minute, ci r.second]) := by
 unfold value_civil at h
 refine zF 30 Tryz.f115 (zq fun K1 m1 => zr (zg [2] 1 [0,2] (zd (m1 _ _ (zq fun K2 m2 => ?_)))))
 obtain ⟨r1, c3, h⟩ := zB h
 refine zr (zg [2] 1 [2,9] (zl 117 [vi p1, vi 86400] (.tp [vi r1.1, vi r1.2]) [(10, .tp [vi r1.1, vi r1.2]), (2, vq 0), (9, vi p1)] (c_value_floor _ _ _ c3) (zg [2] 5 [2,3,4] (zd (m2 _ _ (zq fun K4 m4 => ?_))))))
 obtain ⟨r2, c5, h⟩ := zB h
 refine zr (zg [2] 1 [2,4,14] (zl 159 [vi r1.1] (.tp [vi r2.1, vi r2.2.1, vi r2.2.2]) [(15, .tp [vi r2.1, vi r2.2.1, vi r2.2.2]), (2, vq 0), (4, vi r1.2), (14, vi r1.1)] (c_value_date _ _ c5) (zg [2] 7 [2,4,5,6,7] (zd (m4 _ _ (zq fun K6 m6 => zr ?_))))))
 refine zo [2] 12 [2] [] [(3600 : Int) ≠ 0, (3600 : Int) ≠ 0, (60 : Int) ≠ 0, (60 : Int) ≠ 0] (⟨by decide, by decide, by decide, by decide, trivial⟩) (zd (m6 _ _ (ze ?_)))
 obtain rfl := zj h
 exact zf [.ag [ci r2.1, ci r2.2.1, ci r2.2.2, ci (i64.wrap (r1.2.tdiv (3600 : Int))), ci (i64.wrap ((r1.2.tmod (3600 : Int)).tdiv (60 : Int))), ci (r1.2.tmod (60 : Int))]] (.ag (.cons (.rfl _ rfl) (.cons (.rfl _ rfl) (.cons (.rfl _ rfl) (.cons (.rfl _ rfl) (.cons (.rfl _ rfl) (.cons (.rfl _ rfl) .nil)))))))
def value_days_j1 (p3 : Int) (x1 : Int) (x2 : Int) : Option Int :=
    bnd (value_floor x1 (400 : Int)) fun r1 =>
    bnd (some (i64.wrap ((i64.wrap (r1.1 * (146097 : Int))) + (i64.wrap (r1.2 * (365 : Int)))))) fun y1 =>
    bnd (some (i64.wrap ((i64.wrap (y1 + (i64.wrap (r1.2.tdiv (4 : Int))))) - (i64.wrap (r1.2.tdiv (100 : Int)))))) fun y2 =>
    bnd (some (i64.wrap ((153 : Int) * (i64.wrap (x2 - (3 : Int)))))) fun y3 =>
    bnd (some (i64.wrap ((i64.wrap (y3 + (2 : Int))).tdiv (5 : Int)))) fun y4 =>
    bnd (some (i64.wrap ((i64.wrap ((i64.wrap (y2 + y4)) + p3)) - (1 : Int)))) fun y5 =>
    some (i64.wrap (y5 - (719468 : Int)))
def value_days (p1 : Int) (p2 : Int) (p3 : Int) : Option Int :=
    ift (decide (p2 ≤ (2 : Int)))
      (value_days_j1 p3 (i64.wrap (p1 - (1 : Int))) (i64.wrap (p2 + (12 : Int))))
      (value_days_j1 p3 p1 p2)
theorem c_value_days (p1 : Int) (p2 : Int) (p3 : Int) (r : Int) (h : value_days p1 p2 p3 = some r) : PC Tryz.prog 69 [vi p1, vi p2, vi p3] (vi r) := by
 unfold value_days at h
 refine zF 41 Tryz.f69 (zq fun K1 m1 => zr (zg [] 1 [0,1,2] (zd (m1 _ _ (zq fun K2 m2 => ?_)))))
 have j1 : ∀ (x1 : Int) (x2 : Int), value_days_j1 p3 x1 x2 = some r → ∀ w0 w1, Sub 41 0 [] w0 w1 [(0, vi x1), (1, vi x2), (2, vi p3)] [] → K2 w0 w1 := by
  intro x1 x2 h w0 w1 hS
  unfold value_days_j1 at h
  refine m2 _ _ (XW.sub hS ?_)
  refine zq fun K5 m5 => ?_
  obtain ⟨r1, c6, h⟩ := zB h
  refine zr (zg [] 1 [1,2,16] (za (c_value_floor _ _ _ c6) (zv [] 5 [1,2,7,8] [] [(1, vi x2), (2, vi p3), (7, vi r1.1), (8, vi r1.2)] [] (zd (m5 _ _ (zq fun K7 m7 => ?_))))))
  obtain ⟨y1, hy8, h⟩ := zB h
  obtain ⟨y2, hy9, h⟩ := zB h
  obtain ⟨y3, hy10, h⟩ := zB h
  obtain ⟨y4, hy11, h⟩ := zB h
  obtain ⟨y5, hy12, h⟩ := zB h
  refine zr (zv [] 5 [1,2,8,24] [] [(1, vi x2), (2, vi p3), (8, vi r1.2), (24, vi (i64.wrap ((i64.wrap (r1.1 * (146097 : Int))) + (i64.wrap (r1.2 * (365 : Int))))))] [] ?_)
  rw [show (i64.wrap ((i64.wrap (r1.1 * (146097 : Int))) + (i64.wrap (r1.2 * (365 : Int))))) = y1 from zj hy8]
  refine zp [] 6 [1,2,30] [] [(1, vi x2), (2, vi p3), (30, vi (i64.wrap ((i64.wrap (y1 + (i64.wrap (r1.2.tdiv (4 : Int))))) - (i64.wrap (r1.2.tdiv (100 : Int))))))] [] [(4 : Int) ≠ 0, (100 : Int) ≠ 0] (⟨by decide, by decide, trivial⟩) ?_
  rw [show (i64.wrap ((i64.wrap (y1 + (i64.wrap (r1.2.tdiv (4 : Int))))) - (i64.wrap (r1.2.tdiv (100 : Int))))) = y2 from zj hy9]
  refine zv [] 3 [2,30,33] [] [(2, vi p3), (30, vi y2), (33, vi (i64.wrap ((153 : Int) * (i64.wrap (x2 - (3 : Int))))))] [] ?_
  rw [show (i64.wrap ((153 : Int) * (i64.wrap (x2 - (3 : Int))))) = y3 from zj hy10]
  refine zp [] 2 [2,30,35] [] [(2, vi p3), (30, vi y2), (35, vi (i64.wrap ((i64.wrap (y3 + (2 : Int))).tdiv (5 : Int))))] [] [(5 : Int) ≠ 0] (⟨by decide, trivial⟩) ?_
  rw [show (i64.wrap ((i64.wrap (y3 + (2 : Int))).tdiv (5 : Int))) = y4 from zj hy11]
  refine zv [] 4 [39] [] [(39, vi (i64.wrap ((i64.wrap ((i64.wrap (y2 + y4)) + p3)) - (1 : Int))))] [] ?_
  rw [show (i64.wrap ((i64.wrap ((i64.wrap (y2 + y4)) + p3)) - (1 : Int))) = y5 from zj hy12]
  refine zg [] 2 [6] (zd (m7 _ _ (ze ?_)))
  obtain rfl := zj h
  exact zf [vi (i64.wrap (y5 - (719468 : Int)))] (.one (.rfl _ rfl))
 refine zq fun K3 m3 => zr (zg [] 2 [0,1,2,10] (zd (m3 _ _ (zC h (fun b4 h => ?_) (fun b4 h => ?_)))))
 ·exact zr (zv [] 6 [0,1,2] [] [(0, vi (i64.wrap (p1 - (1 : Int)))), (1, vi (i64.wrap (p2 + (12 : Int)))), (2, vi p3)] [] (zd (j1 (i64.wrap (p1 - (1 : Int))) (i64.wrap (p2 + (12 : Int))) h _ _ (zk [0,1,2]))))
 ·exact zs (j1 p1 p2 h _ _ (zk [0,1,2]))
def value_weekday (p1 : Int) : Option Int :=
    bnd (value_floor (i64.wrap (p1 + (3 : Int))) (7 : Int)) fun r1 =>
    some (i64.wrap (r1.2 + (1 : Int)))
theorem c_value_weekday (p1 : Int) (r : Int) (h : value_weekday p1 = some r) : PC Tryz.prog 70 [vi p1] (vi r) := by
 unfold value_weekday at h
 refine zF 13 Tryz.f70 (zq fun K1 m1 => zr (zg [] 1 [0] (zd (m1 _ _ (zq fun K2 m2 => ?_)))))
 obtain ⟨r1, c3, h⟩ := zB h
 refine zr (zg [] 2 [7] (zl 117 [vi (i64.wrap (p1 + (3 : Int))), vi 7] (.tp [vi r1.1, vi r1.2]) [(8, .tp [vi r1.1, vi r1.2]), (7, vi (i64.wrap (p1 + (3 : Int))))] (c_value_floor _ _ _ c3) (zg [] 5 [4] (zd (m2 _ _ (zq fun K4 m4 => zr ?_))))))
 refine zg [] 3 [2] (zd (m4 _ _ (ze ?_)))
 obtain rfl := zj h
 exact zf [vi (i64.wrap (r1.2 + (1 : Int)))] (.one (.rfl _ rfl))
def value_leap_j1 (x1 : Bool) : Option Bool :=
    some x1
def value_leap (p1 : Int) : Option Bool :=
    ift ((p1.tmod (4 : Int)) == (0 : Int))
      (ift ((p1.tmod (100 : Int)) != (0 : Int))
         (value_leap_j1 true)
         (value_leap_j1 ((p1.tmod (400 : Int)) == (0 : Int))))
      (value_leap_j1 false)
theorem c_value_leap (p1 : Int) (r : Bool) (h : value_leap p1 = some r) : PC Tryz.prog 194 [vi p1] (vb r) := by
 unfold value_leap at h
 refine zF 16 Tryz.f194 (zq fun K1 m1 => zr (zg [] 1 [0] (zd (m1 _ _ (zq fun K2 m2 => ?_)))))
 have j1 : ∀ (x1 : Bool), value_leap_j1 x1 = some r → ∀ w0 w1, Sub 16 0 [] w0 w1 [(2, vb x1)] [] → K2 w0 w1 := by
  intro x1 h w0 w1 hS
  unfold value_leap_j1 at h
  refine m2 _ _ (XW.sub hS ?_)
  refine ze ?_
  obtain rfl := zj h
  exact zf [vb x1] (.one (.rfl _ rfl))
 rcases zW h with ⟨b3, h⟩ | ⟨b3, h⟩
 ·rcases zW h with ⟨b4, h⟩ | ⟨b4, h⟩
  ·exact zr (zo [] 4 [0,6] [] [(4 : Int) ≠ 0] (⟨by decide, trivial⟩) (zt 6 b3 (zp [] 4 [0,6,10] [] [(0, vi p1), (6, vb true), (10, vb ((p1.tmod (100 : Int)) != (0 : Int)))] [] [(100 : Int) ≠ 0] (⟨by decide, trivial⟩) (zt 10 b4 (zg [] 6 [2] (zd (j1 true h _ _ (zk [2]))))))))
  ·exact zr (zo [] 4 [0,6] [] [(4 : Int) ≠ 0] (⟨by decide, trivial⟩) (zt 6 b3 (zp [] 4 [0,6,10] [] [(0, vi p1), (6, vb true), (10, vb ((p1.tmod (100 : Int)) != (0 : Int)))] [] [(100 : Int) ≠ 0] (⟨by decide, trivial⟩) (zt 10 b4 (zo [] 6 [2] [] [(400 : Int) ≠ 0] (⟨by decide, trivial⟩) (zd (j1 ((p1.tmod (400 : Int)) == (0 : Int)) h _ _ (zk [2]))))))))
 ·exact zr (zo [] 4 [0,6] [] [(4 : Int) ≠ 0] (⟨by decide, trivial⟩) (zt 6 b3 (zv [] 10 [2] [] [(2, vb false)] [] (zd (j1 false h _ _ (zk [2]))))))
def value_daysIn_j1 (x1 : Bool) : Option Int :=
    ift x1
      (some (30 : Int))
      (some (31 : Int))
def value_daysIn (p1 : Int) (p2 : Int) : Option Int :=
    ift (p2 == (2 : Int))
      (bnd (value_leap p1) fun r1 =>
       ift r1
         (some (29 : Int))
         (some (28 : Int)))
      (ift (p2 == (4 : Int))
         (value_daysIn_j1 (p2 == (4 : Int)))
         (ift (p2 == (6 : Int))
            (value_daysIn_j1 (p2 == (6 : Int)))
            (ift (p2 == (9 : Int))
               (value_daysIn_j1 (p2 == (9 : Int)))
               (value_daysIn_j1 (p2 == (11 : Int))))))
theorem c_value_daysIn (p1 : Int) (p2 : Int) (r : Int) (h : value_daysIn p1 p2 = some r) : PC Tryz.prog 181 [vi p1, vi p2] (vi r) := by
 unfold value_daysIn at h
 refine zF 15 Tryz.f181 (zq fun K1 m1 => zr (zg [] 1 [0,1] (zd (m1 _ _ (zq fun K2 m2 => zq fun K3 m3 => ?_)))))
 refine zr (zg [] 1 [0,5] (zd (m3 _ _ (zb 0 (zq fun K4 m4 => zr (zv [] 2 [0,5,6] [] [(0, vi p1), (5, vi p2), (6, vb (p2 == (2 : Int)))] [] ?_))))))
 refine zd (m4 _ _ (zC h (fun b5 h => ?_) (fun b5 h => ?_)))
 ·refine zq fun K6 m6 => zq fun K7 m7 => ?_
  obtain ⟨r1, c8, h⟩ := zB h
  refine zr (zg [] 1 [8] (za (c_value_leap _ _ c8) (zd (m7 _ _ (zC h (fun b9 h => ?_) (fun b9 h => ?_))))))
  ·refine zq fun K10 m10 => zr (zv [] 1 [4] [] [(4, vi 29)] [] (zd (m10 _ _ (ze ?_))))
   obtain rfl := zj h
   exact zf [vi 29] (.one (.rfl _ rfl))
  ·refine zs (m6 _ _ (zq fun K11 m11 => zr (zg [] 1 [4] (zd (m11 _ _ (ze ?_))))))
   obtain rfl := zj h
   exact zf [vi 28] (.one (.rfl _ rfl))
 ·refine zq fun K12 m12 => ?_
  have j1 : ∀ (x1 : Bool), value_daysIn_j1 x1 = some r → ∀ w0 w1, Sub 15 0 [] w0 w1 [(10, vb x1)] [] → K12 w0 w1 := by
   intro x1 h w0 w1 hS
   unfold value_daysIn_j1 at h
   refine m12 _ _ (XW.sub hS ?_)
   refine zC h (fun b19 h => ?_) (fun b19 h => ?_)
   ·refine zq fun K20 m20 => zr (zg [] 1 [4] (zd (m20 _ _ (ze ?_))))
    obtain rfl := zj h
    exact zf [vi 30] (.one (.rfl _ rfl))
   ·refine zs (m2 _ _ (zq fun K21 m21 => zr (zg [] 1 [4] (zd (m21 _ _ (ze ?_))))))
    obtain rfl := zj h
    exact zf [vi 31] (.one (.rfl _ rfl))
  refine zq fun K13 m13 => zr (zv [] 2 [5,10] [] [(5, vi p2), (10, vb (p2 == (4 : Int)))] [] (zd (m13 _ _ (zC h (fun b14 h => ?_) (fun b14 h => ?_)))))
  ·exact zs (j1 (p2 == (4 : Int)) h _ _ (zk [10]))
  ·refine zq fun K15 m15 => zr (zg [] 2 [5,10] (zd (m15 _ _ (zC h (fun b16 h => ?_) (fun b16 h => ?_)))))
   ·exact zs (j1 (p2 == (6 : Int)) h _ _ (zk [10]))
   ·refine zq fun K17 m17 => zr (zg [] 2 [5,10] (zd (m17 _ _ (zC h (fun b18 h => ?_) (fun b18 h => ?_)))))
    ·exact zs (j1 (p2 == (9 : Int)) h _ _ (zk [10]))
    ·exact zr (zv [] 2 [10] [] [(10, vb (p2 == (11 : Int)))] [] (zd (j1 (p2 == (11 : Int)) h _ _ (zk [10]))))
def value_at_j1 (p1 : GTurn) (x2 : Int) : Option Int :=
    bnd (some (i64.wrap ((i64.wrap (x2 * (86400 : Int))) + (i64.wrap (p1.minute * (60 : Int)))))) fun y4 =>
    some y4
def value_at_l1 (p1 : GTurn) (r1 : Int) (r3 : Int) : Nat → Int → Option Int
  | 0, _ => none
  | k1 + 1, x1 =>
    bnd (some (decide ((i64.wrap (x1 + (7 : Int))) < (i64.wrap (r1 + r3))))) fun y3 =>
    ift y3
      ((value_at_l1 p1 r1 r3 k1) (i64.wrap (x1 + (7 : Int))))
      (value_at_j1 p1 x1)
def value_at (p1 : GTurn) (p2 : Int) : Option Int :=
    bnd (value_days p2 p1.month (1 : Int)) fun r1 =>
    bnd (value_weekday r1) fun r2 =>
    bnd (some ((i64.wrap ((i64.wrap (p1.weekday - r2)) + (7 : Int))).tmod (7 : Int))) fun y1 =>
    ift (decide (p1.week < (5 : Int)))
      (bnd (some (i64.wrap ((i64.wrap (p1.week - (1 : Int))) * (7 : Int)))) fun y2 =>
       value_at_j1 p1 (i64.wrap ((i64.wrap (r1 + y1)) + y2)))
      (bnd (value_daysIn p2 p1.month) fun r3 =>
       value_at_l1 p1 r1 r3 BIG (i64.wrap (r1 + y1)))
abbrev qa1752 (p1 : GTurn) : List PV := [pi p1.month, pi p1.week, pi p1.weekday, pi p1.minute]
theorem c_value_at (p1 : GTurn) (p2 : Int) (r : Int) (h : value_at p1 p2 = some r) : PC Tryz.prog 160 [.ag [ci p1.month, ci p1.week, ci p1.weekday, ci p1.minute], vi p2] (vi r) := by
 unfold value_at at h
 refine zF 48 Tryz.f160 (zq fun K1 m1 => zr (zg [] 2 [1,2] (zd (m1 _ _ (zq fun K2 m2 => ?_)))))
 obtain ⟨r1, c3, h⟩ := zB h
 refine zr (zu [] 3 [1,2,8,10] [(qa1752 p1)] (zl 69 [vi p2, vi p1.month, vi 1] (vi r1) [(11, vi r1), (1, vi p2), (2, vR (qa1752 p1)), (8, vi p2), (10, vi p1.month)] (c_value_days _ _ _ _ c3) (zg [] 1 [1,2,5] (zd (m2 _ _ (zq fun K4 m4 => ?_))))))
 obtain ⟨r2, c5, h⟩ := zB h
 obtain ⟨y1, hy6, h⟩ := zB h
 refine zw 8 [(19, vi y1), (18, vi (i64.wrap ((i64.wrap (p1.weekday - r2)) + (7 : Int)))), (17, vi (i64.wrap (p1.weekday - r2))), (16, vi r2), (15, vi r1), (14, vi p1.weekday), (13, .one (.pv (.rp [(qa1752 p1)] 0 2))), (12, vi r1), (1, vi p2), (2, vR (qa1752 p1)), (5, vi r1)] ?_ ?_
 ·refine zyu 4 [(qa1752 p1)] (DX.cal 70 [vi r1] (vi r2) [(16, vi r2), (15, vi r1), (14, vi p1.weekday), (13, .one (.pv (.rp [(qa1752 p1)] 0 2))), (12, vi r1), (1, vi p2), (2, vR (qa1752 p1)), (5, vi r1)] (by kernel_rfl) (c_value_weekday _ _ c5) rfl rfl (by kernel_rfl) ?_)
  refine zyp 3 [] [(19, vi ((i64.wrap ((i64.wrap (p1.weekday - r2)) + (7 : Int))).tmod (7 : Int))), (18, vi (i64.wrap ((i64.wrap (p1.weekday - r2)) + (7 : Int)))), (17, vi (i64.wrap (p1.weekday - r2))), (16, vi r2), (15, vi r1), (14, vi p1.weekday), (13, .one (.pv (.rp [[pi p1.month, pi p1.week, pi p1.weekday, pi p1.minute]] 0 2))), (12, vi r1), (1, vi p2), (2, vR [pi p1.month, pi p1.week, pi p1.weekday, pi p1.minute]), (5, vi r1)] [(7 : Int) ≠ 0] (⟨by decide, trivial⟩) ?_
  rw [show ((i64.wrap ((i64.wrap (p1.weekday - r2)) + (7 : Int))).tmod (7 : Int)) = y1 from zj hy6]
  exact zyd
 refine zg [] 2 [1,2,5,6] (zd (m4 _ _ (zq fun K7 m7 => ?_)))
 have j1 : ∀ (x2 : Int), value_at_j1 p1 x2 = some r → ∀ w0 w1, Sub 48 0 [] w0 w1 [(2, vR (qa1752 p1)), (6, vi x2)] [] → K7 w0 w1 := by
  intro x2 h w0 w1 hS
  unfold value_at_j1 at h
  refine m7 _ _ (XW.sub hS ?_)
  refine zq fun K17 m17 => ?_
  obtain ⟨y4, hy18, h⟩ := zB h
  refine zr (zv [] 6 [47] [[pi p1.month, pi p1.week, pi p1.weekday, pi p1.minute]] [(47, vi (i64.wrap ((i64.wrap (x2 * (86400 : Int))) + (i64.wrap (p1.minute * (60 : Int))))))] [] ?_)
  rw [show (i64.wrap ((i64.wrap (x2 * (86400 : Int))) + (i64.wrap (p1.minute * (60 : Int))))) = y4 from zj hy18]
  refine zg [] 1 [4] (zd (m17 _ _ (ze ?_)))
  obtain rfl := zj h
  exact zf [vi y4] (.one (.rfl _ rfl))
 refine zq fun K8 m8 => zr (zv [] 3 [1,2,5,6,23] [(qa1752 p1)] [(1, vi p2), (2, vR (qa1752 p1)), (5, vi r1), (6, vi (i64.wrap (r1 + y1))), (23, vb (decide (p1.week < (5 : Int))))] [] (zd (m8 _ _ (zC h (fun b9 h => ?_) (fun b9 h => ?_)))))
 ·obtain ⟨y2, hy10, h⟩ := zB h
  refine zr (zv [] 5 [2,24,28] [[pi p1.month, pi p1.week, pi p1.weekday, pi p1.minute]] [(2, vR [pi p1.month, pi p1.week, pi p1.weekday, pi p1.minute]), (24, vi (i64.wrap (r1 + y1))), (28, vi (i64.wrap ((i64.wrap (p1.week - (1 : Int))) * (7 : Int))))] [] ?_)
  rw [show (i64.wrap ((i64.wrap (p1.week - (1 : Int))) * (7 : Int))) = y2 from zj hy10]
  exact zg [] 2 [2,6] (zd (j1 (i64.wrap ((i64.wrap (r1 + y1)) + y2)) h _ _ (zk [2,6])))
 ·refine zq fun K11 m11 => ?_
  obtain ⟨r3, c12, h⟩ := zB h
  refine zr (zu [] 4 [2,6,30,31,33] [[pi p1.month, pi p1.week, pi p1.weekday, pi p1.minute]] (zl 181 [vi p2, vi p1.month] (vi r3) [(34, vi r3), (2, vR [pi p1.month, pi p1.week, pi p1.weekday, pi p1.minute]), (6, vi (i64.wrap (r1 + y1))), (30, vi r1), (31, vi p2), (33, vi p1.month)] (c_value_daysIn _ _ _ c12) (zg [] 2 [2,6,7] (zd (m11 _ _ (zb 0 (XW.rounds' BIG (x := cd Tryz.f160 [1,1,1,0,1,1,1,0,0]) (by kernel_rfl) fun Q1 hQ1 => ?_)))))))
  have hL1 : ∀ (k1 : Nat) (x1 : Int), value_at_l1 p1 r1 r3 k1 x1 = some r → XR Tryz.prog 48 0 [] (cd Tryz.f160 [1,1,1,0,1,1,1,0,0]) Q1 k1 [(2, vR (qa1752 p1)), (6, vi x1), (7, vi (i64.wrap (r1 + r3)))] [] := by
   intro k1
   induction k1 with
   | zero => intro x1 h; rw [value_at_l1.eq_1] at h; cases h
   | succ k1 ih1 =>
    intro x1 h
    rw [value_at_l1.eq_2] at h
    refine zq fun K13 m13 => zq fun K14 m14 => ?_
    obtain ⟨y3, hy15, h⟩ := zB h
    refine zr (zv [] 4 [2,6,7,39] [] [(2, vR [pi p1.month, pi p1.week, pi p1.weekday, pi p1.minute]), (6, vi x1), (7, vi (i64.wrap (r1 + r3))), (39, vb (decide ((i64.wrap (x1 + (7 : Int))) < (i64.wrap (r1 + r3)))))] [] ?_)
    rw [show (decide ((i64.wrap (x1 + (7 : Int))) < (i64.wrap (r1 + r3)))) = y3 from zj hy15]
    refine zd (m14 _ _ (zC h (fun b16 h => ?_) (fun b16 h => ?_)))
    ·exact zs (m13 _ _ (zb 1 (zr (zg [] 3 [2,6,7] (zd (XR.sub (zk [2,6,7]) (ih1 (i64.wrap (x1 + (7 : Int))) h)))))))
    ·exact zx 0 (hQ1 _ _ _ (j1 x1 h _ _ (zk [2,6])))
  exact XR.sub (zk [2,6,7]) (hL1 BIG (i64.wrap (r1 + y1)) h)
def value_ahead_j2 (p1 : GZone) (x2 : Bool) : Option Int :=
    ift x2
      (bnd (some (i64.wrap ((i64.wrap (p1.offset * (60 : Int))) + (i64.wrap (p1.summer * (60 : Int)))))) fun y5 =>
       some y5)
      (some (i64.wrap (p1.offset * (60 : Int))))
def value_ahead_j1 (p1 : GZone) (p2 : Int) (r2 : Int) (y1 : Int) (x1 : Bool) : Option Int :=
    bnd (some (decide (y1 ≤ (i64.wrap (r2 - (i64.wrap (p1.offset * (60 : Int)))))))) fun y3 =>
    ift y3
      (ift (decide (p2 < y1))
         (value_ahead_j2 p1 true)
         (bnd (some (decide ((i64.wrap (r2 - (i64.wrap (p1.offset * (60 : Int))))) ≤ p2))) fun y4 =>
          value_ahead_j2 p1 y4))
      (value_ahead_j2 p1 x1)
def value_ahead (p1 : GZone) (p2 : Int) : Option Int :=
    ift ((i64.wrap (p1.summer * (60 : Int))) == (0 : Int))
      (some (i64.wrap (p1.offset * (60 : Int))))
      (bnd (value_civil (i64.wrap (p2 + (i64.wrap (p1.offset * (60 : Int)))))) fun r1 =>
       bnd (value_at p1.start r1.year) fun r2 =>
       bnd (value_at p1.stop r1.year) fun r3 =>
       bnd (some (i64.wrap ((i64.wrap (r3 - (i64.wrap (p1.offset * (60 : Int))))) - (i64.wrap (p1.summer * (60 : Int)))))) fun y1 =>
       bnd (some (decide ((i64.wrap (r2 - (i64.wrap (p1.offset * (60 : Int))))) ≤ p2))) fun y2 =>
       ift y2
         (value_ahead_j1 p1 p2 r2 y1 (decide (p2 < y1)))
         (value_ahead_j1 p1 p2 r2 y1 false))
abbrev qa1760 (p1 : GZone) : List PV := [.s (.string p1.name), pi p1.offset, pi p1.summer, pi p1.start.month, pi p1.start.week, pi p1.start.weekday, pi p1.start.minute, pi p1.stop.month, pi p1.stop.week, pi p1.stop.weekday, pi p1.stop.minute]
abbrev qa1763 (p1 : GZone) : List CV := [ci p1.start.month, ci p1.start.week, ci p1.start.weekday, ci p1.start.minute]
theorem c_value_ahead (p1 : GZone) (p2 : Int) (r : Int) (h : value_ahead p1 p2 = some r) : PC Tryz.prog 116 [.ag [cst p1.name, ci p1.offset, ci p1.summer, ci p1.start.month, ci p1.start.week, ci p1.start.weekday, ci p1.start.minute, ci p1.stop.month, ci p1.stop.week, ci p1.stop.weekday, ci p1.stop.minute], vi p2] (vi r) := by
 unfold value_ahead at h
 refine zF 63 Tryz.f116 (zq fun K1 m1 => zr (zg [] 2 [1,2] (zd (m1 _ _ (zq fun K2 m2 => ?_)))))
 refine zw 7 [(5, vi (i64.wrap (p1.offset * (60 : Int)))), (16, vi (i64.wrap (p1.summer * (60 : Int)))), (15, vi p1.summer), (14, .one (.pv (.rp [(qa1760 p1)] 0 2))), (13, vi (i64.wrap (p1.offset * (60 : Int)))), (12, vi p1.offset), (11, .one (.pv (.rp [(qa1760 p1)] 0 1))), (1, vi p2), (2, vR (qa1760 p1))] ?_ ?_
 ·exact zyu 7 [(qa1760 p1), (qa1760 p1)] zyd
 refine zg [] 1 [1,2,5,6] (zd (m2 _ _ (zq fun K3 m3 => zq fun K4 m4 => zr (zv [] 2 [1,2,5,6,18] [] [(1, vi p2), (2, vR (qa1760 p1)), (5, vi (i64.wrap (p1.offset * (60 : Int)))), (6, vi (i64.wrap (p1.summer * (60 : Int)))), (18, vb ((i64.wrap (p1.summer * (60 : Int))) == (0 : Int)))] [] (zd ?_)))))
 refine m4 _ _ (zC h (fun b5 h => ?_) (fun b5 h => ?_))
 ·refine zq fun K6 m6 => zr (zg [] 2 [4] (zd (m6 _ _ (ze ?_))))
  obtain rfl := zj h
  exact zf [vi (i64.wrap (p1.offset * (60 : Int)))] (.one (.rfl _ rfl))
 ·refine zs (m3 _ _ (zq fun K7 m7 => ?_))
  obtain ⟨r1, c8, h⟩ := zB h
  refine zr (zg [] 3 [1,2,5,6,22] ?_)
  refine zl 115 [vi (i64.wrap (p2 + (i64.wrap (p1.offset * (60 : Int)))))] (.ag [ci r1.year, ci r1.month, ci r1.day, ci r1.hour, ci r1.minute, ci r1.second]) [(23, .ag [ci r1.year, ci r1.month, ci r1.day, ci r1.hour, ci r1.minute, ci r1.second]), (1, vi p2), (2, vR (qa1760 p1)), (5, vi (i64.wrap (p1.offset * (60 : Int)))), (6, vi (i64.wrap (p1.summer * (60 : Int)))), (22, vi (i64.wrap (p2 + (i64.wrap (p1.offset * (60 : Int))))))] (c_value_civil _ _ c8) ?_
  refine zg [] 2 [1,2,5,6,7] (zd (m7 _ _ (zq fun K9 m9 => ?_)))
  obtain ⟨r2, c10, h⟩ := zB h
  obtain ⟨r3, c11, h⟩ := zB h
  obtain ⟨y1, hy12, h⟩ := zB h
  refine zw 15 [(8, vi (i64.wrap (r2 - (i64.wrap (p1.offset * (60 : Int)))))), (38, vi y1), (37, vi (i64.wrap (p1.summer * (60 : Int)))), (36, vi (i64.wrap (r3 - (i64.wrap (p1.offset * (60 : Int)))))), (35, vi (i64.wrap (p1.offset * (60 : Int)))), (34, vi r3), (33, vi r1.year), (32, .ag [ci p1.stop.month, ci p1.stop.week, ci p1.stop.weekday, ci p1.stop.minute]), (31, .one (.pv (.rp [(qa1760 p1)] 0 7))), (30, vi (i64.wrap (r2 - (i64.wrap (p1.offset * (60 : Int)))))), (29, vi (i64.wrap (p1.offset * (60 : Int)))), (28, vi r2), (27, vi r1.year), (26, .ag (qa1763 p1)), (25, .one (.pv (.rp [(qa1760 p1)] 0 3))), (1, vi p2), (2, vR (qa1760 p1)), (5, vi (i64.wrap (p1.offset * (60 : Int)))), (6, vi (i64.wrap (p1.summer * (60 : Int)))), (7, vi r1.year)] ?_ ?_
  ·refine zyu 3 [(qa1760 p1)] ?_
   refine DX.cal 160 [.ag (qa1763 p1), vi r1.year] (vi r2) [(28, vi r2), (27, vi r1.year), (26, .ag (qa1763 p1)), (25, .one (.pv (.rp [(qa1760 p1)] 0 3))), (1, vi p2), (2, vR (qa1760 p1)), (5, vi (i64.wrap (p1.offset * (60 : Int)))), (6, vi (i64.wrap (p1.summer * (60 : Int)))), (7, vi r1.year)] (by kernel_rfl) (c_value_at _ _ _ c10) rfl rfl (by kernel_rfl) ?_
   refine zyu 5 [(qa1760 p1)] (zya (c_value_at _ _ _ c11) ?_)
   refine zyv 4 [] [(38, vi (i64.wrap ((i64.wrap (r3 - (i64.wrap (p1.offset * (60 : Int))))) - (i64.wrap (p1.summer * (60 : Int)))))), (37, vi (i64.wrap (p1.summer * (60 : Int)))), (36, vi (i64.wrap (r3 - (i64.wrap (p1.offset * (60 : Int)))))), (35, vi (i64.wrap (p1.offset * (60 : Int)))), (34, vi r3), (33, vi r1.year), (32, .ag [ci p1.stop.month, ci p1.stop.week, ci p1.stop.weekday, ci p1.stop.minute]), (31, .one (.pv (.rp [[.s (.string p1.name), pi p1.offset, pi p1.summer, pi p1.start.month, pi p1.start.week, pi p1.start.weekday, pi p1.start.minute, pi p1.stop.month, pi p1.stop.week, pi p1.stop.weekday, pi p1.stop.minute]] 0 7))), (30, vi (i64.wrap (r2 - (i64.wrap (p1.offset * (60 : Int)))))), (29, vi (i64.wrap (p1.offset * (60 : Int)))), (28, vi r2), (27, vi r1.year), (26, .ag [ci p1.start.month, ci p1.start.week, ci p1.start.weekday, ci p1.start.minute]), (25, .one (.pv (.rp [[.s (.string p1.name), pi p1.offset, pi p1.summer, pi p1.start.month, pi p1.start.week, pi p1.start.weekday, pi p1.start.minute, pi p1.stop.month, pi p1.stop.week, pi p1.stop.weekday, pi p1.stop.minute]] 0 3))), (1, vi p2), (2, vR [.s (.string p1.name), pi p1.offset, pi p1.summer, pi p1.start.month, pi p1.start.week, pi p1.start.weekday, pi p1.start.minute, pi p1.stop.month, pi p1.stop.week, pi p1.stop.weekday, pi p1.stop.minute]), (5, vi (i64.wrap (p1.offset * (60 : Int)))), (6, vi (i64.wrap (p1.summer * (60 : Int)))), (7, vi r1.year)] ?_
   rw [show (i64.wrap ((i64.wrap (r3 - (i64.wrap (p1.offset * (60 : Int))))) - (i64.wrap (p1.summer * (60 : Int))))) = y1 from zj hy12]
   exact zyg 1 zyd
  refine zg [] 1 [1,5,6,8,9] (zd (m9 _ _ (zq fun K13 m13 => ?_)))
  have j1 : ∀ (x1 : Bool), value_ahead_j1 p1 p2 r2 y1 x1 = some r → ∀ w0 w1, Sub 63 0 [] w0 w1 [(1, vi p2), (5, vi (i64.wrap (p1.offset * (60 : Int)))), (6, vi (i64.wrap (p1.summer * (60 : Int)))), (8, vi (i64.wrap (r2 - (i64.wrap (p1.offset * (60 : Int)))))), (9, vi y1), (10, vb x1)] [] → K13 w0 w1 := by
   intro x1 h w0 w1 hS
   unfold value_ahead_j1 at h
   refine m13 _ _ (XW.sub hS ?_)
   refine zq fun K16 m16 => ?_
   have j2 : ∀ (x2 : Bool), value_ahead_j2 p1 x2 = some r → ∀ w0 w1, Sub 63 0 [] w0 w1 [(5, vi (i64.wrap (p1.offset * (60 : Int)))), (6, vi (i64.wrap (p1.summer * (60 : Int)))), (10, vb x2)] [] → K16 w0 w1 := by
    intro x2 h w0 w1 hS
    unfold value_ahead_j2 at h
    refine m16 _ _ (XW.sub hS ?_)
    refine zq fun K22 m22 => zq fun K23 m23 => zr (zg [] 1 [5,6,58] (zd (m23 _ _ (zC h (fun b24 h => ?_) (fun b24 h => ?_)))))
    ·refine zq fun K25 m25 => ?_
     obtain ⟨y5, hy26, h⟩ := zB h
     refine zr (zv [] 3 [61] [] [(61, vi (i64.wrap ((i64.wrap (p1.offset * (60 : Int))) + (i64.wrap (p1.summer * (60 : Int))))))] [] ?_)
     rw [show (i64.wrap ((i64.wrap (p1.offset * (60 : Int))) + (i64.wrap (p1.summer * (60 : Int))))) = y5 from zj hy26]
     refine zg [] 1 [4] (zd (m25 _ _ (ze ?_)))
     obtain rfl := zj h
     exact zf [vi y5] (.one (.rfl _ rfl))
    ·refine zs (m22 _ _ (zq fun K27 m27 => zr (zg [] 2 [4] (zd (m27 _ _ (ze ?_))))))
     obtain rfl := zj h
     exact zf [vi (i64.wrap (p1.offset * (60 : Int)))] (.one (.rfl _ rfl))
   refine zq fun K17 m17 => ?_
   obtain ⟨y3, hy18, h⟩ := zB h
   refine zr (zv [] 3 [1,5,6,8,9,10,49] [] [(1, vi p2), (5, vi (i64.wrap (p1.offset * (60 : Int)))), (6, vi (i64.wrap (p1.summer * (60 : Int)))), (8, vi (i64.wrap (r2 - (i64.wrap (p1.offset * (60 : Int)))))), (9, vi y1), (10, vb x1), (49, vb (decide (y1 ≤ (i64.wrap (r2 - (i64.wrap (p1.offset * (60 : Int))))))))] [] ?_)
   rw [show (decide (y1 ≤ (i64.wrap (r2 - (i64.wrap (p1.offset * (60 : Int))))))) = y3 from zj hy18]
   refine zd (m17 _ _ (zC h (fun b19 h => ?_) (fun b19 h => ?_)))
   ·rcases zW h with ⟨b20, h⟩ | ⟨b20, h⟩
    ·exact zr (zg [] 4 [1,5,6,8,53] (zt 53 b20 (zg [] 5 [5,6,10] (zd (j2 true h _ _ (zk [5,6,10]))))))
    ·obtain ⟨y4, hy21, h⟩ := zB h
     refine zr (zv [] 4 [1,5,6,8,53] [] [(1, vi p2), (5, vi (i64.wrap (p1.offset * (60 : Int)))), (6, vi (i64.wrap (p1.summer * (60 : Int)))), (8, vi (i64.wrap (r2 - (i64.wrap (p1.offset * (60 : Int)))))), (53, vb (decide (p2 < y1)))] [] (zt 53 b20 (zv [] 3 [5,6,53,56] [] [(5, vi (i64.wrap (p1.offset * (60 : Int)))), (6, vi (i64.wrap (p1.summer * (60 : Int)))), (53, vb false), (56, vb (decide ((i64.wrap (r2 - (i64.wrap (p1.offset * (60 : Int))))) ≤ p2)))] [] ?_)))
     rw [show (decide ((i64.wrap (r2 - (i64.wrap (p1.offset * (60 : Int))))) ≤ p2)) = y4 from zj hy21]
     exact zg [] 2 [5,6,10] (zd (j2 y4 h _ _ (zk [5,6,10])))
   ·exact zs (j2 x1 h _ _ (zk [5,6,10]))
  obtain ⟨y2, hy14, h⟩ := zB h
  rcases zW h with ⟨b15, h⟩ | ⟨b15, h⟩
  ·refine zr (zv [] 3 [1,5,6,8,9,41] [] [(1, vi p2), (5, vi (i64.wrap (p1.offset * (60 : Int)))), (6, vi (i64.wrap (p1.summer * (60 : Int)))), (8, vi (i64.wrap (r2 - (i64.wrap (p1.offset * (60 : Int)))))), (9, vi y1), (41, vb (decide ((i64.wrap (r2 - (i64.wrap (p1.offset * (60 : Int))))) ≤ p2)))] [] ?_)
   rw [show (decide ((i64.wrap (r2 - (i64.wrap (p1.offset * (60 : Int))))) ≤ p2)) = y2 from zj hy14]
   exact zg [] 1 [1,5,6,8,9,42] (zt 42 b15 (zg [] 5 [1,5,6,8,9,10] (zd (j1 (decide (p2 < y1)) h _ _ (zk [1,5,6,8,9,10])))))
  ·refine zr (zv [] 3 [1,5,6,8,9,41] [] [(1, vi p2), (5, vi (i64.wrap (p1.offset * (60 : Int)))), (6, vi (i64.wrap (p1.summer * (60 : Int)))), (8, vi (i64.wrap (r2 - (i64.wrap (p1.offset * (60 : Int)))))), (9, vi y1), (41, vb (decide ((i64.wrap (r2 - (i64.wrap (p1.offset * (60 : Int))))) ≤ p2)))] [] ?_)
   rw [show (decide ((i64.wrap (r2 - (i64.wrap (p1.offset * (60 : Int))))) ≤ p2)) = y2 from zj hy14]
   exact zg [] 1 [1,5,6,8,9,42] (zt 42 b15 (zg [] 5 [1,5,6,8,9,10] (zd (j1 false h _ _ (zk [1,5,6,8,9,10])))))
def value_Local (p1 : Int) (p2 : ByteArray) : Option (GCivil × Int) :=
    bnd (value_zone p2) fun r1 =>
    ift (!r1.2)
      (some ((GCivil.mk (0 : Int) (0 : Int) (0 : Int) (0 : Int) (0 : Int) (0 : Int)), (4 : Int)))
      (bnd (value_within p1 (-62135596800 : Int) (253402300799 : Int)) fun r2 =>
       ift (!r2)
         (some ((GCivil.mk (0 : Int) (0 : Int) (0 : Int) (0 : Int) (0 : Int) (0 : Int)), (3 : Int)))
         (bnd (value_ahead r1.1 p1) fun r3 =>
          bnd (value_civil (i64.wrap (p1 + r3))) fun r4 =>
          some (r4, (0 : Int))))
abbrev qa1772 (r1 : (GZone × Bool)) : List CV := [cst r1.1.name, ci r1.1.offset, ci r1.1.summer, ci r1.1.start.month, ci r1.1.start.week, ci r1.1.start.weekday, ci r1.1.start.minute, ci r1.1.stop.month, ci r1.1.stop.week, ci r1.1.stop.weekday, ci r1.1.stop.minute]
abbrev qa1774 : List CV := [ci 0, ci 0, ci 0, ci 0, ci 0, ci 0]
theorem c_value_Local (p1 : Int) (p2 : ByteArray) (r : (GCivil × Int)) (h : value_Local p1 p2 = some r) : PC Tryz.prog 68 [vi p1, vs p2] (.tp [.ag [ci r.1.year, ci r.1.month, ci r.1.day, ci r.1.hour, ci r.1.minute, ci r.1.second], vi r.2]) := by
 unfold value_Local at h
 refine zF 26 Tryz.f68 (zq fun K1 m1 => zr (zg [4, 6] 2 [0,1,4] (zd (m1 _ _ (zq fun K2 m2 => ?_)))))
 obtain ⟨r1, c3, h⟩ := zB h
 refine zr (zg [4, 6] 1 [0,4,9] ?_)
 refine zl 113 [vs p2] (.tp [.ag (qa1772 r1), vb r1.2]) [(10, .tp [.ag (qa1772 r1), vb r1.2]), (0, vi p1), (4, vq 0), (9, vs p2)] (c_value_zone _ _ c3) (zg [4, 6] 6 [0,4,6,7] ?_)
 refine zd (m2 _ _ (zq fun K4 m4 => zq fun K5 m5 => zr (zg [4, 6] 2 [0,4,6,14] (zd (m5 _ _ ?_)))))
 refine zC h (fun b6 h => ?_) (fun b6 h => ?_)
 ·refine zq fun K7 m7 => zr (zv [4, 6] 3 [4,5] [] [(4, vq 0), (5, vi 4)] [.box qa1774, .box (qa1772 r1)] (zd (m7 _ _ (ze ?_))))
  obtain rfl := zj h
  exact zf [.ag qa1774, vi 4] (.tpc (.ag (.cons (.rfl _ rfl) (.cons (.rfl _ rfl) (.cons (.rfl _ rfl) (.cons (.rfl _ rfl) (.cons (.rfl _ rfl) (.cons (.rfl _ rfl) .nil))))))) (.tpc (.one (.rfl _ rfl)) (.tp0)))
 ·refine zs (m4 _ _ (zq fun K8 m8 => zq fun K9 m9 => ?_))
  obtain ⟨r2, c10, h⟩ := zB h
  refine zr (zg [4, 6] 1 [0,4,6,16] (za (c_value_within _ _ _ _ c10) (zv [4, 6] 1 [0,4,6,18] [] [(0, vi p1), (4, vq 0), (6, vq 1), (18, vb (!r2))] [.box qa1774, .box (qa1772 r1)] (zd (m9 _ _ (zC h (fun b11 h => ?_) (fun b11 h => ?_)))))))
  ·refine zq fun K12 m12 => zr (zg [4, 6] 3 [4,5] (zd (m12 _ _ (ze ?_))))
   obtain rfl := zj h
   exact zf [.ag qa1774, vi 3] (.tpc (.ag (.cons (.rfl _ rfl) (.cons (.rfl _ rfl) (.cons (.rfl _ rfl) (.cons (.rfl _ rfl) (.cons (.rfl _ rfl) (.cons (.rfl _ rfl) .nil))))))) (.tpc (.one (.rfl _ rfl)) (.tp0)))
  ·refine zs (m8 _ _ (zq fun K13 m13 => ?_))
   obtain ⟨r3, c14, h⟩ := zB h
   obtain ⟨r4, c15, h⟩ := zB h
   refine zr (zg [4, 6] 3 [4,20,21,22] ?_)
   refine zl 116 [.ag (qa1772 r1), vi p1] (vi r3) [(23, vi r3), (4, vq 0), (20, vi p1), (21, .ag (qa1772 r1)), (22, vi p1)] (c_value_ahead _ _ _ c14) (zg [4, 6] 1 [4,24] ?_)
   refine za (c_value_civil _ _ c15) (zv [4, 6] 2 [4,5] [] [(4, vq 0), (5, vi 0)] [.box [ci r4.year, ci r4.month, ci r4.day, ci r4.hour, ci r4.minute, ci r4.second], .box (qa1772 r1)] (zd (m13 _ _ (ze ?_))))
   obtain rfl := zj h
   exact zf [.ag [ci r4.year, ci r4.month, ci r4.day, ci r4.hour, ci r4.minute, ci r4.second], vi 0] (.tpc (.ag (.cons (.rfl _ rfl) (.cons (.rfl _ rfl) (.cons (.rfl _ rfl) (.cons (.rfl _ rfl) (.cons (.rfl _ rfl) (.cons (.rfl _ rfl) .nil))))))) (.tpc (.one (.rfl _ rfl)) (.tp0)))
def value_Part (p1 : Int) (p2 : Int) (p3 : ByteArray) : Option (Int × Int) :=
    bnd (value_Local p1 p3) fun r1 =>
    ift (r1.2 != (0 : Int))
      (some ((0 : Int), r1.2))
      (bnd (value_days r1.1.year r1.1.month r1.1.day) fun r2 =>
       ift (p2 == (1 : Int))
         (some (r1.1.year, (0 : Int)))
         (ift (p2 == (2 : Int))
            (some (r1.1.month, (0 : Int)))
            (ift (p2 == (3 : Int))
               (some (r1.1.day, (0 : Int)))
               (ift (p2 == (4 : Int))
                  (some (r1.1.hour, (0 : Int)))
                  (ift (p2 == (5 : Int))
                     (some (r1.1.minute, (0 : Int)))
                     (ift (p2 == (6 : Int))
                        (some (r1.1.second, (0 : Int)))
                        (ift (p2 == (7 : Int))
                           (bnd (value_weekday r2) fun r3 =>
                            some (r3, (0 : Int)))
                           (ift (p2 == (8 : Int))
                              (bnd (value_days r1.1.year (1 : Int) (1 : Int)) fun r4 =>
                               some ((i64.wrap ((i64.wrap (r2 - r4)) + (1 : Int))), (0 : Int)))
                              (some ((0 : Int), (3 : Int)))))))))))
abbrev qa1782 (r1 : (GCivil × Int)) : List CV := [ci r1.1.year, ci r1.1.month, ci r1.1.day, ci r1.1.hour, ci r1.1.minute, ci r1.1.second]
theorem c_value_Part (p1 : Int) (p2 : Int) (p3 : ByteArray) (r : (Int × Int)) (h : value_Part p1 p2 p3 = some r) : PC Tryz.prog 28 [vi p1, vi p2, vs p3] (.tp [vi r.1, vi r.2]) := by
 unfold value_Part at h
 refine zF 64 Tryz.f28 (zq fun K1 m1 => zr (zg [8] 2 [0,1,2] (zd (m1 _ _ (zq fun K2 m2 => ?_)))))
 obtain ⟨r1, c3, h⟩ := zB h
 refine zr (zg [8] 2 [1,12,13] (zl 68 [vi p1, vs p3] (.tp [.ag (qa1782 r1), vi r1.2]) [(14, .tp [.ag (qa1782 r1), vi r1.2]), (1, vi p2), (12, vi p1), (13, vs p3)] (c_value_Local _ _ _ c3) (zg [8] 6 [1,8,9] (zd (m2 _ _ (zq fun K4 m4 => zq fun K5 m5 => ?_))))))
 refine zr (zg [8] 2 [1,8,9,18] (zd (m5 _ _ (zC h (fun b6 h => ?_) (fun b6 h => ?_)))))
 ·refine zq fun K7 m7 => zr (zv [8] 3 [6,7] [] [(6, vi 0), (7, vi r1.2)] [.box (qa1782 r1)] (zd (m7 _ _ (ze ?_))))
  obtain rfl := zj h
  exact zf [vi 0, vi r1.2] (.tpc (.one (.rfl _ rfl)) (.tpc (.one (.rfl _ rfl)) (.tp0)))
 ·refine zs (m4 _ _ (zq fun K8 m8 => ?_))
  obtain ⟨r2, c9, h⟩ := zB h
  refine zr (zg [8] 6 [1,8,21,23,25] (za (c_value_days _ _ _ _ c9) (zv [8] 1 [1,8,10] [] [(1, vi p2), (8, vq 0), (10, vi r2)] [.box (qa1782 r1)] (zd (m8 _ _ (zq fun K10 m10 => zq fun K11 m11 => ?_))))))
  refine zr (zg [8] 1 [8,10,27] (zd (m11 _ _ (zb 0 (zq fun K12 m12 => zr (zg [8] 2 [8,10,27,28] ?_))))))
  refine zd (m12 _ _ (zC h (fun b13 h => ?_) (fun b13 h => ?_)))
  ·refine zq fun K14 m14 => zr (zv [8] 4 [6,7] [] [(6, vi r1.1.year), (7, vi 0)] [.box (qa1782 r1)] (zd (m14 _ _ (ze ?_))))
   obtain rfl := zj h
   exact zf [vi r1.1.year, vi 0] (.tpc (.one (.rfl _ rfl)) (.tpc (.one (.rfl _ rfl)) (.tp0)))
  ·refine zq fun K15 m15 => zr (zg [8] 2 [8,10,27,32] (zd (m15 _ _ (zC h (fun b16 h => ?_) (fun b16 h => ?_)))))
   ·refine zq fun K17 m17 => zr (zg [8] 4 [6,7] (zd (m17 _ _ (ze ?_))))
    obtain rfl := zj h
    exact zf [vi r1.1.month, vi 0] (.tpc (.one (.rfl _ rfl)) (.tpc (.one (.rfl _ rfl)) (.tp0)))
   ·refine zq fun K18 m18 => zr (zv [8] 2 [8,10,27,36] [] [(8, vq 0), (10, vi r2), (27, vi p2), (36, vb (p2 == (3 : Int)))] [.box (qa1782 r1)] (zd (m18 _ _ (zC h (fun b19 h => ?_) (fun b19 h => ?_)))))
    ·refine zq fun K20 m20 => zr (zg [8] 4 [6,7] (zd (m20 _ _ (ze ?_))))
     obtain rfl := zj h
     exact zf [vi r1.1.day, vi 0] (.tpc (.one (.rfl _ rfl)) (.tpc (.one (.rfl _ rfl)) (.tp0)))
    ·refine zq fun K21 m21 => zr (zg [8] 2 [8,10,27,40] (zd (m21 _ _ (zC h (fun b22 h => ?_) (fun b22 h => ?_)))))
     ·refine zq fun K23 m23 => zr (zv [8] 4 [6,7] [] [(6, vi r1.1.hour), (7, vi 0)] [.box (qa1782 r1)] (zd (m23 _ _ (ze ?_))))
      obtain rfl := zj h
      exact zf [vi r1.1.hour, vi 0] (.tpc (.one (.rfl _ rfl)) (.tpc (.one (.rfl _ rfl)) (.tp0)))
     ·refine zq fun K24 m24 => zr (zg [8] 2 [8,10,27,44] (zd (m24 _ _ (zC h (fun b25 h => ?_) (fun b25 h => ?_)))))
      ·refine zq fun K26 m26 => zr (zg [8] 4 [6,7] (zd (m26 _ _ (ze ?_))))
       obtain rfl := zj h
       exact zf [vi r1.1.minute, vi 0] (.tpc (.one (.rfl _ rfl)) (.tpc (.one (.rfl _ rfl)) (.tp0)))
      ·refine zq fun K27 m27 => zr (zv [8] 2 [8,10,27,48] [] [(8, vq 0), (10, vi r2), (27, vi p2), (48, vb (p2 == (6 : Int)))] [.box (qa1782 r1)] (zd (m27 _ _ (zC h (fun b28 h => ?_) (fun b28 h => ?_)))))
       ·refine zq fun K29 m29 => zr (zg [8] 4 [6,7] (zd (m29 _ _ (ze ?_))))
        obtain rfl := zj h
        exact zf [vi r1.1.second, vi 0] (.tpc (.one (.rfl _ rfl)) (.tpc (.one (.rfl _ rfl)) (.tp0)))
       ·refine zq fun K30 m30 => zr (zg [8] 2 [8,10,27,52] (zd (m30 _ _ (zC h (fun b31 h => ?_) (fun b31 h => ?_)))))
        ·refine zq fun K32 m32 => ?_
         obtain ⟨r3, c33, h⟩ := zB h
         refine zr (zv [8] 1 [54] [] [(54, vi r2)] [.box (qa1782 r1)] (za (c_value_weekday _ _ c33) (zg [8] 2 [6,7] (zd (m32 _ _ (ze ?_))))))
         obtain rfl := zj h
         exact zf [vi r3, vi 0] (.tpc (.one (.rfl _ rfl)) (.tpc (.one (.rfl _ rfl)) (.tp0)))
        ·refine zq fun K34 m34 => zr (zv [8] 2 [8,10,56] [] [(8, vq 0), (10, vi r2), (56, vb (p2 == (8 : Int)))] [.box (qa1782 r1)] (zd (m34 _ _ (zC h (fun b35 h => ?_) (fun b35 h => ?_)))))
         ·refine zq fun K36 m36 => ?_
          obtain ⟨r4, c37, h⟩ := zB h
          refine zr (zg [8] 3 [58,60] (za (c_value_days _ _ _ _ c37) (zv [8] 4 [6,7] [] [(6, vi (i64.wrap ((i64.wrap (r2 - r4)) + (1 : Int)))), (7, vi 0)] [.box (qa1782 r1)] (zd (m36 _ _ (ze ?_))))))
          obtain rfl := zj h
          exact zf [vi (i64.wrap ((i64.wrap (r2 - r4)) + (1 : Int))), vi 0] (.tpc (.one (.rfl _ rfl)) (.tpc (.one (.rfl _ rfl)) (.tp0)))
         ·refine zs (m10 _ _ (zq fun K38 m38 => zr (zg [8] 2 [6,7] (zd (m38 _ _ (ze ?_))))))
          obtain rfl := zj h
          exact zf [vi 0, vi 3] (.tpc (.one (.rfl _ rfl)) (.tpc (.one (.rfl _ rfl)) (.tp0)))
end Go.Proofs.YtmaemlebpjnmoaaGreatDoor
