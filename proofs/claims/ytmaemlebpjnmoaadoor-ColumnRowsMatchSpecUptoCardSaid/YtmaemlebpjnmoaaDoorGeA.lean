/- The shelf's contract of utf8.ValidString, laid at this program. Printed by a program: what the functions compute, and the proofs of their contracts. -/
import Derived.Test.YtmaemlebpjnmoaaDoorProg
import Derived.Test.YtmaemlebpjnmoaaDoorChecked
import Derived.Test.YtmaemlebpjnmoaaDoorSxC
namespace Go.Proofs.YtmaemlebpjnmoaaDoor
open Go Go.SX Go.Shelf Go.Lib
set_option linter.unusedVariables false

def u8ren : Ren where
 f := fun n => if n = 196 then 110 else if n = 259 then 121 else n
 t := fun n => if n = 0 then 0 else if n = 3 then 3 else if n = 4 then 4 else if n = 5 then 5 else if n = 9 then 9 else if n = 12 then 12 else if n = 46 then 166 else if n = 53 then 75 else if n = 119 then 162 else if n = 138 then 164 else if n = 139 then 165 else n
 g := fun n => if n = 3 then 0 else if n = 4 then 1 else n

set_option maxRecDepth 100000 in
theorem u8lays : Lays.n196 Tryd.prog u8ren where
 mixed := by kernel_rfl
 f196 := by kernel_rfl
 f259 := by kernel_rfl
 t0 := by kernel_rfl
 a0 := fun w => by kernel_rfl
 z0 := fun w => by kernel_rfl
 v0 := fun w => by kernel_rfl
 t3 := by kernel_rfl
 a3 := fun w => by kernel_rfl
 z3 := fun w => by kernel_rfl
 v3 := fun w => by kernel_rfl
 t4 := by kernel_rfl
 a4 := fun w => by kernel_rfl
 z4 := fun w => by kernel_rfl
 v4 := fun w => by kernel_rfl
 t5 := by kernel_rfl
 a5 := fun w => by kernel_rfl
 z5 := fun w => by kernel_rfl
 v5 := fun w => by kernel_rfl
 t9 := by kernel_rfl
 a9 := fun w => by kernel_rfl
 z9 := fun w => by kernel_rfl
 v9 := fun w => by kernel_rfl
 t12 := by kernel_rfl
 a12 := fun w => by kernel_rfl
 z12 := fun w => by kernel_rfl
 v12 := fun w => by kernel_rfl
 t46 := by kernel_rfl
 a46 := fun w => by kernel_rfl
 z46 := fun w => by kernel_rfl
 v46 := fun w => by kernel_rfl
 t53 := by kernel_rfl
 a53 := fun w => by kernel_rfl
 z53 := fun w => by kernel_rfl
 v53 := fun w => by kernel_rfl
 t119 := by kernel_rfl
 a119 := fun w => by kernel_rfl
 z119 := fun w => by kernel_rfl
 t138 := by kernel_rfl
 a138 := fun w => by kernel_rfl
 z138 := fun w => by kernel_rfl
 v138 := fun w => by kernel_rfl
 t139 := by kernel_rfl
 a139 := fun w => by kernel_rfl
 z139 := fun w => by kernel_rfl
 v139 := fun w => by kernel_rfl
 g3 := by kernel_rfl
 g4 := by kernel_rfl

def utf8_ValidString (p1 : ByteArray) : Option Bool := grd (p1.size ≤ 9223372036854775807) <| some (validD p1.data.toList)

theorem c_utf8_ValidString (p1 : ByteArray) (r : Bool) (h : utf8_ValidString p1 = some r) : PC Tryd.prog 110 [vs p1] (vb r) := by
 unfold utf8_ValidString at h
 obtain ⟨g1, h⟩ := grd_some h
 obtain rfl := Option.some.inj h
 exact pc_validString u8lays (by kernel_rfl) (by kernel_rfl) p1 g1

end Go.Proofs.YtmaemlebpjnmoaaDoor
namespace Go.Proofs.YtmaemlebpjnmoaaDoor
open Go.SX Go
open Go.IntKind (i64 u64 u8 i32 u32)
set_option linter.unusedVariables false
set_option linter.unusedSimpArgs false
set_option maxRecDepth 100000
set_option maxHeartbeats 8000000
def law2_plain : Option (List GField) := some ([(FieldP.mk (1 : Int) (ByteArray.mk #[97]) false (GType.mk (2 : Int) (0 : Int) []))])
theorem c_law2_plain (r : (List GField)) (h : law2_plain = some r) : PC Tryd.prog 19 [] (vl eField r) := by
 unfold law2_plain at h
 refine zF 4 Tryd.f19 (zq fun K1 m1 => zr (zg [] 1 [] (zd (m1 _ _ (zq fun K2 m2 => zr ?_)))))
 refine zg [] 4 [0] (zd (m2 _ _ (ze ?_)))
 obtain rfl := zj h
 exact zf [vl eField ([(FieldP.mk (1 : Int) (ByteArray.mk #[97]) false (GType.mk (2 : Int) (0 : Int) []))])] (.one (.rfl _ rfl))
def law2_number (p1 : Int) : Option GValue := some (GValue.mk (2 : Int) p1 (0 : Int) ByteArray.empty [])
theorem c_law2_number (p1 : Int) (r : GValue) (h : law2_number p1 = some r) : PC Tryd.prog 20 [vi p1] (.ag [ci r.kind, ci r.n, ci r.scale, cst r.s, cl eValue r.items]) := by
 unfold law2_number at h
 refine zF 5 Tryd.f20 (zq fun K1 m1 => zr (zg [2] 1 [0,2] (zd (m1 _ _ (zq fun K2 m2 => zr ?_)))))
 refine zg [2] 3 [2] (zd (m2 _ _ (ze ?_)))
 obtain rfl := zj h
 exact zf [.ag [ci 2, ci p1, ci 0, cst ByteArray.empty, .pv (.s (.slice none 0 0))]] (.ag (.cons (.rfl _ rfl) (.cons (.rfl _ rfl) (.cons (.rfl _ rfl) (.cons (.rfl _ rfl) (.cons (.nl) .nil))))))
def value_leaf_j1 (x1 : Bool) : Option Bool := some x1
def value_leaf (p1 : GType) : Option Bool := ift (p1.kind != (6 : Int)) (value_leaf_j1 (p1.kind != (7 : Int))) (value_leaf_j1 false)
abbrev qa1274 (p1 : GType) : List PV := [pi p1.kind, pi p1.scale, .ro (eField.els p1.fields)]
theorem c_value_leaf (p1 : GType) (r : Bool) (h : value_leaf p1 = some r) : PC Tryd.prog 97 [.ag [ci p1.kind, ci p1.scale, cl eField p1.fields]] (vb r) := by
 unfold value_leaf at h
 refine zF 11 Tryd.f97 (zq fun K1 m1 => zr (zg [] 2 [1] (zd (m1 _ _ (zq fun K2 m2 => ?_)))))
 have j1 : ∀ (x1 : Bool), value_leaf_j1 x1 = some r → ∀ w0 w1, Sub 11 0 [] w0 w1 [(2, vb x1)] [] → K2 w0 w1 := by
  intro x1 h w0 w1 hS
  unfold value_leaf_j1 at h
  refine m2 _ _ (XW.sub hS ?_)
  refine ze ?_
  obtain rfl := zj h
  exact zf [vb x1] (.one (.rfl _ rfl))
 rcases zW h with ⟨b3, h⟩ | ⟨b3, h⟩
 ·exact zr (zu [] 4 [1,6] [(qa1274 p1)] (zt 6 b3 (zv [] 5 [2] [(qa1274 p1)] [(2, vb (p1.kind != (7 : Int)))] [] (zd (j1 (p1.kind != (7 : Int)) h _ _ (zk [2]))))))
 ·exact zr (zu [] 4 [1,6] [(qa1274 p1)] (zt 6 b3 (zg [] 5 [2] (zd (j1 false h _ _ (zk [2]))))))
def value_Name_1_j1 (x1 : Bool) : Option Bool := some x1
def value_Name_1 (p1 : Int) : Option Bool := ift (decide (p1 < (97 : Int))) (ift (decide (p1 < (48 : Int))) (value_Name_1_j1 (p1 != (95 : Int))) (ift (decide ((57 : Int) < p1)) (value_Name_1_j1 (p1 != (95 : Int))) (value_Name_1_j1 false))) (ift (decide ((122 : Int) < p1)) (ift (decide (p1 < (48 : Int))) (value_Name_1_j1 (p1 != (95 : Int))) (ift (decide ((57 : Int) < p1)) (value_Name_1_j1 (p1 != (95 : Int))) (value_Name_1_j1 false))) (value_Name_1_j1 false))
abbrev qa1280 (p1 : Int) : Fr := [(0, vk .i32 p1), (9, vb (decide ((122 : Int) < p1)))]
theorem c_value_Name_1 (p1 : Int) (r : Bool) (h : value_Name_1 p1 = some r) : PC Tryd.prog 123 [vk .i32 p1] (vb r) := by
 unfold value_Name_1 at h
 refine zF 21 Tryd.f123 (zq fun K1 m1 => zr (zg [] 1 [0] (zd (m1 _ _ (zq fun K2 m2 => ?_)))))
 have j1 : ∀ (x1 : Bool), value_Name_1_j1 x1 = some r → ∀ w0 w1, Sub 21 0 [] w0 w1 [(2, vb x1)] [] → K2 w0 w1 := by
  intro x1 h w0 w1 hS
  unfold value_Name_1_j1 at h
  refine m2 _ _ (XW.sub hS ?_)
  refine ze ?_
  obtain rfl := zj h
  exact zf [vb x1] (.one (.rfl _ rfl))
 rcases zW h with ⟨b3, h⟩ | ⟨b3, h⟩
 ·rcases zW h with ⟨b4, h⟩ | ⟨b4, h⟩
  ·exact zr (zg [] 3 [0,5] (zt 5 b3 (zv [] 7 [0,9,12] [] [(0, vk .i32 p1), (9, vb true), (12, vb (decide (p1 < (48 : Int))))] [] (zt 12 b4 (zg [] 9 [2] (zd (j1 (p1 != (95 : Int)) h _ _ (zk [2]))))))))
  ·rcases zW h with ⟨b5, h⟩ | ⟨b5, h⟩
   ·refine zr (zg [] 3 [0,5] (zt 5 b3 (zv [] 7 [0,9,12] [] [(0, vk .i32 p1), (9, vb true), (12, vb (decide (p1 < (48 : Int))))] [] (zt 12 b4 (zg [] 5 [0,17] (zt 17 b5 (zg [] 4 [2] ?_)))))))
    exact zd (j1 (p1 != (95 : Int)) h _ _ (zk [2]))
   ·refine zr (zv [] 3 [0,5] [] [(0, vk .i32 p1), (5, vb (decide (p1 < (97 : Int))))] [] (zt 5 b3 (zg [] 7 [0,9,12] (zt 12 b4 (zg [] 5 [0,17] (zt 17 b5 (zv [] 4 [2] [] [(2, vb false)] [] ?_)))))))
    exact zd (j1 false h _ _ (zk [2]))
 ·rcases zW h with ⟨b6, h⟩ | ⟨b6, h⟩
  ·rcases zW h with ⟨b7, h⟩ | ⟨b7, h⟩
   ·refine zr (zg [] 3 [0,5] (zt 5 b3 (zv [] 4 [0,9] [] (qa1280 p1) [] (zt 9 b6 (zg [] 3 [0,9,12] (zt 12 b7 (zg [] 9 [2] ?_)))))))
    exact zd (j1 (p1 != (95 : Int)) h _ _ (zk [2]))
   ·rcases zW h with ⟨b8, h⟩ | ⟨b8, h⟩
    ·refine zr (zv [] 3 [0,5] [] [(0, vk .i32 p1), (5, vb (decide (p1 < (97 : Int))))] [] (zt 5 b3 (zg [] 4 [0,9] (zt 9 b6 (zg [] 3 [0,9,12] (zt 12 b7 (zv [] 5 [0,17] [] [(0, vk .i32 p1), (17, vb (decide ((57 : Int) < p1)))] [] ?_)))))))
     exact zt 17 b8 (zg [] 4 [2] (zd (j1 (p1 != (95 : Int)) h _ _ (zk [2]))))
    ·refine zr (zg [] 3 [0,5] (zt 5 b3 (zv [] 4 [0,9] [] (qa1280 p1) [] (zt 9 b6 (zg [] 3 [0,9,12] (zt 12 b7 (zg [] 5 [0,17] ?_)))))))
     exact zt 17 b8 (zv [] 4 [2] [] [(2, vb false)] [] (zd (j1 false h _ _ (zk [2]))))
  ·exact zr (zg [] 3 [0,5] (zt 5 b3 (zv [] 4 [0,9] [] (qa1280 p1) [] (zt 9 b6 (zg [] 12 [2] (zd (j1 false h _ _ (zk [2]))))))))
def strings_indexFunc_of_value_Name_1_j1 : Option Int := some (-1 : Int)
def strings_indexFunc_of_value_Name_1_l1 (p1 : ByteArray) (p2 : Bool) : Nat → Nat → Option Int
 | 0, _ => none
 | k1 + 1, z1 => ift (decide (z1 < p1.size)) (bnd (value_Name_1 (Int.ofNat (Utf8.decode p1 z1).1)) fun r1 => ift (r1 == p2) (some (Int.ofNat z1)) ((strings_indexFunc_of_value_Name_1_l1 p1 p2 k1) (z1 + (Utf8.decode p1 z1).2))) (strings_indexFunc_of_value_Name_1_j1)
def strings_indexFunc_of_value_Name_1 (p1 : ByteArray) (p2 : Bool) : Option Int := strings_indexFunc_of_value_Name_1_l1 p1 p2 BIG 0
theorem c_strings_indexFunc_of_value_Name_1 (p1 : ByteArray) (p2 : Bool) (r : Int) (h : strings_indexFunc_of_value_Name_1 p1 p2 = some r) : PC Tryd.prog 133 [vs p1, .one (.pv (.fn 123 [])), vb p2] (vi r) := by
 unfold strings_indexFunc_of_value_Name_1 at h
 refine zF 21 Tryd.f133 (zq fun K1 m1 => zr (zg [] 1 [0,1,2] (zd (m1 _ _ (zq fun K2 m2 => ?_)))))
 have j1 : ∀ (_ : Unit), strings_indexFunc_of_value_Name_1_j1 = some r → ∀ w0 w1, Sub 21 0 [] w0 w1 [] [] → K2 w0 w1 := by
  intro _ h w0 w1 hS
  unfold strings_indexFunc_of_value_Name_1_j1 at h
  refine m2 _ _ (XW.sub hS ?_)
  refine zq fun K13 m13 => zr (zg [] 1 [6] (zd (m13 _ _ (ze ?_))))
  obtain rfl := zj h
  exact zf [vi (-1)] (.one (.rfl _ rfl))
 refine zq fun K3 m3 => zr (zv [] 1 [1,2,9] [] [(1, .one (.pv (.fn 123 []))), (2, vb p2), (9, vs p1)] [] (XO.rng p1 [(10, vq 0), (1, .one (.pv (.fn 123 []))), (2, vb p2), (9, vs p1)] [.raw (.stringIter p1 0)] (by kernel_rfl) (by kernel_rfl) (by kernel_rfl) (zd (m3 _ _ (zb 0 (XW.rounds' BIG (x := cd Tryd.f133 [1,0,1,0,0]) (by kernel_rfl) fun Q1 hQ1 => ?_))))))
 have hL1 : ∀ (k1 : Nat) (z1 : Nat), strings_indexFunc_of_value_Name_1_l1 p1 p2 k1 z1 = some r → XR Tryd.prog 21 0 [] (cd Tryd.f133 [1,0,1,0,0]) Q1 k1 [(1, .one (.pv (.fn 123 []))), (2, vb p2), (10, vq 0)] [.raw (.stringIter p1 z1)] := by
  intro k1
  induction k1 with
  | zero => intro z1 h; rw [strings_indexFunc_of_value_Name_1_l1.eq_1] at h; cases h
  | succ k1 ih1 =>
   intro z1 h
   rw [strings_indexFunc_of_value_Name_1_l1.eq_2] at h
   refine zq fun K4 m4 => ?_
   rcases zW h with ⟨b5, h⟩ | ⟨b5, h⟩
   ·refine zr (XO.nxt 0 p1 z1 [(11, .tp [vb true, vi (Int.ofNat z1), vk .i32 (Int.ofNat (Utf8.decode p1 z1).1)]), (1, .one (.pv (.fn 123 []))), (2, vb p2), (10, vq 0)] [.raw (.stringIter p1 (z1 + (Utf8.decode p1 z1).2))] (by kernel_rfl) (by kernel_rfl) (by kernel_rfl) (by kernel_rfl) b5 (zg [] 1 [1,2,10,11,12] (zd (m4 _ _ (zq fun K6 m6 => zc true (fun _ => ?_) (fun hx => by cases hx))))))
    refine zs (m6 _ _ (zb 1 (zq fun K7 m7 => zr (zg [] 4 [1,2,7,8,10] (zd (m7 _ _ ?_))))))
    refine zq fun K8 m8 => ?_
    obtain ⟨r1, c9, h⟩ := zB h
    refine zr (zv [] 2 [1,2,7,10,15,16] [] [(1, .one (.pv (.fn 123 []))), (2, vb p2), (7, vi (Int.ofNat z1)), (10, vq 0), (15, .one (.pv (.fn 123 []))), (16, vk .i32 (Int.ofNat (Utf8.decode p1 z1).1))] [.raw (.stringIter p1 (z1 + (Utf8.decode p1 z1).2))] (za (c_value_Name_1 _ _ c9) (zg [] 2 [1,2,7,10,19] (zd (m8 _ _ (zC h (fun b10 h => ?_) (fun b10 h => ?_)))))))
    ·refine zq fun K11 m11 => zr (zv [] 2 [6] [] [(6, vi (Int.ofNat z1))] [.raw (.stringIter p1 (z1 + (Utf8.decode p1 z1).2))] (zd (m11 _ _ (ze (hQ1 _ _ _ ?_)))))
     obtain rfl := zj h
     exact zf [vi (Int.ofNat z1)] (.one (.rfl _ rfl))
    ·exact zs (XR.sub (zk [1,2,10]) (ih1 (z1 + (Utf8.decode p1 z1).2) h))
   ·refine zr (XO.nxtE 0 p1 z1 [(11, .tp [vb false]), (1, .one (.pv (.fn 123 []))), (2, vb p2), (10, vq 0)] (by kernel_rfl) (by kernel_rfl) (by kernel_rfl) b5 (zv [] 1 [1,2,10,11,12] [] [(1, .one (.pv (.fn 123 []))), (2, vb p2), (10, vq 0), (11, .tp [vb false]), (12, vb false)] [.raw (.stringIter p1 z1)] (zd (m4 _ _ (zq fun K12 m12 => zc false (fun hx => by cases hx) (fun _ => ?_))))))
    exact zx 0 (hQ1 _ _ _ (j1 () h _ _ (Sub.trans (Sub.pick (fr' := []) [] (by kernel_rfl)) (Sub.take (fr' := []) 0 (Nat.zero_le _) (by kernel_rfl) (by kernel_rfl)))))
 exact XR.sub (zk [1,2,10]) (hL1 BIG 0 h)
def strings_IndexFunc_of_value_Name_1 (p1 : ByteArray) : Option Int := bnd (strings_indexFunc_of_value_Name_1 p1 true) fun r1 => some r1
theorem c_strings_IndexFunc_of_value_Name_1 (p1 : ByteArray) (r : Int) (h : strings_IndexFunc_of_value_Name_1 p1 = some r) : PC Tryd.prog 130 [vs p1, .one (.pv (.fn 123 []))] (vi r) := by
 unfold strings_IndexFunc_of_value_Name_1 at h
 refine zF 8 Tryd.f130 (zq fun K1 m1 => zr (zg [] 1 [0,1] (zd (m1 _ _ (zq fun K2 m2 => ?_)))))
 obtain ⟨r1, c3, h⟩ := zB h
 refine zr (zg [] 2 [5,6] (zl 133 [vs p1, .one (.pv (.fn 123 [])), vb true] (vi r1) [(7, vi r1), (5, vs p1), (6, .one (.pv (.fn 123 [])))] (c_strings_indexFunc_of_value_Name_1 _ _ _ c3) (zg [] 1 [4] (zd (m2 _ _ (ze ?_))))))
 obtain rfl := zj h
 exact zf [vi r1] (.one (.rfl _ rfl))
def strings_ContainsFunc_of_value_Name_1 (p1 : ByteArray) : Option Bool := bnd (strings_IndexFunc_of_value_Name_1 p1) fun r1 => some (decide ((0 : Int) ≤ r1))
theorem c_strings_ContainsFunc_of_value_Name_1 (p1 : ByteArray) (r : Bool) (h : strings_ContainsFunc_of_value_Name_1 p1 = some r) : PC Tryd.prog 124 [vs p1, .one (.pv (.fn 123 []))] (vb r) := by
 unfold strings_ContainsFunc_of_value_Name_1 at h
 refine zF 9 Tryd.f124 (zq fun K1 m1 => zr (zg [] 1 [0,1] (zd (m1 _ _ (zq fun K2 m2 => ?_)))))
 obtain ⟨r1, c3, h⟩ := zB h
 refine zr (zg [] 2 [5,6] (zl 130 [vs p1, .one (.pv (.fn 123 []))] (vi r1) [(7, vi r1), (5, vs p1), (6, .one (.pv (.fn 123 [])))] (c_strings_IndexFunc_of_value_Name_1 _ _ c3) (zg [] 2 [4] (zd (m2 _ _ (ze ?_))))))
 obtain rfl := zj h
 exact zf [vb (decide ((0 : Int) ≤ r1))] (.one (.rfl _ rfl))
def value_Name_j1 (p1 : ByteArray) (x1 : Bool) : Option Bool := ift x1 (some false) (bnd (strings_ContainsFunc_of_value_Name_1 p1) fun r1 => some (!r1))
def value_Name (p1 : ByteArray) : Option Bool := ift (p1.toList == (ByteArray.mk #[]).toList) (value_Name_j1 p1 true) (ift (decide ((24 : Int) < (p1.size : Int))) (value_Name_j1 p1 true) (grd (0 ≤ (0 : Int) ∧ (0 : Int) < (p1.size : Int)) <| bnd (some (decide (((p1.data.toList.getD (0 : Int).toNat 0).toNat : Int) < (97 : Int)))) fun y1 => ift y1 (value_Name_j1 p1 true) (grd (0 ≤ (0 : Int) ∧ (0 : Int) < (p1.size : Int)) <| bnd (some (decide ((122 : Int) < ((p1.data.toList.getD (0 : Int).toNat 0).toNat : Int)))) fun y2 => value_Name_j1 p1 y2)))
theorem c_value_Name (p1 : ByteArray) (r : Bool) (h : value_Name p1 = some r) : PC Tryd.prog 113 [vs p1] (vb r) := by
 unfold value_Name at h
 refine zF 25 Tryd.f113 (zq fun K1 m1 => zr (zg [] 1 [0] (zd (m1 _ _ (zq fun K2 m2 => zq fun K3 m3 => ?_)))))
 have j1 : ∀ (x1 : Bool), value_Name_j1 p1 x1 = some r → ∀ w0 w1, Sub 25 0 [] w0 w1 [(0, vs p1), (20, vb x1)] [] → K3 w0 w1 := by
  intro x1 h w0 w1 hS
  unfold value_Name_j1 at h
  refine m3 _ _ (XW.sub hS ?_)
  refine zC h (fun b11 h => ?_) (fun b11 h => ?_)
  ·refine zq fun K12 m12 => zr (zg [] 1 [2] (zd (m12 _ _ (ze ?_))))
   obtain rfl := zj h
   exact zf [vb false] (.one (.rfl _ rfl))
  ·refine zs (m2 _ _ (zq fun K13 m13 => zr (zg [] 1 [0,3] (zd (m13 _ _ (zq fun K14 m14 => ?_))))))
   obtain ⟨r1, c15, h⟩ := zB h
   refine zr (zv [] 2 [21,22] [] [(21, vs p1), (22, .one (.pv (.fn 123 [])))] [] (za (c_strings_ContainsFunc_of_value_Name_1 _ _ c15) (zg [] 2 [2] (zd (m14 _ _ (ze ?_))))))
   obtain rfl := zj h
   exact zf [vb (!r1)] (.one (.rfl _ rfl))
 rcases zW h with ⟨b4, h⟩ | ⟨b4, h⟩
 ·exact zr (zg [] 3 [0,6] (zt 6 b4 (zv [] 14 [0,20] [] [(0, vs p1), (20, vb true)] [] (zd (j1 true h _ _ (zk [0,20]))))))
 ·rcases zW h with ⟨b5, h⟩ | ⟨b5, h⟩
  ·exact zr (zg [] 3 [0,6] (zt 6 b4 (zg [] 5 [0,11] (zt 11 b5 (zv [] 9 [0,20] [] [(0, vs p1), (20, vb true)] [] (zd (j1 true h _ _ (zk [0,20]))))))))
  ·obtain ⟨g6, h⟩ := zG h
   obtain ⟨y1, hy7, h⟩ := zB h
   rcases zW h with ⟨b8, h⟩ | ⟨b8, h⟩
   ·refine zr (zg [] 3 [0,6] (zt 6 b4 (zg [] 5 [0,11] (zt 11 b5 (zp [] 3 [0,11,14] [] [(0, vs p1), (11, vb false), (14, vb (decide (((p1.data.toList.getD (0 : Int).toNat 0).toNat : Int) < (97 : Int))))] [] [0 ≤ (0 : Int) ∧ (0 : Int) < (p1.size : Int)] (⟨g6, trivial⟩) ?_)))))
    rw [show (decide (((p1.data.toList.getD (0 : Int).toNat 0).toNat : Int) < (97 : Int))) = y1 from zj hy7]
    exact zg [] 2 [0,16] (zt 16 b8 (zg [] 4 [0,20] (zd (j1 true h _ _ (zk [0,20])))))
   ·obtain ⟨g9, h⟩ := zG h
    obtain ⟨y2, hy10, h⟩ := zB h
    refine zr (zv [] 3 [0,6] [] [(0, vs p1), (6, vb (p1.toList == (ByteArray.mk #[]).toList))] [] (zt 6 b4 (zg [] 5 [0,11] (zt 11 b5 (zp [] 3 [0,11,14] [] [(0, vs p1), (11, vb false), (14, vb (decide (((p1.data.toList.getD (0 : Int).toNat 0).toNat : Int) < (97 : Int))))] [] [0 ≤ (0 : Int) ∧ (0 : Int) < (p1.size : Int)] (⟨g6, trivial⟩) ?_)))))
    rw [show (decide (((p1.data.toList.getD (0 : Int).toNat 0).toNat : Int) < (97 : Int))) = y1 from zj hy7]
    refine zg [] 2 [0,16] (zt 16 b8 (zp [] 3 [0,16,19] [] [(0, vs p1), (16, vb false), (19, vb (decide ((122 : Int) < ((p1.data.toList.getD (0 : Int).toNat 0).toNat : Int))))] [] [0 ≤ (0 : Int) ∧ (0 : Int) < (p1.size : Int)] (⟨g9, trivial⟩) ?_))
    rw [show (decide ((122 : Int) < ((p1.data.toList.getD (0 : Int).toNat 0).toNat : Int))) = y2 from zj hy10]
    exact zg [] 1 [0,20] (zd (j1 y2 h _ _ (zk [0,20])))
def value_fields_1 (p1 : GField) : Option Bool := bnd (value_Name p1.name) fun r1 => some (!r1)
theorem c_value_fields_1 (p1 : GField) (r : Bool) (h : value_fields_1 p1 = some r) : PC Tryd.prog 112 [.ag [ci p1.id, cst p1.name, cb p1.need, ci p1.type.kind, ci p1.type.scale, cl eField p1.type.fields]] (vb r) := by
 unfold value_fields_1 at h
 refine zF 7 Tryd.f112 (zq fun K1 m1 => zr (zg [] 2 [1] (zd (m1 _ _ (zq fun K2 m2 => ?_)))))
 obtain ⟨r1, c3, h⟩ := zB h
 refine zr (zu [] 2 [4] [[pi p1.id, .s (.string p1.name), .s (.bool p1.need), pi p1.type.kind, pi p1.type.scale, .ro (eField.els p1.type.fields)]] (zl 113 [vs p1.name] (vb r1) [(5, vb r1), (4, vs p1.name)] (c_value_Name _ _ c3) (zg [] 2 [2] (zd (m2 _ _ (ze ?_))))))
 obtain rfl := zj h
 exact zf [vb (!r1)] (.one (.rfl _ rfl))
def slices_IndexFunc_api_Field_api_Field_of_value_fields_1_j1 : Option Int := some (-1 : Int)
def slices_IndexFunc_api_Field_api_Field_of_value_fields_1_l1 (p1 : (List GField)) : Nat → Int → Option Int
 | 0, _ => none
 | k1 + 1, x1 => ift (decide (x1 < (p1.length : Int))) (bnd (at? p1 x1) fun e1 => bnd (value_fields_1 e1) fun r1 => ift r1 (some x1) ((slices_IndexFunc_api_Field_api_Field_of_value_fields_1_l1 p1 k1) (i64.wrap (x1 + (1 : Int))))) (slices_IndexFunc_api_Field_api_Field_of_value_fields_1_j1)
def slices_IndexFunc_api_Field_api_Field_of_value_fields_1 (p1 : (List GField)) : Option Int := slices_IndexFunc_api_Field_api_Field_of_value_fields_1_l1 p1 BIG (0 : Int)
abbrev qa1299 (e1 : GField) : List PV := [pi e1.id, .s (.string e1.name), .s (.bool e1.need), pi e1.type.kind, pi e1.type.scale, .ro (eField.els e1.type.fields)]
theorem c_slices_IndexFunc_api_Field_api_Field_of_value_fields_1 (p1 : (List GField)) (r : Int) (h : slices_IndexFunc_api_Field_api_Field_of_value_fields_1 p1 = some r) : PC Tryd.prog 122 [vl eField p1, .one (.pv (.fn 112 []))] (vi r) := by
 unfold slices_IndexFunc_api_Field_api_Field_of_value_fields_1 at h
 refine zF 19 Tryd.f122 (zq fun K1 m1 => zr (zg [] 1 [0,1] (zd (m1 _ _ (zq fun K2 m2 => ?_)))))
 have j1 : ∀ (_ : Unit), slices_IndexFunc_api_Field_api_Field_of_value_fields_1_j1 = some r → ∀ w0 w1, Sub 19 0 [] w0 w1 [] [] → K2 w0 w1 := by
  intro _ h w0 w1 hS
  unfold slices_IndexFunc_api_Field_api_Field_of_value_fields_1_j1 at h
  refine m2 _ _ (XW.sub hS ?_)
  refine zq fun K14 m14 => zr (zg [] 1 [4] (zd (m14 _ _ (ze ?_))))
  obtain rfl := zj h
  exact zf [vi (-1)] (.one (.rfl _ rfl))
 refine zq fun K3 m3 => zr (zv [] 2 [0,1,7] [] [(0, vl eField p1), (1, .one (.pv (.fn 112 []))), (7, vi ((eField.els p1).length : Int))] [] ?_)
 rw [eField.len p1]
 refine zg [] 1 [0,1,7,8] (zd (m3 _ _ (zb 0 (XW.rounds' BIG (x := cd Tryd.f122 [1,0,1,0,0]) (by kernel_rfl) fun Q1 hQ1 => ?_))))
 have hL1 : ∀ (k1 : Nat) (x1 : Int), slices_IndexFunc_api_Field_api_Field_of_value_fields_1_l1 p1 k1 x1 = some r → XR Tryd.prog 19 0 [] (cd Tryd.f122 [1,0,1,0,0]) Q1 k1 [(0, vl eField p1), (1, .one (.pv (.fn 112 []))), (7, vi (p1.length : Int)), (8, vi x1)] [] := by
  intro k1
  induction k1 with
  | zero => intro x1 h; rw [slices_IndexFunc_api_Field_api_Field_of_value_fields_1_l1.eq_1] at h; cases h
  | succ k1 ih1 =>
   intro x1 h
   rw [slices_IndexFunc_api_Field_api_Field_of_value_fields_1_l1.eq_2] at h
   refine zq fun K4 m4 => zr (zg [] 1 [0,1,7,8,9] (zd (m4 _ _ (zq fun K5 m5 => zC h (fun b6 h => ?_) (fun b6 h => ?_)))))
   ·refine zs (m5 _ _ (zq fun K7 m7 => zb 1 (zq fun K8 m8 => zr (zg [] 2 [0,1,5,7,8] (zd ?_)))))
    refine m8 _ _ (zq fun K9 m9 => ?_)
    obtain ⟨e1, a10, h⟩ := zB h
    obtain ⟨r1, c11, h⟩ := zB h
    refine zr ?_
    refine zp [] 5 [0,1,5,7,8,11,15] [(qa1299 e1)] [(0, vl eField p1), (1, .one (.pv (.fn 112 []))), (5, vi x1), (7, vi (p1.length : Int)), (8, vi x1), (11, .one (.pv (.fn 112 []))), (15, .ag [ci e1.id, cst e1.name, cb e1.need, ci e1.type.kind, ci e1.type.scale, cl eField e1.type.fields])] [] [0 ≤ x1 ∧ x1 < ((eField.els p1).length : Int) ∧ elemsOk 6 (eField.els p1), (eField.els p1)[x1.toNat]? = some (qa1299 e1)] (⟨eField.inb a10, ((eField.get a10).trans (by rcases e1 with ⟨_, _, _, ⟨_, _, _⟩⟩; rfl)), trivial⟩) ?_
    refine za (c_value_fields_1 _ _ c11) (zd (m9 _ _ (zC h (fun b12 h => ?_) (fun b12 h => ?_))))
    ·refine zq fun K13 m13 => zr (zg [] 2 [4] (zd (m13 _ _ (ze (hQ1 _ _ _ ?_)))))
     obtain rfl := zj h
     exact zf [vi x1] (.one (.rfl _ rfl))
    ·exact zs (m7 _ _ (zr (zv [] 2 [0,1,7,8] [] [(0, vl eField p1), (1, .one (.pv (.fn 112 []))), (7, vi (p1.length : Int)), (8, vi (i64.wrap (x1 + (1 : Int))))] [] (zd (XR.sub (zk [0,1,7,8]) (ih1 (i64.wrap (x1 + (1 : Int))) h))))))
   ·exact zx 0 (hQ1 _ _ _ (j1 () h _ _ (zk [])))
 exact XR.sub (zk [0,1,7,8]) (hL1 BIG (0 : Int) h)
def slices_ContainsFunc_api_Field_api_Field_of_value_fields_1 (p1 : (List GField)) : Option Bool := bnd (slices_IndexFunc_api_Field_api_Field_of_value_fields_1 p1) fun r1 => some (decide ((0 : Int) ≤ r1))
theorem c_slices_ContainsFunc_api_Field_api_Field_of_value_fields_1 (p1 : (List GField)) (r : Bool) (h : slices_ContainsFunc_api_Field_api_Field_of_value_fields_1 p1 = some r) : PC Tryd.prog 111 [vl eField p1, .one (.pv (.fn 112 []))] (vb r) := by
 unfold slices_ContainsFunc_api_Field_api_Field_of_value_fields_1 at h
 refine zF 9 Tryd.f111 (zq fun K1 m1 => zr (zg [] 1 [0,1] (zd (m1 _ _ (zq fun K2 m2 => ?_)))))
 obtain ⟨r1, c3, h⟩ := zB h
 refine zr (zg [] 2 [5,6] (zl 122 [vl eField p1, .one (.pv (.fn 112 []))] (vi r1) [(7, vi r1), (5, vl eField p1), (6, .one (.pv (.fn 112 [])))] (c_slices_IndexFunc_api_Field_api_Field_of_value_fields_1 _ _ c3) (zg [] 2 [4] (zd (m2 _ _ (ze ?_))))))
 obtain rfl := zj h
 exact zf [vb (decide ((0 : Int) ≤ r1))] (.one (.rfl _ rfl))
def value_fields_2 (p1 : GField) (p2 : GField) : Option (Bool × GField) := some ((p1.name.toList == p2.name.toList), p2)
abbrev qa1305 (p2 : GField) : List CV := [ci p2.id, cst p2.name, cb p2.need, ci p2.type.kind, ci p2.type.scale, cl eField p2.type.fields]
theorem c_value_fields_2 (p1 : GField) (p2 : GField) (r : (Bool × GField)) (h : value_fields_2 p1 p2 = some r) : MC Tryd.prog 114 [.ag [ci p1.id, cst p1.name, cb p1.need, ci p1.type.kind, ci p1.type.scale, cl eField p1.type.fields], vq 0] [.box (qa1305 p2)] (vb r.1) [.box [ci r.2.id, cst r.2.name, cb r.2.need, ci r.2.type.kind, ci r.2.type.scale, cl eField r.2.type.fields]] := by
 unfold value_fields_2 at h
 refine MC.of 1 (n := 9) (fn := Tryd.f114) (c := cd Tryd.f114 []) (by kernel_rfl) (by kernel_rfl) (by kernel_rfl) (Nat.le_of_ble_eq_true rfl) rfl (zq fun K1 m1 => zr (zg [] 2 [1,2] (zd (m1 _ _ (zq fun K2 m2 => zr ?_)))))
 refine zv [] 6 [3] [[pi p1.id, .s (.string p1.name), .s (.bool p1.need), pi p1.type.kind, pi p1.type.scale, .ro (eField.els p1.type.fields)]] [(3, vb (p1.name.toList == p2.name.toList))] [.box (qa1305 p2)] (zd (m2 _ _ (ze ?_)))
 obtain rfl := zj h
 exact FinM.fin (.inr rfl) [] [vb (p1.name.toList == p2.name.toList)] [] (by kernel_rfl) trivial (by kernel_rfl) (by kernel_rfl) (.one (.rfl _ rfl))
def slices_IndexFunc_api_Field_api_Field_of_value_fields_2_j1 (z7 : Int) (z8 : ByteArray) (z9 : Bool) (z10 : Int) (z11 : Int) (z12 : List GField) : Option (Int × GField) := some ((-1 : Int), (FieldP.mk z7 z8 z9 (GType.mk z10 z11 z12)))
def slices_IndexFunc_api_Field_api_Field_of_value_fields_2_l1 (p1 : (List GField)) : Nat → Int → ByteArray → Bool → Int → Int → List GField → Int → Option (Int × GField)
 | 0, _, _, _, _, _, _, _ => none
 | k1 + 1, z1, z2, z3, z4, z5, z6, x1 => ift (decide (x1 < (p1.length : Int))) (bnd (at? p1 x1) fun e1 => bnd (value_fields_2 e1 (FieldP.mk z1 z2 z3 (GType.mk z4 z5 z6))) fun r1 => ift r1.1 (some (x1, r1.2)) ((slices_IndexFunc_api_Field_api_Field_of_value_fields_2_l1 p1 k1) r1.2.id r1.2.name r1.2.need r1.2.type.kind r1.2.type.scale r1.2.type.fields (i64.wrap (x1 + (1 : Int))))) (slices_IndexFunc_api_Field_api_Field_of_value_fields_2_j1 z1 z2 z3 z4 z5 z6)
def slices_IndexFunc_api_Field_api_Field_of_value_fields_2 (p1 : (List GField)) (p2 : GField) : Option (Int × GField) := slices_IndexFunc_api_Field_api_Field_of_value_fields_2_l1 p1 BIG p2.id p2.name p2.need p2.type.kind p2.type.scale p2.type.fields (0 : Int)
abbrev qa1319 (r1 : (Bool × GField)) : List CV := [ci r1.2.id, cst r1.2.name, cb r1.2.need, ci r1.2.type.kind, ci r1.2.type.scale, cl eField r1.2.type.fields]
theorem c_slices_IndexFunc_api_Field_api_Field_of_value_fields_2 (p1 : (List GField)) (p2 : GField) (r : (Int × GField)) (h : slices_IndexFunc_api_Field_api_Field_of_value_fields_2 p1 p2 = some r) : MC Tryd.prog 122 [vl eField p1, .one (.fn 114 [.pt 0 0 0 0])] [.box [ci p2.id, cst p2.name, cb p2.need, ci p2.type.kind, ci p2.type.scale, cl eField p2.type.fields]] (vi r.1) [.box [ci r.2.id, cst r.2.name, cb r.2.need, ci r.2.type.kind, ci r.2.type.scale, cl eField r.2.type.fields]] := by
 unfold slices_IndexFunc_api_Field_api_Field_of_value_fields_2 at h
 refine MC.of 1 (n := 19) (fn := Tryd.f122) (c := cd Tryd.f122 []) (by kernel_rfl) (by kernel_rfl) (by kernel_rfl) (Nat.le_of_ble_eq_true rfl) rfl (zq fun K1 m1 => zr (zg [] 1 [0,1] (zd (m1 _ _ (zq fun K2 m2 => ?_)))))
 have j1 : ∀ (z7 : Int) (z8 : ByteArray) (z9 : Bool) (z10 : Int) (z11 : Int) (z12 : List GField), slices_IndexFunc_api_Field_api_Field_of_value_fields_2_j1 z7 z8 z9 z10 z11 z12 = some r → ∀ w0 w1, Sub 19 1 [] w0 w1 [] [.box [ci z7, cst z8, cb z9, ci z10, ci z11, cl eField z12]] → K2 w0 w1 := by
  intro z7 z8 z9 z10 z11 z12 h w0 w1 hS
  unfold slices_IndexFunc_api_Field_api_Field_of_value_fields_2_j1 at h
  refine m2 _ _ (XW.sub hS ?_)
  refine zq fun K14 m14 => zr (zv [] 1 [4] [] [(4, vi (-1))] [.box [ci z7, cst z8, cb z9, ci z10, ci z11, cl eField z12]] (zd (m14 _ _ (ze ?_))))
  obtain rfl := zj h
  exact FinM.fin (.inr rfl) [] [vi (-1)] [] (by kernel_rfl) trivial (by kernel_rfl) (by kernel_rfl) (.one (.rfl _ rfl))
 refine zq fun K3 m3 => zr (zv [] 2 [0,1,7] [] [(0, vl eField p1), (1, .one (.fn 114 [.pt 0 0 0 0])), (7, vi ((eField.els p1).length : Int))] [.box [ci p2.id, cst p2.name, cb p2.need, ci p2.type.kind, ci p2.type.scale, cl eField p2.type.fields]] ?_)
 rw [eField.len p1]
 refine zg [] 1 [0,1,7,8] (zd (m3 _ _ (zb 0 (XW.rounds' BIG (x := cd Tryd.f122 [1,0,1,0,0]) (by kernel_rfl) fun Q1 hQ1 => ?_))))
 have hL1 : ∀ (k1 : Nat) (z1 : Int) (z2 : ByteArray) (z3 : Bool) (z4 : Int) (z5 : Int) (z6 : List GField) (x1 : Int), slices_IndexFunc_api_Field_api_Field_of_value_fields_2_l1 p1 k1 z1 z2 z3 z4 z5 z6 x1 = some r → XR Tryd.prog 19 1 [] (cd Tryd.f122 [1,0,1,0,0]) Q1 k1 [(0, vl eField p1), (1, .one (.fn 114 [.pt 0 0 0 0])), (7, vi (p1.length : Int)), (8, vi x1)] [.box [ci z1, cst z2, cb z3, ci z4, ci z5, cl eField z6]] := by
  intro k1
  induction k1 with
  | zero => intro z1 z2 z3 z4 z5 z6 x1 h; rw [slices_IndexFunc_api_Field_api_Field_of_value_fields_2_l1.eq_1] at h; cases h
  | succ k1 ih1 =>
   intro z1 z2 z3 z4 z5 z6 x1 h
   rw [slices_IndexFunc_api_Field_api_Field_of_value_fields_2_l1.eq_2] at h
   refine zq fun K4 m4 => zr (zg [] 1 [0,1,7,8,9] (zd (m4 _ _ (zq fun K5 m5 => zC h (fun b6 h => ?_) (fun b6 h => ?_)))))
   ·refine zs (m5 _ _ (zq fun K7 m7 => zb 1 (zq fun K8 m8 => zr (zg [] 2 [0,1,5,7,8] (zd ?_)))))
    refine m8 _ _ (zq fun K9 m9 => ?_)
    obtain ⟨e1, a10, h⟩ := zB h
    obtain ⟨r1, c11, h⟩ := zB h
    refine zr ?_
    refine zp [] 5 [0,1,5,7,8,11,15] [(qa1299 e1)] [(0, vl eField p1), (1, .one (.fn 114 [.pt 0 0 0 0])), (5, vi x1), (7, vi (p1.length : Int)), (8, vi x1), (11, .one (.fn 114 [.pt 0 0 0 0])), (15, .ag (qa1305 e1))] [.box [ci z1, cst z2, cb z3, ci z4, ci z5, cl eField z6]] [0 ≤ x1 ∧ x1 < ((eField.els p1).length : Int) ∧ elemsOk 6 (eField.els p1), (eField.els p1)[x1.toNat]? = some (qa1299 e1)] (⟨eField.inb a10, ((eField.get a10).trans (by rcases e1 with ⟨_, _, _, ⟨_, _, _⟩⟩; rfl)), trivial⟩) ?_
    refine XO.calm 114 [.ag (qa1305 e1), vq 0] [.box [ci z1, cst z2, cb z3, ci z4, ci z5, cl eField z6]] [.box (qa1319 r1)] (vb r1.1) [0] [(16, vb r1.1), (0, vl eField p1), (1, .one (.fn 114 [.pt 0 0 0 0])), (5, vi x1), (7, vi (p1.length : Int)), (8, vi x1), (11, .one (.fn 114 [.pt 0 0 0 0])), (15, .ag (qa1305 e1))] [.box (qa1319 r1)] (by kernel_rfl) (c_value_fields_2 _ _ _ c11) (by kernel_rfl) (by kernel_rfl) (by kernel_rfl) (by kernel_rfl) ?_
    refine zd (m9 _ _ (zC h (fun b12 h => ?_) (fun b12 h => ?_)))
    ·refine zq fun K13 m13 => zr (zv [] 2 [4] [] [(4, vi x1)] [.box (qa1319 r1)] (zd (m13 _ _ (ze (hQ1 _ _ _ ?_)))))
     obtain rfl := zj h
     exact FinM.fin (.inr rfl) [] [vi x1] [] (by kernel_rfl) trivial (by kernel_rfl) (by kernel_rfl) (.one (.rfl _ rfl))
    ·exact zs (m7 _ _ (zr (zg [] 2 [0,1,7,8] (zd (XR.sub (zk [0,1,7,8]) (ih1 r1.2.id r1.2.name r1.2.need r1.2.type.kind r1.2.type.scale r1.2.type.fields (i64.wrap (x1 + (1 : Int))) h))))))
   ·exact zx 0 (hQ1 _ _ _ (j1 z1 z2 z3 z4 z5 z6 h _ _ (zk [])))
 exact XR.sub (zk [0,1,7,8]) (hL1 BIG p2.id p2.name p2.need p2.type.kind p2.type.scale p2.type.fields (0 : Int) h)
def slices_ContainsFunc_api_Field_api_Field_of_value_fields_2 (p1 : (List GField)) (p2 : GField) : Option (Bool × GField) := bnd (slices_IndexFunc_api_Field_api_Field_of_value_fields_2 p1 p2) fun r1 => some ((decide ((0 : Int) ≤ r1.1)), r1.2)
abbrev qa1331 (r1 : (Int × GField)) : List CV := [ci r1.2.id, cst r1.2.name, cb r1.2.need, ci r1.2.type.kind, ci r1.2.type.scale, cl eField r1.2.type.fields]
theorem c_slices_ContainsFunc_api_Field_api_Field_of_value_fields_2 (p1 : (List GField)) (p2 : GField) (r : (Bool × GField)) (h : slices_ContainsFunc_api_Field_api_Field_of_value_fields_2 p1 p2 = some r) : MC Tryd.prog 111 [vl eField p1, .one (.fn 114 [.pt 0 0 0 0])] [.box (qa1305 p2)] (vb r.1) [.box [ci r.2.id, cst r.2.name, cb r.2.need, ci r.2.type.kind, ci r.2.type.scale, cl eField r.2.type.fields]] := by
 unfold slices_ContainsFunc_api_Field_api_Field_of_value_fields_2 at h
 refine MC.of 1 (n := 9) (fn := Tryd.f111) (c := cd Tryd.f111 []) (by kernel_rfl) (by kernel_rfl) (by kernel_rfl) (Nat.le_of_ble_eq_true rfl) rfl (zq fun K1 m1 => zr (zg [] 1 [0,1] (zd (m1 _ _ (zq fun K2 m2 => ?_)))))
 obtain ⟨r1, c3, h⟩ := zB h
 refine zr (zv [] 2 [5,6] [] [(5, vl eField p1), (6, .one (.fn 114 [.pt 0 0 0 0]))] [.box (qa1305 p2)] ?_)
 refine XO.calm 122 [vl eField p1, .one (.fn 114 [.pt 0 0 0 0])] [.box (qa1305 p2)] [.box (qa1331 r1)] (vi r1.1) [0] [(7, vi r1.1), (5, vl eField p1), (6, .one (.fn 114 [.pt 0 0 0 0]))] [.box (qa1331 r1)] (by kernel_rfl) (c_slices_IndexFunc_api_Field_api_Field_of_value_fields_2 _ _ _ c3) (by kernel_rfl) (by kernel_rfl) (by kernel_rfl) (by kernel_rfl) ?_
 refine zv [] 2 [4] [] [(4, vb (decide ((0 : Int) ≤ r1.1)))] [.box (qa1331 r1)] (zd (m2 _ _ (ze ?_)))
 obtain rfl := zj h
 exact FinM.fin (.inr rfl) [] [vb (decide ((0 : Int) ≤ r1.1))] [] (by kernel_rfl) trivial (by kernel_rfl) (by kernel_rfl) (.one (.rfl _ rfl))
def value_fields_j1 (x1 : Bool) : Option Int := ift x1 (some (1 : Int)) (some (0 : Int))
def value_fields_j2 : Option Int := some (0 : Int)
def value_fields_l1 (p1 : GType) : Nat → Int → Option Int
 | 0, _ => none
 | k1 + 1, x2 => ift (decide (x2 < (p1.fields.length : Int))) (bnd (at? p1.fields x2) fun e2 => grd (0 ≤ (0 : Int) ∧ (0 : Int) ≤ x2 ∧ x2 ≤ (p1.fields.length : Int)) <| bnd (slices_ContainsFunc_api_Field_api_Field_of_value_fields_2 ((p1.fields.drop (0 : Int).toNat).take (x2.toNat - (0 : Int).toNat)) e2) fun r2 => ift r2.1 (some (5 : Int)) ((value_fields_l1 p1 k1) (i64.wrap (x2 + (1 : Int))))) (value_fields_j2)
def value_fields (p1 : GType) : Option Int := ift (p1.kind == (6 : Int)) (ift ((p1.fields.length : Int) != (1 : Int)) (value_fields_j1 true) (bnd (at? p1.fields (0 : Int)) fun e1 => value_fields_j1 (!(e1.name.toList == (ByteArray.mk #[]).toList)))) (ift (p1.kind != (7 : Int)) (ift (decide ((0 : Int) < (p1.fields.length : Int))) (some (1 : Int)) (some (0 : Int))) (ift ((p1.fields.length : Int) == (0 : Int)) (some (1 : Int)) (bnd (slices_ContainsFunc_api_Field_api_Field_of_value_fields_1 p1.fields) fun r1 => ift r1 (some (4 : Int)) (value_fields_l1 p1 BIG (0 : Int)))))
abbrev qa1352 (p1 : GType) (x2 : Int) : Fr := [(1, vR (qa1274 p1)), (38, vl eField p1.fields), (39, vi (p1.fields.length : Int)), (40, vi (i64.wrap (x2 + (1 : Int))))]
theorem c_value_fields (p1 : GType) (r : Int) (h : value_fields p1 = some r) : PC Tryd.prog 98 [.ag [ci p1.kind, ci p1.scale, cl eField p1.fields]] (vi r) := by
 unfold value_fields at h
 refine zF 52 Tryd.f98 (zq fun K1 m1 => zr (zg [4] 2 [1] (zd (m1 _ _ (zq fun K2 m2 => zb 0 ?_)))))
 refine zq fun K3 m3 => zr (zu [4] 4 [1,5] [(qa1274 p1)] (zd (m3 _ _ (zC h (fun b4 h => ?_) (fun b4 h => ?_)))))
 ·refine zq fun K5 m5 => zq fun K6 m6 => ?_
  have j1 : ∀ (x1 : Bool), value_fields_j1 x1 = some r → ∀ w0 w1, Sub 52 0 [] w0 w1 [(20, vb x1)] [] → K6 w0 w1 := by
   intro x1 h w0 w1 hS
   unfold value_fields_j1 at h
   refine m6 _ _ (XW.sub hS ?_)
   refine zC h (fun b9 h => ?_) (fun b9 h => ?_)
   ·refine zq fun K10 m10 => zr (zg [4] 1 [2] (zd (m10 _ _ (ze ?_))))
    obtain rfl := zj h
    exact zf [vi 1] (.one (.rfl _ rfl))
   ·refine zs (m5 _ _ (zq fun K11 m11 => zr (zg [4] 1 [2] (zd (m11 _ _ (ze ?_))))))
    obtain rfl := zj h
    exact zf [vi 0] (.one (.rfl _ rfl))
  rcases zW h with ⟨b7, h⟩ | ⟨b7, h⟩
  ·refine zr (zv [4] 3 [1,11] [[pi p1.kind, pi p1.scale, .ro (eField.els p1.fields)]] [(1, vR [pi p1.kind, pi p1.scale, .ro (eField.els p1.fields)]), (11, vi ((eField.els p1.fields).length : Int))] [] ?_)
   rw [eField.len p1.fields]
   exact zg [4] 2 [1,13] (zt 13 b7 (zg [4] 7 [20] (zd (j1 true h _ _ (zk [20])))))
  ·obtain ⟨e1, a8, h⟩ := zB h
   refine zr (zv [4] 3 [1,11] [[pi p1.kind, pi p1.scale, .ro (eField.els p1.fields)]] [(1, vR [pi p1.kind, pi p1.scale, .ro (eField.els p1.fields)]), (11, vi ((eField.els p1.fields).length : Int))] [] ?_)
   rw [eField.len p1.fields]
   refine zg [4] 2 [1,13] (zt 13 b7 ?_)
   refine zo [4] 7 [20] [(qa1274 p1), (qa1299 e1)] [([(qa1274 p1)] : List (List PV))[0]? = some (qa1274 p1), 0 ≤ (0 : Int) ∧ (0 : Int) < ((eField.els p1.fields).length : Int) ∧ elemsOk 6 (eField.els p1.fields), (eField.els p1.fields)[(0 : Int).toNat]? = some (qa1299 e1)] (⟨rfl, eField.inb a8, ((eField.get a8).trans (by rcases e1 with ⟨_, _, _, ⟨_, _, _⟩⟩; rfl)), trivial⟩) ?_
   exact zd (j1 (!(e1.name.toList == (ByteArray.mk #[]).toList)) h _ _ (zk [20]))
 ·refine zq fun K12 m12 => zr (zv [4] 4 [1,21] [(qa1274 p1)] [(1, vR (qa1274 p1)), (21, vb (p1.kind != (7 : Int)))] [] (zd (m12 _ _ (zC h (fun b13 h => ?_) (fun b13 h => ?_)))))
  ·refine zq fun K14 m14 => zq fun K15 m15 => zr (zv [4] 3 [27] [[pi p1.kind, pi p1.scale, .ro (eField.els p1.fields)]] [(27, vi ((eField.els p1.fields).length : Int))] [] ?_)
   rw [eField.len p1.fields]
   refine zg [4] 1 [28] (zd (m15 _ _ (zC h (fun b16 h => ?_) (fun b16 h => ?_))))
   ·refine zq fun K17 m17 => zr (zg [4] 1 [2] (zd (m17 _ _ (ze ?_))))
    obtain rfl := zj h
    exact zf [vi 1] (.one (.rfl _ rfl))
   ·refine zs (m14 _ _ (zq fun K18 m18 => zr (zv [4] 1 [2] [] [(2, vi 0)] [] (zd (m18 _ _ (ze ?_))))))
    obtain rfl := zj h
    exact zf [vi 0] (.one (.rfl _ rfl))
  ·refine zq fun K19 m19 => zr (zv [4] 3 [1,32] [[pi p1.kind, pi p1.scale, .ro (eField.els p1.fields)]] [(1, vR [pi p1.kind, pi p1.scale, .ro (eField.els p1.fields)]), (32, vi ((eField.els p1.fields).length : Int))] [] ?_)
   rw [eField.len p1.fields]
   refine zg [4] 2 [1,29] (zd (m19 _ _ (zC h (fun b20 h => ?_) (fun b20 h => ?_))))
   ·refine zq fun K21 m21 => zr (zg [4] 1 [2] (zd (m21 _ _ (ze ?_))))
    obtain rfl := zj h
    exact zf [vi 1] (.one (.rfl _ rfl))
   ·refine zs (m2 _ _ (zq fun K22 m22 => zq fun K23 m23 => ?_))
    obtain ⟨r1, c24, h⟩ := zB h
    refine zr (zv [4] 2 [1,35] [(qa1274 p1)] [(1, vR (qa1274 p1)), (35, vl eField p1.fields)] [] (za (c_slices_ContainsFunc_api_Field_api_Field_of_value_fields_1 _ _ c24) (zd (m23 _ _ (zC h (fun b25 h => ?_) (fun b25 h => ?_))))))
    ·refine zq fun K26 m26 => zr (zg [4] 1 [2] (zd (m26 _ _ (ze ?_))))
     obtain rfl := zj h
     exact zf [vi 4] (.one (.rfl _ rfl))
    ·refine zs (m22 _ _ (zq fun K27 m27 => ?_))
     have j2 : ∀ (_ : Unit), value_fields_j2 = some r → ∀ w0 w1, Sub 52 0 [] w0 w1 [] [] → K27 w0 w1 := by
      intro _ h w0 w1 hS
      unfold value_fields_j2 at h
      refine m27 _ _ (XW.sub hS ?_)
      refine zq fun K40 m40 => zr (zg [4] 1 [2] (zd (m40 _ _ (ze ?_))))
      obtain rfl := zj h
      exact zf [vi 0] (.one (.rfl _ rfl))
     refine zq fun K28 m28 => zr (zv [4] 3 [1,38,39] [[pi p1.kind, pi p1.scale, .ro (eField.els p1.fields)]] [(1, vR [pi p1.kind, pi p1.scale, .ro (eField.els p1.fields)]), (38, vl eField p1.fields), (39, vi ((eField.els p1.fields).length : Int))] [] ?_)
     rw [eField.len p1.fields]
     refine zg [4] 1 [1,38,39,40] (zd (m28 _ _ (zb 1 (XW.rounds' BIG (x := cd Tryd.f98 [1,1,1,0,1,0,0]) (by kernel_rfl) fun Q1 hQ1 => ?_))))
     have hL1 : ∀ (k1 : Nat) (x2 : Int), value_fields_l1 p1 k1 x2 = some r → XR Tryd.prog 52 0 [] (cd Tryd.f98 [1,1,1,0,1,0,0]) Q1 k1 [(1, vR (qa1274 p1)), (38, vl eField p1.fields), (39, vi (p1.fields.length : Int)), (40, vi x2)] [] := by
      intro k1
      induction k1 with
      | zero => intro x2 h; rw [value_fields_l1.eq_1] at h; cases h
      | succ k1 ih1 =>
       intro x2 h
       rw [value_fields_l1.eq_2] at h
       refine zq fun K29 m29 => zr (zg [4] 1 [1,38,39,40,41] (zd (m29 _ _ (zq fun K30 m30 => zC h (fun b31 h => ?_) (fun b31 h => ?_)))))
       ·refine zs (m30 _ _ (zq fun K32 m32 => zb 2 (zq fun K33 m33 => ?_)))
        obtain ⟨e2, a34, h⟩ := zB h
        refine zr (zo [4] 6 [1,3,4,38,39,40] [(qa1299 e2)] [0 ≤ x2 ∧ x2 < ((eField.els p1.fields).length : Int) ∧ elemsOk 6 (eField.els p1.fields), (eField.els p1.fields)[x2.toNat]? = some (qa1299 e2)] (⟨eField.inb a34, ((eField.get a34).trans (by rcases e2 with ⟨_, _, _, ⟨_, _, _⟩⟩; rfl)), trivial⟩) (zd (m33 _ _ (zq fun K35 m35 => ?_))))
        obtain ⟨g36, h⟩ := zG h
        obtain ⟨r2, c37, h⟩ := zB h
        refine zr ?_
        refine zp [4] 4 [1,4,38,39,40,48] [[pi p1.kind, pi p1.scale, .ro (eField.els p1.fields)]] [(1, vR [pi p1.kind, pi p1.scale, .ro (eField.els p1.fields)]), (4, vq 0), (38, vl eField p1.fields), (39, vi (p1.fields.length : Int)), (40, vi x2), (48, .one (.pv (.ro (((eField.els p1.fields).drop (0 : Int).toNat).take (x2.toNat - (0 : Int).toNat)))))] [.box [ci e2.id, cst e2.name, cb e2.need, ci e2.type.kind, ci e2.type.scale, cl eField e2.type.fields]] [([[pi p1.kind, pi p1.scale, .ro (eField.els p1.fields)]] : List (List PV))[0]? = some [pi p1.kind, pi p1.scale, .ro (eField.els p1.fields)], (0 ≤ (0 : Int) ∧ (0 : Int) ≤ x2 ∧ x2 ≤ ((eField.els p1.fields).length : Int)) ∧ elemsOk 6 (eField.els p1.fields)] (⟨rfl, eField.cutOk g36, trivial⟩) ?_
        rw [show ((eField.els p1.fields).drop (0 : Int).toNat).take (x2.toNat - (0 : Int).toNat) = eField.els ((p1.fields.drop (0 : Int).toNat).take (x2.toNat - (0 : Int).toNat)) from eField.cut _ _ _]
        refine zv [4] 1 [1,38,39,40,48,49] [] [(1, vR (qa1274 p1)), (38, vl eField p1.fields), (39, vi (p1.fields.length : Int)), (40, vi x2), (48, vl eField ((p1.fields.drop (0 : Int).toNat).take (x2.toNat - (0 : Int).toNat))), (49, .one (.fn 114 [.pt 0 0 0 0]))] [.box (qa1305 e2)] ?_
        refine XO.calm 111 [vl eField ((p1.fields.drop (0 : Int).toNat).take (x2.toNat - (0 : Int).toNat)), .one (.fn 114 [.pt 0 0 0 0])] [.box (qa1305 e2)] [.box (qa1319 r2)] (vb r2.1) [0] [(50, vb r2.1), (1, vR (qa1274 p1)), (38, vl eField p1.fields), (39, vi (p1.fields.length : Int)), (40, vi x2), (48, vl eField ((p1.fields.drop (0 : Int).toNat).take (x2.toNat - (0 : Int).toNat))), (49, .one (.fn 114 [.pt 0 0 0 0]))] [.box (qa1319 r2)] (by kernel_rfl) (c_slices_ContainsFunc_api_Field_api_Field_of_value_fields_2 _ _ _ c37) (by kernel_rfl) (by kernel_rfl) (by kernel_rfl) (by kernel_rfl) ?_
        refine zd (m35 _ _ (zC h (fun b38 h => ?_) (fun b38 h => ?_)))
        ·refine zq fun K39 m39 => zr (zg [4] 1 [2] (zd (m39 _ _ (ze (hQ1 _ _ _ ?_)))))
         obtain rfl := zj h
         exact zf [vi 5] (.one (.rfl _ rfl))
        ·refine zs (m32 _ _ (zr (zg [4] 2 [1,38,39,40] (zd ?_))))
         exact XR.sub (Sub.trans (Sub.pick (fr' := (qa1352 p1 x2)) [1,38,39,40] (by kernel_rfl)) (Sub.take (fr' := (qa1352 p1 x2)) 0 (Nat.zero_le _) (by kernel_rfl) (by kernel_rfl))) (ih1 (i64.wrap (x2 + (1 : Int))) h)
       ·exact zx 1 (hQ1 _ _ _ (j2 () h _ _ (zk [])))
     exact XR.sub (zk [1,38,39,40]) (hL1 BIG (0 : Int) h)
def value_checker_check_j5 (z3 : Int) : Option (Int × GChecker) := some ((0 : Int), (GChecker.mk z3))
def value_checker_check_l1 (q_value_checker_check : GType → Int → GChecker → Option (Int × GChecker)) (p1 : GType) (p2 : Int) : Nat → Int → Int → Option (Int × GChecker)
 | 0, _, _ => none
 | k1 + 1, z2, x4 => ift (decide (x4 < (p1.fields.length : Int))) (bnd (at? p1.fields x4) fun e1 => bnd (q_value_checker_check e1.type (i64.wrap (p2 + (1 : Int))) (GChecker.mk z2)) fun r4 => ift (r4.1 != (0 : Int)) (some (r4.1, r4.2)) ((value_checker_check_l1 q_value_checker_check p1 p2 k1) r4.2.leaves (i64.wrap (x4 + (1 : Int))))) (value_checker_check_j5 z2)
def value_checker_check_j4 (q_value_checker_check : GType → Int → GChecker → Option (Int × GChecker)) (p1 : GType) (p2 : Int) (z1 : Int) (x3 : Bool) : Option (Int × GChecker) := ift x3 (some ((1 : Int), (GChecker.mk z1))) (bnd (value_fields p1) fun r3 => ift (r3 != (0 : Int)) (some (r3, (GChecker.mk z1))) (value_checker_check_l1 q_value_checker_check p1 p2 BIG z1 (0 : Int)))
def value_checker_check_j3 (q_value_checker_check : GType → Int → GChecker → Option (Int × GChecker)) (p1 : GType) (p2 : Int) (z1 : Int) (x2 : Bool) : Option (Int × GChecker) := ift x2 (some ((3 : Int), (GChecker.mk z1))) (ift (p1.scale != (0 : Int)) (ift (p1.kind != (3 : Int)) (value_checker_check_j4 q_value_checker_check p1 p2 z1 true) (ift (decide (p1.scale < (0 : Int))) (value_checker_check_j4 q_value_checker_check p1 p2 z1 true) (value_checker_check_j4 q_value_checker_check p1 p2 z1 (decide ((12 : Int) < p1.scale))))) (value_checker_check_j4 q_value_checker_check p1 p2 z1 false))
def value_checker_check_j2 (q_value_checker_check : GType → Int → GChecker → Option (Int × GChecker)) (p1 : GType) (p2 : Int) (z1 : Int) : Option (Int × GChecker) := ift (decide (p1.kind < (1 : Int))) (value_checker_check_j3 q_value_checker_check p1 p2 z1 true) (value_checker_check_j3 q_value_checker_check p1 p2 z1 (decide ((7 : Int) < p1.kind)))
def value_checker_check_j1 (q_value_checker_check : GType → Int → GChecker → Option (Int × GChecker)) (p1 : GType) (p2 : Int) (p3 : GChecker) (x1 : Bool) : Option (Int × GChecker) := ift x1 (some ((7 : Int), p3)) (bnd (value_leaf p1) fun r2 => ift r2 (value_checker_check_j2 q_value_checker_check p1 p2 (i64.wrap (p3.leaves + (1 : Int)))) (value_checker_check_j2 q_value_checker_check p1 p2 p3.leaves))
def value_checker_check : Nat → GType → Int → GChecker → Option (Int × GChecker)
 | 0, _, _, _ => none
 | k0 + 1, p1, p2, p3 => ift (decide ((4 : Int) < p2)) (value_checker_check_j1 (value_checker_check k0) p1 p2 p3 true) (bnd (value_leaf p1) fun r1 => ift r1 (value_checker_check_j1 (value_checker_check k0) p1 p2 p3 (p3.leaves == (40 : Int))) (value_checker_check_j1 (value_checker_check k0) p1 p2 p3 false))
abbrev qa1367 (e1 : GField) : List CV := [ci e1.type.kind, ci e1.type.scale, cl eField e1.type.fields]
abbrev qa1371 (p1 : GType) (p2 : Int) (x4 : Int) : Fr := [(0, vq 0), (2, vi p2), (67, vl eField p1.fields), (68, vi (p1.fields.length : Int)), (69, vi (i64.wrap (x4 + (1 : Int))))]
theorem c_value_checker_check : ∀ (k0 : Nat) (p1 : GType) (p2 : Int) (p3 : GChecker) (r : (Int × GChecker)), value_checker_check k0 p1 p2 p3 = some r → MC Tryd.prog 72 [vq 0, .ag [ci p1.kind, ci p1.scale, cl eField p1.fields], vi p2] [.box [ci p3.leaves]] (vi r.1) [.box [ci r.2.leaves]]
 | 0, _, _, _, r, h => by rw [value_checker_check.eq_1] at h; cases h
 | k0 + 1, p1, p2, p3, r, h => by
  rw [value_checker_check.eq_2] at h
  refine MC.of 1 (n := 83) (fn := Tryd.f72) (c := cd Tryd.f72 []) (by kernel_rfl) (by kernel_rfl) (by kernel_rfl) (Nat.le_of_ble_eq_true rfl) rfl (zq fun K1 m1 => zr (zg [9] 2 [0,2,4] (zd (m1 _ _ (zq fun K2 m2 => zq fun K3 m3 => ?_)))))
  have j1 : ∀ (x1 : Bool), value_checker_check_j1 (value_checker_check k0) p1 p2 p3 x1 = some r → ∀ w0 w1, Sub 83 1 [] w0 w1 [(0, vq 0), (2, vi p2), (4, vR (qa1274 p1)), (23, vb x1)] [.box [ci p3.leaves]] → K3 w0 w1 := by
   intro x1 h w0 w1 hS
   unfold value_checker_check_j1 at h
   refine m3 _ _ (XW.sub hS ?_)
   refine zC h (fun b7 h => ?_) (fun b7 h => ?_)
   ·refine zq fun K8 m8 => zr (zv [9] 1 [6] [] [(6, vi 7)] [.box [ci p3.leaves]] (zd (m8 _ _ (ze ?_))))
    obtain rfl := zj h
    exact FinM.fin (.inr rfl) [] [vi 7] [] (by kernel_rfl) trivial (by kernel_rfl) (by kernel_rfl) (.one (.rfl _ rfl))
   ·refine zs (m2 _ _ (zq fun K9 m9 => ?_))
    have j2 : ∀ (z1 : Int), value_checker_check_j2 (value_checker_check k0) p1 p2 z1 = some r → ∀ w0 w1, Sub 83 1 [] w0 w1 [(0, vq 0), (2, vi p2), (4, vR (qa1274 p1))] [.box [ci z1]] → K9 w0 w1 := by
     intro z1 h w0 w1 hS
     unfold value_checker_check_j2 at h
     refine m9 _ _ (XW.sub hS ?_)
     refine zq fun K13 m13 => zb 0 (zq fun K14 m14 => ?_)
     have j3 : ∀ (x2 : Bool), value_checker_check_j3 (value_checker_check k0) p1 p2 z1 x2 = some r → ∀ w0 w1, Sub 83 1 [] w0 w1 [(0, vq 0), (2, vi p2), (4, vR (qa1274 p1)), (33, vb x2)] [.box [ci z1]] → K14 w0 w1 := by
      intro x2 h w0 w1 hS
      unfold value_checker_check_j3 at h
      refine m14 _ _ (XW.sub hS ?_)
      refine zC h (fun b16 h => ?_) (fun b16 h => ?_)
      ·refine zq fun K17 m17 => zr (zv [9] 1 [6] [] [(6, vi 3)] [.box [ci z1]] (zd (m17 _ _ (ze ?_))))
       obtain rfl := zj h
       exact FinM.fin (.inr rfl) [] [vi 3] [] (by kernel_rfl) trivial (by kernel_rfl) (by kernel_rfl) (.one (.rfl _ rfl))
      ·refine zq fun K18 m18 => ?_
       have j4 : ∀ (x3 : Bool), value_checker_check_j4 (value_checker_check k0) p1 p2 z1 x3 = some r → ∀ w0 w1, Sub 83 1 [] w0 w1 [(0, vq 0), (2, vi p2), (4, vR (qa1274 p1)), (42, vb x3)] [.box [ci z1]] → K18 w0 w1 := by
        intro x3 h w0 w1 hS
        unfold value_checker_check_j4 at h
        refine m18 _ _ (XW.sub hS ?_)
        refine zC h (fun b22 h => ?_) (fun b22 h => ?_)
        ·refine zq fun K23 m23 => zr (zv [9] 1 [6] [] [(6, vi 1)] [.box [ci z1]] (zd (m23 _ _ (ze ?_))))
         obtain rfl := zj h
         exact FinM.fin (.inr rfl) [] [vi 1] [] (by kernel_rfl) trivial (by kernel_rfl) (by kernel_rfl) (.one (.rfl _ rfl))
        ·refine zs (m13 _ _ (zq fun K24 m24 => zq fun K25 m25 => ?_))
         obtain ⟨r3, c26, h⟩ := zB h
         refine zr (zu [9] 1 [0,2,4,61] [(qa1274 p1)] (za (c_value_fields _ _ c26) (zv [9] 1 [0,2,4,7] [] [(0, vq 0), (2, vi p2), (4, vR (qa1274 p1)), (7, vi r3)] [.box [ci z1]] (zd (m25 _ _ (zq fun K27 m27 => zr ?_))))))
         refine zg [9] 2 [0,2,4,7,64] (zd (m27 _ _ (zC h (fun b28 h => ?_) (fun b28 h => ?_))))
         ·refine zq fun K29 m29 => zr (zv [9] 2 [6] [] [(6, vi r3)] [.box [ci z1]] (zd (m29 _ _ (ze ?_))))
          obtain rfl := zj h
          exact FinM.fin (.inr rfl) [] [vi r3] [] (by kernel_rfl) trivial (by kernel_rfl) (by kernel_rfl) (.one (.rfl _ rfl))
         ·refine zs (m24 _ _ (zq fun K30 m30 => ?_))
          have j5 : ∀ (z3 : Int), value_checker_check_j5 z3 = some r → ∀ w0 w1, Sub 83 1 [] w0 w1 [] [.box [ci z3]] → K30 w0 w1 := by
           intro z3 h w0 w1 hS
           unfold value_checker_check_j5 at h
           refine m30 _ _ (XW.sub hS ?_)
           refine zq fun K43 m43 => zr (zv [9] 1 [6] [] [(6, vi 0)] [.box [ci z3]] (zd (m43 _ _ (ze ?_))))
           obtain rfl := zj h
           exact FinM.fin (.inr rfl) [] [vi 0] [] (by kernel_rfl) trivial (by kernel_rfl) (by kernel_rfl) (.one (.rfl _ rfl))
          refine zq fun K31 m31 => zr (zv [9] 3 [0,2,67,68] [[pi p1.kind, pi p1.scale, .ro (eField.els p1.fields)]] [(0, vq 0), (2, vi p2), (67, vl eField p1.fields), (68, vi ((eField.els p1.fields).length : Int))] [.box [ci z1]] ?_)
          rw [eField.len p1.fields]
          refine zg [9] 1 [0,2,67,68,69] (zd (m31 _ _ (zb 1 (XW.rounds' BIG (x := cd Tryd.f72 [1,1,1,1,1,0,1,0,0]) (by kernel_rfl) fun Q1 hQ1 => ?_))))
          have hL1 : ∀ (k1 : Nat) (z2 : Int) (x4 : Int), value_checker_check_l1 (value_checker_check k0) p1 p2 k1 z2 x4 = some r → XR Tryd.prog 83 1 [] (cd Tryd.f72 [1,1,1,1,1,0,1,0,0]) Q1 k1 [(0, vq 0), (2, vi p2), (67, vl eField p1.fields), (68, vi (p1.fields.length : Int)), (69, vi x4)] [.box [ci z2]] := by
           intro k1
           induction k1 with
           | zero => intro z2 x4 h; rw [value_checker_check_l1.eq_1] at h; cases h
           | succ k1 ih1 =>
            intro z2 x4 h
            rw [value_checker_check_l1.eq_2] at h
            refine zq fun K32 m32 => zr (zg [9] 1 [0,2,67,68,69,70] (zd (m32 _ _ (zq fun K33 m33 => zC h (fun b34 h => ?_) (fun b34 h => ?_)))))
            ·refine zs (m33 _ _ (zq fun K35 m35 => zb 2 (zq fun K36 m36 => ?_)))
             obtain ⟨e1, a37, h⟩ := zB h
             refine zr (zo [9] 4 [0,2,9,67,68,69] [(qa1299 e1)] [0 ≤ x4 ∧ x4 < ((eField.els p1.fields).length : Int) ∧ elemsOk 6 (eField.els p1.fields), (eField.els p1.fields)[x4.toNat]? = some (qa1299 e1)] (⟨eField.inb a37, ((eField.get a37).trans (by rcases e1 with ⟨_, _, _, ⟨_, _, _⟩⟩; rfl)), trivial⟩) (zd (m36 _ _ (zq fun K38 m38 => ?_))))
             obtain ⟨r4, c39, h⟩ := zB h
             refine zr (zv [9] 5 [0,2,67,68,69,73,75,77] [] [(0, vq 0), (2, vi p2), (67, vl eField p1.fields), (68, vi (p1.fields.length : Int)), (69, vi x4), (73, vq 0), (75, .ag (qa1367 e1)), (77, vi (i64.wrap (p2 + (1 : Int))))] [.box [ci z2], .box (qa1305 e1)] ?_)
             refine XO.calm 72 [vq 0, .ag (qa1367 e1), vi (i64.wrap (p2 + (1 : Int)))] [.box [ci z2]] [.box [ci r4.2.leaves]] (vi r4.1) [0] [(78, vi r4.1), (0, vq 0), (2, vi p2), (67, vl eField p1.fields), (68, vi (p1.fields.length : Int)), (69, vi x4), (73, vq 0), (75, .ag (qa1367 e1)), (77, vi (i64.wrap (p2 + (1 : Int))))] [.box [ci r4.2.leaves], .box (qa1305 e1)] (by kernel_rfl) (c_value_checker_check k0 _ _ _ _ c39) (by kernel_rfl) (by kernel_rfl) (by kernel_rfl) (by kernel_rfl) ?_
             refine zg [9] 1 [0,2,10,67,68,69] (zd (m38 _ _ (zq fun K40 m40 => zr (zg [9] 2 [0,2,10,67,68,69,80] (zd (m40 _ _ ?_))))))
             refine zC h (fun b41 h => ?_) (fun b41 h => ?_)
             ·refine zq fun K42 m42 => zr (zv [9] 2 [6] [] [(6, vi r4.1)] [.box [ci r4.2.leaves], .box (qa1305 e1)] (zd (m42 _ _ (ze (hQ1 _ _ _ ?_)))))
              obtain rfl := zj h
              exact FinM.fin (.inr rfl) [] [vi r4.1] [] (by kernel_rfl) trivial (by kernel_rfl) (by kernel_rfl) (.one (.rfl _ rfl))
             ·exact zs (m35 _ _ (zr (zg [9] 2 [0,2,67,68,69] (zd (XR.sub (Sub.trans (Sub.pick (fr' := (qa1371 p1 p2 x4)) [0,2,67,68,69] (by kernel_rfl)) (Sub.take (fr' := (qa1371 p1 p2 x4)) 1 (by decide) (by kernel_rfl) (by kernel_rfl))) (ih1 r4.2.leaves (i64.wrap (x4 + (1 : Int))) h))))))
            ·exact zx 1 (hQ1 _ _ _ (j5 z2 h _ _ (zk [])))
          exact XR.sub (zk [0,2,67,68,69]) (hL1 BIG z1 (0 : Int) h)
       rcases zW h with ⟨b19, h⟩ | ⟨b19, h⟩
       ·rcases zW h with ⟨b20, h⟩ | ⟨b20, h⟩
        ·exact zr (zu [9] 4 [0,2,4,46] [(qa1274 p1)] (zt 46 b19 (zu [9] 4 [0,2,4,46,50] [(qa1274 p1)] (zt 50 b20 (zv [9] 11 [0,2,4,42] [] [(0, vq 0), (2, vi p2), (4, vR (qa1274 p1)), (42, vb true)] [.box [ci z1]] (zd (j4 true h _ _ (zk [0,2,4,42]))))))))
        ·rcases zW h with ⟨b21, h⟩ | ⟨b21, h⟩
         ·refine zr (zu [9] 4 [0,2,4,46] [(qa1274 p1)] (zt 46 b19 (zu [9] 4 [0,2,4,46,50] [(qa1274 p1)] (zt 50 b20 (zv [9] 5 [0,2,4,46,55] [(qa1274 p1)] [(0, vq 0), (2, vi p2), (4, vR (qa1274 p1)), (46, vb true), (55, vb (decide (p1.scale < (0 : Int))))] [.box [ci z1]] (zt 55 b21 (zg [9] 6 [0,2,4,42] ?_)))))))
          exact zd (j4 true h _ _ (zk [0,2,4,42]))
         ·refine zr (zu [9] 4 [0,2,4,46] [(qa1274 p1)] (zt 46 b19 (zv [9] 4 [0,2,4,46,50] [(qa1274 p1)] [(0, vq 0), (2, vi p2), (4, vR (qa1274 p1)), (46, vb true), (50, vb (p1.kind != (3 : Int)))] [.box [ci z1]] (zt 50 b20 (zu [9] 5 [0,2,4,46,55] [(qa1274 p1)] (zt 55 b21 (zu [9] 6 [0,2,4,42] [(qa1274 p1)] ?_)))))))
          exact zd (j4 (decide ((12 : Int) < p1.scale)) h _ _ (zk [0,2,4,42]))
       ·exact zr (zu [9] 4 [0,2,4,46] [(qa1274 p1)] (zt 46 b19 (zg [9] 15 [0,2,4,42] (zd (j4 false h _ _ (zk [0,2,4,42]))))))
     rcases zW h with ⟨b15, h⟩ | ⟨b15, h⟩
     ·exact zr (zu [9] 4 [0,2,4,37] [(qa1274 p1)] (zt 37 b15 (zg [9] 5 [0,2,4,33] (zd (j3 true h _ _ (zk [0,2,4,33]))))))
     ·exact zr (zv [9] 4 [0,2,4,37] [(qa1274 p1)] [(0, vq 0), (2, vi p2), (4, vR (qa1274 p1)), (37, vb (decide (p1.kind < (1 : Int))))] [.box [ci z1]] (zt 37 b15 (zu [9] 5 [0,2,4,33] [(qa1274 p1)] (zd (j3 (decide ((7 : Int) < p1.kind)) h _ _ (zk [0,2,4,33]))))))
    refine zq fun K10 m10 => ?_
    obtain ⟨r2, c11, h⟩ := zB h
    refine zr (zu [9] 1 [0,2,4,24] [(qa1274 p1)] (za (c_value_leaf _ _ c11) (zd (m10 _ _ (zC h (fun b12 h => ?_) (fun b12 h => ?_))))))
    ·exact zr (zv [9] 8 [0,2,4] [] [(0, vq 0), (2, vi p2), (4, vR (qa1274 p1))] [.box [ci (i64.wrap (p3.leaves + (1 : Int)))]] (zd (j2 (i64.wrap (p3.leaves + (1 : Int))) h _ _ (zk [0,2,4]))))
    ·exact zs (j2 p3.leaves h _ _ (zk [0,2,4]))
  rcases zW h with ⟨b4, h⟩ | ⟨b4, h⟩
  ·exact zr (zg [9] 3 [0,2,4,13] (zt 13 b4 (zv [9] 10 [0,2,4,23] [] [(0, vq 0), (2, vi p2), (4, vR (qa1274 p1)), (23, vb true)] [.box [ci p3.leaves]] (zd (j1 true h _ _ (zk [0,2,4,23]))))))
  ·obtain ⟨r1, c5, h⟩ := zB h
   rcases zW h with ⟨b6, h⟩ | ⟨b6, h⟩
   ·refine zr (zg [9] 3 [0,2,4,13] (zt 13 b4 (zu [9] 1 [0,2,4,13,14] [(qa1274 p1)] (zl 97 [.ag [ci p1.kind, ci p1.scale, cl eField p1.fields]] (vb r1) [(15, vb r1), (0, vq 0), (2, vi p2), (4, vR (qa1274 p1)), (13, vb false), (14, .ag [ci p1.kind, ci p1.scale, cl eField p1.fields])] (c_value_leaf _ _ c5) (zg [9] 1 [0,2,4,13,16] (zt 16 b6 (zg [9] 7 [0,2,4,23] ?_)))))))
    exact zd (j1 (p3.leaves == (40 : Int)) h _ _ (zk [0,2,4,23]))
   ·refine zr (zv [9] 3 [0,2,4,13] [] [(0, vq 0), (2, vi p2), (4, vR (qa1274 p1)), (13, vb (decide ((4 : Int) < p2)))] [.box [ci p3.leaves]] (zt 13 b4 (zu [9] 1 [0,2,4,13,14] [(qa1274 p1)] (za (c_value_leaf _ _ c5) (zv [9] 1 [0,2,4,13,16] [] [(0, vq 0), (2, vi p2), (4, vR (qa1274 p1)), (13, vb false), (16, vb r1)] [.box [ci p3.leaves]] (zt 16 b6 (zg [9] 7 [0,2,4,23] ?_)))))))
    exact zd (j1 false h _ _ (zk [0,2,4,23]))
def value_CheckType (p1 : GType) : Option Int := bnd (value_checker_check BIG p1 (1 : Int) (GChecker.mk (0 : Int))) fun r1 => some r1.1
abbrev qa1397 (p1 : GType) : List CV := [ci p1.kind, ci p1.scale, cl eField p1.fields]
theorem c_value_CheckType (p1 : GType) (r : Int) (h : value_CheckType p1 = some r) : PC Tryd.prog 46 [.ag (qa1397 p1)] (vi r) := by
 unfold value_CheckType at h
 refine zF 9 Tryd.f46 (zq fun K1 m1 => zr (zg [5] 2 [1] (zd (m1 _ _ (zq fun K2 m2 => zr ?_)))))
 refine zg [5] 3 [1,3] (zd (m2 _ _ (zq fun K3 m3 => ?_)))
 obtain ⟨r1, c4, h⟩ := zB h
 refine zr (zv [5] 2 [6,7] [[pi p1.kind, pi p1.scale, .ro (eField.els p1.fields)]] [(6, vq 0), (7, .ag (qa1397 p1))] [.box [ci 0]] (XO.calm 72 [vq 0, .ag (qa1397 p1), vi 1] [.box [ci 0]] [.box [ci r1.2.leaves]] (vi r1.1) [0] [(8, vi r1.1), (6, vq 0), (7, .ag (qa1397 p1))] [.box [ci r1.2.leaves]] (by kernel_rfl) (c_value_checker_check BIG _ _ _ _ c4) (by kernel_rfl) (by kernel_rfl) (by kernel_rfl) (by kernel_rfl) ?_))
 refine zg [5] 1 [2] (zd (m3 _ _ (ze ?_)))
 obtain rfl := zj h
 exact zf [vi r1.1] (.one (.rfl _ rfl))
def value_CheckSchema_1 (p1 : GField) (p2 : (List (Int × Int))) : Option (Int × (List (Int × Int))) := ift (decide (p1.id < (1 : Int))) (some ((3 : Int), p2)) (bnd (some (i64.wrap (((mget (kInt .i64) p2 p1.id).getD (0 : Int)) + (1 : Int)))) fun y1 => bnd (some (decide ((1 : Int) < ((mget (kInt .i64) (mset (kInt .i64) p2 p1.id y1) p1.id).getD (0 : Int))))) fun y2 => ift y2 (some ((5 : Int), (mset (kInt .i64) p2 p1.id y1))) (some ((0 : Int), (mset (kInt .i64) p2 p1.id y1))))
abbrev qa1413 (p2 : (List (Int × Int))) : St := [.box [.mp 1], .raw (mapObj (kInt .i64) (eInt .i64) p2)]
abbrev qa1417 (p1 : GField) (p2 : (List (Int × Int))) (y1 : Int) : St := [.box [.mp 1], .raw (mapObj (kInt .i64) (eInt .i64) (mset (kInt .i64) p2 p1.id y1))]
theorem c_value_CheckSchema_1 (p1 : GField) (p2 : (List (Int × Int))) (r : (Int × (List (Int × Int)))) (h : value_CheckSchema_1 p1 p2 = some r) : MC Tryd.prog 48 [.ag [ci p1.id, cst p1.name, cb p1.need, ci p1.type.kind, ci p1.type.scale, cl eField p1.type.fields], vq 0] (qa1413 p2) (vi r.1) [.box [.mp 1], .raw (mapObj (kInt .i64) (eInt .i64) r.2)] := by
 unfold value_CheckSchema_1 at h
 refine MC.of 2 (n := 17) (fn := Tryd.f48) (c := cd Tryd.f48 []) (by kernel_rfl) (by kernel_rfl) (by kernel_rfl) (Nat.le_of_ble_eq_true rfl) rfl (zq fun K1 m1 => zr (zg [] 2 [1,2] (zd (m1 _ _ (zq fun K2 m2 => zq fun K3 m3 => ?_)))))
 refine zr (zu [] 3 [1,2,6] [(qa1299 p1)] (zd (m3 _ _ (zC h (fun b4 h => ?_) (fun b4 h => ?_)))))
 ·refine zq fun K5 m5 => zr (zv [] 1 [3] [] [(3, vi 3)] (qa1413 p2) (zd (m5 _ _ (ze ?_))))
  obtain rfl := zj h
  exact FinM.fin (.inr rfl) [] [vi 3] [] (by kernel_rfl) trivial (by kernel_rfl) (by kernel_rfl) (.one (.rfl _ rfl))
 ·refine zs (m2 _ _ (zq fun K6 m6 => zq fun K7 m7 => ?_))
  obtain ⟨y1, hy8, h⟩ := zB h
  refine zr (zv [] 3 [1,2,7,9] [(qa1299 p1)] [(1, vq 0), (2, vR (qa1299 p1)), (7, .one (.mp 1)), (9, vi p1.id)] (qa1413 p2) ?_)
  refine XO.look (kInt .i64) (eInt .i64) 1 p2 p1.id (0 : Int) 3 3 [(10, vi ((mget (kInt .i64) p2 p1.id).getD (0 : Int))), (1, vq 0), (2, vR (qa1299 p1)), (7, .one (.mp 1)), (9, vi p1.id)] (by kernel_rfl) (by kernel_rfl) (by kernel_rfl) (by kernel_rfl) (by kernel_rfl) ?_
  refine zv [] 1 [1,2,7,9,11] [] [(1, vq 0), (2, vR [pi p1.id, .s (.string p1.name), .s (.bool p1.need), pi p1.type.kind, pi p1.type.scale, .ro (eField.els p1.type.fields)]), (7, .one (.mp 1)), (9, vi p1.id), (11, vi (i64.wrap (((mget (kInt .i64) p2 p1.id).getD (0 : Int)) + (1 : Int))))] [.box [.mp 1], .raw (mapObj (kInt .i64) (eInt .i64) p2)] ?_
  rw [show (i64.wrap (((mget (kInt .i64) p2 p1.id).getD (0 : Int)) + (1 : Int))) = y1 from zj hy8]
  refine XO.mupd (kInt .i64) (eInt .i64) 1 p2 p1.id y1 3 (qa1417 p1 p2 y1) (by kernel_rfl) (by kernel_rfl) (by kernel_rfl) (by kernel_rfl) (zd (m7 _ _ (zq fun K9 m9 => ?_)))
  obtain ⟨y2, hy10, h⟩ := zB h
  refine zr (zv [] 3 [12,14] [(qa1299 p1)] [(12, .one (.mp 1)), (14, vi p1.id)] (qa1417 p1 p2 y1) (XO.look (kInt .i64) (eInt .i64) 1 (mset (kInt .i64) p2 p1.id y1) p1.id (0 : Int) 3 3 [(15, vi ((mget (kInt .i64) (mset (kInt .i64) p2 p1.id y1) p1.id).getD (0 : Int))), (12, .one (.mp 1)), (14, vi p1.id)] (by kernel_rfl) (by kernel_rfl) (by kernel_rfl) (by kernel_rfl) (by kernel_rfl) ?_))
  refine zv [] 1 [16] [] [(16, vb (decide ((1 : Int) < ((mget (kInt .i64) (mset (kInt .i64) p2 p1.id y1) p1.id).getD (0 : Int)))))] [.box [.mp 1], .raw (mapObj (kInt .i64) (eInt .i64) (mset (kInt .i64) p2 p1.id y1))] ?_
  rw [show (decide ((1 : Int) < ((mget (kInt .i64) (mset (kInt .i64) p2 p1.id y1) p1.id).getD (0 : Int)))) = y2 from zj hy10]
  refine zd (m9 _ _ (zC h (fun b11 h => ?_) (fun b11 h => ?_)))
  ·refine zq fun K12 m12 => zr (zv [] 1 [3] [] [(3, vi 5)] (qa1417 p1 p2 y1) (zd (m12 _ _ (ze ?_))))
   obtain rfl := zj h
   exact FinM.fin (.inr rfl) [] [vi 5] [] (by kernel_rfl) trivial (by kernel_rfl) (by kernel_rfl) (.one (.rfl _ rfl))
  ·refine zs (m6 _ _ (zq fun K13 m13 => zr (zv [] 1 [3] [] [(3, vi 0)] (qa1417 p1 p2 y1) (zd (m13 _ _ (ze ?_))))))
   obtain rfl := zj h
   exact FinM.fin (.inr rfl) [] [vi 0] [] (by kernel_rfl) trivial (by kernel_rfl) (by kernel_rfl) (.one (.rfl _ rfl))
def value_Walk_of_value_CheckSchema_1_j1 (z2 : (List (Int × Int))) : Option (Int × (List (Int × Int))) := some ((0 : Int), z2)
def value_Walk_of_value_CheckSchema_1_l1 (q_value_Walk_of_value_CheckSchema_1 : (List GField) → (List (Int × Int)) → Option (Int × (List (Int × Int)))) (p1 : (List GField)) : Nat → (List (Int × Int)) → Int → Option (Int × (List (Int × Int)))
 | 0, _, _ => none
 | k1 + 1, z1, x1 => ift (decide (x1 < (p1.length : Int))) (bnd (at? p1 x1) fun e1 => bnd (value_CheckSchema_1 e1 z1) fun r1 => ift (r1.1 != (0 : Int)) (some (r1.1, r1.2)) (bnd (q_value_Walk_of_value_CheckSchema_1 e1.type.fields r1.2) fun r2 => ift (r2.1 != (0 : Int)) (some (r2.1, r2.2)) ((value_Walk_of_value_CheckSchema_1_l1 q_value_Walk_of_value_CheckSchema_1 p1 k1) r2.2 (i64.wrap (x1 + (1 : Int)))))) (value_Walk_of_value_CheckSchema_1_j1 z1)
def value_Walk_of_value_CheckSchema_1 : Nat → (List GField) → (List (Int × Int)) → Option (Int × (List (Int × Int)))
 | 0, _, _ => none
 | k0 + 1, p1, p2 => value_Walk_of_value_CheckSchema_1_l1 (value_Walk_of_value_CheckSchema_1 k0) p1 BIG p2 (0 : Int)
abbrev qa1427 (p1 : (List GField)) (x1 : Int) : Fr := [(1, .one (.fn 48 [.pt 0 0 0 0])), (9, vl eField p1), (10, vi (p1.length : Int)), (11, vi (i64.wrap (x1 + (1 : Int))))]
abbrev qa1436 (e1 : GField) (r1 : (Int × (List (Int × Int)))) : St := [.box [.mp 1], .raw (mapObj (kInt .i64) (eInt .i64) r1.2), .box (qa1305 e1)]
theorem c_value_Walk_of_value_CheckSchema_1 : ∀ (k0 : Nat) (p1 : (List GField)) (p2 : (List (Int × Int))) (r : (Int × (List (Int × Int)))), value_Walk_of_value_CheckSchema_1 k0 p1 p2 = some r → MC Tryd.prog 47 [vl eField p1, .one (.fn 48 [.pt 0 0 0 0])] [.box [.mp 1], .raw (mapObj (kInt .i64) (eInt .i64) p2)] (vi r.1) [.box [.mp 1], .raw (mapObj (kInt .i64) (eInt .i64) r.2)]
 | 0, _, _, r, h => by rw [value_Walk_of_value_CheckSchema_1.eq_1] at h; cases h
 | k0 + 1, p1, p2, r, h => by
  rw [value_Walk_of_value_CheckSchema_1.eq_2] at h
  refine MC.of 2 (n := 30) (fn := Tryd.f47) (c := cd Tryd.f47 []) (by kernel_rfl) (by kernel_rfl) (by kernel_rfl) (Nat.le_of_ble_eq_true rfl) rfl (zq fun K1 m1 => zr (zg [6] 1 [0,1] (zd (m1 _ _ (zq fun K2 m2 => ?_)))))
  have j1 : ∀ (z2 : (List (Int × Int))), value_Walk_of_value_CheckSchema_1_j1 z2 = some r → ∀ w0 w1, Sub 30 2 [] w0 w1 [] [.box [.mp 1], .raw (mapObj (kInt .i64) (eInt .i64) z2)] → K2 w0 w1 := by
   intro z2 h w0 w1 hS
   unfold value_Walk_of_value_CheckSchema_1_j1 at h
   refine m2 _ _ (XW.sub hS ?_)
   refine zq fun K21 m21 => zr (zv [6] 1 [4] [] [(4, vi 0)] [.box [.mp 1], .raw (mapObj (kInt .i64) (eInt .i64) z2)] (zd (m21 _ _ (ze ?_))))
   obtain rfl := zj h
   exact FinM.fin (.inr rfl) [] [vi 0] [] (by kernel_rfl) trivial (by kernel_rfl) (by kernel_rfl) (.one (.rfl _ rfl))
  refine zq fun K3 m3 => zr (zv [6] 2 [1,9,10] [] [(1, .one (.fn 48 [.pt 0 0 0 0])), (9, vl eField p1), (10, vi ((eField.els p1).length : Int))] [.box [.mp 1], .raw (mapObj (kInt .i64) (eInt .i64) p2)] ?_)
  rw [eField.len p1]
  refine zg [6] 1 [1,9,10,11] (zd (m3 _ _ (zb 0 (XW.rounds' BIG (x := cd Tryd.f47 [1,0,1,0,0]) (by kernel_rfl) fun Q1 hQ1 => ?_))))
  have hL1 : ∀ (k1 : Nat) (z1 : (List (Int × Int))) (x1 : Int), value_Walk_of_value_CheckSchema_1_l1 (value_Walk_of_value_CheckSchema_1 k0) p1 k1 z1 x1 = some r → XR Tryd.prog 30 2 [] (cd Tryd.f47 [1,0,1,0,0]) Q1 k1 [(1, .one (.fn 48 [.pt 0 0 0 0])), (9, vl eField p1), (10, vi (p1.length : Int)), (11, vi x1)] [.box [.mp 1], .raw (mapObj (kInt .i64) (eInt .i64) z1)] := by
   intro k1
   induction k1 with
   | zero => intro z1 x1 h; rw [value_Walk_of_value_CheckSchema_1_l1.eq_1] at h; cases h
   | succ k1 ih1 =>
    intro z1 x1 h
    rw [value_Walk_of_value_CheckSchema_1_l1.eq_2] at h
    refine zq fun K4 m4 => zr (zg [6] 1 [1,9,10,11,12] (zd (m4 _ _ (zq fun K5 m5 => zC h (fun b6 h => ?_) (fun b6 h => ?_)))))
    ·refine zs (m5 _ _ (zq fun K7 m7 => zb 1 (zq fun K8 m8 => ?_)))
     obtain ⟨e1, a9, h⟩ := zB h
     refine zr (zo [6] 4 [1,6,9,10,11] [(qa1299 e1)] [0 ≤ x1 ∧ x1 < ((eField.els p1).length : Int) ∧ elemsOk 6 (eField.els p1), (eField.els p1)[x1.toNat]? = some (qa1299 e1)] (⟨eField.inb a9, ((eField.get a9).trans (by rcases e1 with ⟨_, _, _, ⟨_, _, _⟩⟩; rfl)), trivial⟩) (zd (m8 _ _ (zq fun K10 m10 => zq fun K11 m11 => ?_))))
     obtain ⟨r1, c12, h⟩ := zB h
     refine zr (zv [6] 2 [1,6,9,10,11,15,16] [] [(1, .one (.fn 48 [.pt 0 0 0 0])), (6, vq 2), (9, vl eField p1), (10, vi (p1.length : Int)), (11, vi x1), (15, .one (.fn 48 [.pt 0 0 0 0])), (16, .ag (qa1305 e1))] [.box [.mp 1], .raw (mapObj (kInt .i64) (eInt .i64) z1), .box (qa1305 e1)] ?_)
     refine XO.calm 48 [.ag (qa1305 e1), vq 0] [.box [.mp 1], .raw (mapObj (kInt .i64) (eInt .i64) z1)] [.box [.mp 1], .raw (mapObj (kInt .i64) (eInt .i64) r1.2)] (vi r1.1) [0, 1] [(17, vi r1.1), (1, .one (.fn 48 [.pt 0 0 0 0])), (6, vq 2), (9, vl eField p1), (10, vi (p1.length : Int)), (11, vi x1), (15, .one (.fn 48 [.pt 0 0 0 0])), (16, .ag (qa1305 e1))] (qa1436 e1 r1) (by kernel_rfl) (c_value_CheckSchema_1 _ _ _ c12) (by kernel_rfl) (by kernel_rfl) (by kernel_rfl) (by kernel_rfl) ?_
     refine zg [6] 1 [1,6,7,9,10,11] (zd (m11 _ _ (zq fun K13 m13 => zr (zg [6] 2 [1,6,7,9,10,11,19] (zd (m13 _ _ ?_))))))
     refine zC h (fun b14 h => ?_) (fun b14 h => ?_)
     ·refine zq fun K15 m15 => zr (zv [6] 2 [4] [] [(4, vi r1.1)] (qa1436 e1 r1) (zd (m15 _ _ (ze (hQ1 _ _ _ ?_)))))
      obtain rfl := zj h
      exact FinM.fin (.inr rfl) [] [vi r1.1] [] (by kernel_rfl) trivial (by kernel_rfl) (by kernel_rfl) (.one (.rfl _ rfl))
     ·refine zs (m10 _ _ (zq fun K16 m16 => ?_))
      obtain ⟨r2, c17, h⟩ := zB h
      refine zr (zv [6] 4 [1,9,10,11,23,24] [] [(1, .one (.fn 48 [.pt 0 0 0 0])), (9, vl eField p1), (10, vi (p1.length : Int)), (11, vi x1), (23, vl eField e1.type.fields), (24, .one (.fn 48 [.pt 0 0 0 0]))] (qa1436 e1 r1) ?_)
      refine XO.calm 47 [vl eField e1.type.fields, .one (.fn 48 [.pt 0 0 0 0])] [.box [.mp 1], .raw (mapObj (kInt .i64) (eInt .i64) r1.2)] [.box [.mp 1], .raw (mapObj (kInt .i64) (eInt .i64) r2.2)] (vi r2.1) [0, 1] [(25, vi r2.1), (1, .one (.fn 48 [.pt 0 0 0 0])), (9, vl eField p1), (10, vi (p1.length : Int)), (11, vi x1), (23, vl eField e1.type.fields), (24, .one (.fn 48 [.pt 0 0 0 0]))] [.box [.mp 1], .raw (mapObj (kInt .i64) (eInt .i64) r2.2), .box (qa1305 e1)] (by kernel_rfl) (c_value_Walk_of_value_CheckSchema_1 k0 _ _ _ c17) (by kernel_rfl) (by kernel_rfl) (by kernel_rfl) (by kernel_rfl) ?_
      refine zg [6] 1 [1,8,9,10,11] (zd (m16 _ _ (zq fun K18 m18 => zr (zg [6] 2 [1,8,9,10,11,27] (zd (m18 _ _ ?_))))))
      refine zC h (fun b19 h => ?_) (fun b19 h => ?_)
      ·refine zq fun K20 m20 => zr (zv [6] 2 [4] [] [(4, vi r2.1)] [.box [.mp 1], .raw (mapObj (kInt .i64) (eInt .i64) r2.2), .box (qa1305 e1)] (zd (m20 _ _ (ze (hQ1 _ _ _ ?_)))))
       obtain rfl := zj h
       exact FinM.fin (.inr rfl) [] [vi r2.1] [] (by kernel_rfl) trivial (by kernel_rfl) (by kernel_rfl) (.one (.rfl _ rfl))
      ·exact zs (m7 _ _ (zr (zg [6] 2 [1,9,10,11] (zd (XR.sub (Sub.trans (Sub.pick (fr' := (qa1427 p1 x1)) [1,9,10,11] (by kernel_rfl)) (Sub.take (fr' := (qa1427 p1 x1)) 2 (by decide) (by kernel_rfl) (by kernel_rfl))) (ih1 r2.2 (i64.wrap (x1 + (1 : Int))) h))))))
    ·exact zx 0 (hQ1 _ _ _ (j1 z1 h _ _ (zk [])))
  exact XR.sub (zk [1,9,10,11]) (hL1 BIG p2 (0 : Int) h)
def value_CheckSchema (p1 : (List GField)) : Option Int := bnd (value_CheckType (GType.mk (7 : Int) (0 : Int) p1)) fun r1 => ift (r1 != (0 : Int)) (some r1) (bnd (value_Walk_of_value_CheckSchema_1 BIG p1 []) fun r2 => some r2.1)
theorem c_value_CheckSchema (p1 : (List GField)) (r : Int) (h : value_CheckSchema p1 = some r) : PC Tryd.prog 21 [vl eField p1] (vi r) := by
 unfold value_CheckSchema at h
 refine zF 15 Tryd.f21 (zq fun K1 m1 => zr (zg [4] 1 [0] (zd (m1 _ _ (zq fun K2 m2 => zq fun K3 m3 => ?_)))))
 obtain ⟨r1, c4, h⟩ := zB h
 refine zr (zg [4] 2 [0,6] (zl 46 [.ag [ci 7, ci 0, cl eField p1]] (vi r1) [(7, vi r1), (0, vl eField p1), (6, .ag [ci 7, ci 0, cl eField p1])] (c_value_CheckType _ _ c4) (zg [4] 1 [0,3] (zd (m3 _ _ (zq fun K5 m5 => zr ?_))))))
 refine zg [4] 2 [0,3,9] (zd (m5 _ _ (zC h (fun b6 h => ?_) (fun b6 h => ?_))))
 ·refine zq fun K7 m7 => zr (zv [4] 2 [2] [] [(2, vi r1)] [] (zd (m7 _ _ (ze ?_))))
  obtain rfl := zj h
  exact zf [vi r1] (.one (.rfl _ rfl))
 ·refine zs (m2 _ _ (zq fun K8 m8 => zr (XO.mkm (kInt .i64) (eInt .i64) [(11, .one (.mp 0)), (0, vl eField p1), (3, vi r1), (9, vb (r1 != (0 : Int)))] [.raw (mapObj (kInt .i64) (eInt .i64) [])] (by kernel_rfl) (by kernel_rfl) (by kernel_rfl) (zg [4] 2 [0,4] (zd (m8 _ _ ?_))))))
  refine zq fun K9 m9 => ?_
  obtain ⟨r2, c10, h⟩ := zB h
  refine zr (zv [4] 2 [12,13] [] [(12, vl eField p1), (13, .one (.fn 48 [.pt 1 0 0 0]))] [.raw (mapObj (kInt .i64) (eInt .i64) []), .box [.mp 0]] (XO.calm 47 [vl eField p1, .one (.fn 48 [.pt 0 0 0 0])] [.box [.mp 1], .raw (mapObj (kInt .i64) (eInt .i64) [])] [.box [.mp 1], .raw (mapObj (kInt .i64) (eInt .i64) r2.2)] (vi r2.1) [1, 0] [(14, vi r2.1), (12, vl eField p1), (13, .one (.fn 48 [.pt 1 0 0 0]))] [.raw (mapObj (kInt .i64) (eInt .i64) r2.2), .box [.mp 0]] (by kernel_rfl) (c_value_Walk_of_value_CheckSchema_1 BIG _ _ _ c10) (by kernel_rfl) (by kernel_rfl) (by kernel_rfl) (by kernel_rfl) ?_))
  refine zg [4] 1 [2] (zd (m9 _ _ (ze ?_)))
  obtain rfl := zj h
  exact zf [vi r2.1] (.one (.rfl _ rfl))
def value_within_j1 (x1 : Bool) : Option Bool := some x1
def value_within (p1 : Int) (p2 : Int) (p3 : Int) : Option Bool := ift (decide (p2 ≤ p1)) (value_within_j1 (decide (p1 ≤ p3))) (value_within_j1 false)
theorem c_value_within (p1 : Int) (p2 : Int) (p3 : Int) (r : Bool) (h : value_within p1 p2 p3 = some r) : PC Tryd.prog 86 [vi p1, vi p2, vi p3] (vb r) := by
 unfold value_within at h
 refine zF 15 Tryd.f86 (zq fun K1 m1 => zr (zg [] 1 [0,1,2] (zd (m1 _ _ (zq fun K2 m2 => ?_)))))
 have j1 : ∀ (x1 : Bool), value_within_j1 x1 = some r → ∀ w0 w1, Sub 15 0 [] w0 w1 [(6, vb x1)] [] → K2 w0 w1 := by
  intro x1 h w0 w1 hS
  unfold value_within_j1 at h
  refine m2 _ _ (XW.sub hS ?_)
  refine ze ?_
  obtain rfl := zj h
  exact zf [vb x1] (.one (.rfl _ rfl))
 rcases zW h with ⟨b3, h⟩ | ⟨b3, h⟩
 ·exact zr (zg [] 4 [0,2,10] (zt 10 b3 (zv [] 5 [6] [] [(6, vb (decide (p1 ≤ p3)))] [] (zd (j1 (decide (p1 ≤ p3)) h _ _ (zk [6]))))))
 ·exact zr (zg [] 4 [0,2,10] (zt 10 b3 (zg [] 5 [6] (zd (j1 false h _ _ (zk [6]))))))
def value_text_j2 (rec1 : Nat → Option Bool) (p1 : ByteArray) (z1 : Nat) (x2 : Bool) : Option Bool := ift x2 (some false) (rec1 (z1 + (Utf8.decode p1 z1).2))
def value_text_j3 : Option Bool := some true
def value_text_l1 (p1 : ByteArray) : Nat → Nat → Option Bool
 | 0, _ => none
 | k1 + 1, z1 => ift (decide (z1 < p1.size)) (ift (decide (Int.ofNat (Utf8.decode p1 z1).1 < (32 : Int))) (value_text_j2 (value_text_l1 p1 k1) p1 z1 true) (value_text_j2 (value_text_l1 p1 k1) p1 z1 (Int.ofNat (Utf8.decode p1 z1).1 == (127 : Int)))) (value_text_j3)
def value_text_j1 (p1 : ByteArray) (x1 : Bool) : Option Bool := ift x1 (some false) (value_text_l1 p1 BIG 0)
def value_text (p1 : ByteArray) : Option Bool := ift (decide ((256 : Int) < (p1.size : Int))) (value_text_j1 p1 true) (bnd (utf8_ValidString p1) fun r1 => value_text_j1 p1 (!r1))
abbrev qa1458 (p1 : ByteArray) (z1 : Nat) : St := [.raw (.stringIter p1 (z1 + (Utf8.decode p1 z1).2))]
theorem c_value_text (p1 : ByteArray) (r : Bool) (h : value_text p1 = some r) : PC Tryd.prog 101 [vs p1] (vb r) := by
 unfold value_text at h
 refine zF 24 Tryd.f101 (zq fun K1 m1 => zr (zg [] 1 [0] (zd (m1 _ _ (zq fun K2 m2 => zq fun K3 m3 => ?_)))))
 have j1 : ∀ (x1 : Bool), value_text_j1 p1 x1 = some r → ∀ w0 w1, Sub 24 0 [] w0 w1 [(0, vs p1), (12, vb x1)] [] → K3 w0 w1 := by
  intro x1 h w0 w1 hS
  unfold value_text_j1 at h
  refine m3 _ _ (XW.sub hS ?_)
  refine zC h (fun b6 h => ?_) (fun b6 h => ?_)
  ·refine zq fun K7 m7 => zr (zg [] 1 [2] (zd (m7 _ _ (ze ?_))))
   obtain rfl := zj h
   exact zf [vb false] (.one (.rfl _ rfl))
  ·refine zs (m2 _ _ (zq fun K8 m8 => ?_))
   have j3 : ∀ (_ : Unit), value_text_j3 = some r → ∀ w0 w1, Sub 24 0 [] w0 w1 [] [] → K8 w0 w1 := by
    intro _ h w0 w1 hS
    unfold value_text_j3 at h
    refine m8 _ _ (XW.sub hS ?_)
    refine zq fun K19 m19 => zr (zg [] 1 [2] (zd (m19 _ _ (ze ?_))))
    obtain rfl := zj h
    exact zf [vb true] (.one (.rfl _ rfl))
   refine zq fun K9 m9 => zr (zv [] 1 [13] [] [(13, vs p1)] [] (XO.rng p1 [(14, vq 0), (13, vs p1)] [.raw (.stringIter p1 0)] (by kernel_rfl) (by kernel_rfl) (by kernel_rfl) (zd (m9 _ _ (zb 0 (XW.rounds' BIG (x := cd Tryd.f101 [1,1,0,1,0,0]) (by kernel_rfl) fun Q1 hQ1 => ?_))))))
   have hL1 : ∀ (k1 : Nat) (z1 : Nat), value_text_l1 p1 k1 z1 = some r → XR Tryd.prog 24 0 [] (cd Tryd.f101 [1,1,0,1,0,0]) Q1 k1 [(14, vq 0)] [.raw (.stringIter p1 z1)] := by
    intro k1
    induction k1 with
    | zero => intro z1 h; rw [value_text_l1.eq_1] at h; cases h
    | succ k1 ih1 =>
     intro z1 h
     rw [value_text_l1.eq_2] at h
     refine zq fun K10 m10 => ?_
     rcases zW h with ⟨b11, h⟩ | ⟨b11, h⟩
     ·refine zr (XO.nxt 0 p1 z1 [(15, .tp [vb true, vi (Int.ofNat z1), vk .i32 (Int.ofNat (Utf8.decode p1 z1).1)]), (14, vq 0)] (qa1458 p1 z1) (by kernel_rfl) (by kernel_rfl) (by kernel_rfl) (by kernel_rfl) b11 (zg [] 1 [14,15,16] (zd (m10 _ _ (zq fun K12 m12 => zc true (fun _ => ?_) (fun hx => by cases hx))))))
      refine zs (m12 _ _ (zb 1 (zq fun K13 m13 => zr (zg [] 2 [4,14] (zd (m13 _ _ ?_))))))
      refine zq fun K14 m14 => ?_
      have j2 : ∀ (x2 : Bool), value_text_j2 (value_text_l1 p1 k1) p1 z1 x2 = some r → ∀ w0 w1, Sub 24 0 [] w0 w1 [(14, vq 0), (23, vb x2)] (qa1458 p1 z1) → K14 w0 w1 := by
       intro x2 h w0 w1 hS
       unfold value_text_j2 at h
       refine m14 _ _ (XW.sub hS ?_)
       refine zC h (fun b16 h => ?_) (fun b16 h => ?_)
       ·refine zq fun K17 m17 => zr (zg [] 1 [2] (zd (m17 _ _ (ze (hQ1 _ _ _ ?_)))))
        obtain rfl := zj h
        exact zf [vb false] (.one (.rfl _ rfl))
       ·exact zs (XR.sub (zk [14]) (ih1 (z1 + (Utf8.decode p1 z1).2) h))
      rcases zW h with ⟨b15, h⟩ | ⟨b15, h⟩
      ·exact zr (zv [] 3 [4,14,20] [] [(4, vk .i32 (Int.ofNat (Utf8.decode p1 z1).1)), (14, vq 0), (20, vb (decide (Int.ofNat (Utf8.decode p1 z1).1 < (32 : Int))))] (qa1458 p1 z1) (zt 20 b15 (zg [] 3 [14,23] (zd (j2 true h _ _ (zk [14,23]))))))
      ·exact zr (zg [] 3 [4,14,20] (zt 20 b15 (zv [] 3 [14,23] [] [(14, vq 0), (23, vb (Int.ofNat (Utf8.decode p1 z1).1 == (127 : Int)))] (qa1458 p1 z1) (zd (j2 (Int.ofNat (Utf8.decode p1 z1).1 == (127 : Int)) h _ _ (zk [14,23]))))))
     ·refine zr (XO.nxtE 0 p1 z1 [(15, .tp [vb false]), (14, vq 0)] (by kernel_rfl) (by kernel_rfl) (by kernel_rfl) b11 (zv [] 1 [14,15,16] [] [(14, vq 0), (15, .tp [vb false]), (16, vb false)] [.raw (.stringIter p1 z1)] (zd (m10 _ _ (zq fun K18 m18 => zc false (fun hx => by cases hx) (fun _ => ?_))))))
      exact zx 0 (hQ1 _ _ _ (j3 () h _ _ (Sub.trans (Sub.pick (fr' := []) [] (by kernel_rfl)) (Sub.take (fr' := []) 0 (Nat.zero_le _) (by kernel_rfl) (by kernel_rfl)))))
   exact XR.sub (zk [14]) (hL1 BIG 0 h)
 rcases zW h with ⟨b4, h⟩ | ⟨b4, h⟩
 ·exact zr (zg [] 4 [0,8] (zt 8 b4 (zv [] 4 [0,12] [] [(0, vs p1), (12, vb true)] [] (zd (j1 true h _ _ (zk [0,12]))))))
 ·obtain ⟨r1, c5, h⟩ := zB h
  exact zr (zg [] 4 [0,8] (zt 8 b4 (zg [] 1 [0,8,9] (zl 110 [vs p1] (vb r1) [(10, vb r1), (0, vs p1), (8, vb false), (9, vs p1)] (c_utf8_ValidString _ _ c5) (zg [] 2 [0,12] (zd (j1 (!r1) h _ _ (zk [0,12]))))))))
def value_plain_j2 (x2 : Bool) : Option Bool := some x2
def value_plain_j3 (x3 : Bool) : Option Bool := some x3
def value_plain_j4 (x4 : Bool) : Option Bool := some x4
def value_plain_j5 (x5 : Bool) : Option Bool := some x5
def value_plain_j6 (x6 : Bool) : Option Bool := some x6
def value_plain_j7 (x7 : Bool) : Option Bool := some x7
def value_plain_j8 (x8 : Bool) : Option Bool := some x8
def value_plain_j9 (x9 : Bool) : Option Bool := some x9
def value_plain_j1 (p1 : GValue) (x1 : Bool) : Option Bool := ift (p1.kind == (0 : Int)) (ift x1 (ift (p1.s.toList == (ByteArray.mk #[]).toList) (value_plain_j2 ((p1.items.length : Int) == (0 : Int))) (value_plain_j2 false)) (value_plain_j2 false)) (ift (p1.kind == (1 : Int)) (bnd (value_within p1.n (0 : Int) (1 : Int)) fun r1 => ift r1 (ift (p1.scale == (0 : Int)) (ift (p1.s.toList == (ByteArray.mk #[]).toList) (value_plain_j3 ((p1.items.length : Int) == (0 : Int))) (value_plain_j3 false)) (value_plain_j3 false)) (value_plain_j3 false)) (ift (p1.kind == (2 : Int)) (bnd (value_within p1.n (-999999999999999999 : Int) (999999999999999999 : Int)) fun r2 => ift r2 (ift (p1.scale == (0 : Int)) (ift (p1.s.toList == (ByteArray.mk #[]).toList) (value_plain_j4 ((p1.items.length : Int) == (0 : Int))) (value_plain_j4 false)) (value_plain_j4 false)) (value_plain_j4 false)) (ift (p1.kind == (3 : Int)) (bnd (value_within p1.n (-999999999999999999 : Int) (999999999999999999 : Int)) fun r3 => ift r3 (bnd (value_within p1.scale (0 : Int) (12 : Int)) fun r4 => ift r4 (ift (p1.s.toList == (ByteArray.mk #[]).toList) (value_plain_j5 ((p1.items.length : Int) == (0 : Int))) (value_plain_j5 false)) (value_plain_j5 false)) (value_plain_j5 false)) (ift (p1.kind == (4 : Int)) (ift x1 (bnd (value_text p1.s) fun r5 => ift r5 (value_plain_j6 ((p1.items.length : Int) == (0 : Int))) (value_plain_j6 false)) (value_plain_j6 false)) (ift (p1.kind == (5 : Int)) (bnd (value_within p1.n (-62135596800 : Int) (253402300799 : Int)) fun r6 => ift r6 (ift (p1.scale == (0 : Int)) (ift (p1.s.toList == (ByteArray.mk #[]).toList) (value_plain_j7 ((p1.items.length : Int) == (0 : Int))) (value_plain_j7 false)) (value_plain_j7 false)) (value_plain_j7 false)) (ift (p1.kind == (6 : Int)) (ift x1 (ift (p1.s.toList == (ByteArray.mk #[]).toList) (value_plain_j8 (decide ((p1.items.length : Int) ≤ (64 : Int)))) (value_plain_j8 false)) (value_plain_j8 false)) (ift (p1.kind == (7 : Int)) (ift x1 (ift (p1.s.toList == (ByteArray.mk #[]).toList) (value_plain_j9 (decide ((0 : Int) < (p1.items.length : Int)))) (value_plain_j9 false)) (value_plain_j9 false)) (some false))))))))
def value_plain (p1 : GValue) : Option Bool := ift (p1.n == (0 : Int)) (value_plain_j1 p1 (p1.scale == (0 : Int))) (value_plain_j1 p1 false)
abbrev qa1467 (p1 : GValue) : List PV := [pi p1.kind, pi p1.n, pi p1.scale, .s (.string p1.s), .ro (eValue.els p1.items)]
abbrev qa1484 (p1 : GValue) (r2 : Bool) : Fr := [(53, vb r2), (1, vR (qa1467 p1)), (52, vi p1.n)]
abbrev qa1486 (p1 : GValue) : Fr := [(1, vR (qa1467 p1)), (73, vi p1.n)]
abbrev qa1492 (p1 : GValue) (r6 : Bool) : Fr := [(109, vb r6), (1, vR (qa1467 p1)), (108, vi p1.n)]
theorem c_value_plain (p1 : GValue) (r : Bool) (h : value_plain p1 = some r) : PC Tryd.prog 83 [.ag [ci p1.kind, ci p1.n, ci p1.scale, cst p1.s, cl eValue p1.items]] (vb r) := by
 unfold value_plain at h
 refine zF 154 Tryd.f83 (zq fun K1 m1 => zr (zg [] 2 [1] (zd (m1 _ _ (zq fun K2 m2 => ?_)))))
 have j1 : ∀ (x1 : Bool), value_plain_j1 p1 x1 = some r → ∀ w0 w1, Sub 154 0 [] w0 w1 [(1, vR (qa1467 p1)), (3, vb x1)] [] → K2 w0 w1 := by
  intro x1 h w0 w1 hS
  unfold value_plain_j1 at h
  refine m2 _ _ (XW.sub hS ?_)
  refine zq fun K4 m4 => zq fun K5 m5 => zr (zu [] 2 [1,3,13] [(qa1467 p1)] (zd (m5 _ _ (zb 0 (zq fun K6 m6 => ?_)))))
  refine zr (zg [] 2 [1,3,13,14] (zd (m6 _ _ (zC h (fun b7 h => ?_) (fun b7 h => ?_)))))
  ·refine zq fun K8 m8 => ?_
   have j2 : ∀ (x2 : Bool), value_plain_j2 x2 = some r → ∀ w0 w1, Sub 154 0 [] w0 w1 [(2, vb x2)] [] → K8 w0 w1 := by
    intro x2 h w0 w1 hS
    unfold value_plain_j2 at h
    refine m8 _ _ (XW.sub hS ?_)
    refine ze ?_
    obtain rfl := zj h
    exact zf [vb x2] (.one (.rfl _ rfl))
   rcases zW h with ⟨b9, h⟩ | ⟨b9, h⟩
   ·rcases zW h with ⟨b10, h⟩ | ⟨b10, h⟩
    ·refine zr (zv [] 2 [1,17] [] [(1, vR [pi p1.kind, pi p1.n, pi p1.scale, .s (.string p1.s), .ro (eValue.els p1.items)]), (17, vb x1)] [] (zt 17 b9 (zu [] 5 [1,22] [[pi p1.kind, pi p1.n, pi p1.scale, .s (.string p1.s), .ro (eValue.els p1.items)]] (zt 22 b10 (zv [] 3 [22,25] [[pi p1.kind, pi p1.n, pi p1.scale, .s (.string p1.s), .ro (eValue.els p1.items)]] [(22, vb true), (25, vi ((eValue.els p1.items).length : Int))] [] ?_)))))
     rw [eValue.len p1.items]
     exact zg [] 3 [2] (zd (j2 ((p1.items.length : Int) == (0 : Int)) h _ _ (zk [2])))
    ·exact zr (zg [] 2 [1,17] (zt 17 b9 (zv [] 5 [1,22] [(qa1467 p1)] [(1, vR (qa1467 p1)), (22, vb (p1.s.toList == (ByteArray.mk #[]).toList))] [] (zt 22 b10 (zg [] 6 [2] (zd (j2 false h _ _ (zk [2]))))))))
   ·exact zr (zv [] 2 [1,17] [] [(1, vR (qa1467 p1)), (17, vb x1)] [] (zt 17 b9 (zg [] 11 [2] (zd (j2 false h _ _ (zk [2]))))))
  ·refine zq fun K11 m11 => zr (zv [] 2 [1,3,13,28] [] [(1, vR (qa1467 p1)), (3, vb x1), (13, vi p1.kind), (28, vb (p1.kind == (1 : Int)))] [] (zd (m11 _ _ (zC h (fun b12 h => ?_) (fun b12 h => ?_)))))
   ·refine zq fun K13 m13 => ?_
    have j3 : ∀ (x3 : Bool), value_plain_j3 x3 = some r → ∀ w0 w1, Sub 154 0 [] w0 w1 [(2, vb x3)] [] → K13 w0 w1 := by
     intro x3 h w0 w1 hS
     unfold value_plain_j3 at h
     refine m13 _ _ (XW.sub hS ?_)
     refine ze ?_
     obtain rfl := zj h
     exact zf [vb x3] (.one (.rfl _ rfl))
    obtain ⟨r1, c14, h⟩ := zB h
    rcases zW h with ⟨b15, h⟩ | ⟨b15, h⟩
    ·rcases zW h with ⟨b16, h⟩ | ⟨b16, h⟩
     ·rcases zW h with ⟨b17, h⟩ | ⟨b17, h⟩
      ·refine zr (zu [] 2 [1,31] [(qa1467 p1)] (za (c_value_within _ _ _ _ c14) (zv [] 1 [1,33] [] [(1, vR (qa1467 p1)), (33, vb r1)] [] (zt 33 b15 (zu [] 5 [1,38] [(qa1467 p1)] (zt 38 b16 (zu [] 5 [1,43] [(qa1467 p1)] ?_)))))))
       refine zt 43 b17 (zv [] 3 [43,46] [[pi p1.kind, pi p1.n, pi p1.scale, .s (.string p1.s), .ro (eValue.els p1.items)]] [(43, vb true), (46, vi ((eValue.els p1.items).length : Int))] [] ?_)
       rw [eValue.len p1.items]
       exact zg [] 3 [2] (zd (j3 ((p1.items.length : Int) == (0 : Int)) h _ _ (zk [2])))
      ·refine zr (zu [] 2 [1,31] [(qa1467 p1)] (zl 86 [vi p1.n, vi 0, vi 1] (vb r1) [(32, vb r1), (1, vR (qa1467 p1)), (31, vi p1.n)] (c_value_within _ _ _ _ c14) (zg [] 1 [1,33] (zt 33 b15 (zu [] 5 [1,38] [(qa1467 p1)] (zt 38 b16 ?_))))))
       exact zv [] 5 [1,43] [(qa1467 p1)] [(1, vR (qa1467 p1)), (43, vb (p1.s.toList == (ByteArray.mk #[]).toList))] [] (zt 43 b17 (zg [] 6 [2] (zd (j3 false h _ _ (zk [2])))))
     ·refine zr (zu [] 2 [1,31] [(qa1467 p1)] (za (c_value_within _ _ _ _ c14) (zv [] 1 [1,33] [] [(1, vR (qa1467 p1)), (33, vb r1)] [] (zt 33 b15 (zu [] 5 [1,38] [(qa1467 p1)] (zt 38 b16 (zg [] 11 [2] ?_)))))))
      exact zd (j3 false h _ _ (zk [2]))
    ·exact zr (zu [] 2 [1,31] [(qa1467 p1)] (za (c_value_within _ _ _ _ c14) (zv [] 1 [1,33] [] [(1, vR (qa1467 p1)), (33, vb r1)] [] (zt 33 b15 (zg [] 16 [2] (zd (j3 false h _ _ (zk [2]))))))))
   ·refine zq fun K18 m18 => zr (zg [] 2 [1,3,13,49] (zd (m18 _ _ (zC h (fun b19 h => ?_) (fun b19 h => ?_)))))
    ·refine zq fun K20 m20 => ?_
     have j4 : ∀ (x4 : Bool), value_plain_j4 x4 = some r → ∀ w0 w1, Sub 154 0 [] w0 w1 [(2, vb x4)] [] → K20 w0 w1 := by
      intro x4 h w0 w1 hS
      unfold value_plain_j4 at h
      refine m20 _ _ (XW.sub hS ?_)
      refine ze ?_
      obtain rfl := zj h
      exact zf [vb x4] (.one (.rfl _ rfl))
     obtain ⟨r2, c21, h⟩ := zB h
     rcases zW h with ⟨b22, h⟩ | ⟨b22, h⟩
     ·rcases zW h with ⟨b23, h⟩ | ⟨b23, h⟩
      ·rcases zW h with ⟨b24, h⟩ | ⟨b24, h⟩
       ·refine zr (zu [] 2 [1,52] [(qa1467 p1)] (zl 86 [vi p1.n, vi (-999999999999999999), vi 999999999999999999] (vb r2) (qa1484 p1 r2) (c_value_within _ _ _ _ c21) (zg [] 1 [1,54] (zt 54 b22 (zu [] 5 [1,59] [(qa1467 p1)] (zt 59 b23 ?_))))))
        refine zv [] 5 [1,64] [[pi p1.kind, pi p1.n, pi p1.scale, .s (.string p1.s), .ro (eValue.els p1.items)]] [(1, vR [pi p1.kind, pi p1.n, pi p1.scale, .s (.string p1.s), .ro (eValue.els p1.items)]), (64, vb (p1.s.toList == (ByteArray.mk #[]).toList))] [] (zt 64 b24 (zv [] 3 [64,67] [[pi p1.kind, pi p1.n, pi p1.scale, .s (.string p1.s), .ro (eValue.els p1.items)]] [(64, vb true), (67, vi ((eValue.els p1.items).length : Int))] [] ?_))
        rw [eValue.len p1.items]
        exact zg [] 3 [2] (zd (j4 ((p1.items.length : Int) == (0 : Int)) h _ _ (zk [2])))
       ·refine zr (zu [] 2 [1,52] [(qa1467 p1)] (zl 86 [vi p1.n, vi (-999999999999999999), vi 999999999999999999] (vb r2) (qa1484 p1 r2) (c_value_within _ _ _ _ c21) (zg [] 1 [1,54] (zt 54 b22 (zu [] 5 [1,59] [(qa1467 p1)] (zt 59 b23 ?_))))))
        exact zv [] 5 [1,64] [(qa1467 p1)] [(1, vR (qa1467 p1)), (64, vb (p1.s.toList == (ByteArray.mk #[]).toList))] [] (zt 64 b24 (zg [] 6 [2] (zd (j4 false h _ _ (zk [2])))))
      ·refine zr (zu [] 2 [1,52] [(qa1467 p1)] (zl 86 [vi p1.n, vi (-999999999999999999), vi 999999999999999999] (vb r2) (qa1484 p1 r2) (c_value_within _ _ _ _ c21) (zg [] 1 [1,54] (zt 54 b22 (zu [] 5 [1,59] [(qa1467 p1)] (zt 59 b23 (zv [] 11 [2] [] [(2, vb false)] [] ?_)))))))
       exact zd (j4 false h _ _ (zk [2]))
     ·exact zr (zu [] 2 [1,52] [(qa1467 p1)] (zl 86 [vi p1.n, vi (-999999999999999999), vi 999999999999999999] (vb r2) (qa1484 p1 r2) (c_value_within _ _ _ _ c21) (zg [] 1 [1,54] (zt 54 b22 (zg [] 16 [2] (zd (j4 false h _ _ (zk [2]))))))))
    ·refine zq fun K25 m25 => zr (zg [] 2 [1,3,13,70] (zd (m25 _ _ (zC h (fun b26 h => ?_) (fun b26 h => ?_)))))
     ·refine zq fun K27 m27 => ?_
      have j5 : ∀ (x5 : Bool), value_plain_j5 x5 = some r → ∀ w0 w1, Sub 154 0 [] w0 w1 [(2, vb x5)] [] → K27 w0 w1 := by
       intro x5 h w0 w1 hS
       unfold value_plain_j5 at h
       refine m27 _ _ (XW.sub hS ?_)
       refine ze ?_
       obtain rfl := zj h
       exact zf [vb x5] (.one (.rfl _ rfl))
      obtain ⟨r3, c28, h⟩ := zB h
      rcases zW h with ⟨b29, h⟩ | ⟨b29, h⟩
      ·obtain ⟨r4, c30, h⟩ := zB h
       rcases zW h with ⟨b31, h⟩ | ⟨b31, h⟩
       ·rcases zW h with ⟨b32, h⟩ | ⟨b32, h⟩
        ·refine zr (zv [] 2 [1,73] [(qa1467 p1)] (qa1486 p1) [] (za (c_value_within _ _ _ _ c28) (zg [] 1 [1,75] (zt 75 b29 (zv [] 2 [1,75,77] [(qa1467 p1)] [(1, vR (qa1467 p1)), (75, vb true), (77, vi p1.scale)] [] (za (c_value_within _ _ _ _ c30) ?_))))))
         refine zg [] 2 [1,80] (zt 80 b31 (zv [] 5 [1,85] [[pi p1.kind, pi p1.n, pi p1.scale, .s (.string p1.s), .ro (eValue.els p1.items)]] [(1, vR [pi p1.kind, pi p1.n, pi p1.scale, .s (.string p1.s), .ro (eValue.els p1.items)]), (85, vb (p1.s.toList == (ByteArray.mk #[]).toList))] [] (zt 85 b32 (zv [] 3 [85,88] [[pi p1.kind, pi p1.n, pi p1.scale, .s (.string p1.s), .ro (eValue.els p1.items)]] [(85, vb true), (88, vi ((eValue.els p1.items).length : Int))] [] ?_))))
         rw [eValue.len p1.items]
         exact zg [] 3 [2] (zd (j5 ((p1.items.length : Int) == (0 : Int)) h _ _ (zk [2])))
        ·refine zr (zu [] 2 [1,73] [(qa1467 p1)] (zl 86 [vi p1.n, vi (-999999999999999999), vi 999999999999999999] (vb r3) [(74, vb r3), (1, vR (qa1467 p1)), (73, vi p1.n)] (c_value_within _ _ _ _ c28) (zg [] 1 [1,75] (zt 75 b29 (zu [] 2 [1,75,77] [(qa1467 p1)] ?_)))))
         exact zl 86 [vi p1.scale, vi 0, vi 12] (vb r4) [(78, vb r4), (1, vR (qa1467 p1)), (75, vb true), (77, vi p1.scale)] (c_value_within _ _ _ _ c30) (zg [] 2 [1,80] (zt 80 b31 (zu [] 5 [1,85] [(qa1467 p1)] (zt 85 b32 (zv [] 6 [2] [] [(2, vb false)] [] (zd (j5 false h _ _ (zk [2]))))))))
       ·refine zr (zv [] 2 [1,73] [(qa1467 p1)] (qa1486 p1) [] (za (c_value_within _ _ _ _ c28) (zg [] 1 [1,75] (zt 75 b29 (zv [] 2 [1,75,77] [(qa1467 p1)] [(1, vR (qa1467 p1)), (75, vb true), (77, vi p1.scale)] [] (za (c_value_within _ _ _ _ c30) ?_))))))
        exact zg [] 2 [1,80] (zt 80 b31 (zv [] 11 [2] [] [(2, vb false)] [] (zd (j5 false h _ _ (zk [2])))))
      ·exact zr (zv [] 2 [1,73] [(qa1467 p1)] (qa1486 p1) [] (za (c_value_within _ _ _ _ c28) (zg [] 1 [1,75] (zt 75 b29 (zv [] 16 [2] [] [(2, vb false)] [] (zd (j5 false h _ _ (zk [2]))))))))
     ·refine zq fun K33 m33 => zr (zv [] 2 [1,3,13,91] [] [(1, vR (qa1467 p1)), (3, vb x1), (13, vi p1.kind), (91, vb (p1.kind == (4 : Int)))] [] (zd (m33 _ _ (zC h (fun b34 h => ?_) (fun b34 h => ?_)))))
      ·refine zq fun K35 m35 => ?_
       have j6 : ∀ (x6 : Bool), value_plain_j6 x6 = some r → ∀ w0 w1, Sub 154 0 [] w0 w1 [(2, vb x6)] [] → K35 w0 w1 := by
        intro x6 h w0 w1 hS
        unfold value_plain_j6 at h
        refine m35 _ _ (XW.sub hS ?_)
        refine ze ?_
        obtain rfl := zj h
        exact zf [vb x6] (.one (.rfl _ rfl))
       rcases zW h with ⟨b36, h⟩ | ⟨b36, h⟩
       ·obtain ⟨r5, c37, h⟩ := zB h
        rcases zW h with ⟨b38, h⟩ | ⟨b38, h⟩
        ·refine zr (zg [] 2 [1,94] (zt 94 b36 (zu [] 2 [1,94,96] [[pi p1.kind, pi p1.n, pi p1.scale, .s (.string p1.s), .ro (eValue.els p1.items)]] (zl 101 [vs p1.s] (vb r5) [(97, vb r5), (1, vR [pi p1.kind, pi p1.n, pi p1.scale, .s (.string p1.s), .ro (eValue.els p1.items)]), (94, vb true), (96, vs p1.s)] (c_value_text _ _ c37) (zg [] 2 [1,99] (zt 99 b38 (zv [] 3 [99,102] [[pi p1.kind, pi p1.n, pi p1.scale, .s (.string p1.s), .ro (eValue.els p1.items)]] [(99, vb true), (102, vi ((eValue.els p1.items).length : Int))] [] ?_)))))))
         rw [eValue.len p1.items]
         exact zg [] 3 [2] (zd (j6 ((p1.items.length : Int) == (0 : Int)) h _ _ (zk [2])))
        ·refine zr (zg [] 2 [1,94] (zt 94 b36 (zv [] 2 [1,94,96] [(qa1467 p1)] [(1, vR (qa1467 p1)), (94, vb true), (96, vs p1.s)] [] (za (c_value_text _ _ c37) (zg [] 2 [1,99] (zt 99 b38 (zv [] 6 [2] [] [(2, vb false)] [] ?_)))))))
         exact zd (j6 false h _ _ (zk [2]))
       ·exact zr (zg [] 2 [1,94] (zt 94 b36 (zg [] 11 [2] (zd (j6 false h _ _ (zk [2]))))))
      ·refine zq fun K39 m39 => zr (zg [] 2 [1,3,13,105] (zd (m39 _ _ (zC h (fun b40 h => ?_) (fun b40 h => ?_)))))
       ·refine zq fun K41 m41 => ?_
        have j7 : ∀ (x7 : Bool), value_plain_j7 x7 = some r → ∀ w0 w1, Sub 154 0 [] w0 w1 [(2, vb x7)] [] → K41 w0 w1 := by
         intro x7 h w0 w1 hS
         unfold value_plain_j7 at h
         refine m41 _ _ (XW.sub hS ?_)
         refine ze ?_
         obtain rfl := zj h
         exact zf [vb x7] (.one (.rfl _ rfl))
        obtain ⟨r6, c42, h⟩ := zB h
        rcases zW h with ⟨b43, h⟩ | ⟨b43, h⟩
        ·rcases zW h with ⟨b44, h⟩ | ⟨b44, h⟩
         ·rcases zW h with ⟨b45, h⟩ | ⟨b45, h⟩
          ·refine zr (zu [] 2 [1,108] [(qa1467 p1)] (zl 86 [vi p1.n, vi (-62135596800), vi 253402300799] (vb r6) (qa1492 p1 r6) (c_value_within _ _ _ _ c42) (zg [] 1 [1,110] (zt 110 b43 (zu [] 5 [1,115] [(qa1467 p1)] (zt 115 b44 ?_))))))
           refine zv [] 5 [1,120] [[pi p1.kind, pi p1.n, pi p1.scale, .s (.string p1.s), .ro (eValue.els p1.items)]] [(1, vR [pi p1.kind, pi p1.n, pi p1.scale, .s (.string p1.s), .ro (eValue.els p1.items)]), (120, vb (p1.s.toList == (ByteArray.mk #[]).toList))] [] (zt 120 b45 (zv [] 3 [120,123] [[pi p1.kind, pi p1.n, pi p1.scale, .s (.string p1.s), .ro (eValue.els p1.items)]] [(120, vb true), (123, vi ((eValue.els p1.items).length : Int))] [] ?_))
           rw [eValue.len p1.items]
           exact zg [] 3 [2] (zd (j7 ((p1.items.length : Int) == (0 : Int)) h _ _ (zk [2])))
          ·refine zr (zu [] 2 [1,108] [(qa1467 p1)] (zl 86 [vi p1.n, vi (-62135596800), vi 253402300799] (vb r6) (qa1492 p1 r6) (c_value_within _ _ _ _ c42) (zg [] 1 [1,110] (zt 110 b43 (zu [] 5 [1,115] [(qa1467 p1)] (zt 115 b44 ?_))))))
           exact zv [] 5 [1,120] [(qa1467 p1)] [(1, vR (qa1467 p1)), (120, vb (p1.s.toList == (ByteArray.mk #[]).toList))] [] (zt 120 b45 (zg [] 6 [2] (zd (j7 false h _ _ (zk [2])))))
         ·refine zr (zu [] 2 [1,108] [(qa1467 p1)] (zl 86 [vi p1.n, vi (-62135596800), vi 253402300799] (vb r6) (qa1492 p1 r6) (c_value_within _ _ _ _ c42) (zg [] 1 [1,110] (zt 110 b43 (zu [] 5 [1,115] [(qa1467 p1)] (zt 115 b44 (zv [] 11 [2] [] [(2, vb false)] [] ?_)))))))
          exact zd (j7 false h _ _ (zk [2]))
        ·exact zr (zu [] 2 [1,108] [(qa1467 p1)] (zl 86 [vi p1.n, vi (-62135596800), vi 253402300799] (vb r6) (qa1492 p1 r6) (c_value_within _ _ _ _ c42) (zg [] 1 [1,110] (zt 110 b43 (zg [] 16 [2] (zd (j7 false h _ _ (zk [2]))))))))
       ·refine zq fun K46 m46 => zr (zg [] 2 [1,3,13,126] (zd (m46 _ _ (zC h (fun b47 h => ?_) (fun b47 h => ?_)))))
        ·refine zq fun K48 m48 => ?_
         have j8 : ∀ (x8 : Bool), value_plain_j8 x8 = some r → ∀ w0 w1, Sub 154 0 [] w0 w1 [(2, vb x8)] [] → K48 w0 w1 := by
          intro x8 h w0 w1 hS
          unfold value_plain_j8 at h
          refine m48 _ _ (XW.sub hS ?_)
          refine ze ?_
          obtain rfl := zj h
          exact zf [vb x8] (.one (.rfl _ rfl))
         rcases zW h with ⟨b49, h⟩ | ⟨b49, h⟩
         ·rcases zW h with ⟨b50, h⟩ | ⟨b50, h⟩
          ·refine zr (zv [] 2 [1,129] [] [(1, vR [pi p1.kind, pi p1.n, pi p1.scale, .s (.string p1.s), .ro (eValue.els p1.items)]), (129, vb x1)] [] (zt 129 b49 (zu [] 5 [1,134] [[pi p1.kind, pi p1.n, pi p1.scale, .s (.string p1.s), .ro (eValue.els p1.items)]] (zt 134 b50 (zv [] 3 [134,137] [[pi p1.kind, pi p1.n, pi p1.scale, .s (.string p1.s), .ro (eValue.els p1.items)]] [(134, vb true), (137, vi ((eValue.els p1.items).length : Int))] [] ?_)))))
           rw [eValue.len p1.items]
           exact zg [] 3 [2] (zd (j8 (decide ((p1.items.length : Int) ≤ (64 : Int))) h _ _ (zk [2])))
          ·exact zr (zg [] 2 [1,129] (zt 129 b49 (zv [] 5 [1,134] [(qa1467 p1)] [(1, vR (qa1467 p1)), (134, vb (p1.s.toList == (ByteArray.mk #[]).toList))] [] (zt 134 b50 (zg [] 6 [2] (zd (j8 false h _ _ (zk [2]))))))))
         ·exact zr (zv [] 2 [1,129] [] [(1, vR (qa1467 p1)), (129, vb x1)] [] (zt 129 b49 (zg [] 11 [2] (zd (j8 false h _ _ (zk [2]))))))
        ·refine zq fun K51 m51 => zr (zv [] 2 [1,3,140] [] [(1, vR (qa1467 p1)), (3, vb x1), (140, vb (p1.kind == (7 : Int)))] [] (zd (m51 _ _ (zC h (fun b52 h => ?_) (fun b52 h => ?_)))))
         ·refine zq fun K53 m53 => ?_
          have j9 : ∀ (x9 : Bool), value_plain_j9 x9 = some r → ∀ w0 w1, Sub 154 0 [] w0 w1 [(2, vb x9)] [] → K53 w0 w1 := by
           intro x9 h w0 w1 hS
           unfold value_plain_j9 at h
           refine m53 _ _ (XW.sub hS ?_)
           refine ze ?_
           obtain rfl := zj h
           exact zf [vb x9] (.one (.rfl _ rfl))
          rcases zW h with ⟨b54, h⟩ | ⟨b54, h⟩
          ·rcases zW h with ⟨b55, h⟩ | ⟨b55, h⟩
           ·refine zr (zg [] 2 [1,143] (zt 143 b54 (zu [] 5 [1,148] [[pi p1.kind, pi p1.n, pi p1.scale, .s (.string p1.s), .ro (eValue.els p1.items)]] (zt 148 b55 (zv [] 3 [148,151] [[pi p1.kind, pi p1.n, pi p1.scale, .s (.string p1.s), .ro (eValue.els p1.items)]] [(148, vb true), (151, vi ((eValue.els p1.items).length : Int))] [] ?_)))))
            rw [eValue.len p1.items]
            exact zg [] 3 [2] (zd (j9 (decide ((0 : Int) < (p1.items.length : Int))) h _ _ (zk [2])))
           ·exact zr (zg [] 2 [1,143] (zt 143 b54 (zv [] 5 [1,148] [(qa1467 p1)] [(1, vR (qa1467 p1)), (148, vb (p1.s.toList == (ByteArray.mk #[]).toList))] [] (zt 148 b55 (zg [] 6 [2] (zd (j9 false h _ _ (zk [2]))))))))
          ·exact zr (zg [] 2 [1,143] (zt 143 b54 (zg [] 11 [2] (zd (j9 false h _ _ (zk [2]))))))
         ·refine zs (m4 _ _ (zq fun K56 m56 => zr (zg [] 1 [2] (zd (m56 _ _ (ze ?_))))))
          obtain rfl := zj h
          exact zf [vb false] (.one (.rfl _ rfl))
 rcases zW h with ⟨b3, h⟩ | ⟨b3, h⟩
 ·exact zr (zu [] 4 [1,7] [(qa1467 p1)] (zt 7 b3 (zv [] 5 [1,3] [(qa1467 p1)] [(1, vR (qa1467 p1)), (3, vb (p1.scale == (0 : Int)))] [] (zd (j1 (p1.scale == (0 : Int)) h _ _ (zk [1,3]))))))
 ·exact zr (zu [] 4 [1,7] [(qa1467 p1)] (zt 7 b3 (zg [] 5 [1,3] (zd (j1 false h _ _ (zk [1,3]))))))
def slices_IndexFunc_api_Value_api_Value_of_value_sound_1_j1 (z2 : Int) : Option (Int × Int) := some ((-1 : Int), z2)
def slices_IndexFunc_api_Value_api_Value_of_value_sound_1_l1 (q_value_sound_1_s : GValue → Int → Int → Option (Bool × Int)) (p1 : (List GValue)) (p2 : Int) : Nat → Int → Int → Option (Int × Int)
 | 0, _, _ => none
 | k1 + 1, z1, x1 => ift (decide (x1 < (p1.length : Int))) (bnd (at? p1 x1) fun e1 => bnd (q_value_sound_1_s e1 p2 z1) fun r1 => ift r1.1 (some (x1, r1.2)) ((slices_IndexFunc_api_Value_api_Value_of_value_sound_1_l1 q_value_sound_1_s p1 p2 k1) r1.2 (i64.wrap (x1 + (1 : Int))))) (slices_IndexFunc_api_Value_api_Value_of_value_sound_1_j1 z1)
def value_sound_j2 (q_slices_ContainsFunc_api_Value_api_Value_of_value_sound_1 : (List GValue) → Int → Int → Option (Bool × Int)) (p1 : GValue) (p2 : Int) (z1 : Int) (x1 : Bool) : Option (Bool × Int) := ift x1 (some (false, z1)) (bnd (q_slices_ContainsFunc_api_Value_api_Value_of_value_sound_1 p1.items p2 z1) fun r2 => some ((!r2.1), r2.2))
def value_sound_j1 (q_slices_ContainsFunc_api_Value_api_Value_of_value_sound_1 : (List GValue) → Int → Int → Option (Bool × Int)) (p1 : GValue) (p2 : Int) (z1 : Int) : Option (Bool × Int) := ift (decide ((4 : Int) < p2)) (value_sound_j2 q_slices_ContainsFunc_api_Value_api_Value_of_value_sound_1 p1 p2 z1 true) (ift (decide ((256 : Int) < z1)) (value_sound_j2 q_slices_ContainsFunc_api_Value_api_Value_of_value_sound_1 p1 p2 z1 true) (bnd (value_plain p1) fun r1 => value_sound_j2 q_slices_ContainsFunc_api_Value_api_Value_of_value_sound_1 p1 p2 z1 (!r1)))
mutual
def slices_ContainsFunc_api_Value_api_Value_of_value_sound_1 : Nat → (List GValue) → Int → Int → Option (Bool × Int)
 | 0, _, _, _ => none
 | k0 + 1, p1, p2, p3 => bnd ((slices_IndexFunc_api_Value_api_Value_of_value_sound_1 k0) p1 p2 p3) fun r1 => some ((decide ((0 : Int) ≤ r1.1)), r1.2)
def slices_IndexFunc_api_Value_api_Value_of_value_sound_1 : Nat → (List GValue) → Int → Int → Option (Int × Int)
 | 0, _, _, _ => none
 | k0 + 1, p1, p2, p3 => slices_IndexFunc_api_Value_api_Value_of_value_sound_1_l1 (value_sound_1_s k0) p1 p2 BIG p3 (0 : Int)
def value_sound : Nat → GValue → Int → Int → Option (Bool × Int)
 | 0, _, _, _ => none
 | k0 + 1, p1, p2, p3 => ift (p1.kind != (0 : Int)) (value_sound_j1 (slices_ContainsFunc_api_Value_api_Value_of_value_sound_1 k0) p1 p2 (i64.wrap (p3 + (1 : Int)))) (value_sound_j1 (slices_ContainsFunc_api_Value_api_Value_of_value_sound_1 k0) p1 p2 p3)
def value_sound_1_s : Nat → GValue → Int → Int → Option (Bool × Int)
 | 0, _, _, _ => none
 | k0 + 1, p1, p2, p3 => bnd ((value_sound k0) p1 (i64.wrap (p2 + (1 : Int))) p3) fun r1 => some ((!r1.1), r1.2)
end
abbrev qa1511 : List CV := [.pt 1 0 0 0]
abbrev qa1518 (e1 : GValue) : List CV := [ci e1.kind, ci e1.n, ci e1.scale, cst e1.s, cl eValue e1.items]
abbrev qa1535 : List CV := [.pt 0 0 0 0]
abbrev qa1543 (p1 : GValue) (p2 : Int) : Fr := [(3, vR (qa1467 p1)), (4, vR [pi p2]), (5, vq 1)]
abbrev qa1544 (z1 : Int) : St := [.box [ci z1], .box qa1535]
abbrev qa1551 (p1 : GValue) (p2 : Int) : Fr := [(3, vR (qa1467 p1)), (4, vR [pi p2]), (5, vq 1), (17, vb (decide ((4 : Int) < p2)))]
mutual
theorem c_slices_ContainsFunc_api_Value_api_Value_of_value_sound_1 : ∀ (k0 : Nat) (p1 : (List GValue)) (p2 : Int) (p3 : Int) (r : (Bool × Int)), slices_ContainsFunc_api_Value_api_Value_of_value_sound_1 k0 p1 p2 p3 = some r → MC Tryd.prog 75 [vl eValue p1, .one (.fn 84 [.pv (.rp [[pi p2]] 0 0), .pt 0 0 0 0])] [.box [.pt 1 0 0 0], .box [ci p3]] (vb r.1) [.box [.pt 1 0 0 0], .box [ci r.2]]
 | 0, _, _, _, r, h => by rw [slices_ContainsFunc_api_Value_api_Value_of_value_sound_1.eq_1] at h; cases h
 | k0 + 1, p1, p2, p3, r, h => by
  rw [slices_ContainsFunc_api_Value_api_Value_of_value_sound_1.eq_2] at h
  refine MC.of 2 (n := 9) (fn := Tryd.f75) (c := cd Tryd.f75 []) (by kernel_rfl) (by kernel_rfl) (by kernel_rfl) (Nat.le_of_ble_eq_true rfl) rfl (zq fun K1 m1 => zr (zg [] 1 [0,1] (zd (m1 _ _ (zq fun K2 m2 => ?_)))))
  obtain ⟨r1, c3, h⟩ := zB h
  refine zr (zv [] 2 [5,6] [] [(5, vl eValue p1), (6, .one (.fn 84 [.pv (.rp [[pi p2]] 0 0), .pt 0 0 0 0]))] [.box [.pt 1 0 0 0], .box [ci p3]] (XO.calm 100 [vl eValue p1, .one (.fn 84 [.pv (.rp [[pi p2]] 0 0), .pt 0 0 0 0])] [.box [.pt 1 0 0 0], .box [ci p3]] [.box [.pt 1 0 0 0], .box [ci r1.2]] (vi r1.1) [0, 1] [(7, vi r1.1), (5, vl eValue p1), (6, .one (.fn 84 [.pv (.rp [[pi p2]] 0 0), .pt 0 0 0 0]))] [.box [.pt 1 0 0 0], .box [ci r1.2]] (by kernel_rfl) (c_slices_IndexFunc_api_Value_api_Value_of_value_sound_1 k0 _ _ _ _ c3) (by kernel_rfl) (by kernel_rfl) (by kernel_rfl) (by kernel_rfl) ?_))
  refine zv [] 2 [4] [] [(4, vb (decide ((0 : Int) ≤ r1.1)))] [.box [.pt 1 0 0 0], .box [ci r1.2]] (zd (m2 _ _ (ze ?_)))
  obtain rfl := zj h
  exact FinM.fin (.inr rfl) [] [vb (decide ((0 : Int) ≤ r1.1))] [] (by kernel_rfl) trivial (by kernel_rfl) (by kernel_rfl) (.one (.rfl _ rfl))
theorem c_slices_IndexFunc_api_Value_api_Value_of_value_sound_1 : ∀ (k0 : Nat) (p1 : (List GValue)) (p2 : Int) (p3 : Int) (r : (Int × Int)), slices_IndexFunc_api_Value_api_Value_of_value_sound_1 k0 p1 p2 p3 = some r → MC Tryd.prog 100 [vl eValue p1, .one (.fn 84 [.pv (.rp [[pi p2]] 0 0), .pt 0 0 0 0])] [.box qa1511, .box [ci p3]] (vi r.1) [.box qa1511, .box [ci r.2]]
 | 0, _, _, _, r, h => by rw [slices_IndexFunc_api_Value_api_Value_of_value_sound_1.eq_1] at h; cases h
 | k0 + 1, p1, p2, p3, r, h => by
  rw [slices_IndexFunc_api_Value_api_Value_of_value_sound_1.eq_2] at h
  refine MC.of 2 (n := 19) (fn := Tryd.f100) (c := cd Tryd.f100 []) (by kernel_rfl) (by kernel_rfl) (by kernel_rfl) (Nat.le_of_ble_eq_true rfl) rfl (zq fun K1 m1 => zr (zg [] 1 [0,1] (zd (m1 _ _ (zq fun K2 m2 => ?_)))))
  have j1 : ∀ (z2 : Int), slices_IndexFunc_api_Value_api_Value_of_value_sound_1_j1 z2 = some r → ∀ w0 w1, Sub 19 2 [] w0 w1 [] [.box qa1511, .box [ci z2]] → K2 w0 w1 := by
   intro z2 h w0 w1 hS
   unfold slices_IndexFunc_api_Value_api_Value_of_value_sound_1_j1 at h
   refine m2 _ _ (XW.sub hS ?_)
   refine zq fun K14 m14 => zr (zv [] 1 [4] [] [(4, vi (-1))] [.box qa1511, .box [ci z2]] (zd (m14 _ _ (ze ?_))))
   obtain rfl := zj h
   exact FinM.fin (.inr rfl) [] [vi (-1)] [] (by kernel_rfl) trivial (by kernel_rfl) (by kernel_rfl) (.one (.rfl _ rfl))
  refine zq fun K3 m3 => zr (zv [] 2 [0,1,7] [] [(0, vl eValue p1), (1, .one (.fn 84 [.pv (.rp [[pi p2]] 0 0), .pt 0 0 0 0])), (7, vi ((eValue.els p1).length : Int))] [.box [.pt 1 0 0 0], .box [ci p3]] ?_)
  rw [eValue.len p1]
  refine zg [] 1 [0,1,7,8] (zd (m3 _ _ (zb 0 (XW.rounds' BIG (x := cd Tryd.f100 [1,0,1,0,0]) (by kernel_rfl) fun Q1 hQ1 => ?_))))
  have hL1 : ∀ (k1 : Nat) (z1 : Int) (x1 : Int), slices_IndexFunc_api_Value_api_Value_of_value_sound_1_l1 (value_sound_1_s k0) p1 p2 k1 z1 x1 = some r → XR Tryd.prog 19 2 [] (cd Tryd.f100 [1,0,1,0,0]) Q1 k1 [(0, vl eValue p1), (1, .one (.fn 84 [.pv (.rp [[pi p2]] 0 0), .pt 0 0 0 0])), (7, vi (p1.length : Int)), (8, vi x1)] [.box qa1511, .box [ci z1]] := by
   intro k1
   induction k1 with
   | zero => intro z1 x1 h; rw [slices_IndexFunc_api_Value_api_Value_of_value_sound_1_l1.eq_1] at h; cases h
   | succ k1 ih1 =>
    intro z1 x1 h
    rw [slices_IndexFunc_api_Value_api_Value_of_value_sound_1_l1.eq_2] at h
    refine zq fun K4 m4 => zr (zg [] 1 [0,1,7,8,9] (zd (m4 _ _ (zq fun K5 m5 => zC h (fun b6 h => ?_) (fun b6 h => ?_)))))
    ·refine zs (m5 _ _ (zq fun K7 m7 => zb 1 (zq fun K8 m8 => zr (zg [] 2 [0,1,5,7,8] (zd ?_)))))
     refine m8 _ _ (zq fun K9 m9 => ?_)
     obtain ⟨e1, a10, h⟩ := zB h
     obtain ⟨r1, c11, h⟩ := zB h
     refine zr ?_
     refine zp [] 5 [0,1,5,7,8,11,15] [[pi e1.kind, pi e1.n, pi e1.scale, .s (.string e1.s), .ro (eValue.els e1.items)]] [(0, vl eValue p1), (1, .one (.fn 84 [.pv (.rp [[pi p2]] 0 0), .pt 0 0 0 0])), (5, vi x1), (7, vi (p1.length : Int)), (8, vi x1), (11, .one (.fn 84 [.pv (.rp [[pi p2]] 0 0), .pt 0 0 0 0])), (15, .ag (qa1518 e1))] [.box qa1511, .box [ci z1]] [0 ≤ x1 ∧ x1 < ((eValue.els p1).length : Int) ∧ elemsOk 5 (eValue.els p1), (eValue.els p1)[x1.toNat]? = some [pi e1.kind, pi e1.n, pi e1.scale, .s (.string e1.s), .ro (eValue.els e1.items)]] (⟨eValue.inb a10, ((eValue.get a10).trans (by cases e1; rfl)), trivial⟩) ?_
     refine XO.calm 84 [.ag (qa1518 e1), vR [pi p2], vq 0] [.box qa1511, .box [ci z1]] [.box qa1511, .box [ci r1.2]] (vb r1.1) [0, 1] [(16, vb r1.1), (0, vl eValue p1), (1, .one (.fn 84 [.pv (.rp [[pi p2]] 0 0), .pt 0 0 0 0])), (5, vi x1), (7, vi (p1.length : Int)), (8, vi x1), (11, .one (.fn 84 [.pv (.rp [[pi p2]] 0 0), .pt 0 0 0 0])), (15, .ag (qa1518 e1))] [.box qa1511, .box [ci r1.2]] (by kernel_rfl) (c_value_sound_1_s k0 _ _ _ _ c11) (by kernel_rfl) (by kernel_rfl) (by kernel_rfl) (by kernel_rfl) ?_
     refine zd (m9 _ _ (zC h (fun b12 h => ?_) (fun b12 h => ?_)))
     ·refine zq fun K13 m13 => zr (zv [] 2 [4] [] [(4, vi x1)] [.box qa1511, .box [ci r1.2]] (zd (m13 _ _ (ze (hQ1 _ _ _ ?_)))))
      obtain rfl := zj h
      exact FinM.fin (.inr rfl) [] [vi x1] [] (by kernel_rfl) trivial (by kernel_rfl) (by kernel_rfl) (.one (.rfl _ rfl))
     ·exact zs (m7 _ _ (zr (zg [] 2 [0,1,7,8] (zd (XR.sub (zk [0,1,7,8]) (ih1 r1.2 (i64.wrap (x1 + (1 : Int))) h))))))
    ·exact zx 0 (hQ1 _ _ _ (j1 z1 h _ _ (zk [])))
  exact XR.sub (zk [0,1,7,8]) (hL1 BIG p3 (0 : Int) h)
theorem c_value_sound : ∀ (k0 : Nat) (p1 : GValue) (p2 : Int) (p3 : Int) (r : (Bool × Int)), value_sound k0 p1 p2 p3 = some r → MC Tryd.prog 62 [.ag (qa1518 p1), vi p2, vq 0] [.box [ci p3]] (vb r.1) [.box [ci r.2]]
 | 0, _, _, _, r, h => by rw [value_sound.eq_1] at h; cases h
 | k0 + 1, p1, p2, p3, r, h => by
  rw [value_sound.eq_2] at h
  refine MC.of 1 (n := 33) (fn := Tryd.f62) (c := cd Tryd.f62 []) (by kernel_rfl) (by kernel_rfl) (by kernel_rfl) (Nat.le_of_ble_eq_true rfl) rfl (zq fun K1 m1 => zr (zg [5] 4 [3,4,5] (zd (m1 _ _ (zq fun K2 m2 => ?_)))))
  have j1 : ∀ (z1 : Int), value_sound_j1 (slices_ContainsFunc_api_Value_api_Value_of_value_sound_1 k0) p1 p2 z1 = some r → ∀ w0 w1, Sub 33 1 [] w0 w1 (qa1543 p1 p2) (qa1544 z1) → K2 w0 w1 := by
   intro z1 h w0 w1 hS
   unfold value_sound_j1 at h
   refine m2 _ _ (XW.sub hS ?_)
   refine zq fun K5 m5 => zq fun K6 m6 => ?_
   have j2 : ∀ (x1 : Bool), value_sound_j2 (slices_ContainsFunc_api_Value_api_Value_of_value_sound_1 k0) p1 p2 z1 x1 = some r → ∀ w0 w1, Sub 33 1 [] w0 w1 [(3, vR (qa1467 p1)), (4, vR [pi p2]), (5, vq 1), (27, vb x1)] (qa1544 z1) → K6 w0 w1 := by
    intro x1 h w0 w1 hS
    unfold value_sound_j2 at h
    refine m6 _ _ (XW.sub hS ?_)
    refine zC h (fun b10 h => ?_) (fun b10 h => ?_)
    ·refine zq fun K11 m11 => zr (zv [5] 1 [6] [] [(6, vb false)] (qa1544 z1) (zd (m11 _ _ (ze ?_))))
     obtain rfl := zj h
     exact FinM.fin (.inr rfl) [] [vb false] [] (by kernel_rfl) trivial (by kernel_rfl) (by kernel_rfl) (.one (.rfl _ rfl))
    ·refine zs (m5 _ _ (zq fun K12 m12 => ?_))
     obtain ⟨r2, c13, h⟩ := zB h
     refine zr (zv [5] 3 [29,30] [(qa1467 p1)] [(29, vl eValue p1.items), (30, .one (.fn 84 [.pv (.rp [[pi p2]] 0 0), .pt 1 0 0 0]))] (qa1544 z1) ?_)
     refine XO.calm 75 [vl eValue p1.items, .one (.fn 84 [.pv (.rp [[pi p2]] 0 0), .pt 0 0 0 0])] [.box [.pt 1 0 0 0], .box [ci z1]] [.box [.pt 1 0 0 0], .box [ci r2.2]] (vb r2.1) [1, 0] [(31, vb r2.1), (29, vl eValue p1.items), (30, .one (.fn 84 [.pv (.rp [[pi p2]] 0 0), .pt 1 0 0 0]))] [.box [ci r2.2], .box qa1535] (by kernel_rfl) (c_slices_ContainsFunc_api_Value_api_Value_of_value_sound_1 k0 _ _ _ _ c13) (by kernel_rfl) (by kernel_rfl) (by kernel_rfl) (by kernel_rfl) (zv [5] 2 [6] [] [(6, vb (!r2.1))] [.box [ci r2.2], .box qa1535] (zd (m12 _ _ (ze ?_))))
     obtain rfl := zj h
     exact FinM.fin (.inr rfl) [] [vb (!r2.1)] [] (by kernel_rfl) trivial (by kernel_rfl) (by kernel_rfl) (.one (.rfl _ rfl))
   rcases zW h with ⟨b7, h⟩ | ⟨b7, h⟩
   ·exact zr (zu [5] 3 [3,4,5,17] [[pi p2]] (zt 17 b7 (zg [5] 10 [3,4,5,27] (zd (j2 true h _ _ (zk [3,4,5,27]))))))
   ·rcases zW h with ⟨b8, h⟩ | ⟨b8, h⟩
    ·exact zr (zv [5] 3 [3,4,5,17] [[pi p2]] (qa1551 p1 p2) (qa1544 z1) (zt 17 b7 (zg [5] 6 [3,4,5,23] (zt 23 b8 (zg [5] 4 [3,4,5,27] (zd (j2 true h _ _ (zk [3,4,5,27]))))))))
    ·obtain ⟨r1, c9, h⟩ := zB h
     refine zr (zv [5] 3 [3,4,5,17] [[pi p2]] (qa1551 p1 p2) (qa1544 z1) (zt 17 b7 (zg [5] 6 [3,4,5,23] (zt 23 b8 (zu [5] 1 [3,4,5,23,24] [(qa1467 p1)] ?_)))))
     exact zl 83 [.ag (qa1518 p1)] (vb r1) [(25, vb r1), (3, vR (qa1467 p1)), (4, vR [pi p2]), (5, vq 1), (23, vb false), (24, .ag (qa1518 p1))] (c_value_plain _ _ c9) (zg [5] 2 [3,4,5,27] (zd (j2 (!r1) h _ _ (zk [3,4,5,27]))))
  refine zq fun K3 m3 => zr (zu [5] 3 [3,4,5,9] [(qa1467 p1)] (zd (m3 _ _ (zC h (fun b4 h => ?_) (fun b4 h => ?_)))))
  ·exact zr (zv [5] 6 [3,4,5] [] (qa1543 p1 p2) [.box [ci (i64.wrap (p3 + (1 : Int)))], .box qa1535] (zd (j1 (i64.wrap (p3 + (1 : Int))) h _ _ (zk [3,4,5]))))
  ·exact zs (j1 p3 h _ _ (zk [3,4,5]))
theorem c_value_sound_1_s : ∀ (k0 : Nat) (p1 : GValue) (p2 : Int) (p3 : Int) (r : (Bool × Int)), value_sound_1_s k0 p1 p2 p3 = some r → MC Tryd.prog 84 [.ag (qa1518 p1), vR [pi p2], vq 0] [.box [.pt 1 0 0 0], .box [ci p3]] (vb r.1) [.box [.pt 1 0 0 0], .box [ci r.2]]
 | 0, _, _, _, r, h => by rw [value_sound_1_s.eq_1] at h; cases h
 | k0 + 1, p1, p2, p3, r, h => by
  rw [value_sound_1_s.eq_2] at h
  refine MC.of 2 (n := 11) (fn := Tryd.f84) (c := cd Tryd.f84 []) (by kernel_rfl) (by kernel_rfl) (by kernel_rfl) (Nat.le_of_ble_eq_true rfl) rfl (zq fun K1 m1 => zr (zg [] 2 [1,2,3] (zd (m1 _ _ (zq fun K2 m2 => ?_)))))
  obtain ⟨r1, c3, h⟩ := zB h
  refine zr (zv [] 4 [5,7,8] [[pi p1.kind, pi p1.n, pi p1.scale, .s (.string p1.s), .ro (eValue.els p1.items)], [pi p2]] [(5, .ag (qa1518 p1)), (7, vi (i64.wrap (p2 + (1 : Int)))), (8, vq 1)] [.box [.pt 1 0 0 0], .box [ci p3]] ?_)
  refine XO.calm 62 [.ag (qa1518 p1), vi (i64.wrap (p2 + (1 : Int))), vq 0] [.box [ci p3]] [.box [ci r1.2]] (vb r1.1) [1] [(9, vb r1.1), (5, .ag (qa1518 p1)), (7, vi (i64.wrap (p2 + (1 : Int)))), (8, vq 1)] [.box [.pt 1 0 0 0], .box [ci r1.2]] (by kernel_rfl) (c_value_sound k0 _ _ _ _ c3) (by kernel_rfl) (by kernel_rfl) (by kernel_rfl) (by kernel_rfl) (zv [] 2 [4] [] [(4, vb (!r1.1))] [.box [.pt 1 0 0 0], .box [ci r1.2]] (zd (m2 _ _ (ze ?_))))
  obtain rfl := zj h
  exact FinM.fin (.inr rfl) [] [vb (!r1.1)] [] (by kernel_rfl) trivial (by kernel_rfl) (by kernel_rfl) (.one (.rfl _ rfl))
end
def value_Sound (p1 : GValue) : Option Bool := bnd (value_sound BIG p1 (1 : Int) (0 : Int)) fun r1 => some r1.1
theorem c_value_Sound (p1 : GValue) (r : Bool) (h : value_Sound p1 = some r) : PC Tryd.prog 36 [.ag (qa1518 p1)] (vb r) := by
 unfold value_Sound at h
 refine zF 6 Tryd.f36 (zq fun K1 m1 => zr (zg [3] 2 [1] (zd (m1 _ _ (zq fun K2 m2 => zr ?_)))))
 refine zg [3] 2 [1,3] (zd (m2 _ _ (zq fun K3 m3 => ?_)))
 obtain ⟨r1, c4, h⟩ := zB h
 refine zr (zv [3] 1 [3,4] [[pi p1.kind, pi p1.n, pi p1.scale, .s (.string p1.s), .ro (eValue.els p1.items)]] [(3, vq 0), (4, .ag (qa1518 p1))] [.box [ci 0]] ?_)
 refine XO.calm 62 [.ag (qa1518 p1), vi 1, vq 0] [.box [ci 0]] [.box [ci r1.2]] (vb r1.1) [0] [(5, vb r1.1), (3, vq 0), (4, .ag (qa1518 p1))] [.box [ci r1.2]] (by kernel_rfl) (c_value_sound BIG _ _ _ _ c4) (by kernel_rfl) (by kernel_rfl) (by kernel_rfl) (by kernel_rfl) (zg [3] 1 [2] (zd (m3 _ _ (ze ?_))))
 obtain rfl := zj h
 exact zf [vb r1.1] (.one (.rfl _ rfl))
def slices_EqualFunc_api_Field_api_Value_api_Field_api_Value_of_value_of_2_j1 : Option Bool := some true
def slices_EqualFunc_api_Field_api_Value_api_Field_api_Value_of_value_of_2_l1 (q_value_of_2 : GField → GValue → Option Bool) (p1 : (List GField)) (p2 : (List GValue)) : Nat → Int → Option Bool
 | 0, _ => none
 | k1 + 1, x1 => ift (decide (x1 < (p1.length : Int))) (bnd (at? p1 x1) fun e1 => bnd (at? p2 x1) fun e2 => bnd (q_value_of_2 e1 e2) fun r1 => ift (!r1) (some false) ((slices_EqualFunc_api_Field_api_Value_api_Field_api_Value_of_value_of_2_l1 q_value_of_2 p1 p2 k1) (i64.wrap (x1 + (1 : Int))))) (slices_EqualFunc_api_Field_api_Value_api_Field_api_Value_of_value_of_2_j1)
def slices_IndexFunc_api_Value_api_Value_of_value_of_1_j1 : Option Int := some (-1 : Int)
def slices_IndexFunc_api_Value_api_Value_of_value_of_1_l1 (q_value_of_1_s : GValue → Int → Int → (List GField) → Option Bool) (p1 : (List GValue)) (p2 : Int) (p3 : Int) (p4 : (List GField)) : Nat → Int → Option Int
 | 0, _ => none
 | k1 + 1, x1 => ift (decide (x1 < (p1.length : Int))) (bnd (at? p1 x1) fun e1 => bnd (q_value_of_1_s e1 p2 p3 p4) fun r1 => ift r1 (some x1) ((slices_IndexFunc_api_Value_api_Value_of_value_of_1_l1 q_value_of_1_s p1 p2 p3 p4 k1) (i64.wrap (x1 + (1 : Int))))) (slices_IndexFunc_api_Value_api_Value_of_value_of_1_j1)
mutual
def slices_ContainsFunc_api_Value_api_Value_of_value_of_1 : Nat → (List GValue) → Int → Int → (List GField) → Option Bool
 | 0, _, _, _, _ => none
 | k0 + 1, p1, p2, p3, p4 => bnd ((slices_IndexFunc_api_Value_api_Value_of_value_of_1 k0) p1 p2 p3 p4) fun r1 => some (decide ((0 : Int) ≤ r1))
def slices_EqualFunc_api_Field_api_Value_api_Field_api_Value_of_value_of_2 : Nat → (List GField) → (List GValue) → Option Bool
 | 0, _, _ => none
 | k0 + 1, p1, p2 => ift ((p1.length : Int) != (p2.length : Int)) (some false) (slices_EqualFunc_api_Field_api_Value_api_Field_api_Value_of_value_of_2_l1 (value_of_2 k0) p1 p2 BIG (0 : Int))
def slices_IndexFunc_api_Value_api_Value_of_value_of_1 : Nat → (List GValue) → Int → Int → (List GField) → Option Int
 | 0, _, _, _, _ => none
 | k0 + 1, p1, p2, p3, p4 => slices_IndexFunc_api_Value_api_Value_of_value_of_1_l1 (value_of_1_s k0) p1 p2 p3 p4 BIG (0 : Int)
def value_of : Nat → GType → GValue → Option Bool
 | 0, _, _ => none
 | k0 + 1, p1, p2 => ift (p2.kind == (0 : Int)) (some true) (ift (p2.kind != p1.kind) (some false) (ift (p2.kind == (3 : Int)) (some (p2.scale == p1.scale)) (ift (p2.kind == (6 : Int)) (bnd ((slices_ContainsFunc_api_Value_api_Value_of_value_of_1 k0) p2.items p1.kind p1.scale p1.fields) fun r1 => some (!r1)) (ift (p2.kind == (7 : Int)) (bnd ((slices_EqualFunc_api_Field_api_Value_api_Field_api_Value_of_value_of_2 k0) p1.fields p2.items) fun r2 => some r2) (some true)))))
def value_of_1_s : Nat → GValue → Int → Int → (List GField) → Option Bool
 | 0, _, _, _, _ => none
 | k0 + 1, p1, p2, p3, p4 => bnd (at? p4 (0 : Int)) fun e1 => bnd ((value_of k0) e1.type p1) fun r1 => some (!r1)
def value_of_2 : Nat → GField → GValue → Option Bool
 | 0, _, _ => none
 | k0 + 1, p1, p2 => bnd ((value_of k0) p1.type p2) fun r1 => some r1
end
abbrev qa1586 (p1 : (List GField)) (p2 : (List GValue)) (x1 : Int) : Fr := [(1, vl eValue p2), (2, .one (.pv (.fn 78 []))), (15, vl eField p1), (16, vi (p1.length : Int)), (17, vi (i64.wrap (x1 + (1 : Int))))]
mutual
theorem c_slices_ContainsFunc_api_Value_api_Value_of_value_of_1 : ∀ (k0 : Nat) (p1 : (List GValue)) (p2 : Int) (p3 : Int) (p4 : (List GField)) (r : Bool), slices_ContainsFunc_api_Value_api_Value_of_value_of_1 k0 p1 p2 p3 p4 = some r → PC Tryd.prog 75 [vl eValue p1, .one (.fn 76 [.pv (.rp [[pi p2, pi p3, .ro (eField.els p4)]] 0 0)])] (vb r)
 | 0, _, _, _, _, r, h => by rw [slices_ContainsFunc_api_Value_api_Value_of_value_of_1.eq_1] at h; cases h
 | k0 + 1, p1, p2, p3, p4, r, h => by
  rw [slices_ContainsFunc_api_Value_api_Value_of_value_of_1.eq_2] at h
  refine zF 9 Tryd.f75 (zq fun K1 m1 => zr (zg [] 1 [0,1] (zd (m1 _ _ (zq fun K2 m2 => ?_)))))
  obtain ⟨r1, c3, h⟩ := zB h
  refine zr (zg [] 2 [5,6] (zl 100 [vl eValue p1, .one (.fn 76 [.pv (.rp [[pi p2, pi p3, .ro (eField.els p4)]] 0 0)])] (vi r1) [(7, vi r1), (5, vl eValue p1), (6, .one (.fn 76 [.pv (.rp [[pi p2, pi p3, .ro (eField.els p4)]] 0 0)]))] (c_slices_IndexFunc_api_Value_api_Value_of_value_of_1 k0 _ _ _ _ _ c3) (zg [] 2 [4] (zd (m2 _ _ (ze ?_))))))
  obtain rfl := zj h
  exact zf [vb (decide ((0 : Int) ≤ r1))] (.one (.rfl _ rfl))
theorem c_slices_EqualFunc_api_Field_api_Value_api_Field_api_Value_of_value_of_2 : ∀ (k0 : Nat) (p1 : (List GField)) (p2 : (List GValue)) (r : Bool), slices_EqualFunc_api_Field_api_Value_api_Field_api_Value_of_value_of_2 k0 p1 p2 = some r → PC Tryd.prog 77 [vl eField p1, vl eValue p2, .one (.pv (.fn 78 []))] (vb r)
 | 0, _, _, r, h => by rw [slices_EqualFunc_api_Field_api_Value_api_Field_api_Value_of_value_of_2.eq_1] at h; cases h
 | k0 + 1, p1, p2, r, h => by
  rw [slices_EqualFunc_api_Field_api_Value_api_Field_api_Value_of_value_of_2.eq_2] at h
  refine zF 32 Tryd.f77 (zq fun K1 m1 => zr (zg [8, 9] 1 [0,1,2] (zd (m1 _ _ (zq fun K2 m2 => zq fun K3 m3 => ?_)))))
  refine zr (zv [8, 9] 2 [0,1,2,11] [] [(0, vl eField p1), (1, vl eValue p2), (2, .one (.pv (.fn 78 []))), (11, vi ((eField.els p1).length : Int))] [] ?_)
  rw [eField.len p1]
  refine zv [8, 9] 2 [0,1,2,11,13] [] [(0, vl eField p1), (1, vl eValue p2), (2, .one (.pv (.fn 78 []))), (11, vi (p1.length : Int)), (13, vi ((eValue.els p2).length : Int))] [] ?_
  rw [eValue.len p2]
  refine zg [8, 9] 1 [0,1,2,14] (zd (m3 _ _ (zC h (fun b4 h => ?_) (fun b4 h => ?_))))
  ·refine zq fun K5 m5 => zr (zg [8, 9] 1 [6] (zd (m5 _ _ (ze ?_))))
   obtain rfl := zj h
   exact zf [vb false] (.one (.rfl _ rfl))
  ·refine zs (m2 _ _ (zq fun K6 m6 => ?_))
   have j1 : ∀ (_ : Unit), slices_EqualFunc_api_Field_api_Value_api_Field_api_Value_of_value_of_2_j1 = some r → ∀ w0 w1, Sub 32 0 [] w0 w1 [] [] → K6 w0 w1 := by
    intro _ h w0 w1 hS
    unfold slices_EqualFunc_api_Field_api_Value_api_Field_api_Value_of_value_of_2_j1 at h
    refine m6 _ _ (XW.sub hS ?_)
    refine zq fun K20 m20 => zr (zg [8, 9] 1 [6] (zd (m20 _ _ (ze ?_))))
    obtain rfl := zj h
    exact zf [vb true] (.one (.rfl _ rfl))
   refine zq fun K7 m7 => zr (zv [8, 9] 2 [1,2,15,16] [] [(1, vl eValue p2), (2, .one (.pv (.fn 78 []))), (15, vl eField p1), (16, vi ((eField.els p1).length : Int))] [] ?_)
   rw [eField.len p1]
   refine zg [8, 9] 1 [1,2,15,16,17] (zd (m7 _ _ (zb 0 (XW.rounds' BIG (x := cd Tryd.f77 [1,1,0,1,0,0]) (by kernel_rfl) fun Q1 hQ1 => ?_))))
   have hL1 : ∀ (k1 : Nat) (x1 : Int), slices_EqualFunc_api_Field_api_Value_api_Field_api_Value_of_value_of_2_l1 (value_of_2 k0) p1 p2 k1 x1 = some r → XR Tryd.prog 32 0 [] (cd Tryd.f77 [1,1,0,1,0,0]) Q1 k1 [(1, vl eValue p2), (2, .one (.pv (.fn 78 []))), (15, vl eField p1), (16, vi (p1.length : Int)), (17, vi x1)] [] := by
    intro k1
    induction k1 with
    | zero => intro x1 h; rw [slices_EqualFunc_api_Field_api_Value_api_Field_api_Value_of_value_of_2_l1.eq_1] at h; cases h
    | succ k1 ih1 =>
     intro x1 h
     rw [slices_EqualFunc_api_Field_api_Value_api_Field_api_Value_of_value_of_2_l1.eq_2] at h
     refine zq fun K8 m8 => zr (zg [8, 9] 1 [1,2,15,16,17,18] (zd (m8 _ _ (zq fun K9 m9 => zC h (fun b10 h => ?_) (fun b10 h => ?_)))))
     ·refine zs (m9 _ _ (zq fun K11 m11 => zb 1 (zq fun K12 m12 => ?_)))
      obtain ⟨e1, a13, h⟩ := zB h
      refine zr (zo [8, 9] 6 [1,2,7,8,15,16,17] [(qa1299 e1)] [0 ≤ x1 ∧ x1 < ((eField.els p1).length : Int) ∧ elemsOk 6 (eField.els p1), (eField.els p1)[x1.toNat]? = some (qa1299 e1)] (⟨eField.inb a13, ((eField.get a13).trans (by rcases e1 with ⟨_, _, _, ⟨_, _, _⟩⟩; rfl)), trivial⟩) (zd (m12 _ _ (zq fun K14 m14 => ?_))))
      obtain ⟨e2, a15, h⟩ := zB h
      refine zr ?_
      refine zp [8, 9] 6 [1,2,8,9,15,16,17] [[pi e2.kind, pi e2.n, pi e2.scale, .s (.string e2.s), .ro (eValue.els e2.items)]] [(1, vl eValue p2), (2, .one (.pv (.fn 78 []))), (8, vq 0), (9, vq 1), (15, vl eField p1), (16, vi (p1.length : Int)), (17, vi x1)] [.box (qa1305 e1), .box [ci e2.kind, ci e2.n, ci e2.scale, cst e2.s, cl eValue e2.items]] [0 ≤ x1 ∧ x1 < ((eValue.els p2).length : Int) ∧ elemsOk 5 (eValue.els p2), (eValue.els p2)[x1.toNat]? = some [pi e2.kind, pi e2.n, pi e2.scale, .s (.string e2.s), .ro (eValue.els e2.items)]] (⟨eValue.inb a15, ((eValue.get a15).trans (by cases e2; rfl)), trivial⟩) ?_
      refine zd (m14 _ _ (zq fun K16 m16 => ?_))
      obtain ⟨r1, c17, h⟩ := zB h
      refine zr (zg [8, 9] 3 [1,2,15,16,17,26,27,28] (za (c_value_of_2 k0 _ _ _ c17) (zv [8, 9] 1 [1,2,15,16,17,30] [] [(1, vl eValue p2), (2, .one (.pv (.fn 78 []))), (15, vl eField p1), (16, vi (p1.length : Int)), (17, vi x1), (30, vb (!r1))] [.box (qa1305 e1), .box [ci e2.kind, ci e2.n, ci e2.scale, cst e2.s, cl eValue e2.items]] (zd (m16 _ _ (zC h (fun b18 h => ?_) (fun b18 h => ?_)))))))
      ·refine zq fun K19 m19 => zr (zg [8, 9] 1 [6] (zd (m19 _ _ (ze (hQ1 _ _ _ ?_)))))
       obtain rfl := zj h
       exact zf [vb false] (.one (.rfl _ rfl))
      ·exact zs (m11 _ _ (zr (zg [8, 9] 2 [1,2,15,16,17] (zd (XR.sub (Sub.trans (Sub.pick (fr' := (qa1586 p1 p2 x1)) [1,2,15,16,17] (by kernel_rfl)) (Sub.take (fr' := (qa1586 p1 p2 x1)) 0 (Nat.zero_le _) (by kernel_rfl) (by kernel_rfl))) (ih1 (i64.wrap (x1 + (1 : Int))) h))))))
     ·exact zx 0 (hQ1 _ _ _ (j1 () h _ _ (zk [])))
   exact XR.sub (zk [1,2,15,16,17]) (hL1 BIG (0 : Int) h)
theorem c_slices_IndexFunc_api_Value_api_Value_of_value_of_1 : ∀ (k0 : Nat) (p1 : (List GValue)) (p2 : Int) (p3 : Int) (p4 : (List GField)) (r : Int), slices_IndexFunc_api_Value_api_Value_of_value_of_1 k0 p1 p2 p3 p4 = some r → PC Tryd.prog 100 [vl eValue p1, .one (.fn 76 [.pv (.rp [[pi p2, pi p3, .ro (eField.els p4)]] 0 0)])] (vi r)
 | 0, _, _, _, _, r, h => by rw [slices_IndexFunc_api_Value_api_Value_of_value_of_1.eq_1] at h; cases h
 | k0 + 1, p1, p2, p3, p4, r, h => by
  rw [slices_IndexFunc_api_Value_api_Value_of_value_of_1.eq_2] at h
  refine zF 19 Tryd.f100 (zq fun K1 m1 => zr (zg [] 1 [0,1] (zd (m1 _ _ (zq fun K2 m2 => ?_)))))
  have j1 : ∀ (_ : Unit), slices_IndexFunc_api_Value_api_Value_of_value_of_1_j1 = some r → ∀ w0 w1, Sub 19 0 [] w0 w1 [] [] → K2 w0 w1 := by
   intro _ h w0 w1 hS
   unfold slices_IndexFunc_api_Value_api_Value_of_value_of_1_j1 at h
   refine m2 _ _ (XW.sub hS ?_)
   refine zq fun K14 m14 => zr (zg [] 1 [4] (zd (m14 _ _ (ze ?_))))
   obtain rfl := zj h
   exact zf [vi (-1)] (.one (.rfl _ rfl))
  refine zq fun K3 m3 => zr (zv [] 2 [0,1,7] [] [(0, vl eValue p1), (1, .one (.fn 76 [.pv (.rp [[pi p2, pi p3, .ro (eField.els p4)]] 0 0)])), (7, vi ((eValue.els p1).length : Int))] [] ?_)
  rw [eValue.len p1]
  refine zg [] 1 [0,1,7,8] (zd (m3 _ _ (zb 0 (XW.rounds' BIG (x := cd Tryd.f100 [1,0,1,0,0]) (by kernel_rfl) fun Q1 hQ1 => ?_))))
  have hL1 : ∀ (k1 : Nat) (x1 : Int), slices_IndexFunc_api_Value_api_Value_of_value_of_1_l1 (value_of_1_s k0) p1 p2 p3 p4 k1 x1 = some r → XR Tryd.prog 19 0 [] (cd Tryd.f100 [1,0,1,0,0]) Q1 k1 [(0, vl eValue p1), (1, .one (.fn 76 [.pv (.rp [[pi p2, pi p3, .ro (eField.els p4)]] 0 0)])), (7, vi (p1.length : Int)), (8, vi x1)] [] := by
   intro k1
   induction k1 with
   | zero => intro x1 h; rw [slices_IndexFunc_api_Value_api_Value_of_value_of_1_l1.eq_1] at h; cases h
   | succ k1 ih1 =>
    intro x1 h
    rw [slices_IndexFunc_api_Value_api_Value_of_value_of_1_l1.eq_2] at h
    refine zq fun K4 m4 => zr (zg [] 1 [0,1,7,8,9] (zd (m4 _ _ (zq fun K5 m5 => zC h (fun b6 h => ?_) (fun b6 h => ?_)))))
    ·refine zs (m5 _ _ (zq fun K7 m7 => zb 1 (zq fun K8 m8 => zr (zg [] 2 [0,1,5,7,8] (zd ?_)))))
     refine m8 _ _ (zq fun K9 m9 => ?_)
     obtain ⟨e1, a10, h⟩ := zB h
     obtain ⟨r1, c11, h⟩ := zB h
     refine zr ?_
     refine zp [] 5 [0,1,5,7,8,11,15] [[pi e1.kind, pi e1.n, pi e1.scale, .s (.string e1.s), .ro (eValue.els e1.items)]] [(0, vl eValue p1), (1, .one (.fn 76 [.pv (.rp [[pi p2, pi p3, .ro (eField.els p4)]] 0 0)])), (5, vi x1), (7, vi (p1.length : Int)), (8, vi x1), (11, .one (.fn 76 [.pv (.rp [[pi p2, pi p3, .ro (eField.els p4)]] 0 0)])), (15, .ag [ci e1.kind, ci e1.n, ci e1.scale, cst e1.s, cl eValue e1.items])] [] [0 ≤ x1 ∧ x1 < ((eValue.els p1).length : Int) ∧ elemsOk 5 (eValue.els p1), (eValue.els p1)[x1.toNat]? = some [pi e1.kind, pi e1.n, pi e1.scale, .s (.string e1.s), .ro (eValue.els e1.items)]] (⟨eValue.inb a10, ((eValue.get a10).trans (by cases e1; rfl)), trivial⟩) ?_
     refine za (c_value_of_1_s k0 _ _ _ _ _ c11) (zd (m9 _ _ (zC h (fun b12 h => ?_) (fun b12 h => ?_))))
     ·refine zq fun K13 m13 => zr (zg [] 2 [4] (zd (m13 _ _ (ze (hQ1 _ _ _ ?_)))))
      obtain rfl := zj h
      exact zf [vi x1] (.one (.rfl _ rfl))
     ·exact zs (m7 _ _ (zr (zv [] 2 [0,1,7,8] [] [(0, vl eValue p1), (1, .one (.fn 76 [.pv (.rp [[pi p2, pi p3, .ro (eField.els p4)]] 0 0)])), (7, vi (p1.length : Int)), (8, vi (i64.wrap (x1 + (1 : Int))))] [] (zd (XR.sub (zk [0,1,7,8]) (ih1 (i64.wrap (x1 + (1 : Int))) h))))))
    ·exact zx 0 (hQ1 _ _ _ (j1 () h _ _ (zk [])))
  exact XR.sub (zk [0,1,7,8]) (hL1 BIG (0 : Int) h)
theorem c_value_of : ∀ (k0 : Nat) (p1 : GType) (p2 : GValue) (r : Bool), value_of k0 p1 p2 = some r → PC Tryd.prog 55 [.ag [ci p1.kind, ci p1.scale, cl eField p1.fields], .ag [ci p2.kind, ci p2.n, ci p2.scale, cst p2.s, cl eValue p2.items]] (vb r)
 | 0, _, _, r, h => by rw [value_of.eq_1] at h; cases h
 | k0 + 1, p1, p2, r, h => by
  rw [value_of.eq_2] at h
  refine zF 42 Tryd.f55 (zq fun K1 m1 => zr (zg [] 3 [2,3] (zd (m1 _ _ (zq fun K2 m2 => zb 0 ?_)))))
  refine zq fun K3 m3 => zr (zu [] 4 [2,3,5] [(qa1467 p2)] (zd (m3 _ _ (zC h (fun b4 h => ?_) (fun b4 h => ?_)))))
  ·refine zq fun K5 m5 => zr (zv [] 1 [4] [] [(4, vb true)] [] (zd (m5 _ _ (ze ?_))))
   obtain rfl := zj h
   exact zf [vb true] (.one (.rfl _ rfl))
  ·refine zq fun K6 m6 => zr (zu [] 6 [2,3,9] [(qa1467 p2), (qa1274 p1)] (zd (m6 _ _ (zC h (fun b7 h => ?_) (fun b7 h => ?_)))))
   ·refine zq fun K8 m8 => zr (zg [] 1 [4] (zd (m8 _ _ (ze ?_))))
    obtain rfl := zj h
    exact zf [vb false] (.one (.rfl _ rfl))
   ·refine zq fun K9 m9 => zr (zv [] 4 [2,3,15] [(qa1467 p2)] [(2, vR (qa1274 p1)), (3, vR (qa1467 p2)), (15, vb (p2.kind == (3 : Int)))] [] (zd (m9 _ _ (zC h (fun b10 h => ?_) (fun b10 h => ?_)))))
    ·refine zq fun K11 m11 => zr (zu [] 6 [4] [(qa1467 p2), (qa1274 p1)] (zd (m11 _ _ (ze ?_))))
     obtain rfl := zj h
     exact zf [vb (p2.scale == p1.scale)] (.one (.rfl _ rfl))
    ·refine zq fun K12 m12 => zr (zu [] 4 [2,3,24] [(qa1467 p2)] (zd (m12 _ _ (zC h (fun b13 h => ?_) (fun b13 h => ?_)))))
     ·refine zq fun K14 m14 => ?_
      obtain ⟨r1, c15, h⟩ := zB h
      refine zr (zv [] 3 [29,30] [(qa1467 p2)] [(29, vl eValue p2.items), (30, .one (.fn 76 [.pv (.rp [(qa1274 p1)] 0 0)]))] [] (za (c_slices_ContainsFunc_api_Value_api_Value_of_value_of_1 k0 _ _ _ _ _ c15) (zg [] 2 [4] (zd (m14 _ _ (ze ?_))))))
      obtain rfl := zj h
      exact zf [vb (!r1)] (.one (.rfl _ rfl))
     ·refine zq fun K16 m16 => zr (zv [] 4 [2,3,33] [(qa1467 p2)] [(2, vR (qa1274 p1)), (3, vR (qa1467 p2)), (33, vb (p2.kind == (7 : Int)))] [] (zd (m16 _ _ (zC h (fun b17 h => ?_) (fun b17 h => ?_)))))
      ·refine zq fun K18 m18 => ?_
       obtain ⟨r2, c19, h⟩ := zB h
       refine zr (zu [] 4 [38,40] [(qa1274 p1), (qa1467 p2)] (za (c_slices_EqualFunc_api_Field_api_Value_api_Field_api_Value_of_value_of_2 k0 _ _ _ c19) (zv [] 1 [4] [] [(4, vb r2)] [] (zd (m18 _ _ (ze ?_))))))
       obtain rfl := zj h
       exact zf [vb r2] (.one (.rfl _ rfl))
      ·refine zs (m2 _ _ (zq fun K20 m20 => zr (zg [] 1 [4] (zd (m20 _ _ (ze ?_))))))
       obtain rfl := zj h
       exact zf [vb true] (.one (.rfl _ rfl))
theorem c_value_of_1_s : ∀ (k0 : Nat) (p1 : GValue) (p2 : Int) (p3 : Int) (p4 : (List GField)) (r : Bool), value_of_1_s k0 p1 p2 p3 p4 = some r → PC Tryd.prog 76 [.ag [ci p1.kind, ci p1.n, ci p1.scale, cst p1.s, cl eValue p1.items], vR [pi p2, pi p3, .ro (eField.els p4)]] (vb r)
 | 0, _, _, _, _, r, h => by rw [value_of_1_s.eq_1] at h; cases h
 | k0 + 1, p1, p2, p3, p4, r, h => by
  rw [value_of_1_s.eq_2] at h
  refine zF 12 Tryd.f76 (zq fun K1 m1 => zr (zg [] 2 [1,2] (zd (m1 _ _ (zq fun K2 m2 => ?_)))))
  obtain ⟨e1, a3, h⟩ := zB h
  obtain ⟨r1, c4, h⟩ := zB h
  refine zw 6 [(9, .ag [ci p1.kind, ci p1.n, ci p1.scale, cst p1.s, cl eValue p1.items]), (8, .ag [ci e1.type.kind, ci e1.type.scale, cl eField e1.type.fields]), (7, .one (.pv (.rp (eField.els p4) ((0 : Int).toNat) 3))), (6, .one (.pv (.rp (eField.els p4) ((0 : Int).toNat) 0))), (5, vl eField p4), (4, .one (.pv (.rp [[pi p2, pi p3, .ro (eField.els p4)]] 0 2))), (1, vR [pi p2, pi p3, .ro (eField.els p4)]), (2, vR (qa1467 p1))] ?_ ?_
  ·refine zyo 6 [[pi p2, pi p3, .ro (eField.els p4)], (qa1299 e1), (qa1467 p1)] [([[pi p2, pi p3, .ro (eField.els p4)]] : List (List PV))[0]? = some [pi p2, pi p3, .ro (eField.els p4)], 0 ≤ (0 : Int) ∧ (0 : Int) < ((eField.els p4).length : Int) ∧ elemsOk 6 (eField.els p4), (eField.els p4)[(0 : Int).toNat]? = some (qa1299 e1), ([(qa1467 p1)] : List (List PV))[0]? = some (qa1467 p1)] (⟨rfl, eField.inb a3, ((eField.get a3).trans (by rcases e1 with ⟨_, _, _, ⟨_, _, _⟩⟩; rfl)), rfl, trivial⟩) ?_
   exact zyd
  refine za (c_value_of k0 _ _ _ c4) (zv [] 2 [3] [] [(3, vb (!r1))] [] (zd (m2 _ _ (ze ?_))))
  obtain rfl := zj h
  exact zf [vb (!r1)] (.one (.rfl _ rfl))
theorem c_value_of_2 : ∀ (k0 : Nat) (p1 : GField) (p2 : GValue) (r : Bool), value_of_2 k0 p1 p2 = some r → PC Tryd.prog 78 [.ag [ci p1.id, cst p1.name, cb p1.need, ci p1.type.kind, ci p1.type.scale, cl eField p1.type.fields], .ag (qa1518 p2)] (vb r)
 | 0, _, _, r, h => by rw [value_of_2.eq_1] at h; cases h
 | k0 + 1, p1, p2, r, h => by
  rw [value_of_2.eq_2] at h
  refine zF 9 Tryd.f78 (zq fun K1 m1 => zr (zg [] 3 [2,3] (zd (m1 _ _ (zq fun K2 m2 => ?_)))))
  obtain ⟨r1, c3, h⟩ := zB h
  refine zr (zu [] 3 [6,7] [[pi p1.id, .s (.string p1.name), .s (.bool p1.need), pi p1.type.kind, pi p1.type.scale, .ro (eField.els p1.type.fields)], [pi p2.kind, pi p2.n, pi p2.scale, .s (.string p2.s), .ro (eValue.els p2.items)]] (zl 55 [.ag [ci p1.type.kind, ci p1.type.scale, cl eField p1.type.fields], .ag (qa1518 p2)] (vb r1) [(8, vb r1), (6, .ag [ci p1.type.kind, ci p1.type.scale, cl eField p1.type.fields]), (7, .ag (qa1518 p2))] (c_value_of k0 _ _ _ c3) (zg [] 1 [4] (zd (m2 _ _ ?_)))))
  refine ze ?_
  obtain rfl := zj h
  exact zf [vb r1] (.one (.rfl _ rfl))
end
def value_field_j1 (p1 : GType) (x1 : Int) : Option GField := bnd (at? p1.fields x1) fun e1 => some e1
def value_field (p1 : GType) (p2 : Int) : Option GField := ift (p1.kind == (6 : Int)) (value_field_j1 p1 (0 : Int)) (value_field_j1 p1 p2)
abbrev qa1619 : List CV := [ci 0, cst ByteArray.empty, cb false, ci 0, ci 0, .pv (.s (.slice none 0 0))]
theorem c_value_field (p1 : GType) (p2 : Int) (r : GField) (h : value_field p1 p2 = some r) : PC Tryd.prog 79 [.ag [ci p1.kind, ci p1.scale, cl eField p1.fields], vi p2] (.ag [ci r.id, cst r.name, cb r.need, ci r.type.kind, ci r.type.scale, cl eField r.type.fields]) := by
 unfold value_field at h
 refine zF 13 Tryd.f79 (zq fun K1 m1 => zr (zg [4] 2 [1,2,4] (zd (m1 _ _ (zq fun K2 m2 => ?_)))))
 have j1 : ∀ (x1 : Int), value_field_j1 p1 x1 = some r → ∀ w0 w1, Sub 13 0 [] w0 w1 [(1, vi x1), (2, vR (qa1274 p1)), (4, vq 0)] [.box qa1619] → K2 w0 w1 := by
  intro x1 h w0 w1 hS
  unfold value_field_j1 at h
  refine m2 _ _ (XW.sub hS ?_)
  refine zq fun K5 m5 => ?_
  obtain ⟨e1, a6, h⟩ := zB h
  refine zr ?_
  refine zo [4] 6 [4] [(qa1274 p1), (qa1299 e1)] [([(qa1274 p1)] : List (List PV))[0]? = some (qa1274 p1), 0 ≤ x1 ∧ x1 < ((eField.els p1.fields).length : Int) ∧ elemsOk 6 (eField.els p1.fields), (eField.els p1.fields)[x1.toNat]? = some (qa1299 e1)] (⟨rfl, eField.inb a6, ((eField.get a6).trans (by rcases e1 with ⟨_, _, _, ⟨_, _, _⟩⟩; rfl)), trivial⟩) ?_
  refine zd (m5 _ _ (ze ?_))
  obtain rfl := zj h
  exact zf [.ag [ci e1.id, cst e1.name, cb e1.need, ci e1.type.kind, ci e1.type.scale, cl eField e1.type.fields]] (.ag (.cons (.rfl _ rfl) (.cons (.rfl _ rfl) (.cons (.rfl _ rfl) (.cons (.rfl _ rfl) (.cons (.rfl _ rfl) (.cons (.rfl _ rfl) .nil)))))))
 refine zq fun K3 m3 => zr (zu [4] 3 [1,2,4,7] [(qa1274 p1)] (zd (m3 _ _ (zC h (fun b4 h => ?_) (fun b4 h => ?_)))))
 ·exact zr (zv [4] 1 [1,2,4] [] [(1, vi 0), (2, vR (qa1274 p1)), (4, vq 0)] [.box qa1619] (zd (j1 (0 : Int) h _ _ (zk [1,2,4]))))
 ·exact zs (j1 p2 h _ _ (zk [1,2,4]))
def value_lacks_j1 (rec1 : Int → Option Bool) (x1 : Int) (x2 : Bool) : Option Bool := ift x2 (some true) (rec1 (i64.wrap (x1 + (1 : Int))))
def value_lacks_j2 : Option Bool := some false
def value_lacks_l1 (q_value_lacks : GType → GValue → Option Bool) (p1 : GType) (p2 : GValue) : Nat → Int → Option Bool
 | 0, _ => none
 | k1 + 1, x1 => ift (decide (x1 < (p2.items.length : Int))) (bnd (at? p2.items x1) fun e1 => bnd (value_field p1 x1) fun r1 => ift (e1.kind == (0 : Int)) (ift r1.need (value_lacks_j1 (value_lacks_l1 q_value_lacks p1 p2 k1) x1 true) (bnd (q_value_lacks r1.type e1) fun r2 => value_lacks_j1 (value_lacks_l1 q_value_lacks p1 p2 k1) x1 r2)) (bnd (q_value_lacks r1.type e1) fun r3 => value_lacks_j1 (value_lacks_l1 q_value_lacks p1 p2 k1) x1 r3)) (value_lacks_j2)
def value_lacks : Nat → GType → GValue → Option Bool
 | 0, _, _ => none
 | k0 + 1, p1, p2 => value_lacks_l1 (value_lacks k0) p1 p2 BIG (0 : Int)
abbrev qa1637 (p1 : GType) (p2 : GValue) (x1 : Int) : Fr := [(2, vR (qa1274 p1)), (9, vl eValue p2.items), (10, vi (p2.items.length : Int)), (11, vi (i64.wrap (x1 + (1 : Int))))]
abbrev qa1638 (p1 : GType) (p2 : GValue) (x1 : Int) (e1 : GValue) : Fr := [(2, vR (qa1274 p1)), (6, vq 0), (7, vq 1), (9, vl eValue p2.items), (10, vi (p2.items.length : Int)), (11, vi x1), (22, vb (e1.kind == (0 : Int)))]
abbrev qa1640 (p1 : GType) (p2 : GValue) (x1 : Int) : Fr := [(2, vR (qa1274 p1)), (9, vl eValue p2.items), (10, vi (p2.items.length : Int)), (11, vi x1), (31, vb true)]
abbrev qa1643 (p1 : GType) (p2 : GValue) (x1 : Int) (r3 : Bool) : Fr := [(2, vR (qa1274 p1)), (9, vl eValue p2.items), (10, vi (p2.items.length : Int)), (11, vi x1), (31, vb r3)]
theorem c_value_lacks : ∀ (k0 : Nat) (p1 : GType) (p2 : GValue) (r : Bool), value_lacks k0 p1 p2 = some r → PC Tryd.prog 56 [.ag [ci p1.kind, ci p1.scale, cl eField p1.fields], .ag [ci p2.kind, ci p2.n, ci p2.scale, cst p2.s, cl eValue p2.items]] (vb r)
 | 0, _, _, r, h => by rw [value_lacks.eq_1] at h; cases h
 | k0 + 1, p1, p2, r, h => by
  rw [value_lacks.eq_2] at h
  refine zF 33 Tryd.f56 (zq fun K1 m1 => zr (zg [6, 7] 3 [2,3] (zd (m1 _ _ (zq fun K2 m2 => ?_)))))
  have j2 : ∀ (_ : Unit), value_lacks_j2 = some r → ∀ w0 w1, Sub 33 0 [] w0 w1 [] [] → K2 w0 w1 := by
   intro _ h w0 w1 hS
   unfold value_lacks_j2 at h
   refine m2 _ _ (XW.sub hS ?_)
   refine zq fun K19 m19 => zr (zg [6, 7] 1 [4] (zd (m19 _ _ (ze ?_))))
   obtain rfl := zj h
   exact zf [vb false] (.one (.rfl _ rfl))
  refine zq fun K3 m3 => zr (zv [6, 7] 3 [2,9,10] [[pi p2.kind, pi p2.n, pi p2.scale, .s (.string p2.s), .ro (eValue.els p2.items)]] [(2, vR [pi p1.kind, pi p1.scale, .ro (eField.els p1.fields)]), (9, vl eValue p2.items), (10, vi ((eValue.els p2.items).length : Int))] [] ?_)
  rw [eValue.len p2.items]
  refine zg [6, 7] 1 [2,9,10,11] (zd (m3 _ _ (zb 0 (XW.rounds' BIG (x := cd Tryd.f56 [1,0,1,0,0]) (by kernel_rfl) fun Q1 hQ1 => ?_))))
  have hL1 : ∀ (k1 : Nat) (x1 : Int), value_lacks_l1 (value_lacks k0) p1 p2 k1 x1 = some r → XR Tryd.prog 33 0 [] (cd Tryd.f56 [1,0,1,0,0]) Q1 k1 [(2, vR (qa1274 p1)), (9, vl eValue p2.items), (10, vi (p2.items.length : Int)), (11, vi x1)] [] := by
   intro k1
   induction k1 with
   | zero => intro x1 h; rw [value_lacks_l1.eq_1] at h; cases h
   | succ k1 ih1 =>
    intro x1 h
    rw [value_lacks_l1.eq_2] at h
    refine zq fun K4 m4 => zr (zg [6, 7] 1 [2,9,10,11,12] (zd (m4 _ _ (zq fun K5 m5 => zC h (fun b6 h => ?_) (fun b6 h => ?_)))))
    ·refine zs (m5 _ _ (zq fun K7 m7 => zb 1 (zq fun K8 m8 => ?_)))
     obtain ⟨e1, a9, h⟩ := zB h
     refine zr (zo [6, 7] 6 [2,5,6,9,10,11] [[pi e1.kind, pi e1.n, pi e1.scale, .s (.string e1.s), .ro (eValue.els e1.items)]] [0 ≤ x1 ∧ x1 < ((eValue.els p2.items).length : Int) ∧ elemsOk 5 (eValue.els p2.items), (eValue.els p2.items)[x1.toNat]? = some [pi e1.kind, pi e1.n, pi e1.scale, .s (.string e1.s), .ro (eValue.els e1.items)]] (⟨eValue.inb a9, ((eValue.get a9).trans (by cases e1; rfl)), trivial⟩) (zd (m8 _ _ (zq fun K10 m10 => ?_))))
     obtain ⟨r1, c11, h⟩ := zB h
     refine zr (zv [6, 7] 2 [2,6,9,10,11,16,17] [(qa1274 p1)] [(2, vR (qa1274 p1)), (6, vq 0), (9, vl eValue p2.items), (10, vi (p2.items.length : Int)), (11, vi x1), (16, .ag [ci p1.kind, ci p1.scale, cl eField p1.fields]), (17, vi x1)] [.box (qa1518 e1)] (za (c_value_field _ _ _ c11) (zg [6, 7] 2 [2,6,7,9,10,11] (zd (m10 _ _ (zq fun K12 m12 => ?_))))))
     have j1 : ∀ (x2 : Bool), value_lacks_j1 (value_lacks_l1 (value_lacks k0) p1 p2 k1) x1 x2 = some r → ∀ w0 w1, Sub 33 0 [] w0 w1 [(2, vR (qa1274 p1)), (9, vl eValue p2.items), (10, vi (p2.items.length : Int)), (11, vi x1), (31, vb x2)] [.dead, .dead] → K12 w0 w1 := by
      intro x2 h w0 w1 hS
      unfold value_lacks_j1 at h
      refine m12 _ _ (XW.sub hS ?_)
      refine zC h (fun b17 h => ?_) (fun b17 h => ?_)
      ·refine zq fun K18 m18 => zr (zg [6, 7] 1 [4] (zd (m18 _ _ (ze (hQ1 _ _ _ ?_)))))
       obtain rfl := zj h
       exact zf [vb true] (.one (.rfl _ rfl))
      ·refine zs (m7 _ _ (zr (zg [6, 7] 2 [2,9,10,11] (zd ?_))))
       exact XR.sub (Sub.trans (Sub.pick (fr' := (qa1637 p1 p2 x1)) [2,9,10,11] (by kernel_rfl)) (Sub.take (fr' := (qa1637 p1 p2 x1)) 0 (Nat.zero_le _) (by kernel_rfl) (by kernel_rfl))) (ih1 (i64.wrap (x1 + (1 : Int))) h)
     rcases zW h with ⟨b13, h⟩ | ⟨b13, h⟩
     ·rcases zW h with ⟨b14, h⟩ | ⟨b14, h⟩
      ·refine zr (zv [6, 7] 4 [2,6,7,9,10,11,22] [] (qa1638 p1 p2 x1 e1) [.box (qa1518 e1), .box (qa1305 r1)] (zt 22 b13 (zg [6, 7] 4 [2,6,7,9,10,11,26] (zt 26 b14 (zg [6, 7] 5 [2,9,10,11,31] (zd ?_))))))
       exact j1 true h _ _ (Sub.trans (Sub.pick (fr' := (qa1640 p1 p2 x1)) [2,9,10,11,31] (by kernel_rfl)) (Sub.only (fr' := (qa1640 p1 p2 x1)) (st' := [.dead, .dead]) [] 2 (by kernel_rfl) (by kernel_rfl) (by kernel_rfl) (by kernel_rfl)))
      ·obtain ⟨r2, c15, h⟩ := zB h
       refine zr (zv [6, 7] 4 [2,6,7,9,10,11,22] [] (qa1638 p1 p2 x1 e1) [.box (qa1518 e1), .box (qa1305 r1)] (zt 22 b13 (zg [6, 7] 4 [2,6,7,9,10,11,26] (zt 26 b14 (zg [6, 7] 3 [2,9,10,11,26,28,29] ?_)))))
       refine zl 56 [.ag [ci r1.type.kind, ci r1.type.scale, cl eField r1.type.fields], .ag (qa1518 e1)] (vb r2) [(30, vb r2), (2, vR (qa1274 p1)), (9, vl eValue p2.items), (10, vi (p2.items.length : Int)), (11, vi x1), (26, vb false), (28, .ag [ci r1.type.kind, ci r1.type.scale, cl eField r1.type.fields]), (29, .ag (qa1518 e1))] (c_value_lacks k0 _ _ _ c15) (zg [6, 7] 1 [2,9,10,11,31] (zd ?_))
       exact j1 r2 h _ _ (Sub.trans (Sub.pick (fr' := [(2, vR (qa1274 p1)), (9, vl eValue p2.items), (10, vi (p2.items.length : Int)), (11, vi x1), (31, vb r2)]) [2,9,10,11,31] (by kernel_rfl)) (Sub.only (fr' := [(2, vR (qa1274 p1)), (9, vl eValue p2.items), (10, vi (p2.items.length : Int)), (11, vi x1), (31, vb r2)]) (st' := [.dead, .dead]) [] 2 (by kernel_rfl) (by kernel_rfl) (by kernel_rfl) (by kernel_rfl)))
     ·obtain ⟨r3, c16, h⟩ := zB h
      refine zr (zv [6, 7] 4 [2,6,7,9,10,11,22] [] (qa1638 p1 p2 x1 e1) [.box (qa1518 e1), .box (qa1305 r1)] (zt 22 b13 (zg [6, 7] 7 [2,9,10,11,26,28,29] (za (c_value_lacks k0 _ _ _ c16) ?_))))
      refine zv [6, 7] 1 [2,9,10,11,31] [] (qa1643 p1 p2 x1 r3) [.box (qa1518 e1), .box (qa1305 r1)] (zd ?_)
      exact j1 r3 h _ _ (Sub.trans (Sub.pick (fr' := (qa1643 p1 p2 x1 r3)) [2,9,10,11,31] (by kernel_rfl)) (Sub.only (fr' := (qa1643 p1 p2 x1 r3)) (st' := [.dead, .dead]) [] 2 (by kernel_rfl) (by kernel_rfl) (by kernel_rfl) (by kernel_rfl)))
    ·exact zx 0 (hQ1 _ _ _ (j2 () h _ _ (zk [])))
  exact XR.sub (zk [2,9,10,11]) (hL1 BIG (0 : Int) h)
def value_Check (p1 : GType) (p2 : GValue) : Option Int := bnd (value_CheckType p1) fun r1 => ift (r1 != (0 : Int)) (some r1) (bnd (value_Sound p2) fun r2 => ift (!r2) (some (1 : Int)) (bnd (value_of BIG p1 p2) fun r3 => ift (!r3) (some (2 : Int)) (bnd (value_lacks BIG p1 p2) fun r4 => ift r4 (some (9 : Int)) (some (0 : Int)))))
theorem c_value_Check (p1 : GType) (p2 : GValue) (r : Int) (h : value_Check p1 p2 = some r) : PC Tryd.prog 28 [.ag (qa1397 p1), .ag (qa1518 p2)] (vi r) := by
 unfold value_Check at h
 refine zF 24 Tryd.f28 (zq fun K1 m1 => zr (zg [] 3 [2,3] (zd (m1 _ _ (zq fun K2 m2 => zq fun K3 m3 => ?_)))))
 obtain ⟨r1, c4, h⟩ := zB h
 refine zr (zu [] 1 [2,3,6] [(qa1274 p1)] (zl 46 [.ag (qa1397 p1)] (vi r1) [(7, vi r1), (2, vR (qa1274 p1)), (3, vR (qa1467 p2)), (6, .ag (qa1397 p1))] (c_value_CheckType _ _ c4) (zg [] 1 [2,3,5] (zd (m3 _ _ (zq fun K5 m5 => zr ?_))))))
 refine zg [] 2 [2,3,5,9] (zd (m5 _ _ (zC h (fun b6 h => ?_) (fun b6 h => ?_))))
 ·refine zq fun K7 m7 => zr (zv [] 2 [4] [] [(4, vi r1)] [] (zd (m7 _ _ (ze ?_))))
  obtain rfl := zj h
  exact zf [vi r1] (.one (.rfl _ rfl))
 ·refine zs (m2 _ _ (zq fun K8 m8 => zb 0 (zq fun K9 m9 => ?_)))
  obtain ⟨r2, c10, h⟩ := zB h
  refine zr (zu [] 1 [2,3,12] [(qa1467 p2)] (za (c_value_Sound _ _ c10) (zv [] 2 [2,3,11] [] [(2, vR (qa1274 p1)), (3, vR (qa1467 p2)), (11, vb (!r2))] [] (zd (m9 _ _ (zC h (fun b11 h => ?_) (fun b11 h => ?_)))))))
  ·refine zq fun K12 m12 => zr (zg [] 1 [4] (zd (m12 _ _ (ze ?_))))
   obtain rfl := zj h
   exact zf [vi 1] (.one (.rfl _ rfl))
  ·refine zq fun K13 m13 => ?_
   obtain ⟨r3, c14, h⟩ := zB h
   refine zr (zu [] 2 [2,3,16,17] [(qa1274 p1), (qa1467 p2)] ?_)
   refine zl 55 [.ag (qa1397 p1), .ag (qa1518 p2)] (vb r3) [(18, vb r3), (2, vR (qa1274 p1)), (3, vR (qa1467 p2)), (16, .ag (qa1397 p1)), (17, .ag (qa1518 p2))] (c_value_of BIG _ _ _ c14) (zg [] 2 [2,3,15] (zd (m13 _ _ (zC h (fun b15 h => ?_) (fun b15 h => ?_)))))
   ·refine zq fun K16 m16 => zr (zg [] 1 [4] (zd (m16 _ _ (ze ?_))))
    obtain rfl := zj h
    exact zf [vi 2] (.one (.rfl _ rfl))
   ·refine zq fun K17 m17 => ?_
    obtain ⟨r4, c18, h⟩ := zB h
    refine zr (zv [] 2 [21,22] [(qa1274 p1), (qa1467 p2)] [(21, .ag (qa1397 p1)), (22, .ag (qa1518 p2))] [] (za (c_value_lacks BIG _ _ _ c18) (zg [] 1 [20] (zd (m17 _ _ (zC h (fun b19 h => ?_) (fun b19 h => ?_)))))))
    ·refine zq fun K20 m20 => zr (zv [] 1 [4] [] [(4, vi 9)] [] (zd (m20 _ _ (ze ?_))))
     obtain rfl := zj h
     exact zf [vi 9] (.one (.rfl _ rfl))
    ·refine zs (m8 _ _ (zq fun K21 m21 => zr (zg [] 1 [4] (zd (m21 _ _ (ze ?_))))))
     obtain rfl := zj h
     exact zf [vi 0] (.one (.rfl _ rfl))
def column_CheckRows_j1 (rec2 : Int → Option Int) (x2 : Int) (x3 : Bool) : Option Int := ift x3 (some (9 : Int)) (rec2 (i64.wrap (x2 + (1 : Int))))
def column_CheckRows_j2 (rec1 : Int → Option Int) (x1 : Int) : Option Int := rec1 (i64.wrap (x1 + (1 : Int)))
def column_CheckRows_l2 (rec1 : Int → Option Int) (p1 : (List GField)) (x1 : Int) (e1 : (List GValue)) : Nat → Int → Option Int
 | 0, _ => none
 | k2 + 1, x2 => ift (decide (x2 < (p1.length : Int))) (bnd (at? p1 x2) fun e2 => bnd (at? e1 x2) fun e3 => bnd (value_Check e2.type e3) fun r2 => ift (r2 != (0 : Int)) (some r2) (ift (e3.kind == (0 : Int)) (column_CheckRows_j1 (column_CheckRows_l2 rec1 p1 x1 e1 k2) x2 e2.need) (column_CheckRows_j1 (column_CheckRows_l2 rec1 p1 x1 e1 k2) x2 false))) (column_CheckRows_j2 rec1 x1)
def column_CheckRows_j3 : Option Int := some (0 : Int)
def column_CheckRows_l1 (p1 : (List GField)) (p2 : (List (List GValue))) : Nat → Int → Option Int
 | 0, _ => none
 | k1 + 1, x1 => ift (decide (x1 < (p2.length : Int))) (bnd (at? p2 x1) fun e1 => ift ((e1.length : Int) != (p1.length : Int)) (some (1 : Int)) (column_CheckRows_l2 (column_CheckRows_l1 p1 p2 k1) p1 x1 e1 BIG (0 : Int))) (column_CheckRows_j3)
def column_CheckRows (p1 : (List GField)) (p2 : (List (List GValue))) : Option Int := bnd (value_CheckSchema p1) fun r1 => ift (r1 != (0 : Int)) (some r1) (ift (decide ((2000 : Int) < (p2.length : Int))) (some (7 : Int)) (column_CheckRows_l1 p1 p2 BIG (0 : Int)))
abbrev qa1666 (p1 : (List GField)) (p2 : (List (List GValue))) (x1 : Int) (e1 : (List GValue)) (x2 : Int) : Fr := [(0, vl eField p1), (7, vl eValue e1), (19, vl (eL eValue) p2), (20, vi (p2.length : Int)), (21, vi x1), (30, vl eField p1), (31, vi (p1.length : Int)), (32, vi (i64.wrap (x2 + (1 : Int))))]
abbrev qa1670 (p1 : (List GField)) (p2 : (List (List GValue))) (x1 : Int) (e1 : (List GValue)) (x2 : Int) (e2 : GField) (e3 : GValue) : Fr := [(42, .ag (qa1518 e3)), (41, .one (.pv (.rp (eValue.els e1) x2.toNat 0))), (40, vi x2), (39, vl eValue e1), (38, .ag (qa1367 e2)), (37, .one (.pt 0 0 0 3)), (0, vl eField p1), (7, vl eValue e1), (8, vi x2), (9, vq 0), (19, vl (eL eValue) p2), (20, vi (p2.length : Int)), (21, vi x1), (30, vl eField p1), (31, vi (p1.length : Int)), (32, vi x2)]
theorem c_column_CheckRows (p1 : (List GField)) (p2 : (List (List GValue))) (r : Int) (h : column_CheckRows p1 p2 = some r) : PC Tryd.prog 8 [vl eField p1, vl (eL eValue) p2] (vi r) := by
 unfold column_CheckRows at h
 refine zF 59 Tryd.f8 (zq fun K1 m1 => zr (zg [9] 1 [0,1] (zd (m1 _ _ (zq fun K2 m2 => zq fun K3 m3 => ?_)))))
 obtain ⟨r1, c4, h⟩ := zB h
 refine zr (zg [9] 1 [0,1,11] (zl 21 [vl eField p1] (vi r1) [(12, vi r1), (0, vl eField p1), (1, vl (eL eValue) p2), (11, vl eField p1)] (c_value_CheckSchema _ _ c4) (zg [9] 1 [0,1,5] (zd (m3 _ _ (zq fun K5 m5 => zr ?_))))))
 refine zg [9] 2 [0,1,5,14] (zd (m5 _ _ (zC h (fun b6 h => ?_) (fun b6 h => ?_))))
 ·refine zq fun K7 m7 => zr (zv [9] 2 [4] [] [(4, vi r1)] [] (zd (m7 _ _ (ze ?_))))
  obtain rfl := zj h
  exact zf [vi r1] (.one (.rfl _ rfl))
 ·refine zs (m2 _ _ (zq fun K8 m8 => zq fun K9 m9 => zr (zv [9] 2 [0,1,17] [] [(0, vl eField p1), (1, vl (eL eValue) p2), (17, vi (((eL eValue).els p2).length : Int))] [] ?_)))
  rw [(eL eValue).len p2]
  refine zg [9] 1 [0,1,18] (zd (m9 _ _ (zC h (fun b10 h => ?_) (fun b10 h => ?_))))
  ·refine zq fun K11 m11 => zr (zg [9] 1 [4] (zd (m11 _ _ (ze ?_))))
   obtain rfl := zj h
   exact zf [vi 7] (.one (.rfl _ rfl))
  ·refine zs (m8 _ _ (zq fun K12 m12 => ?_))
   have j3 : ∀ (_ : Unit), column_CheckRows_j3 = some r → ∀ w0 w1, Sub 59 0 [] w0 w1 [] [] → K12 w0 w1 := by
    intro _ h w0 w1 hS
    unfold column_CheckRows_j3 at h
    refine m12 _ _ (XW.sub hS ?_)
    refine zq fun K42 m42 => zr (zg [9] 1 [4] (zd (m42 _ _ (ze ?_))))
    obtain rfl := zj h
    exact zf [vi 0] (.one (.rfl _ rfl))
   refine zq fun K13 m13 => zr (zv [9] 2 [0,19,20] [] [(0, vl eField p1), (19, vl (eL eValue) p2), (20, vi (((eL eValue).els p2).length : Int))] [] ?_)
   rw [(eL eValue).len p2]
   refine zg [9] 1 [0,19,20,21] (zd (m13 _ _ (zb 0 (XW.rounds' BIG (x := cd Tryd.f8 [1,1,1,0,1,0,0]) (by kernel_rfl) fun Q1 hQ1 => ?_))))
   have hL1 : ∀ (k1 : Nat) (x1 : Int), column_CheckRows_l1 p1 p2 k1 x1 = some r → XR Tryd.prog 59 0 [] (cd Tryd.f8 [1,1,1,0,1,0,0]) Q1 k1 [(0, vl eField p1), (19, vl (eL eValue) p2), (20, vi (p2.length : Int)), (21, vi x1)] [] := by
    intro k1
    induction k1 with
    | zero => intro x1 h; rw [column_CheckRows_l1.eq_1] at h; cases h
    | succ k1 ih1 =>
     intro x1 h
     rw [column_CheckRows_l1.eq_2] at h
     refine zq fun K14 m14 => zr (zg [9] 1 [0,19,20,21,22] (zd (m14 _ _ (zq fun K15 m15 => zC h (fun b16 h => ?_) (fun b16 h => ?_)))))
     ·refine zs (m15 _ _ (zq fun K17 m17 => ?_))
      have j2 : ∀ (_ : Unit), column_CheckRows_j2 (column_CheckRows_l1 p1 p2 k1) x1 = some r → ∀ w0 w1, Sub 59 0 [] w0 w1 [(0, vl eField p1), (19, vl (eL eValue) p2), (20, vi (p2.length : Int)), (21, vi x1)] [] → K17 w0 w1 := by
       intro _ h w0 w1 hS
       unfold column_CheckRows_j2 at h
       refine m17 _ _ (XW.sub hS ?_)
       exact zr (zg [9] 2 [0,19,20,21] (zd (XR.sub (zk [0,19,20,21]) (ih1 (i64.wrap (x1 + (1 : Int))) h))))
      refine zb 1 (zq fun K18 m18 => ?_)
      obtain ⟨e1, a19, h⟩ := zB h
      refine zr (zo [9] 3 [0,7,19,20,21] [[.ro (eValue.els e1)]] [0 ≤ x1 ∧ x1 < (((eL eValue).els p2).length : Int) ∧ elemsOk 1 ((eL eValue).els p2), ((eL eValue).els p2)[x1.toNat]? = some [.ro (eValue.els e1)]] (⟨(eL eValue).inb a19, ((eL eValue).get a19), trivial⟩) (zd (m18 _ _ (zq fun K20 m20 => zq fun K21 m21 => zr (zv [9] 2 [0,7,19,20,21,26] [] [(0, vl eField p1), (7, vl eValue e1), (19, vl (eL eValue) p2), (20, vi (p2.length : Int)), (21, vi x1), (26, vi ((eValue.els e1).length : Int))] [] ?_)))))
      rw [eValue.len e1]
      refine zv [9] 2 [0,7,19,20,21,26,28] [] [(0, vl eField p1), (7, vl eValue e1), (19, vl (eL eValue) p2), (20, vi (p2.length : Int)), (21, vi x1), (26, vi (e1.length : Int)), (28, vi ((eField.els p1).length : Int))] [] ?_
      rw [eField.len p1]
      refine zg [9] 1 [0,7,19,20,21,29] (zd (m21 _ _ (zC h (fun b22 h => ?_) (fun b22 h => ?_))))
      ·refine zq fun K23 m23 => zr (zg [9] 1 [4] (zd (m23 _ _ (ze (hQ1 _ _ _ ?_)))))
       obtain rfl := zj h
       exact zf [vi 1] (.one (.rfl _ rfl))
      ·refine zs (m20 _ _ (zq fun K24 m24 => zr (zv [9] 2 [0,7,19,20,21,30,31] [] [(0, vl eField p1), (7, vl eValue e1), (19, vl (eL eValue) p2), (20, vi (p2.length : Int)), (21, vi x1), (30, vl eField p1), (31, vi ((eField.els p1).length : Int))] [] ?_)))
       rw [eField.len p1]
       refine zg [9] 1 [0,7,19,20,21,30,31,32] (zd (m24 _ _ (zb 2 (XW.rounds' BIG (x := cd Tryd.f8 [1,1,1,0,1,0,0,1,1,0,0,1,1,1,0,0]) (by kernel_rfl) fun Q2 hQ2 => ?_))))
       have hL2 : ∀ (k2 : Nat) (x2 : Int), column_CheckRows_l2 (column_CheckRows_l1 p1 p2 k1) p1 x1 e1 k2 x2 = some r → XR Tryd.prog 59 0 [] (cd Tryd.f8 [1,1,1,0,1,0,0,1,1,0,0,1,1,1,0,0]) Q2 k2 [(0, vl eField p1), (7, vl eValue e1), (19, vl (eL eValue) p2), (20, vi (p2.length : Int)), (21, vi x1), (30, vl eField p1), (31, vi (p1.length : Int)), (32, vi x2)] [] := by
        intro k2
        induction k2 with
        | zero => intro x2 h; rw [column_CheckRows_l2.eq_1] at h; cases h
        | succ k2 ih2 =>
         intro x2 h
         rw [column_CheckRows_l2.eq_2] at h
         refine zq fun K25 m25 => zr (zg [9] 1 [0,7,19,20,21,30,31,32,33] (zd (m25 _ _ (zq fun K26 m26 => zC h (fun b27 h => ?_) (fun b27 h => ?_)))))
         ·refine zs (m26 _ _ (zq fun K28 m28 => zb 3 (zq fun K29 m29 => ?_)))
          obtain ⟨e2, a30, h⟩ := zB h
          refine zr (zo [9] 6 [0,7,8,9,19,20,21,30,31,32] [(qa1299 e2)] [0 ≤ x2 ∧ x2 < ((eField.els p1).length : Int) ∧ elemsOk 6 (eField.els p1), (eField.els p1)[x2.toNat]? = some (qa1299 e2)] (⟨eField.inb a30, ((eField.get a30).trans (by rcases e2 with ⟨_, _, _, ⟨_, _, _⟩⟩; rfl)), trivial⟩) (zd (m29 _ _ (zq fun K31 m31 => zq fun K32 m32 => ?_))))
          obtain ⟨e3, a33, h⟩ := zB h
          obtain ⟨r2, c34, h⟩ := zB h
          refine zw 6 (qa1670 p1 p2 x1 e1 x2 e2 e3) ?_ ?_
          ·refine zyp 6 [(qa1467 e3)] (qa1670 p1 p2 x1 e1 x2 e2 e3) [0 ≤ x2 ∧ x2 < ((eValue.els e1).length : Int) ∧ elemsOk 5 (eValue.els e1), (eValue.els e1)[x2.toNat]? = some (qa1467 e3)] (⟨eValue.inb a33, ((eValue.get a33).trans (by cases e3; rfl)), trivial⟩) ?_
           exact zyd
          refine zl 28 [.ag (qa1367 e2), .ag (qa1518 e3)] (vi r2) [(43, vi r2), (42, .ag (qa1518 e3)), (41, .one (.pv (.rp (eValue.els e1) x2.toNat 0))), (40, vi x2), (39, vl eValue e1), (38, .ag (qa1367 e2)), (37, .one (.pt 0 0 0 3)), (0, vl eField p1), (7, vl eValue e1), (8, vi x2), (9, vq 0), (19, vl (eL eValue) p2), (20, vi (p2.length : Int)), (21, vi x1), (30, vl eField p1), (31, vi (p1.length : Int)), (32, vi x2)] (c_value_Check _ _ _ c34) ?_
          refine zg [9] 1 [0,7,8,9,10,19,20,21,30,31,32] (zd (m32 _ _ (zq fun K35 m35 => zr (zg [9] 2 [0,7,8,9,10,19,20,21,30,31,32,45] (zd (m35 _ _ ?_))))))
          refine zC h (fun b36 h => ?_) (fun b36 h => ?_)
          ·refine zq fun K37 m37 => zr (zv [9] 2 [4] [] [(4, vi r2)] [.box (qa1305 e2)] (zd (m37 _ _ (ze (hQ2 _ _ _ (hQ1 _ _ _ ?_))))))
           obtain rfl := zj h
           exact zf [vi r2] (.one (.rfl _ rfl))
          ·refine zs (m31 _ _ (zq fun K38 m38 => ?_))
           have j1 : ∀ (x3 : Bool), column_CheckRows_j1 (column_CheckRows_l2 (column_CheckRows_l1 p1 p2 k1) p1 x1 e1 k2) x2 x3 = some r → ∀ w0 w1, Sub 59 0 [] w0 w1 [(0, vl eField p1), (7, vl eValue e1), (19, vl (eL eValue) p2), (20, vi (p2.length : Int)), (21, vi x1), (30, vl eField p1), (31, vi (p1.length : Int)), (32, vi x2), (56, vb x3)] [.dead] → K38 w0 w1 := by
            intro x3 h w0 w1 hS
            unfold column_CheckRows_j1 at h
            refine m38 _ _ (XW.sub hS ?_)
            refine zC h (fun b40 h => ?_) (fun b40 h => ?_)
            ·refine zq fun K41 m41 => zr (zg [9] 1 [4] (zd (m41 _ _ (ze (hQ2 _ _ _ (hQ1 _ _ _ ?_))))))
             obtain rfl := zj h
             exact zf [vi 9] (.one (.rfl _ rfl))
            ·refine zs (m28 _ _ (zr (zg [9] 2 [0,7,19,20,21,30,31,32] (zd ?_))))
             exact XR.sub (Sub.trans (Sub.pick (fr' := (qa1666 p1 p2 x1 e1 x2)) [0,7,19,20,21,30,31,32] (by kernel_rfl)) (Sub.take (fr' := (qa1666 p1 p2 x1 e1 x2)) 0 (Nat.zero_le _) (by kernel_rfl) (by kernel_rfl))) (ih2 (i64.wrap (x2 + (1 : Int))) h)
           rcases zW h with ⟨b39, h⟩ | ⟨b39, h⟩
           ·refine zr (zo [9] 7 [0,7,9,19,20,21,30,31,32,53] [(qa1467 e3)] [0 ≤ x2 ∧ x2 < ((eValue.els e1).length : Int) ∧ elemsOk 5 (eValue.els e1), (eValue.els e1)[x2.toNat]? = some (qa1467 e3)] (⟨eValue.inb a33, ((eValue.get a33).trans (by cases e3; rfl)), trivial⟩) (zt 53 b39 (zg [9] 3 [0,7,19,20,21,30,31,32,56] (zd ?_))))
            exact j1 e2.need h _ _ (Sub.trans (Sub.pick (fr' := [(0, vl eField p1), (7, vl eValue e1), (19, vl (eL eValue) p2), (20, vi (p2.length : Int)), (21, vi x1), (30, vl eField p1), (31, vi (p1.length : Int)), (32, vi x2), (56, vb e2.need)]) [0,7,19,20,21,30,31,32,56] (by kernel_rfl)) (Sub.only (fr' := [(0, vl eField p1), (7, vl eValue e1), (19, vl (eL eValue) p2), (20, vi (p2.length : Int)), (21, vi x1), (30, vl eField p1), (31, vi (p1.length : Int)), (32, vi x2), (56, vb e2.need)]) (st' := [.dead]) [] 1 (by kernel_rfl) (by kernel_rfl) (by kernel_rfl) (by kernel_rfl)))
           ·refine zr ?_
            refine zp [9] 7 [0,7,9,19,20,21,30,31,32,53] [(qa1467 e3)] [(0, vl eField p1), (7, vl eValue e1), (9, vq 0), (19, vl (eL eValue) p2), (20, vi (p2.length : Int)), (21, vi x1), (30, vl eField p1), (31, vi (p1.length : Int)), (32, vi x2), (53, vb (e3.kind == (0 : Int)))] [.box (qa1305 e2)] [0 ≤ x2 ∧ x2 < ((eValue.els e1).length : Int) ∧ elemsOk 5 (eValue.els e1), (eValue.els e1)[x2.toNat]? = some (qa1467 e3)] (⟨eValue.inb a33, ((eValue.get a33).trans (by cases e3; rfl)), trivial⟩) ?_
            refine zt 53 b39 (zg [9] 3 [0,7,19,20,21,30,31,32,56] (zd ?_))
            exact j1 false h _ _ (Sub.trans (Sub.pick (fr' := [(0, vl eField p1), (7, vl eValue e1), (19, vl (eL eValue) p2), (20, vi (p2.length : Int)), (21, vi x1), (30, vl eField p1), (31, vi (p1.length : Int)), (32, vi x2), (56, vb false)]) [0,7,19,20,21,30,31,32,56] (by kernel_rfl)) (Sub.only (fr' := [(0, vl eField p1), (7, vl eValue e1), (19, vl (eL eValue) p2), (20, vi (p2.length : Int)), (21, vi x1), (30, vl eField p1), (31, vi (p1.length : Int)), (32, vi x2), (56, vb false)]) (st' := [.dead]) [] 1 (by kernel_rfl) (by kernel_rfl) (by kernel_rfl) (by kernel_rfl)))
         ·exact zx 2 (hQ2 _ _ _ (j2 () h _ _ (zk [0,19,20,21])))
       exact XR.sub (zk [0,7,19,20,21,30,31,32]) (hL2 BIG (0 : Int) h)
     ·exact zx 0 (hQ1 _ _ _ (j3 () h _ _ (zk [])))
   exact XR.sub (zk [0,19,20,21]) (hL1 BIG (0 : Int) h)
def slices_Clip_api_Field_api_Field_c (p1 : (List GField)) : Option (List GField) := some p1
theorem c_slices_Clip_api_Field_api_Field_c (p1 : (List GField)) (r : (List GField)) (h : slices_Clip_api_Field_api_Field_c p1 = some r) : PC Tryd.prog 50 [vl eField p1] (.one (.cl (eField.els r))) := by
 unfold slices_Clip_api_Field_api_Field_c at h
 refine zF 9 Tryd.f50 (zq fun K1 m1 => zr (zg [8] 1 [0] (zd (m1 _ _ (zq fun K2 m2 => zr ?_)))))
 refine zv [8] 3 [0,3,5] [] [(0, vl eField p1), (3, vl eField p1), (5, vi ((eField.els p1).length : Int))] [] ?_
 rw [eField.len p1]
 refine zv [8] 2 [3,5,7] [] [(3, vl eField p1), (5, vi (p1.length : Int)), (7, vi ((eField.els p1).length : Int))] [] ?_
 rw [eField.len p1]
 refine zo [8] 2 [2] [] [(0 : Int) = (0 : Int) ∧ (p1.length : Int) = ((eField.els p1).length : Int) ∧ (p1.length : Int) = ((eField.els p1).length : Int)] (⟨⟨rfl, by rw [eField.len], by rw [eField.len]⟩, trivial⟩) (zd (m2 _ _ (ze ?_)))
 obtain rfl := zj h
 exact zf [.one (.cl (eField.els p1))] (.one (.rfl _ rfl))
def slices_Clip_int_int_c (p1 : (List Int)) : Option (List Int) := some p1
theorem c_slices_Clip_int_int_c (p1 : (List Int)) (r : (List Int)) (h : slices_Clip_int_int_c p1 = some r) : PC Tryd.prog 23 [vl eI p1] (.one (.cl (eI.els r))) := by
 unfold slices_Clip_int_int_c at h
 refine zF 9 Tryd.f23 (zq fun K1 m1 => zr (zg [8] 1 [0] (zd (m1 _ _ (zq fun K2 m2 => zr ?_)))))
 refine zv [8] 3 [0,3,5] [] [(0, vl eI p1), (3, vl eI p1), (5, vi ((eI.els p1).length : Int))] [] ?_
 rw [eI.len p1]
 refine zv [8] 2 [3,5,7] [] [(3, vl eI p1), (5, vi (p1.length : Int)), (7, vi ((eI.els p1).length : Int))] [] ?_
 rw [eI.len p1]
 refine zo [8] 2 [2] [] [(0 : Int) = (0 : Int) ∧ (p1.length : Int) = ((eI.els p1).length : Int) ∧ (p1.length : Int) = ((eI.els p1).length : Int)] (⟨⟨rfl, by rw [eI.len], by rw [eI.len]⟩, trivial⟩) (zd (m2 _ _ (ze ?_)))
 obtain rfl := zj h
 exact zf [.one (.cl (eI.els p1))] (.one (.rfl _ rfl))
def column_paths_1_j2 (rec1 : List GPath → Int → Option (Unit × (List GPath))) (x1 : Int) (l2 : List GPath) : Option (Unit × (List GPath)) := rec1 l2 (i64.wrap (x1 + (1 : Int)))
def column_paths_1_j1 (q_column_paths_1 : (List GField) → GPath → (List GPath) → Option (Unit × (List GPath))) (rec1 : List GPath → Int → Option (Unit × (List GPath))) (p2 : GPath) (l1 : List GPath) (x1 : Int) (e1 : GField) (r1 : (List GField)) (r2 : (List Int)) (r3 : (List Int)) (z1 : Int) : Option (Unit × (List GPath)) := ift (e1.type.kind == (6 : Int)) (bnd (q_column_paths_1 e1.type.fields (GPath.mk (GLeaf.mk (r3 ++ [e1.id]) p2.leaf.type (i64.wrap (z1 + (1 : Int))) (i64.wrap (p2.leaf.rep + (1 : Int)))) (r1 ++ [e1]) (r2 ++ [x1])) l1) fun r4 => column_paths_1_j2 rec1 x1 r4.2) (ift (e1.type.kind == (7 : Int)) (bnd (q_column_paths_1 e1.type.fields (GPath.mk (GLeaf.mk (r3 ++ [e1.id]) p2.leaf.type z1 p2.leaf.rep) (r1 ++ [e1]) (r2 ++ [x1])) l1) fun r5 => column_paths_1_j2 rec1 x1 r5.2) (grd (l1.length + 1 ≤ 4294967296) <| column_paths_1_j2 rec1 x1 (l1 ++ [(GPath.mk (GLeaf.mk (r3 ++ [e1.id]) e1.type z1 p2.leaf.rep) (r1 ++ [e1]) (r2 ++ [x1]))])))
def column_paths_1_l1 (q_column_paths_1 : (List GField) → GPath → (List GPath) → Option (Unit × (List GPath))) (p1 : (List GField)) (p2 : GPath) : Nat → List GPath → Int → Option (Unit × (List GPath))
 | 0, _, _ => none
 | k1 + 1, l1, x1 => ift (decide (x1 < (p1.length : Int))) (bnd (at? p1 x1) fun e1 => bnd (slices_Clip_api_Field_api_Field_c p2.fields) fun r1 => grd (r1.length + 1 ≤ 4294967296) <| bnd (slices_Clip_int_int_c p2.pos) fun r2 => grd (r2.length + 1 ≤ 4294967296) <| bnd (slices_Clip_int_int_c p2.leaf.path) fun r3 => grd (r3.length + 1 ≤ 4294967296) <| ift (!e1.need) (column_paths_1_j1 q_column_paths_1 (column_paths_1_l1 q_column_paths_1 p1 p2 k1) p2 l1 x1 e1 r1 r2 r3 (i64.wrap (p2.leaf.df + (1 : Int)))) (column_paths_1_j1 q_column_paths_1 (column_paths_1_l1 q_column_paths_1 p1 p2 k1) p2 l1 x1 e1 r1 r2 r3 p2.leaf.df)) (some ((), l1))
def column_paths_1 : Nat → (List GField) → GPath → (List GPath) → Option (Unit × (List GPath))
 | 0, _, _, _ => none
 | k0 + 1, p1, p2, p3 => column_paths_1_l1 (column_paths_1 k0) p1 p2 BIG p3 (0 : Int)
abbrev qa1674 : List CV := [.fn 49 [.pt 0 0 0 0, .pt 1 0 0 0]]
abbrev qa1677 (p2 : GPath) : List PV := [.ro (eI.els p2.leaf.path), pi p2.leaf.type.kind, pi p2.leaf.type.scale, .ro (eField.els p2.leaf.type.fields), pi p2.leaf.df, pi p2.leaf.rep, .ro (eField.els p2.fields), .ro (eI.els p2.pos)]
abbrev qa1678 (l1 : List GPath) : List CV := [.sl 2 8 0 l1.length]
abbrev qa1682 (p2 : GPath) (x1 : Int) (e1 : GField) (r1 : (List GField)) (r2 : (List Int)) : List CV := [cl eI p2.leaf.path, ci p2.leaf.type.kind, ci p2.leaf.type.scale, cl eField p2.leaf.type.fields, ci p2.leaf.df, ci p2.leaf.rep, .sl 4 6 0 ((r1 ++ [e1]).length), .sl 5 1 0 ((r2 ++ [x1]).length)]
abbrev qa1683 (p2 : GPath) : List CV := [cl eI p2.leaf.path, ci p2.leaf.type.kind, ci p2.leaf.type.scale, cl eField p2.leaf.type.fields, ci p2.leaf.df, ci p2.leaf.rep]
abbrev qa1684 : List CV := [.pv (.s (.slice none 0 0)), ci 0, ci 0, .pv (.s (.slice none 0 0)), ci 0, ci 0, .pv (.s (.slice none 0 0)), .pv (.s (.slice none 0 0))]
abbrev qa1685 (p2 : GPath) (x1 : Int) (e1 : GField) (r1 : (List GField)) (r2 : (List Int)) (r3 : (List Int)) (z1 : Int) : List CV := [.sl 7 1 0 ((r3 ++ [e1.id]).length), ci p2.leaf.type.kind, ci p2.leaf.type.scale, cl eField p2.leaf.type.fields, ci z1, ci p2.leaf.rep, .sl 4 6 0 ((r1 ++ [e1]).length), .sl 5 1 0 ((r2 ++ [x1]).length)]
abbrev qa1687 (p2 : GPath) (x1 : Int) (e1 : GField) (r1 : (List GField)) (r2 : (List Int)) (r3 : (List Int)) (z1 : Int) : List CV := [.sl 7 1 0 ((r3 ++ [e1.id]).length), ci p2.leaf.type.kind, ci p2.leaf.type.scale, cl eField p2.leaf.type.fields, ci (i64.wrap (z1 + (1 : Int))), ci (i64.wrap (p2.leaf.rep + (1 : Int))), .sl 4 6 0 ((r1 ++ [e1]).length), .sl 5 1 0 ((r2 ++ [x1]).length)]
abbrev qa1688 (p2 : GPath) (x1 : Int) (e1 : GField) (r1 : (List GField)) (r2 : (List Int)) (r3 : (List Int)) (z1 : Int) : List CV := [.sl 8 1 0 ((r3 ++ [e1.id]).length), ci p2.leaf.type.kind, ci p2.leaf.type.scale, cl eField p2.leaf.type.fields, ci (i64.wrap (z1 + (1 : Int))), ci (i64.wrap (p2.leaf.rep + (1 : Int))), .sl 4 6 0 ((r1 ++ [e1]).length), .sl 5 1 0 ((r2 ++ [x1]).length)]
abbrev qa1690 (p2 : GPath) (x1 : Int) (e1 : GField) (r1 : (List GField)) (r2 : (List Int)) (r3 : (List Int)) (z1 : Int) : List CV := [.sl 8 1 0 ((r3 ++ [e1.id]).length), ci p2.leaf.type.kind, ci p2.leaf.type.scale, cl eField p2.leaf.type.fields, ci (i64.wrap (z1 + (1 : Int))), ci (i64.wrap (p2.leaf.rep + (1 : Int))), .sl 9 6 0 ((r1 ++ [e1]).length), .sl 5 1 0 ((r2 ++ [x1]).length)]
abbrev qa1692 (p2 : GPath) (x1 : Int) (e1 : GField) (r1 : (List GField)) (r2 : (List Int)) (r3 : (List Int)) (z1 : Int) : List CV := [.sl 8 1 0 ((r3 ++ [e1.id]).length), ci p2.leaf.type.kind, ci p2.leaf.type.scale, cl eField p2.leaf.type.fields, ci (i64.wrap (z1 + (1 : Int))), ci (i64.wrap (p2.leaf.rep + (1 : Int))), .sl 9 6 0 ((r1 ++ [e1]).length), .sl 10 1 0 ((r2 ++ [x1]).length)]
abbrev qa1693 (p2 : GPath) (x1 : Int) (e1 : GField) (r1 : (List GField)) (r2 : (List Int)) (r3 : (List Int)) (z1 : Int) : List CV := [cl eI (r3 ++ [e1.id]), ci p2.leaf.type.kind, ci p2.leaf.type.scale, cl eField p2.leaf.type.fields, ci (i64.wrap (z1 + (1 : Int))), ci (i64.wrap (p2.leaf.rep + (1 : Int))), cl eField (r1 ++ [e1]), cl eI (r2 ++ [x1])]
abbrev qa1700 (p2 : GPath) (x1 : Int) (e1 : GField) (r1 : (List GField)) (r2 : (List Int)) (r3 : (List Int)) (z1 : Int) : List CV := [cl eI (r3 ++ [e1.id]), ci p2.leaf.type.kind, ci p2.leaf.type.scale, cl eField p2.leaf.type.fields, ci z1, ci p2.leaf.rep, cl eField (r1 ++ [e1]), cl eI (r2 ++ [x1])]
abbrev qa1702 (p2 : GPath) (x1 : Int) (e1 : GField) (r1 : (List GField)) (r2 : (List Int)) (r3 : (List Int)) (z1 : Int) : List CV := [.sl 7 1 0 ((r3 ++ [e1.id]).length), ci e1.type.kind, ci e1.type.scale, cl eField e1.type.fields, ci z1, ci p2.leaf.rep, .sl 4 6 0 ((r1 ++ [e1]).length), .sl 5 1 0 ((r2 ++ [x1]).length)]
abbrev qa1707 (p2 : GPath) (x1 : Int) (e1 : GField) (r1 : (List GField)) (r2 : (List Int)) (r3 : (List Int)) (z1 : Int) : List CV := [.sl 8 1 0 ((r3 ++ [e1.id]).length), ci e1.type.kind, ci e1.type.scale, cl eField e1.type.fields, ci z1, ci p2.leaf.rep, .sl 9 6 0 ((r1 ++ [e1]).length), .sl 10 1 0 ((r2 ++ [x1]).length)]
abbrev qa1713 (p1 : (List GField)) (p2 : GPath) (x1 : Int) : Fr := [(2, vq 0), (3, vq 1), (5, vR (qa1677 p2)), (9, vl eField p1), (10, vi (p1.length : Int)), (11, vi x1)]
abbrev qa1714 (l1 : List GPath) : St := [.box qa1674, .box (qa1678 l1), .arr 8 (ePath.els l1)]
abbrev qa1718 (p1 : (List GField)) (p2 : GPath) (x1 : Int) (e1 : GField) (r1 : (List GField)) (r2 : (List Int)) : Fr := [(8, vq 6), (30, .ag (qa1682 p2 x1 e1 r1 r2)), (29, .one (.sl 5 1 0 ((r2 ++ [x1]).length))), (28, vl eI [x1]), (27, vi x1), (26, .one (.cl (eI.els r2))), (25, vl eI p2.pos), (24, .one (.pv (.rp [(qa1677 p2)] 0 7))), (23, .one (.sl 4 6 0 ((r1 ++ [e1]).length))), (22, vl eField [e1]), (21, .ag (qa1305 e1)), (20, .one (.cl (eField.els r1))), (19, vl eField p2.fields), (18, .one (.pv (.rp [(qa1677 p2)] 0 6))), (17, .ag (qa1683 p2)), (16, vR (qa1677 p2)), (2, vq 0), (3, vq 1), (5, vR (qa1677 p2)), (6, vi x1), (7, vq 3), (9, vl eField p1), (10, vi (p1.length : Int)), (11, vi x1)]
abbrev qa1728 (p1 : (List GField)) (p2 : GPath) (x1 : Int) : Fr := [(2, vq 0), (3, vq 1), (5, vR (qa1677 p2)), (7, vq 3), (8, vq 6), (9, vl eField p1), (10, vi (p1.length : Int)), (11, vi x1)]
theorem c_column_paths_1 : ∀ (k0 : Nat) (p1 : (List GField)) (p2 : GPath) (p3 : (List GPath)) (r : (Unit × (List GPath))), column_paths_1 k0 p1 p2 p3 = some r → MX Tryd.prog 49 [vl eField p1, .ag [cl eI p2.leaf.path, ci p2.leaf.type.kind, ci p2.leaf.type.scale, cl eField p2.leaf.type.fields, ci p2.leaf.df, ci p2.leaf.rep, cl eField p2.fields, cl eI p2.pos], vq 0, vq 1] [.box qa1674, .box [.sl 2 8 0 p3.length], .arr 8 (ePath.els p3)] [2] (.tp []) [.box qa1674, .box [.sl 2 8 0 r.2.length], .arr 8 (ePath.els r.2)]
 | 0, _, _, _, r, h => by rw [column_paths_1.eq_1] at h; cases h
 | k0 + 1, p1, p2, p3, r, h => by
  rw [column_paths_1.eq_2] at h
  refine MX.of 3 3 rfl (n := 90) (fn := Tryd.f49) (c := cd Tryd.f49 []) (by kernel_rfl) (by kernel_rfl) (by kernel_rfl) (Nat.le_of_ble_eq_true rfl) rfl (zq fun K1 m1 => zr (zg [7, 8] 1 [0,2,3,5] (zd (m1 _ _ (zq fun K2 m2 => zr ?_)))))
  refine zv [7, 8] 2 [2,3,5,9,10] [] [(2, vq 0), (3, vq 1), (5, vR [.ro (eI.els p2.leaf.path), pi p2.leaf.type.kind, pi p2.leaf.type.scale, .ro (eField.els p2.leaf.type.fields), pi p2.leaf.df, pi p2.leaf.rep, .ro (eField.els p2.fields), .ro (eI.els p2.pos)]), (9, vl eField p1), (10, vi ((eField.els p1).length : Int))] [.box [.fn 49 [.pt 0 0 0 0, .pt 1 0 0 0]], .box [.sl 2 8 0 p3.length], .arr 8 (ePath.els p3)] ?_
  rw [eField.len p1]
  refine zg [7, 8] 1 [2,3,5,9,10,11] (zd (m2 _ _ (zb 0 (XW.rounds' BIG (x := cd Tryd.f49 [1,1,0,0]) (by kernel_rfl) fun Q1 hQ1 => ?_))))
  have hL1 : ∀ (k1 : Nat) (l1 : List GPath) (x1 : Int), column_paths_1_l1 (column_paths_1 k0) p1 p2 k1 l1 x1 = some r → XR Tryd.prog 90 3 [2] (cd Tryd.f49 [1,1,0,0]) Q1 k1 (qa1713 p1 p2 x1) (qa1714 l1) := by
   intro k1
   induction k1 with
   | zero => intro l1 x1 h; rw [column_paths_1_l1.eq_1] at h; cases h
   | succ k1 ih1 =>
    intro l1 x1 h
    rw [column_paths_1_l1.eq_2] at h
    refine zq fun K3 m3 => zr (zg [7, 8] 1 [2,3,5,9,10,11,12] (zd (m3 _ _ (zq fun K4 m4 => zC h (fun b5 h => ?_) (fun b5 h => ?_)))))
    ·refine zs (m4 _ _ (zq fun K6 m6 => ?_))
     have j2 : ∀ (l2 : List GPath), column_paths_1_j2 (column_paths_1_l1 (column_paths_1 k0) p1 p2 k1) x1 l2 = some r → ∀ w0 w1, Sub 90 3 [2] w0 w1 (qa1713 p1 p2 x1) [.box qa1674, .box [.sl 2 8 0 l2.length], .arr 8 (ePath.els l2)] → K6 w0 w1 := by
      intro l2 h w0 w1 hS
      unfold column_paths_1_j2 at h
      refine m6 _ _ (XW.sub hS ?_)
      exact zr (zg [7, 8] 2 [2,3,5,9,10,11] (zd (XR.sub (zk [2,3,5,9,10,11]) (ih1 l2 (i64.wrap (x1 + (1 : Int))) h))))
     refine zb 1 (zq fun K7 m7 => ?_)
     obtain ⟨e1, a8, h⟩ := zB h
     refine zr ?_
     refine zp [7, 8] 6 [2,3,5,6,7,9,10,11] [(qa1299 e1)] [(2, vq 0), (3, vq 1), (5, vR (qa1677 p2)), (6, vi x1), (7, vq 3), (9, vl eField p1), (10, vi (p1.length : Int)), (11, vi x1)] [.box qa1674, .box (qa1678 l1), .arr 8 (ePath.els l1), .box (qa1305 e1)] [0 ≤ x1 ∧ x1 < ((eField.els p1).length : Int) ∧ elemsOk 6 (eField.els p1), (eField.els p1)[x1.toNat]? = some (qa1299 e1)] (⟨eField.inb a8, ((eField.get a8).trans (by rcases e1 with ⟨_, _, _, ⟨_, _, _⟩⟩; rfl)), trivial⟩) ?_
     refine zd (m7 _ _ (zq fun K9 m9 => ?_))
     obtain ⟨r1, c10, h⟩ := zB h
     obtain ⟨g11, h⟩ := zG h
     obtain ⟨r2, c12, h⟩ := zB h
     obtain ⟨g13, h⟩ := zG h
     refine XW.sub (Sub.dead 3) ?_
     refine XW.drwG 16 [4, 5, 6, 7] [([], []), ([], []), ([], []), ([], []), ([], []), ([3], []), ([], []), ([4, 1004], [4, 1004]), ([], []), ([], []), ([], []), ([], []), ([], []), ([5, 1005], [5, 1005]), ([1004, 1005], []), ([6, 1006], [6, 1006])] (qa1718 p1 p2 x1 e1 r1 r2) [.box qa1674, .box (qa1678 l1), .arr 8 (ePath.els l1), .box (qa1305 e1), .arr 6 (eField.els (r1 ++ [e1])), .arr 1 (eI.els (r2 ++ [x1])), .box qa1684] (by kernel_rfl) (by kernel_rfl) ?_ ?_
     ·refine zgv 4 [(qa1677 p2), (qa1677 p2)] [(19, vl eField p2.fields), (18, .one (.pv (.rp [(qa1677 p2)] 0 6))), (17, .ag (qa1683 p2)), (16, vR (qa1677 p2)), (2, vq 0), (3, vq 1), (5, vR (qa1677 p2)), (6, vi x1), (7, vq 3), (9, vl eField p1), (10, vi (p1.length : Int)), (11, vi x1)] ?_
      refine GY.cal 50 [vl eField p2.fields] (.one (.cl (eField.els r1))) [(20, .one (.cl (eField.els r1))), (19, vl eField p2.fields), (18, .one (.pv (.rp [(qa1677 p2)] 0 6))), (17, .ag (qa1683 p2)), (16, vR (qa1677 p2)), (2, vq 0), (3, vq 1), (5, vR (qa1677 p2)), (6, vi x1), (7, vq 3), (9, vl eField p1), (10, vi (p1.length : Int)), (11, vi x1)] [] (by kernel_rfl) (by kernel_rfl) (c_slices_Clip_api_Field_api_Field_c _ _ c10) rfl rfl (by kernel_rfl) (by kernel_rfl) ?_
      refine zgv 2 [] [(22, .one (.pv (.ro [[pi e1.id, .s (.string e1.name), .s (.bool e1.need), pi e1.type.kind, pi e1.type.scale, .ro (eField.els e1.type.fields)]]))), (21, .ag [ci e1.id, cst e1.name, cb e1.need, ci e1.type.kind, ci e1.type.scale, cl eField e1.type.fields]), (20, .one (.cl (eField.els r1))), (19, vl eField p2.fields), (18, .one (.pv (.rp [[.ro (eI.els p2.leaf.path), pi p2.leaf.type.kind, pi p2.leaf.type.scale, .ro (eField.els p2.leaf.type.fields), pi p2.leaf.df, pi p2.leaf.rep, .ro (eField.els p2.fields), .ro (eI.els p2.pos)]] 0 6))), (17, .ag [cl eI p2.leaf.path, ci p2.leaf.type.kind, ci p2.leaf.type.scale, cl eField p2.leaf.type.fields, ci p2.leaf.df, ci p2.leaf.rep]), (16, vR [.ro (eI.els p2.leaf.path), pi p2.leaf.type.kind, pi p2.leaf.type.scale, .ro (eField.els p2.leaf.type.fields), pi p2.leaf.df, pi p2.leaf.rep, .ro (eField.els p2.fields), .ro (eI.els p2.pos)]), (2, vq 0), (3, vq 1), (5, vR [.ro (eI.els p2.leaf.path), pi p2.leaf.type.kind, pi p2.leaf.type.scale, .ro (eField.els p2.leaf.type.fields), pi p2.leaf.df, pi p2.leaf.rep, .ro (eField.els p2.fields), .ro (eI.els p2.pos)]), (6, vi x1), (7, vq 3), (9, vl eField p1), (10, vi (p1.length : Int)), (11, vi x1)] ?_
      rw [show ([[pi e1.id, .s (.string e1.name), .s (.bool e1.need), pi e1.type.kind, pi e1.type.scale, .ro (eField.els e1.type.fields)]] : List (List PV)) = eField.els [e1] from by rcases e1 with ⟨_, _, _, ⟨_, _, _⟩⟩; rfl]
      refine GY.new false 4 [] [(23, .one (.sl 4 6 0 ((eField.els r1).length + (eField.els [e1]).length))), (22, vl eField [e1]), (21, .ag [ci e1.id, cst e1.name, cb e1.need, ci e1.type.kind, ci e1.type.scale, cl eField e1.type.fields]), (20, .one (.cl (eField.els r1))), (19, vl eField p2.fields), (18, .one (.pv (.rp [[.ro (eI.els p2.leaf.path), pi p2.leaf.type.kind, pi p2.leaf.type.scale, .ro (eField.els p2.leaf.type.fields), pi p2.leaf.df, pi p2.leaf.rep, .ro (eField.els p2.fields), .ro (eI.els p2.pos)]] 0 6))), (17, .ag [cl eI p2.leaf.path, ci p2.leaf.type.kind, ci p2.leaf.type.scale, cl eField p2.leaf.type.fields, ci p2.leaf.df, ci p2.leaf.rep]), (16, vR [.ro (eI.els p2.leaf.path), pi p2.leaf.type.kind, pi p2.leaf.type.scale, .ro (eField.els p2.leaf.type.fields), pi p2.leaf.df, pi p2.leaf.rep, .ro (eField.els p2.fields), .ro (eI.els p2.pos)]), (2, vq 0), (3, vq 1), (5, vR [.ro (eI.els p2.leaf.path), pi p2.leaf.type.kind, pi p2.leaf.type.scale, .ro (eField.els p2.leaf.type.fields), pi p2.leaf.df, pi p2.leaf.rep, .ro (eField.els p2.fields), .ro (eI.els p2.pos)]), (6, vi x1), (7, vq 3), (9, vl eField p1), (10, vi (p1.length : Int)), (11, vi x1)] [4] [.box [.fn 49 [.pt 0 0 0 0, .pt 1 0 0 0]], .box [.sl 2 8 0 l1.length], .arr 8 (ePath.els l1), .box [ci e1.id, cst e1.name, cb e1.need, ci e1.type.kind, ci e1.type.scale, cl eField e1.type.fields], .arr 6 (eField.els r1 ++ eField.els [e1]), .dead, .dead] [elemsOk 6 (eField.els r1), elemsOk 6 (eField.els [e1]), 0 < (eField.els [e1]).length, (eField.els r1).length + (eField.els [e1]).length ≤ 4294967296] (by kernel_rfl) (by kernel_rfl) (⟨eField.ok _, eField.ok _, (by rw [eField.len]; exact Nat.zero_lt_succ _), (by rw [eField.len]; exact g11), trivial⟩) (by kernel_rfl) ?_
      rw [show (eField.els r1).length + (eField.els [e1]).length = (r1 ++ [e1]).length from by rw [eField.len]; exact eField.lapp _ _]
      rw [show eField.els r1 ++ eField.els [e1] = eField.els (r1 ++ [e1]) from eField.app2 _ _]
      refine zgv 2 [(qa1677 p2)] [(25, vl eI p2.pos), (24, .one (.pv (.rp [(qa1677 p2)] 0 7))), (23, .one (.sl 4 6 0 ((r1 ++ [e1]).length))), (22, vl eField [e1]), (21, .ag (qa1305 e1)), (20, .one (.cl (eField.els r1))), (19, vl eField p2.fields), (18, .one (.pv (.rp [(qa1677 p2)] 0 6))), (17, .ag (qa1683 p2)), (16, vR (qa1677 p2)), (2, vq 0), (3, vq 1), (5, vR (qa1677 p2)), (6, vi x1), (7, vq 3), (9, vl eField p1), (10, vi (p1.length : Int)), (11, vi x1)] ?_
      refine GY.cal 23 [vl eI p2.pos] (.one (.cl (eI.els r2))) [(26, .one (.cl (eI.els r2))), (25, vl eI p2.pos), (24, .one (.pv (.rp [(qa1677 p2)] 0 7))), (23, .one (.sl 4 6 0 ((r1 ++ [e1]).length))), (22, vl eField [e1]), (21, .ag (qa1305 e1)), (20, .one (.cl (eField.els r1))), (19, vl eField p2.fields), (18, .one (.pv (.rp [(qa1677 p2)] 0 6))), (17, .ag (qa1683 p2)), (16, vR (qa1677 p2)), (2, vq 0), (3, vq 1), (5, vR (qa1677 p2)), (6, vi x1), (7, vq 3), (9, vl eField p1), (10, vi (p1.length : Int)), (11, vi x1)] [] (by kernel_rfl) (by kernel_rfl) (c_slices_Clip_int_int_c _ _ c12) rfl rfl (by kernel_rfl) (by kernel_rfl) ?_
      refine zgv 2 [] [(28, vl eI [x1]), (27, vi x1), (26, .one (.cl (eI.els r2))), (25, vl eI p2.pos), (24, .one (.pv (.rp [(qa1677 p2)] 0 7))), (23, .one (.sl 4 6 0 ((r1 ++ [e1]).length))), (22, vl eField [e1]), (21, .ag (qa1305 e1)), (20, .one (.cl (eField.els r1))), (19, vl eField p2.fields), (18, .one (.pv (.rp [(qa1677 p2)] 0 6))), (17, .ag (qa1683 p2)), (16, vR (qa1677 p2)), (2, vq 0), (3, vq 1), (5, vR (qa1677 p2)), (6, vi x1), (7, vq 3), (9, vl eField p1), (10, vi (p1.length : Int)), (11, vi x1)] ?_
      refine GY.new false 5 [] [(29, .one (.sl 5 1 0 ((eI.els r2).length + (eI.els [x1]).length))), (28, vl eI [x1]), (27, vi x1), (26, .one (.cl (eI.els r2))), (25, vl eI p2.pos), (24, .one (.pv (.rp [[.ro (eI.els p2.leaf.path), pi p2.leaf.type.kind, pi p2.leaf.type.scale, .ro (eField.els p2.leaf.type.fields), pi p2.leaf.df, pi p2.leaf.rep, .ro (eField.els p2.fields), .ro (eI.els p2.pos)]] 0 7))), (23, .one (.sl 4 6 0 ((r1 ++ [e1]).length))), (22, vl eField [e1]), (21, .ag [ci e1.id, cst e1.name, cb e1.need, ci e1.type.kind, ci e1.type.scale, cl eField e1.type.fields]), (20, .one (.cl (eField.els r1))), (19, vl eField p2.fields), (18, .one (.pv (.rp [[.ro (eI.els p2.leaf.path), pi p2.leaf.type.kind, pi p2.leaf.type.scale, .ro (eField.els p2.leaf.type.fields), pi p2.leaf.df, pi p2.leaf.rep, .ro (eField.els p2.fields), .ro (eI.els p2.pos)]] 0 6))), (17, .ag [cl eI p2.leaf.path, ci p2.leaf.type.kind, ci p2.leaf.type.scale, cl eField p2.leaf.type.fields, ci p2.leaf.df, ci p2.leaf.rep]), (16, vR [.ro (eI.els p2.leaf.path), pi p2.leaf.type.kind, pi p2.leaf.type.scale, .ro (eField.els p2.leaf.type.fields), pi p2.leaf.df, pi p2.leaf.rep, .ro (eField.els p2.fields), .ro (eI.els p2.pos)]), (2, vq 0), (3, vq 1), (5, vR [.ro (eI.els p2.leaf.path), pi p2.leaf.type.kind, pi p2.leaf.type.scale, .ro (eField.els p2.leaf.type.fields), pi p2.leaf.df, pi p2.leaf.rep, .ro (eField.els p2.fields), .ro (eI.els p2.pos)]), (6, vi x1), (7, vq 3), (9, vl eField p1), (10, vi (p1.length : Int)), (11, vi x1)] [5] [.box [.fn 49 [.pt 0 0 0 0, .pt 1 0 0 0]], .box [.sl 2 8 0 l1.length], .arr 8 (ePath.els l1), .box [ci e1.id, cst e1.name, cb e1.need, ci e1.type.kind, ci e1.type.scale, cl eField e1.type.fields], .arr 6 (eField.els (r1 ++ [e1])), .arr 1 (eI.els r2 ++ eI.els [x1]), .dead] [elemsOk 1 (eI.els r2), elemsOk 1 (eI.els [x1]), 0 < (eI.els [x1]).length, (eI.els r2).length + (eI.els [x1]).length ≤ 4294967296] (by kernel_rfl) (by kernel_rfl) (⟨eI.ok _, eI.ok _, (by rw [eI.len]; exact Nat.zero_lt_succ _), (by rw [eI.len]; exact g13), trivial⟩) (by kernel_rfl) ?_
      rw [show (eI.els r2).length + (eI.els [x1]).length = (r2 ++ [x1]).length from by rw [eI.len]; exact eI.lapp _ _]
      rw [show eI.els r2 ++ eI.els [x1] = eI.els (r2 ++ [x1]) from eI.app2 _ _]
      refine zgv 1 [] [(30, .ag (qa1682 p2 x1 e1 r1 r2)), (29, .one (.sl 5 1 0 ((r2 ++ [x1]).length))), (28, vl eI [x1]), (27, vi x1), (26, .one (.cl (eI.els r2))), (25, vl eI p2.pos), (24, .one (.pv (.rp [(qa1677 p2)] 0 7))), (23, .one (.sl 4 6 0 ((r1 ++ [e1]).length))), (22, vl eField [e1]), (21, .ag (qa1305 e1)), (20, .one (.cl (eField.els r1))), (19, vl eField p2.fields), (18, .one (.pv (.rp [(qa1677 p2)] 0 6))), (17, .ag (qa1683 p2)), (16, vR (qa1677 p2)), (2, vq 0), (3, vq 1), (5, vR (qa1677 p2)), (6, vi x1), (7, vq 3), (9, vl eField p1), (10, vi (p1.length : Int)), (11, vi x1)] ?_
      refine GY.new true 6 [] (qa1718 p1 p2 x1 e1 r1 r2) [6] [.box qa1674, .box (qa1678 l1), .arr 8 (ePath.els l1), .box (qa1305 e1), .arr 6 (eField.els (r1 ++ [e1])), .arr 1 (eI.els (r2 ++ [x1])), .box qa1684] [] (by kernel_rfl) (by kernel_rfl) trivial (by kernel_rfl) ?_
      exact GY.done (by kernel_rfl) (by kernel_rfl)
     refine zg [7, 8] 1 [2,3,5,7,8,9,10,11] (zd (m9 _ _ (zq fun K14 m14 => ?_)))
     obtain ⟨r3, c15, h⟩ := zB h
     obtain ⟨g16, h⟩ := zG h
     refine zw 7 [(37, vl eI [e1.id]), (36, vi e1.id), (35, vq 3), (34, .one (.cl (eI.els r3))), (33, vl eI p2.leaf.path), (32, vq 6), (31, vq 6), (2, vq 0), (3, vq 1), (5, vR (qa1677 p2)), (7, vq 3), (8, vq 6), (9, vl eField p1), (10, vi (p1.length : Int)), (11, vi x1)] ?_ ?_
     ·refine zyg 3 ?_
      refine DX.cal 23 [vl eI p2.leaf.path] (.one (.cl (eI.els r3))) [(34, .one (.cl (eI.els r3))), (33, vl eI p2.leaf.path), (32, vq 6), (31, vq 6), (2, vq 0), (3, vq 1), (5, vR (qa1677 p2)), (7, vq 3), (8, vq 6), (9, vl eField p1), (10, vi (p1.length : Int)), (11, vi x1)] (by kernel_rfl) (c_slices_Clip_int_int_c _ _ c15) rfl rfl (by kernel_rfl) ?_
      exact zyg 3 zyd
     refine zp [7, 8] 1 [2,3,5,7,8,9,10,11,38] [] [(2, vq 0), (3, vq 1), (5, vR [.ro (eI.els p2.leaf.path), pi p2.leaf.type.kind, pi p2.leaf.type.scale, .ro (eField.els p2.leaf.type.fields), pi p2.leaf.df, pi p2.leaf.rep, .ro (eField.els p2.fields), .ro (eI.els p2.pos)]), (7, vq 3), (8, vq 6), (9, vl eField p1), (10, vi (p1.length : Int)), (11, vi x1), (38, .one (.sl 7 1 0 ((eI.els r3).length + (eI.els [e1.id]).length)))] [.box [.fn 49 [.pt 0 0 0 0, .pt 1 0 0 0]], .box [.sl 2 8 0 l1.length], .arr 8 (ePath.els l1), .box [ci e1.id, cst e1.name, cb e1.need, ci e1.type.kind, ci e1.type.scale, cl eField e1.type.fields], .arr 6 (eField.els (r1 ++ [e1])), .arr 1 (eI.els (r2 ++ [x1])), .box [cl eI p2.leaf.path, ci p2.leaf.type.kind, ci p2.leaf.type.scale, cl eField p2.leaf.type.fields, ci p2.leaf.df, ci p2.leaf.rep, .sl 4 6 0 ((r1 ++ [e1]).length), .sl 5 1 0 ((r2 ++ [x1]).length)], .arr 1 (eI.els r3 ++ eI.els [e1.id])] [elemsOk 1 (eI.els r3), elemsOk 1 (eI.els [e1.id]), 0 < (eI.els [e1.id]).length, (eI.els r3).length + (eI.els [e1.id]).length ≤ 4294967296] (⟨eI.ok _, eI.ok _, (by rw [eI.len]; exact Nat.zero_lt_succ _), (by rw [eI.len]; exact g16), trivial⟩) ?_
     rw [show (eI.els r3).length + (eI.els [e1.id]).length = (r3 ++ [e1.id]).length from by rw [eI.len]; exact eI.lapp _ _]
     rw [show eI.els r3 ++ eI.els [e1.id] = eI.els (r3 ++ [e1.id]) from eI.app2 _ _]
     refine zg [7, 8] 3 [2,3,5,7,8,9,10,11] (zd (m14 _ _ (zq fun K17 m17 => ?_)))
     have j1 : ∀ (z1 : Int), column_paths_1_j1 (column_paths_1 k0) (column_paths_1_l1 (column_paths_1 k0) p1 p2 k1) p2 l1 x1 e1 r1 r2 r3 z1 = some r → ∀ w0 w1, Sub 90 3 [2] w0 w1 (qa1728 p1 p2 x1) [.box qa1674, .box (qa1678 l1), .arr 8 (ePath.els l1), .box (qa1305 e1), .arr 6 (eField.els (r1 ++ [e1])), .arr 1 (eI.els (r2 ++ [x1])), .box (qa1685 p2 x1 e1 r1 r2 r3 z1), .arr 1 (eI.els (r3 ++ [e1.id]))] → K17 w0 w1 := by
      intro z1 h w0 w1 hS
      unfold column_paths_1_j1 at h
      refine m17 _ _ (XW.sub hS ?_)
      refine zq fun K20 m20 => zr (zg [7, 8] 3 [2,3,5,7,8,9,10,11,52] (zd (m20 _ _ (zb 2 (zq fun K21 m21 => zr ?_)))))
      refine zg [7, 8] 2 [2,3,5,7,8,9,10,11,52,61] (zd (m21 _ _ (zC h (fun b22 h => ?_) (fun b22 h => ?_))))
      ·refine zq fun K23 m23 => zr ?_
       refine zv [7, 8] 7 [2,3,5,7,8,9,10,11] [] (qa1728 p1 p2 x1) [.box qa1674, .box (qa1678 l1), .arr 8 (ePath.els l1), .box (qa1305 e1), .arr 6 (eField.els (r1 ++ [e1])), .arr 1 (eI.els (r2 ++ [x1])), .box [.sl 7 1 0 ((r3 ++ [e1.id]).length), ci p2.leaf.type.kind, ci p2.leaf.type.scale, cl eField p2.leaf.type.fields, ci (i64.wrap (z1 + (1 : Int))), ci p2.leaf.rep, .sl 4 6 0 ((r1 ++ [e1]).length), .sl 5 1 0 ((r2 ++ [x1]).length)], .arr 1 (eI.els (r3 ++ [e1.id]))] ?_
       refine zd (m23 _ _ (zq fun K24 m24 => zr (zg [7, 8] 7 [2,3,5,7,8,9,10,11] (zd (m24 _ _ ?_)))))
       obtain ⟨r4, c25, h⟩ := zB h
       refine zr ?_
       refine zv [7, 8] 5 [2,3,5,9,10,11,75,78,79] [] [(2, vq 0), (3, vq 1), (5, vR (qa1677 p2)), (9, vl eField p1), (10, vi (p1.length : Int)), (11, vi x1), (75, .one (.fn 49 [.pt 0 0 0 0, .pt 1 0 0 0])), (78, vl eField e1.type.fields), (79, .ag (qa1687 p2 x1 e1 r1 r2 r3 z1))] [.box qa1674, .box (qa1678 l1), .arr 8 (ePath.els l1), .box (qa1305 e1), .arr 6 (eField.els (r1 ++ [e1])), .arr 1 (eI.els (r2 ++ [x1])), .box (qa1687 p2 x1 e1 r1 r2 r3 z1), .arr 1 (eI.els (r3 ++ [e1.id]))] ?_
       refine XO.sub (Sub.trans (Sub.stale 6 0 7 1 0 ((r3 ++ [e1.id]).length) (qa1687 p2 x1 e1 r1 r2 r3 z1) rfl rfl [.box qa1674, .box (qa1678 l1), .arr 8 (ePath.els l1), .box (qa1305 e1), .arr 6 (eField.els (r1 ++ [e1])), .arr 1 (eI.els (r2 ++ [x1])), .box (qa1688 p2 x1 e1 r1 r2 r3 z1), .arr 1 (eI.els (r3 ++ [e1.id])), .dead] rfl) (Sub.kill (fr' := [(2, vq 0), (3, vq 1), (5, vR (qa1677 p2)), (9, vl eField p1), (10, vi (p1.length : Int)), (11, vi x1), (75, .one (.fn 49 [.pt 0 0 0 0, .pt 1 0 0 0])), (78, vl eField e1.type.fields), (79, .ag [cl eI (r3 ++ [e1.id]), ci p2.leaf.type.kind, ci p2.leaf.type.scale, cl eField p2.leaf.type.fields, ci (i64.wrap (z1 + (1 : Int))), ci (i64.wrap (p2.leaf.rep + (1 : Int))), .sl 4 6 0 ((r1 ++ [e1]).length), .sl 5 1 0 ((r2 ++ [x1]).length)])]) 7 (by decide) (by kernel_rfl) ⟨.one (.rfl _ rfl), .one (.rfl _ rfl), .one (.rfl _ rfl), .one (.rfl _ rfl), .one (.rfl _ rfl), .one (.rfl _ rfl), .one (.rfl _ rfl), .one (.rfl _ rfl), .ag (.cons (cf_sl eI (r3 ++ [e1.id]) rfl rfl rfl) (.cons (.rfl _ rfl) (.cons (.rfl _ rfl) (.cons (.rfl _ rfl) (.cons (.rfl _ rfl) (.cons (.rfl _ rfl) (.cons (.rfl _ rfl) (.cons (.rfl _ rfl) .nil)))))))), trivial⟩)) ?_
       refine XO.sub (Sub.trans (Sub.stale 6 6 4 6 0 ((r1 ++ [e1]).length) (qa1688 p2 x1 e1 r1 r2 r3 z1) rfl rfl [.box qa1674, .box (qa1678 l1), .arr 8 (ePath.els l1), .box (qa1305 e1), .arr 6 (eField.els (r1 ++ [e1])), .arr 1 (eI.els (r2 ++ [x1])), .box (qa1690 p2 x1 e1 r1 r2 r3 z1), .dead, .dead, .dead] rfl) (Sub.kill (fr' := [(2, vq 0), (3, vq 1), (5, vR (qa1677 p2)), (9, vl eField p1), (10, vi (p1.length : Int)), (11, vi x1), (75, .one (.fn 49 [.pt 0 0 0 0, .pt 1 0 0 0])), (78, vl eField e1.type.fields), (79, .ag [cl eI (r3 ++ [e1.id]), ci p2.leaf.type.kind, ci p2.leaf.type.scale, cl eField p2.leaf.type.fields, ci (i64.wrap (z1 + (1 : Int))), ci (i64.wrap (p2.leaf.rep + (1 : Int))), cl eField (r1 ++ [e1]), .sl 5 1 0 ((r2 ++ [x1]).length)])]) 4 (by decide) (by kernel_rfl) ⟨.one (.rfl _ rfl), .one (.rfl _ rfl), .one (.rfl _ rfl), .one (.rfl _ rfl), .one (.rfl _ rfl), .one (.rfl _ rfl), .one (.rfl _ rfl), .one (.rfl _ rfl), .ag (.cons (.rfl _ rfl) (.cons (.rfl _ rfl) (.cons (.rfl _ rfl) (.cons (.rfl _ rfl) (.cons (.rfl _ rfl) (.cons (.rfl _ rfl) (.cons (cf_sl eField (r1 ++ [e1]) rfl rfl rfl) (.cons (.rfl _ rfl) .nil)))))))), trivial⟩)) ?_
       refine XO.sub (Sub.trans (Sub.stale 6 7 5 1 0 ((r2 ++ [x1]).length) (qa1690 p2 x1 e1 r1 r2 r3 z1) rfl rfl [.box qa1674, .box (qa1678 l1), .arr 8 (ePath.els l1), .box (qa1305 e1), .dead, .arr 1 (eI.els (r2 ++ [x1])), .box (qa1692 p2 x1 e1 r1 r2 r3 z1), .dead, .dead, .dead, .dead] rfl) (Sub.kill (fr' := [(2, vq 0), (3, vq 1), (5, vR (qa1677 p2)), (9, vl eField p1), (10, vi (p1.length : Int)), (11, vi x1), (75, .one (.fn 49 [.pt 0 0 0 0, .pt 1 0 0 0])), (78, vl eField e1.type.fields), (79, .ag (qa1693 p2 x1 e1 r1 r2 r3 z1))]) 5 (by decide) (by kernel_rfl) ⟨.one (.rfl _ rfl), .one (.rfl _ rfl), .one (.rfl _ rfl), .one (.rfl _ rfl), .one (.rfl _ rfl), .one (.rfl _ rfl), .one (.rfl _ rfl), .one (.rfl _ rfl), .ag (.cons (.rfl _ rfl) (.cons (.rfl _ rfl) (.cons (.rfl _ rfl) (.cons (.rfl _ rfl) (.cons (.rfl _ rfl) (.cons (.rfl _ rfl) (.cons (.rfl _ rfl) (.cons (cf_sl eI (r2 ++ [x1]) rfl rfl rfl) .nil)))))))), trivial⟩)) ?_
       refine XO.calx 49 [vl eField e1.type.fields, .ag (qa1693 p2 x1 e1 r1 r2 r3 z1), vq 0, vq 1] (qa1714 l1) [.box qa1674, .box [.sl 2 8 0 r4.2.length], .arr 8 (ePath.els r4.2)] [2] (.tp []) [0, 1, 2] [2] [(80, .tp []), (2, vq 0), (3, vq 1), (5, vR (qa1677 p2)), (9, vl eField p1), (10, vi (p1.length : Int)), (11, vi x1), (75, .one (.fn 49 [.pt 0 0 0 0, .pt 1 0 0 0])), (78, vl eField e1.type.fields), (79, .ag (qa1693 p2 x1 e1 r1 r2 r3 z1))] [.box qa1674, .box [.sl 2 8 0 r4.2.length], .arr 8 (ePath.els r4.2), .box (qa1305 e1), .dead, .dead, .box (qa1692 p2 x1 e1 r1 r2 r3 z1), .dead, .dead, .dead, .dead] (by kernel_rfl) (c_column_paths_1 k0 _ _ _ _ c25) (by kernel_rfl) (by kernel_rfl) (by kernel_rfl) (by kernel_rfl) (by kernel_rfl) (by kernel_rfl) (by kernel_rfl) ?_
       refine zd ?_
       exact j2 r4.2 h _ _ (Sub.trans (Sub.pick (fr' := (qa1713 p1 p2 x1)) [2,3,5,9,10,11] (by kernel_rfl)) (Sub.take (fr' := (qa1713 p1 p2 x1)) 3 (by decide) (by kernel_rfl) (by kernel_rfl)))
      ·refine zq fun K26 m26 => zr (zg [7, 8] 2 [2,3,5,7,8,9,10,11,81] (zd (m26 _ _ (zC h (fun b27 h => ?_) (fun b27 h => ?_)))))
       ·obtain ⟨r5, c28, h⟩ := zB h
        refine zr ?_
        refine zv [7, 8] 5 [2,3,5,9,10,11,83,86,87] [] [(2, vq 0), (3, vq 1), (5, vR (qa1677 p2)), (9, vl eField p1), (10, vi (p1.length : Int)), (11, vi x1), (83, .one (.fn 49 [.pt 0 0 0 0, .pt 1 0 0 0])), (86, vl eField e1.type.fields), (87, .ag (qa1685 p2 x1 e1 r1 r2 r3 z1))] [.box qa1674, .box (qa1678 l1), .arr 8 (ePath.els l1), .box (qa1305 e1), .arr 6 (eField.els (r1 ++ [e1])), .arr 1 (eI.els (r2 ++ [x1])), .box (qa1685 p2 x1 e1 r1 r2 r3 z1), .arr 1 (eI.els (r3 ++ [e1.id]))] ?_
        refine XO.sub (Sub.trans (Sub.stale 6 0 7 1 0 ((r3 ++ [e1.id]).length) (qa1685 p2 x1 e1 r1 r2 r3 z1) rfl rfl [.box qa1674, .box (qa1678 l1), .arr 8 (ePath.els l1), .box (qa1305 e1), .arr 6 (eField.els (r1 ++ [e1])), .arr 1 (eI.els (r2 ++ [x1])), .box [.sl 8 1 0 ((r3 ++ [e1.id]).length), ci p2.leaf.type.kind, ci p2.leaf.type.scale, cl eField p2.leaf.type.fields, ci z1, ci p2.leaf.rep, .sl 4 6 0 ((r1 ++ [e1]).length), .sl 5 1 0 ((r2 ++ [x1]).length)], .arr 1 (eI.els (r3 ++ [e1.id])), .dead] rfl) (Sub.kill (fr' := [(2, vq 0), (3, vq 1), (5, vR (qa1677 p2)), (9, vl eField p1), (10, vi (p1.length : Int)), (11, vi x1), (83, .one (.fn 49 [.pt 0 0 0 0, .pt 1 0 0 0])), (86, vl eField e1.type.fields), (87, .ag [cl eI (r3 ++ [e1.id]), ci p2.leaf.type.kind, ci p2.leaf.type.scale, cl eField p2.leaf.type.fields, ci z1, ci p2.leaf.rep, .sl 4 6 0 ((r1 ++ [e1]).length), .sl 5 1 0 ((r2 ++ [x1]).length)])]) 7 (by decide) (by kernel_rfl) ⟨.one (.rfl _ rfl), .one (.rfl _ rfl), .one (.rfl _ rfl), .one (.rfl _ rfl), .one (.rfl _ rfl), .one (.rfl _ rfl), .one (.rfl _ rfl), .one (.rfl _ rfl), .ag (.cons (cf_sl eI (r3 ++ [e1.id]) rfl rfl rfl) (.cons (.rfl _ rfl) (.cons (.rfl _ rfl) (.cons (.rfl _ rfl) (.cons (.rfl _ rfl) (.cons (.rfl _ rfl) (.cons (.rfl _ rfl) (.cons (.rfl _ rfl) .nil)))))))), trivial⟩)) ?_
        refine XO.sub (Sub.trans (Sub.stale 6 6 4 6 0 ((r1 ++ [e1]).length) [.sl 8 1 0 ((r3 ++ [e1.id]).length), ci p2.leaf.type.kind, ci p2.leaf.type.scale, cl eField p2.leaf.type.fields, ci z1, ci p2.leaf.rep, .sl 4 6 0 ((r1 ++ [e1]).length), .sl 5 1 0 ((r2 ++ [x1]).length)] rfl rfl [.box qa1674, .box (qa1678 l1), .arr 8 (ePath.els l1), .box (qa1305 e1), .arr 6 (eField.els (r1 ++ [e1])), .arr 1 (eI.els (r2 ++ [x1])), .box [.sl 8 1 0 ((r3 ++ [e1.id]).length), ci p2.leaf.type.kind, ci p2.leaf.type.scale, cl eField p2.leaf.type.fields, ci z1, ci p2.leaf.rep, .sl 9 6 0 ((r1 ++ [e1]).length), .sl 5 1 0 ((r2 ++ [x1]).length)], .dead, .dead, .dead] rfl) (Sub.kill (fr' := [(2, vq 0), (3, vq 1), (5, vR (qa1677 p2)), (9, vl eField p1), (10, vi (p1.length : Int)), (11, vi x1), (83, .one (.fn 49 [.pt 0 0 0 0, .pt 1 0 0 0])), (86, vl eField e1.type.fields), (87, .ag [cl eI (r3 ++ [e1.id]), ci p2.leaf.type.kind, ci p2.leaf.type.scale, cl eField p2.leaf.type.fields, ci z1, ci p2.leaf.rep, cl eField (r1 ++ [e1]), .sl 5 1 0 ((r2 ++ [x1]).length)])]) 4 (by decide) (by kernel_rfl) ⟨.one (.rfl _ rfl), .one (.rfl _ rfl), .one (.rfl _ rfl), .one (.rfl _ rfl), .one (.rfl _ rfl), .one (.rfl _ rfl), .one (.rfl _ rfl), .one (.rfl _ rfl), .ag (.cons (.rfl _ rfl) (.cons (.rfl _ rfl) (.cons (.rfl _ rfl) (.cons (.rfl _ rfl) (.cons (.rfl _ rfl) (.cons (.rfl _ rfl) (.cons (cf_sl eField (r1 ++ [e1]) rfl rfl rfl) (.cons (.rfl _ rfl) .nil)))))))), trivial⟩)) ?_
        refine XO.sub (Sub.trans (Sub.stale 6 7 5 1 0 ((r2 ++ [x1]).length) [.sl 8 1 0 ((r3 ++ [e1.id]).length), ci p2.leaf.type.kind, ci p2.leaf.type.scale, cl eField p2.leaf.type.fields, ci z1, ci p2.leaf.rep, .sl 9 6 0 ((r1 ++ [e1]).length), .sl 5 1 0 ((r2 ++ [x1]).length)] rfl rfl [.box qa1674, .box (qa1678 l1), .arr 8 (ePath.els l1), .box (qa1305 e1), .dead, .arr 1 (eI.els (r2 ++ [x1])), .box [.sl 8 1 0 ((r3 ++ [e1.id]).length), ci p2.leaf.type.kind, ci p2.leaf.type.scale, cl eField p2.leaf.type.fields, ci z1, ci p2.leaf.rep, .sl 9 6 0 ((r1 ++ [e1]).length), .sl 10 1 0 ((r2 ++ [x1]).length)], .dead, .dead, .dead, .dead] rfl) (Sub.kill (fr' := [(2, vq 0), (3, vq 1), (5, vR (qa1677 p2)), (9, vl eField p1), (10, vi (p1.length : Int)), (11, vi x1), (83, .one (.fn 49 [.pt 0 0 0 0, .pt 1 0 0 0])), (86, vl eField e1.type.fields), (87, .ag (qa1700 p2 x1 e1 r1 r2 r3 z1))]) 5 (by decide) (by kernel_rfl) ⟨.one (.rfl _ rfl), .one (.rfl _ rfl), .one (.rfl _ rfl), .one (.rfl _ rfl), .one (.rfl _ rfl), .one (.rfl _ rfl), .one (.rfl _ rfl), .one (.rfl _ rfl), .ag (.cons (.rfl _ rfl) (.cons (.rfl _ rfl) (.cons (.rfl _ rfl) (.cons (.rfl _ rfl) (.cons (.rfl _ rfl) (.cons (.rfl _ rfl) (.cons (.rfl _ rfl) (.cons (cf_sl eI (r2 ++ [x1]) rfl rfl rfl) .nil)))))))), trivial⟩)) ?_
        refine XO.calx 49 [vl eField e1.type.fields, .ag (qa1700 p2 x1 e1 r1 r2 r3 z1), vq 0, vq 1] (qa1714 l1) [.box qa1674, .box [.sl 2 8 0 r5.2.length], .arr 8 (ePath.els r5.2)] [2] (.tp []) [0, 1, 2] [2] [(88, .tp []), (2, vq 0), (3, vq 1), (5, vR (qa1677 p2)), (9, vl eField p1), (10, vi (p1.length : Int)), (11, vi x1), (83, .one (.fn 49 [.pt 0 0 0 0, .pt 1 0 0 0])), (86, vl eField e1.type.fields), (87, .ag (qa1700 p2 x1 e1 r1 r2 r3 z1))] [.box qa1674, .box [.sl 2 8 0 r5.2.length], .arr 8 (ePath.els r5.2), .box (qa1305 e1), .dead, .dead, .box [.sl 8 1 0 ((r3 ++ [e1.id]).length), ci p2.leaf.type.kind, ci p2.leaf.type.scale, cl eField p2.leaf.type.fields, ci z1, ci p2.leaf.rep, .sl 9 6 0 ((r1 ++ [e1]).length), .sl 10 1 0 ((r2 ++ [x1]).length)], .dead, .dead, .dead, .dead] (by kernel_rfl) (c_column_paths_1 k0 _ _ _ _ c28) (by kernel_rfl) (by kernel_rfl) (by kernel_rfl) (by kernel_rfl) (by kernel_rfl) (by kernel_rfl) (by kernel_rfl) ?_
        refine zd ?_
        exact j2 r5.2 h _ _ (Sub.trans (Sub.pick (fr' := (qa1713 p1 p2 x1)) [2,3,5,9,10,11] (by kernel_rfl)) (Sub.take (fr' := (qa1713 p1 p2 x1)) 3 (by decide) (by kernel_rfl) (by kernel_rfl)))
       ·refine zq fun K29 m29 => zr (zg [7, 8] 5 [2,3,5,8,9,10,11] (zd (m29 _ _ ?_)))
        obtain ⟨g30, h⟩ := zG h
        refine zr ?_
        refine zv [7, 8] 2 [2,3,5,9,10,11,57,58] [] [(2, vq 0), (3, vq 1), (5, vR (qa1677 p2)), (9, vl eField p1), (10, vi (p1.length : Int)), (11, vi x1), (57, .one (.sl 2 8 0 l1.length)), (58, .ag (qa1702 p2 x1 e1 r1 r2 r3 z1))] [.box qa1674, .box (qa1678 l1), .arr 8 (ePath.els l1), .box (qa1305 e1), .arr 6 (eField.els (r1 ++ [e1])), .arr 1 (eI.els (r2 ++ [x1])), .box (qa1702 p2 x1 e1 r1 r2 r3 z1), .arr 1 (eI.els (r3 ++ [e1.id]))] ?_
        refine XO.sub (Sub.trans (Sub.stale 6 0 7 1 0 ((r3 ++ [e1.id]).length) (qa1702 p2 x1 e1 r1 r2 r3 z1) rfl rfl [.box qa1674, .box (qa1678 l1), .arr 8 (ePath.els l1), .box (qa1305 e1), .arr 6 (eField.els (r1 ++ [e1])), .arr 1 (eI.els (r2 ++ [x1])), .box [.sl 8 1 0 ((r3 ++ [e1.id]).length), ci e1.type.kind, ci e1.type.scale, cl eField e1.type.fields, ci z1, ci p2.leaf.rep, .sl 4 6 0 ((r1 ++ [e1]).length), .sl 5 1 0 ((r2 ++ [x1]).length)], .arr 1 (eI.els (r3 ++ [e1.id])), .dead] rfl) (Sub.kill (fr' := [(2, vq 0), (3, vq 1), (5, vR (qa1677 p2)), (9, vl eField p1), (10, vi (p1.length : Int)), (11, vi x1), (57, .one (.sl 2 8 0 l1.length)), (58, .ag [cl eI (r3 ++ [e1.id]), ci e1.type.kind, ci e1.type.scale, cl eField e1.type.fields, ci z1, ci p2.leaf.rep, .sl 4 6 0 ((r1 ++ [e1]).length), .sl 5 1 0 ((r2 ++ [x1]).length)])]) 7 (by decide) (by kernel_rfl) ⟨.one (.rfl _ rfl), .one (.rfl _ rfl), .one (.rfl _ rfl), .one (.rfl _ rfl), .one (.rfl _ rfl), .one (.rfl _ rfl), .one (.rfl _ rfl), .ag (.cons (cf_sl eI (r3 ++ [e1.id]) rfl rfl rfl) (.cons (.rfl _ rfl) (.cons (.rfl _ rfl) (.cons (.rfl _ rfl) (.cons (.rfl _ rfl) (.cons (.rfl _ rfl) (.cons (.rfl _ rfl) (.cons (.rfl _ rfl) .nil)))))))), trivial⟩)) ?_
        refine XO.sub (Sub.trans (Sub.stale 6 6 4 6 0 ((r1 ++ [e1]).length) [.sl 8 1 0 ((r3 ++ [e1.id]).length), ci e1.type.kind, ci e1.type.scale, cl eField e1.type.fields, ci z1, ci p2.leaf.rep, .sl 4 6 0 ((r1 ++ [e1]).length), .sl 5 1 0 ((r2 ++ [x1]).length)] rfl rfl [.box qa1674, .box (qa1678 l1), .arr 8 (ePath.els l1), .box (qa1305 e1), .arr 6 (eField.els (r1 ++ [e1])), .arr 1 (eI.els (r2 ++ [x1])), .box [.sl 8 1 0 ((r3 ++ [e1.id]).length), ci e1.type.kind, ci e1.type.scale, cl eField e1.type.fields, ci z1, ci p2.leaf.rep, .sl 9 6 0 ((r1 ++ [e1]).length), .sl 5 1 0 ((r2 ++ [x1]).length)], .dead, .dead, .dead] rfl) (Sub.kill (fr' := [(2, vq 0), (3, vq 1), (5, vR (qa1677 p2)), (9, vl eField p1), (10, vi (p1.length : Int)), (11, vi x1), (57, .one (.sl 2 8 0 l1.length)), (58, .ag [cl eI (r3 ++ [e1.id]), ci e1.type.kind, ci e1.type.scale, cl eField e1.type.fields, ci z1, ci p2.leaf.rep, cl eField (r1 ++ [e1]), .sl 5 1 0 ((r2 ++ [x1]).length)])]) 4 (by decide) (by kernel_rfl) ⟨.one (.rfl _ rfl), .one (.rfl _ rfl), .one (.rfl _ rfl), .one (.rfl _ rfl), .one (.rfl _ rfl), .one (.rfl _ rfl), .one (.rfl _ rfl), .ag (.cons (.rfl _ rfl) (.cons (.rfl _ rfl) (.cons (.rfl _ rfl) (.cons (.rfl _ rfl) (.cons (.rfl _ rfl) (.cons (.rfl _ rfl) (.cons (cf_sl eField (r1 ++ [e1]) rfl rfl rfl) (.cons (.rfl _ rfl) .nil)))))))), trivial⟩)) ?_
        refine XO.sub (Sub.trans (Sub.stale 6 7 5 1 0 ((r2 ++ [x1]).length) [.sl 8 1 0 ((r3 ++ [e1.id]).length), ci e1.type.kind, ci e1.type.scale, cl eField e1.type.fields, ci z1, ci p2.leaf.rep, .sl 9 6 0 ((r1 ++ [e1]).length), .sl 5 1 0 ((r2 ++ [x1]).length)] rfl rfl [.box qa1674, .box (qa1678 l1), .arr 8 (ePath.els l1), .box (qa1305 e1), .dead, .arr 1 (eI.els (r2 ++ [x1])), .box (qa1707 p2 x1 e1 r1 r2 r3 z1), .dead, .dead, .dead, .dead] rfl) (Sub.kill (fr' := [(2, vq 0), (3, vq 1), (5, vR (qa1677 p2)), (9, vl eField p1), (10, vi (p1.length : Int)), (11, vi x1), (57, .one (.sl 2 8 0 l1.length)), (58, .ag [cl eI (r3 ++ [e1.id]), ci e1.type.kind, ci e1.type.scale, cl eField e1.type.fields, ci z1, ci p2.leaf.rep, cl eField (r1 ++ [e1]), cl eI (r2 ++ [x1])])]) 5 (by decide) (by kernel_rfl) ⟨.one (.rfl _ rfl), .one (.rfl _ rfl), .one (.rfl _ rfl), .one (.rfl _ rfl), .one (.rfl _ rfl), .one (.rfl _ rfl), .one (.rfl _ rfl), .ag (.cons (.rfl _ rfl) (.cons (.rfl _ rfl) (.cons (.rfl _ rfl) (.cons (.rfl _ rfl) (.cons (.rfl _ rfl) (.cons (.rfl _ rfl) (.cons (.rfl _ rfl) (.cons (cf_sl eI (r2 ++ [x1]) rfl rfl rfl) .nil)))))))), trivial⟩)) ?_
        refine zv [7, 8] 1 [2,3,5,9,10,11,57,59] [] [(2, vq 0), (3, vq 1), (5, vR (qa1677 p2)), (9, vl eField p1), (10, vi (p1.length : Int)), (11, vi x1), (57, .one (.sl 2 8 0 l1.length)), (59, vl ePath ([(GPath.mk (GLeaf.mk (r3 ++ [e1.id]) e1.type z1 p2.leaf.rep) (r1 ++ [e1]) (r2 ++ [x1]))]))] [.box qa1674, .box (qa1678 l1), .arr 8 (ePath.els l1), .box (qa1305 e1), .dead, .dead, .box (qa1707 p2 x1 e1 r1 r2 r3 z1), .dead, .dead, .dead, .dead] ?_
        refine XO.sub (Sub.stale 1 0 2 8 0 l1.length (qa1678 l1) rfl rfl [.box qa1674, .box [.sl 11 8 0 l1.length], .arr 8 (ePath.els l1), .box (qa1305 e1), .dead, .dead, .box (qa1707 p2 x1 e1 r1 r2 r3 z1), .dead, .dead, .dead, .dead, .dead] rfl) ?_
        refine zp [7, 8] 1 [2,3,5,9,10,11,60] [] [(2, vq 0), (3, vq 1), (5, vR [.ro (eI.els p2.leaf.path), pi p2.leaf.type.kind, pi p2.leaf.type.scale, .ro (eField.els p2.leaf.type.fields), pi p2.leaf.df, pi p2.leaf.rep, .ro (eField.els p2.fields), .ro (eI.els p2.pos)]), (9, vl eField p1), (10, vi (p1.length : Int)), (11, vi x1), (60, .one (.sl 2 8 0 (l1.length + (ePath.els ([(GPath.mk (GLeaf.mk (r3 ++ [e1.id]) e1.type z1 p2.leaf.rep) (r1 ++ [e1]) (r2 ++ [x1]))])).length)))] [.box [.fn 49 [.pt 0 0 0 0, .pt 1 0 0 0]], .box [.sl 11 8 0 l1.length], .arr 8 (ePath.els l1 ++ ePath.els ([(GPath.mk (GLeaf.mk (r3 ++ [e1.id]) e1.type z1 p2.leaf.rep) (r1 ++ [e1]) (r2 ++ [x1]))])), .box [ci e1.id, cst e1.name, cb e1.need, ci e1.type.kind, ci e1.type.scale, cl eField e1.type.fields], .dead, .dead, .box [.sl 8 1 0 ((r3 ++ [e1.id]).length), ci e1.type.kind, ci e1.type.scale, cl eField e1.type.fields, ci z1, ci p2.leaf.rep, .sl 9 6 0 ((r1 ++ [e1]).length), .sl 10 1 0 ((r2 ++ [x1]).length)], .dead, .dead, .dead, .dead, .dead] [elemsOk 8 (ePath.els ([(GPath.mk (GLeaf.mk (r3 ++ [e1.id]) e1.type z1 p2.leaf.rep) (r1 ++ [e1]) (r2 ++ [x1]))])), l1.length = (ePath.els l1).length, l1.length + (ePath.els ([(GPath.mk (GLeaf.mk (r3 ++ [e1.id]) e1.type z1 p2.leaf.rep) (r1 ++ [e1]) (r2 ++ [x1]))])).length ≤ 4294967296] (⟨ePath.ok _, (ePath.len l1).symm, g30, trivial⟩) ?_
        rw [show l1.length + (ePath.els ([(GPath.mk (GLeaf.mk (r3 ++ [e1.id]) e1.type z1 p2.leaf.rep) (r1 ++ [e1]) (r2 ++ [x1]))])).length = (l1 ++ [(GPath.mk (GLeaf.mk (r3 ++ [e1.id]) e1.type z1 p2.leaf.rep) (r1 ++ [e1]) (r2 ++ [x1]))]).length from ePath.lapp _ _]
        rw [show ePath.els l1 ++ ePath.els ([(GPath.mk (GLeaf.mk (r3 ++ [e1.id]) e1.type z1 p2.leaf.rep) (r1 ++ [e1]) (r2 ++ [x1]))]) = ePath.els (l1 ++ [(GPath.mk (GLeaf.mk (r3 ++ [e1.id]) e1.type z1 p2.leaf.rep) (r1 ++ [e1]) (r2 ++ [x1]))]) from ePath.app2 _ _]
        refine zg [7, 8] 1 [2,3,5,9,10,11] (zd ?_)
        exact j2 (l1 ++ [(GPath.mk (GLeaf.mk (r3 ++ [e1.id]) e1.type z1 p2.leaf.rep) (r1 ++ [e1]) (r2 ++ [x1]))]) h _ _ (Sub.trans (Sub.pick (fr' := (qa1713 p1 p2 x1)) [2,3,5,9,10,11] (by kernel_rfl)) (Sub.take (fr' := (qa1713 p1 p2 x1)) 3 (by decide) (by kernel_rfl) (by kernel_rfl)))
     refine zq fun K18 m18 => zr (zg [7, 8] 3 [2,3,5,7,8,9,10,11,43] (zd (m18 _ _ (zC h (fun b19 h => ?_) (fun b19 h => ?_)))))
     ·refine zr ?_
      refine zv [7, 8] 7 [2,3,5,7,8,9,10,11] [] (qa1728 p1 p2 x1) [.box qa1674, .box (qa1678 l1), .arr 8 (ePath.els l1), .box (qa1305 e1), .arr 6 (eField.els (r1 ++ [e1])), .arr 1 (eI.els (r2 ++ [x1])), .box [.sl 7 1 0 ((r3 ++ [e1.id]).length), ci p2.leaf.type.kind, ci p2.leaf.type.scale, cl eField p2.leaf.type.fields, ci (i64.wrap (p2.leaf.df + (1 : Int))), ci p2.leaf.rep, .sl 4 6 0 ((r1 ++ [e1]).length), .sl 5 1 0 ((r2 ++ [x1]).length)], .arr 1 (eI.els (r3 ++ [e1.id]))] ?_
      exact zd (j1 (i64.wrap (p2.leaf.df + (1 : Int))) h _ _ (zk [2,3,5,7,8,9,10,11]))
     ·exact zs (j1 p2.leaf.df h _ _ (zk [2,3,5,7,8,9,10,11]))
    ·refine zx 0 (hQ1 _ _ _ ?_)
     obtain rfl := zj h
     exact FinM.fin (.inl rfl) [] [] [] (by kernel_rfl) trivial (by kernel_rfl) (by kernel_rfl) (.tp0)
  exact XR.sub (zk [2,3,5,9,10,11]) (hL1 BIG p3 (0 : Int) h)
def column_paths (p1 : (List GField)) : Option (List GPath) := bnd (column_paths_1 BIG p1 (GPath.mk (GLeaf.mk [] (GType.mk (0 : Int) (0 : Int) []) (0 : Int) (0 : Int)) [] []) []) fun r1 => some r1.2
abbrev qa1768 : List CV := [.fn 49 [.pt 1 0 0 0, .pt 0 0 0 0]]
theorem c_column_paths (p1 : (List GField)) (r : (List GPath)) (h : column_paths p1 = some r) : PC Tryd.prog 22 [vl eField p1] (vl ePath r) := by
 unfold column_paths at h
 refine zF 11 Tryd.f22 (zq fun K1 m1 => zr (zg [3, 4] 1 [0] (zd (m1 _ _ (zq fun K2 m2 => zr ?_)))))
 refine zg [3, 4] 1 [0,3] (zd (m2 _ _ (zq fun K3 m3 => zr (zv [3, 4] 1 [0,3,4] [] [(0, vl eField p1), (3, vq 0), (4, vq 1)] [.box [.pv (.s (.slice none 0 0))], .box [.pv (.s .nilFunc)]] (zd (m3 _ _ ?_))))))
 refine zq fun K4 m4 => zr (zg [3, 4] 2 [0,3,4] (zd (m4 _ _ (zq fun K5 m5 => ?_))))
 obtain ⟨r1, c6, h⟩ := zB h
 refine zr (zv [3, 4] 3 [3,6,7,8] [] [(3, vq 0), (6, .one (.fn 49 [.pt 1 0 0 0, .pt 0 0 0 0])), (7, vl eField p1), (8, .ag qa1684)] [.box [.pv (.s (.slice none 0 0))], .box qa1768] (XO.sub (Sub.listb 0 0 8 [.pv (.s (.slice none 0 0))] rfl rfl [.box [.sl 2 8 0 0], .box qa1768, .arr 8 (ePath.els [])] rfl) ?_))
 refine XO.calx 49 [vl eField p1, .ag qa1684, vq 0, vq 1] [.box [.fn 49 [.pt 0 0 0 0, .pt 1 0 0 0]], .box [.sl 2 8 0 0], .arr 8 (ePath.els [])] [.box [.fn 49 [.pt 0 0 0 0, .pt 1 0 0 0]], .box [.sl 2 8 0 r1.2.length], .arr 8 (ePath.els r1.2)] [2] (.tp []) [1, 0, 2] [2] [(9, .tp []), (3, vq 0), (6, .one (.fn 49 [.pt 1 0 0 0, .pt 0 0 0 0])), (7, vl eField p1), (8, .ag qa1684)] [.box [.sl 2 8 0 r1.2.length], .box qa1768, .arr 8 (ePath.els r1.2)] (by kernel_rfl) (MX.le (c_column_paths_1 BIG _ _ _ _ c6) ⟨.rfl _, ALe.agc ⟨.nl, .rfl _, .rfl _, .nl, .rfl _, .rfl _, .nl, .nl, trivial⟩, .rfl _, .rfl _, trivial⟩) (by kernel_rfl) (by kernel_rfl) (by kernel_rfl) (by kernel_rfl) (by kernel_rfl) (by kernel_rfl) (by kernel_rfl) ?_
 refine zd (m5 _ _ (zq fun K7 m7 => zr (zg [3, 4] 2 [2] (zd (m7 _ _ (ze ?_))))))
 obtain rfl := zj h
 exact zf [.one (.sl 2 8 0 r1.2.length)] (.one (cf_sl ePath r1.2 rfl rfl rfl))
def column_shredder_entry (p1 : Int) (p2 : Int) (p3 : GShredder) : Option (Unit × GShredder) := grd (p3.c.reps.length + 1 ≤ 4294967296) <| grd (p3.c.defs.length + 1 ≤ 4294967296) <| some ((), (GShredder.mk p3.p (GColumn.mk (p3.c.reps ++ [p1]) (p3.c.defs ++ [p2]) p3.c.values)))
abbrev qa1782 (p1 : Int) (p2 : Int) (p3 : GShredder) : Fr := [(26, .one (.pt 0 0 0 8)), (25, .one (.pt 0 0 0 8)), (24, vq 0), (23, .one (.sl 5 1 0 ((p3.c.defs ++ [p2]).length))), (22, vl eI [p2]), (21, vi p2), (20, .one (.sl 2 1 0 p3.c.defs.length)), (19, .one (.pt 0 0 0 9)), (18, .one (.pt 0 0 0 8)), (17, vq 0), (16, vq 0), (15, .one (.sl 4 1 0 ((p3.c.reps ++ [p1]).length))), (14, vl eI [p1]), (13, vi p1), (12, .one (.sl 1 1 0 p3.c.reps.length)), (11, .one (.pt 0 0 0 8)), (10, .one (.pt 0 0 0 8)), (9, vq 0), (8, vq 0), (7, vq 0), (6, vq 0), (0, vq 0), (1, vi p1), (2, vi p2)]
abbrev qa1783 (p1 : Int) (p3 : GShredder) : List CV := [cl eI p3.p.leaf.path, ci p3.p.leaf.type.kind, ci p3.p.leaf.type.scale, cl eField p3.p.leaf.type.fields, ci p3.p.leaf.df, ci p3.p.leaf.rep, cl eField p3.p.fields, cl eI p3.p.pos, .sl 4 1 0 ((p3.c.reps ++ [p1]).length), .sl 2 1 0 p3.c.defs.length, .sl 3 5 0 p3.c.values.length]
abbrev qa1791 (p1 : Int) (p2 : Int) (p3 : GShredder) : St := [.box (qa1783 p1 p3), .dead, .dead, .arr 5 (eValue.els p3.c.values), .arr 1 (eI.els (p3.c.reps ++ [p1])), .arr 1 (eI.els (p3.c.defs ++ [p2]))]
theorem c_column_shredder_entry (p1 : Int) (p2 : Int) (p3 : GShredder) (r : (Unit × GShredder)) (h : column_shredder_entry p1 p2 p3 = some r) : MX Tryd.prog 82 [vq 0, vi p1, vi p2] [.box [cl eI p3.p.leaf.path, ci p3.p.leaf.type.kind, ci p3.p.leaf.type.scale, cl eField p3.p.leaf.type.fields, ci p3.p.leaf.df, ci p3.p.leaf.rep, cl eField p3.p.fields, cl eI p3.p.pos, .sl 1 1 0 p3.c.reps.length, .sl 2 1 0 p3.c.defs.length, .sl 3 5 0 p3.c.values.length], .arr 1 (eI.els p3.c.reps), .arr 1 (eI.els p3.c.defs), .arr 5 (eValue.els p3.c.values)] [1, 2, 3] (.tp []) [.box [cl eI r.2.p.leaf.path, ci r.2.p.leaf.type.kind, ci r.2.p.leaf.type.scale, cl eField r.2.p.leaf.type.fields, ci r.2.p.leaf.df, ci r.2.p.leaf.rep, cl eField r.2.p.fields, cl eI r.2.p.pos, .sl 1 1 0 r.2.c.reps.length, .sl 2 1 0 r.2.c.defs.length, .sl 3 5 0 r.2.c.values.length], .arr 1 (eI.els r.2.c.reps), .arr 1 (eI.els r.2.c.defs), .arr 5 (eValue.els r.2.c.values)] := by
 unfold column_shredder_entry at h
 refine MX.of 4 4 rfl (n := 30) (fn := Tryd.f82) (c := cd Tryd.f82 []) (by kernel_rfl) (by kernel_rfl) (by kernel_rfl) (Nat.le_of_ble_eq_true rfl) rfl ?_
 obtain ⟨g1, h⟩ := zG h
 obtain ⟨g2, h⟩ := zG h
 refine XW.sub (Sub.dead 2) ?_
 refine XW.drwG 22 [4, 5, 6] [([], []), ([], []), ([], []), ([], []), ([], []), ([], []), ([0], []), ([], []), ([], []), ([4, 1, 1004], [4, 1, 1004]), ([], []), ([], []), ([], []), ([], []), ([0], []), ([], []), ([], []), ([5, 2, 1005], [5, 2, 1005]), ([], []), ([], []), ([], []), ([0, 1004], [0])] (qa1782 p1 p2 p3) (qa1791 p1 p2 p3) (by kernel_rfl) (by kernel_rfl) ?_ ?_
 ·refine zgv 9 [] [(14, vl eI [p1]), (13, vi p1), (12, .one (.sl 1 1 0 p3.c.reps.length)), (11, .one (.pt 0 0 0 8)), (10, .one (.pt 0 0 0 8)), (9, vq 0), (8, vq 0), (7, vq 0), (6, vq 0), (0, vq 0), (1, vi p1), (2, vi p2)] ?_
  refine GY.new true 4 [] [(15, .one (.sl 4 1 0 (p3.c.reps.length + (eI.els [p1]).length))), (14, vl eI [p1]), (13, vi p1), (12, .one (.sl 1 1 0 p3.c.reps.length)), (11, .one (.pt 0 0 0 8)), (10, .one (.pt 0 0 0 8)), (9, vq 0), (8, vq 0), (7, vq 0), (6, vq 0), (0, vq 0), (1, vi p1), (2, vi p2)] [4, 1] [.box [cl eI p3.p.leaf.path, ci p3.p.leaf.type.kind, ci p3.p.leaf.type.scale, cl eField p3.p.leaf.type.fields, ci p3.p.leaf.df, ci p3.p.leaf.rep, cl eField p3.p.fields, cl eI p3.p.pos, .sl 1 1 0 p3.c.reps.length, .sl 2 1 0 p3.c.defs.length, .sl 3 5 0 p3.c.values.length], .dead, .arr 1 (eI.els p3.c.defs), .arr 5 (eValue.els p3.c.values), .arr 1 (eI.els p3.c.reps ++ eI.els [p1]), .dead] [elemsOk 1 (eI.els [p1]), p3.c.reps.length = (eI.els p3.c.reps).length, p3.c.reps.length + (eI.els [p1]).length ≤ 4294967296] (by kernel_rfl) (by kernel_rfl) (⟨eI.ok _, (eI.len p3.c.reps).symm, g1, trivial⟩) (by kernel_rfl) ?_
  rw [show p3.c.reps.length + (eI.els [p1]).length = (p3.c.reps ++ [p1]).length from eI.lapp _ _]
  rw [show eI.els p3.c.reps ++ eI.els [p1] = eI.els (p3.c.reps ++ [p1]) from eI.app2 _ _]
  refine zgv 7 [] [(22, vl eI [p2]), (21, vi p2), (20, .one (.sl 2 1 0 p3.c.defs.length)), (19, .one (.pt 0 0 0 9)), (18, .one (.pt 0 0 0 8)), (17, vq 0), (16, vq 0), (15, .one (.sl 4 1 0 ((p3.c.reps ++ [p1]).length))), (14, vl eI [p1]), (13, vi p1), (12, .one (.sl 1 1 0 p3.c.reps.length)), (11, .one (.pt 0 0 0 8)), (10, .one (.pt 0 0 0 8)), (9, vq 0), (8, vq 0), (7, vq 0), (6, vq 0), (0, vq 0), (1, vi p1), (2, vi p2)] ?_
  refine GY.new true 5 [] [(23, .one (.sl 5 1 0 (p3.c.defs.length + (eI.els [p2]).length))), (22, vl eI [p2]), (21, vi p2), (20, .one (.sl 2 1 0 p3.c.defs.length)), (19, .one (.pt 0 0 0 9)), (18, .one (.pt 0 0 0 8)), (17, vq 0), (16, vq 0), (15, .one (.sl 4 1 0 ((p3.c.reps ++ [p1]).length))), (14, vl eI [p1]), (13, vi p1), (12, .one (.sl 1 1 0 p3.c.reps.length)), (11, .one (.pt 0 0 0 8)), (10, .one (.pt 0 0 0 8)), (9, vq 0), (8, vq 0), (7, vq 0), (6, vq 0), (0, vq 0), (1, vi p1), (2, vi p2)] [5, 2] [.box [cl eI p3.p.leaf.path, ci p3.p.leaf.type.kind, ci p3.p.leaf.type.scale, cl eField p3.p.leaf.type.fields, ci p3.p.leaf.df, ci p3.p.leaf.rep, cl eField p3.p.fields, cl eI p3.p.pos, .sl 1 1 0 p3.c.reps.length, .sl 2 1 0 p3.c.defs.length, .sl 3 5 0 p3.c.values.length], .dead, .dead, .arr 5 (eValue.els p3.c.values), .arr 1 (eI.els (p3.c.reps ++ [p1])), .arr 1 (eI.els p3.c.defs ++ eI.els [p2])] [elemsOk 1 (eI.els [p2]), p3.c.defs.length = (eI.els p3.c.defs).length, p3.c.defs.length + (eI.els [p2]).length ≤ 4294967296] (by kernel_rfl) (by kernel_rfl) (⟨eI.ok _, (eI.len p3.c.defs).symm, g2, trivial⟩) (by kernel_rfl) ?_
  rw [show p3.c.defs.length + (eI.els [p2]).length = (p3.c.defs ++ [p2]).length from eI.lapp _ _]
  rw [show eI.els p3.c.defs ++ eI.els [p2] = eI.els (p3.c.defs ++ [p2]) from eI.app2 _ _]
  refine zgv 3 [] (qa1782 p1 p2 p3) ?_
  refine GY.sto [0] [] (qa1782 p1 p2 p3) ([0] ++ [1004]) (qa1791 p1 p2 p3) [] (by kernel_rfl) (by kernel_rfl) trivial (by kernel_rfl) ?_
  exact GY.done (by kernel_rfl) (by kernel_rfl)
 refine zv [] 4 [] [] [] [.box [cl eI p3.p.leaf.path, ci p3.p.leaf.type.kind, ci p3.p.leaf.type.scale, cl eField p3.p.leaf.type.fields, ci p3.p.leaf.df, ci p3.p.leaf.rep, cl eField p3.p.fields, cl eI p3.p.pos, .sl 4 1 0 ((p3.c.reps ++ [p1]).length), .sl 5 1 0 ((p3.c.defs ++ [p2]).length), .sl 3 5 0 p3.c.values.length], .dead, .dead, .arr 5 (eValue.els p3.c.values), .arr 1 (eI.els (p3.c.reps ++ [p1])), .arr 1 (eI.els (p3.c.defs ++ [p2]))] ?_
 refine XO.sub (Sub.swap 1 4 [] [.box [cl eI p3.p.leaf.path, ci p3.p.leaf.type.kind, ci p3.p.leaf.type.scale, cl eField p3.p.leaf.type.fields, ci p3.p.leaf.df, ci p3.p.leaf.rep, cl eField p3.p.fields, cl eI p3.p.pos, .sl 1 1 0 ((p3.c.reps ++ [p1]).length), .sl 5 1 0 ((p3.c.defs ++ [p2]).length), .sl 3 5 0 p3.c.values.length], .arr 1 (eI.els (p3.c.reps ++ [p1])), .dead, .arr 5 (eValue.els p3.c.values), .dead, .arr 1 (eI.els (p3.c.defs ++ [p2]))] (by kernel_rfl) (by kernel_rfl) (by kernel_rfl) (by kernel_rfl)) ?_
 refine XO.sub (Sub.swap 2 5 [] [.box [cl eI p3.p.leaf.path, ci p3.p.leaf.type.kind, ci p3.p.leaf.type.scale, cl eField p3.p.leaf.type.fields, ci p3.p.leaf.df, ci p3.p.leaf.rep, cl eField p3.p.fields, cl eI p3.p.pos, .sl 1 1 0 ((p3.c.reps ++ [p1]).length), .sl 2 1 0 ((p3.c.defs ++ [p2]).length), .sl 3 5 0 p3.c.values.length], .arr 1 (eI.els (p3.c.reps ++ [p1])), .arr 1 (eI.els (p3.c.defs ++ [p2])), .arr 5 (eValue.els p3.c.values), .dead, .dead] (by kernel_rfl) (by kernel_rfl) (by kernel_rfl) (by kernel_rfl)) (zd ?_)
 obtain rfl := zj h
 exact FinM.fin (.inl rfl) [] [] [] (by kernel_rfl) trivial (by kernel_rfl) (by kernel_rfl) (.tp0)
end Go.Proofs.YtmaemlebpjnmoaaDoor
