/- The shelf's contract of utf8.ValidString, laid at this program. Printed by a program: what the functions compute, and the proofs of their contracts. -/
import Derived.Test.YtieiahlgllbklaaGreatDoorProg
import Derived.Test.YtieiahlgllbklaaGreatDoorChecked
import Derived.Test.YtieiahlgllbklaaGreatDoorSxC
namespace Go.Proofs.YtieiahlgllbklaaGreatDoor
open Go Go.SX Go.Shelf Go.Lib
set_option linter.unusedVariables false

def u8ren : Ren where
  f := fun n => if n = 196 then 90 else if n = 259 then 104 else n
  t := fun n => if n = 0 then 0 else if n = 3 then 3 else if n = 4 then 4 else if n = 5 then 5 else if n = 9 then 9 else if n = 12 then 12 else if n = 46 then 116 else if n = 53 then 93 else if n = 119 then 112 else if n = 138 then 114 else if n = 139 then 115 else n
  g := fun n => if n = 3 then 0 else if n = 4 then 1 else n

set_option maxRecDepth 100000 in
theorem u8lays : Lays.n196 Tryz.prog u8ren where
  mixed := by kernel_rfl
  f196 := by kernel_rfl
  f259 := by kernel_rfl
  t0 := by kernel_rfl
  a0 := fun w => by kernel_rfl
  z0 := fun w => by kernel_rfl
  v0 := fun w => by kernel_rfl
  t3 := by kernel_rfl
  a3 := fun w => by kernel_rfl
  z3 := fun w => by kernel_rfl
  v3 := fun w => by kernel_rfl
  t4 := by kernel_rfl
  a4 := fun w => by kernel_rfl
  z4 := fun w => by kernel_rfl
  v4 := fun w => by kernel_rfl
  t5 := by kernel_rfl
  a5 := fun w => by kernel_rfl
  z5 := fun w => by kernel_rfl
  v5 := fun w => by kernel_rfl
  t9 := by kernel_rfl
  a9 := fun w => by kernel_rfl
  z9 := fun w => by kernel_rfl
  v9 := fun w => by kernel_rfl
  t12 := by kernel_rfl
  a12 := fun w => by kernel_rfl
  z12 := fun w => by kernel_rfl
  v12 := fun w => by kernel_rfl
  t46 := by kernel_rfl
  a46 := fun w => by kernel_rfl
  z46 := fun w => by kernel_rfl
  v46 := fun w => by kernel_rfl
  t53 := by kernel_rfl
  a53 := fun w => by kernel_rfl
  z53 := fun w => by kernel_rfl
  v53 := fun w => by kernel_rfl
  t119 := by kernel_rfl
  a119 := fun w => by kernel_rfl
  z119 := fun w => by kernel_rfl
  t138 := by kernel_rfl
  a138 := fun w => by kernel_rfl
  z138 := fun w => by kernel_rfl
  v138 := fun w => by kernel_rfl
  t139 := by kernel_rfl
  a139 := fun w => by kernel_rfl
  z139 := fun w => by kernel_rfl
  v139 := fun w => by kernel_rfl
  g3 := by kernel_rfl
  g4 := by kernel_rfl

def utf8_ValidString (p1 : ByteArray) : Option Bool := grd (p1.size ≤ 9223372036854775807) <| some (validD p1.data.toList)

theorem c_utf8_ValidString (p1 : ByteArray) (r : Bool) (h : utf8_ValidString p1 = some r) : PC Tryz.prog 90 [vs p1] (vb r) := by
  unfold utf8_ValidString at h
  obtain ⟨g1, h⟩ := grd_some h
  obtain rfl := Option.some.inj h
  exact pc_validString u8lays (by kernel_rfl) (by kernel_rfl) p1 g1

end Go.Proofs.YtieiahlgllbklaaGreatDoor
namespace Go.Proofs.YtieiahlgllbklaaGreatDoor
open Go.SX Go
set_option linter.unusedVariables false
set_option linter.unusedSimpArgs false
set_option maxRecDepth 100000
set_option maxHeartbeats 8000000

def value_leaf_j1 (x1 : Bool) : Option Bool :=
    some x1

def value_leaf (p1 : GType) : Option Bool :=
    ift (p1.kind != (6 : Int))
      (value_leaf_j1 (p1.kind != (7 : Int)))
      (value_leaf_j1 false)


theorem c_value_leaf (p1 : GType) : CT Tryz.prog 55 [.ag [ci p1.kind, ci p1.scale, cl eField p1.fields]] (value_leaf p1) vb :=
  uFn 11 [] Tryz.f55 fun r => (uQ (kS Tryz.f55 [1,0] 1) fun K2 hK2 => have hJ1 : ∀ (x1 : Bool), value_leaf_j1 x1 = some r → K2.p [(2, vb x1)] [] := fun x1 h => hK2 h (uR .ret xF); (uC (uJ (hJ1 (p1.kind != (7 : Int)))) (uJ (hJ1 false))))

def value_Name_1_j1 (x1 : Bool) : Option Bool :=
    some x1

def value_Name_1 (p1 : Int) : Option Bool :=
    ift (decide (p1 < (97 : Int)))
      (ift (decide (p1 < (48 : Int)))
         (value_Name_1_j1 (p1 != (95 : Int)))
         (ift (decide ((57 : Int) < p1))
            (value_Name_1_j1 (p1 != (95 : Int)))
            (value_Name_1_j1 false)))
      (ift (decide ((122 : Int) < p1))
         (ift (decide (p1 < (48 : Int)))
            (value_Name_1_j1 (p1 != (95 : Int)))
            (ift (decide ((57 : Int) < p1))
               (value_Name_1_j1 (p1 != (95 : Int)))
               (value_Name_1_j1 false)))
         (value_Name_1_j1 false))


theorem c_value_Name_1 (p1 : Int) : CT Tryz.prog 80 [vk .i32 p1] (value_Name_1 p1) vb :=
  uFn 21 [] Tryz.f80 fun r => (uQ (kS Tryz.f80 [1,0] 1) fun K2 hK2 => have hJ1 : ∀ (x1 : Bool), value_Name_1_j1 x1 = some r → K2.p [(2, vb x1)] [] := fun x1 h => hK2 h (uR .ret xF); (uC (uC (uJ (hJ1 (p1 != (95 : Int)))) (uC (uJ (hJ1 (p1 != (95 : Int)))) (uJ (hJ1 false)))) (uC (uC (uJ (hJ1 (p1 != (95 : Int)))) (uC (uJ (hJ1 (p1 != (95 : Int)))) (uJ (hJ1 false)))) (uJ (hJ1 false)))))

def strings_indexFunc_of_value_Name_1_j1 : Option Int :=
    some (-1 : Int)

def strings_indexFunc_of_value_Name_1_l1 (p1 : ByteArray) (p2 : Bool) : Nat → Nat → Option Int
  | 0, _ => none
  | k1 + 1, z1 =>
    ift (decide (z1 < p1.size))
      (bnd (value_Name_1 (Int.ofNat (Utf8.decode p1 z1).1)) fun r1 =>
       ift (r1 == p2)
         (some (Int.ofNat z1))
         ((strings_indexFunc_of_value_Name_1_l1 p1 p2 k1) (z1 + (Utf8.decode p1 z1).2)))
      (strings_indexFunc_of_value_Name_1_j1)

def strings_indexFunc_of_value_Name_1 (p1 : ByteArray) (p2 : Bool) : Option Int :=
    strings_indexFunc_of_value_Name_1_l1 p1 p2 BIG 0


theorem c_strings_indexFunc_of_value_Name_1 (p1 : ByteArray) (p2 : Bool) : CT Tryz.prog 105 [vs p1, .one (.pv (.fn 80 [])), vb p2] (strings_indexFunc_of_value_Name_1 p1 p2) vi :=
  uFn 21 [] Tryz.f105 fun r => (uQ (kS Tryz.f105 [1,0] 1) fun K2 hK2 => have hJ1 : ∀ (_ : Unit), strings_indexFunc_of_value_Name_1_j1 = some r → K2.p [] [] := fun _ h => hK2 h (uR .ret xF); (uRg p1 (uO (cd Tryz.f105 [1,0,1,0,0]) (kS Tryz.f105 [1,0,1,0] 1) fun R1 b1 => have hL1 : ∀ (k1 : Nat) (z1 : Nat), strings_indexFunc_of_value_Name_1_l1 p1 p2 k1 z1 = some r → (R1 k1).p [(1, .one (.pv (.fn 80 []))), (2, vb p2), (10, .one (.pt 0 0 0 0))] [.raw (.stringIter p1 z1)] := by intro k1; induction k1 with | zero => intro z1 h; exact uE0 (strings_indexFunc_of_value_Name_1_l1.eq_1 ..) h | succ k1 ih1 => intro z1 h; exact b1 h (uU (strings_indexFunc_of_value_Name_1_l1.eq_2 ..) (uNx 0 (fun b5 => (uT (uP (c_value_Name_1 _) fun r1 _ => (uC (uR .ret (xN (xN xF))) (uJ (ih1 (z1 + (Utf8.decode p1 z1).2))))))) (fun b5 => (uF (uR (.exit 0) (xM (uJ (hJ1 ()))))))))
 uE (hL1 BIG 0))))

def strings_IndexFunc_of_value_Name_1 (p1 : ByteArray) : Option Int :=
    bnd (strings_indexFunc_of_value_Name_1 p1 true) fun r1 =>
    some r1


theorem c_strings_IndexFunc_of_value_Name_1 (p1 : ByteArray) : CT Tryz.prog 91 [vs p1, .one (.pv (.fn 80 []))] (strings_IndexFunc_of_value_Name_1 p1) vi :=
  uFn 8 [] Tryz.f91 fun r => (uP (c_strings_indexFunc_of_value_Name_1 _ _) fun r1 _ => (uR .ret xF))

def strings_ContainsFunc_of_value_Name_1 (p1 : ByteArray) : Option Bool :=
    bnd (strings_IndexFunc_of_value_Name_1 p1) fun r1 =>
    some (decide ((0 : Int) ≤ r1))


theorem c_strings_ContainsFunc_of_value_Name_1 (p1 : ByteArray) : CT Tryz.prog 81 [vs p1, .one (.pv (.fn 80 []))] (strings_ContainsFunc_of_value_Name_1 p1) vb :=
  uFn 9 [] Tryz.f81 fun r => (uP (c_strings_IndexFunc_of_value_Name_1 _) fun r1 _ => (uR .ret xF))

def value_Name_j1 (p1 : ByteArray) (x1 : Bool) : Option Bool :=
    ift x1
      (some false)
      (bnd (strings_ContainsFunc_of_value_Name_1 p1) fun r1 =>
       some (!r1))

def value_Name (p1 : ByteArray) : Option Bool :=
    ift (p1.toList == (ByteArray.mk #[]).toList)
      (value_Name_j1 p1 true)
      (ift (decide ((24 : Int) < (p1.size : Int)))
         (value_Name_j1 p1 true)
         (grd (0 ≤ (0 : Int) ∧ (0 : Int) < (p1.size : Int)) <|
          bnd (some (decide (((p1.data.toList.getD (0 : Int).toNat 0).toNat : Int) < (97 : Int)))) fun y1 =>
          ift y1
            (value_Name_j1 p1 true)
            (grd (0 ≤ (0 : Int) ∧ (0 : Int) < (p1.size : Int)) <|
             bnd (some (decide ((122 : Int) < ((p1.data.toList.getD (0 : Int).toNat 0).toNat : Int)))) fun y2 =>
             value_Name_j1 p1 y2)))


theorem c_value_Name (p1 : ByteArray) : CT Tryz.prog 70 [vs p1] (value_Name p1) vb :=
  uFn 25 [] Tryz.f70 fun r => (uQ (kS Tryz.f70 [1,0,0] 2) fun K3 hK3 => have hJ1 : ∀ (x1 : Bool), value_Name_j1 p1 x1 = some r → K3.p [(0, vs p1), (20, vb x1)] [] := fun x1 h => hK3 h (uC (uR .ret xF) (uP (c_strings_ContainsFunc_of_value_Name_1 _) fun r1 _ => (uR .ret xF))); (uC (uJ (hJ1 true)) (uC (uJ (hJ1 true)) (uG (uY 14 vb fun y1 => (uC (uJ (hJ1 true)) (uG (uY 19 vb fun y2 => (uJ (hJ1 y2))))))))))

def value_fields_1 (p1 : GField) : Option Bool :=
    bnd (value_Name p1.name) fun r1 =>
    some (!r1)


theorem c_value_fields_1 (p1 : GField) : CT Tryz.prog 69 [.ag [ci p1.id, cst p1.name, cb p1.need, ci p1.type.kind, ci p1.type.scale, cl eField p1.type.fields]] (value_fields_1 p1) vb :=
  uFn 7 [] Tryz.f69 fun r => (uP (c_value_Name _) fun r1 _ => (uR .ret xF))

def slices_IndexFunc_api_Field_api_Field_of_value_fields_1_j1 : Option Int :=
    some (-1 : Int)

def slices_IndexFunc_api_Field_api_Field_of_value_fields_1_l1 (p1 : (List GField)) : Nat → Int → Option Int
  | 0, _ => none
  | k1 + 1, x1 =>
    ift (decide (x1 < (p1.length : Int)))
      (bnd (at? p1 x1) fun e1 =>
       bnd (value_fields_1 e1) fun r1 =>
       ift r1
         (some x1)
         ((slices_IndexFunc_api_Field_api_Field_of_value_fields_1_l1 p1 k1) (IntKind.i64.wrap (x1 + (1 : Int)))))
      (slices_IndexFunc_api_Field_api_Field_of_value_fields_1_j1)

def slices_IndexFunc_api_Field_api_Field_of_value_fields_1 (p1 : (List GField)) : Option Int :=
    slices_IndexFunc_api_Field_api_Field_of_value_fields_1_l1 p1 BIG (0 : Int)


theorem c_slices_IndexFunc_api_Field_api_Field_of_value_fields_1 (p1 : (List GField)) : CT Tryz.prog 40 [vl eField p1, .one (.pv (.fn 69 []))] (slices_IndexFunc_api_Field_api_Field_of_value_fields_1 p1) vi :=
  uFn 19 [] Tryz.f40 fun r => (uQ (kS Tryz.f40 [1,0] 1) fun K2 hK2 => have hJ1 : ∀ (_ : Unit), slices_IndexFunc_api_Field_api_Field_of_value_fields_1_j1 = some r → K2.p [] [] := fun _ h => hK2 h (uR .ret xF); (uN eField p1 (uO (cd Tryz.f40 [1,0,1,0,0]) (kS Tryz.f40 [1,0,1,0] 1) fun R1 b1 => have hL1 : ∀ (k1 : Nat) (x1 : Int), slices_IndexFunc_api_Field_api_Field_of_value_fields_1_l1 p1 k1 x1 = some r → (R1 k1).p [(0, vl eField p1), (1, .one (.pv (.fn 69 []))), (7, vi (p1.length : Int)), (8, vi x1)] [] := by intro k1; induction k1 with | zero => intro x1 h; exact uE0 (slices_IndexFunc_api_Field_api_Field_of_value_fields_1_l1.eq_1 ..) h | succ k1 ih1 => intro x1 h; exact b1 h (uU (slices_IndexFunc_api_Field_api_Field_of_value_fields_1_l1.eq_2 ..) (uC (uL eField fun e1 a10 => (uP (c_value_fields_1 _) fun r1 _ => (uC (uR .ret (xN (xN xF))) (uJ (ih1 (IntKind.i64.wrap (x1 + (1 : Int)))))))) (uR (.exit 0) (xM (uJ (hJ1 ()))))))
 uE (hL1 BIG (0 : Int)))))

def slices_ContainsFunc_api_Field_api_Field_of_value_fields_1 (p1 : (List GField)) : Option Bool :=
    bnd (slices_IndexFunc_api_Field_api_Field_of_value_fields_1 p1) fun r1 =>
    some (decide ((0 : Int) ≤ r1))


theorem c_slices_ContainsFunc_api_Field_api_Field_of_value_fields_1 (p1 : (List GField)) : CT Tryz.prog 68 [vl eField p1, .one (.pv (.fn 69 []))] (slices_ContainsFunc_api_Field_api_Field_of_value_fields_1 p1) vb :=
  uFn 9 [] Tryz.f68 fun r => (uP (c_slices_IndexFunc_api_Field_api_Field_of_value_fields_1 _) fun r1 _ => (uR .ret xF))

def value_fields_2 (p1 : GField) (p2 : GField) : Option (Bool × GField) :=
    some ((p1.name.toList == p2.name.toList), p2)


theorem c_value_fields_2 (p1 : GField) (p2 : GField) : CM Tryz.prog 71 [.ag [ci p1.id, cst p1.name, cb p1.need, ci p1.type.kind, ci p1.type.scale, cl eField p1.type.fields], .one (.pt 0 0 0 0)] [.box [ci p2.id, cst p2.name, cb p2.need, ci p2.type.kind, ci p2.type.scale, cl eField p2.type.fields]] (value_fields_2 p1 p2) (fun r => vb r.1) (fun r => [.box [ci r.2.id, cst r.2.name, cb r.2.need, ci r.2.type.kind, ci r.2.type.scale, cl eField r.2.type.fields]]) :=
  uFnM 1 9 [] Tryz.f71 fun r => (uR .ret xFM)

def slices_IndexFunc_api_Field_api_Field_of_value_fields_2_j1 (z7 : Int) (z8 : ByteArray) (z9 : Bool) (z10 : Int) (z11 : Int) (z12 : List GField) : Option (Int × GField) :=
    some ((-1 : Int), (FieldP.mk z7 z8 z9 (GType.mk z10 z11 z12)))

def slices_IndexFunc_api_Field_api_Field_of_value_fields_2_l1 (p1 : (List GField)) : Nat → Int → ByteArray → Bool → Int → Int → List GField → Int → Option (Int × GField)
  | 0, _, _, _, _, _, _, _ => none
  | k1 + 1, z1, z2, z3, z4, z5, z6, x1 =>
    ift (decide (x1 < (p1.length : Int)))
      (bnd (at? p1 x1) fun e1 =>
       bnd (value_fields_2 e1 (FieldP.mk z1 z2 z3 (GType.mk z4 z5 z6))) fun r1 =>
       ift r1.1
         (some (x1, r1.2))
         ((slices_IndexFunc_api_Field_api_Field_of_value_fields_2_l1 p1 k1) r1.2.id r1.2.name r1.2.need r1.2.type.kind r1.2.type.scale r1.2.type.fields (IntKind.i64.wrap (x1 + (1 : Int)))))
      (slices_IndexFunc_api_Field_api_Field_of_value_fields_2_j1 z1 z2 z3 z4 z5 z6)

def slices_IndexFunc_api_Field_api_Field_of_value_fields_2 (p1 : (List GField)) (p2 : GField) : Option (Int × GField) :=
    slices_IndexFunc_api_Field_api_Field_of_value_fields_2_l1 p1 BIG p2.id p2.name p2.need p2.type.kind p2.type.scale p2.type.fields (0 : Int)


theorem c_slices_IndexFunc_api_Field_api_Field_of_value_fields_2 (p1 : (List GField)) (p2 : GField) : CM Tryz.prog 40 [vl eField p1, .one (.fn 71 [.pt 0 0 0 0])] [.box [ci p2.id, cst p2.name, cb p2.need, ci p2.type.kind, ci p2.type.scale, cl eField p2.type.fields]] (slices_IndexFunc_api_Field_api_Field_of_value_fields_2 p1 p2) (fun r => vi r.1) (fun r => [.box [ci r.2.id, cst r.2.name, cb r.2.need, ci r.2.type.kind, ci r.2.type.scale, cl eField r.2.type.fields]]) :=
  uFnM 1 19 [] Tryz.f40 fun r => (uQ (kS Tryz.f40 [1,0] 1) fun K2 hK2 => have hJ1 : ∀ (z7 : Int) (z8 : ByteArray) (z9 : Bool) (z10 : Int) (z11 : Int) (z12 : List GField), slices_IndexFunc_api_Field_api_Field_of_value_fields_2_j1 z7 z8 z9 z10 z11 z12 = some r → K2.p [] [.box [ci z7, cst z8, cb z9, ci z10, ci z11, cl eField z12]] := fun z7 z8 z9 z10 z11 z12 h => hK2 h (uR .ret xFM); (uN eField p1 (uO (cd Tryz.f40 [1,0,1,0,0]) (kS Tryz.f40 [1,0,1,0] 1) fun R1 b1 => have hL1 : ∀ (k1 : Nat) (z1 : Int) (z2 : ByteArray) (z3 : Bool) (z4 : Int) (z5 : Int) (z6 : List GField) (x1 : Int), slices_IndexFunc_api_Field_api_Field_of_value_fields_2_l1 p1 k1 z1 z2 z3 z4 z5 z6 x1 = some r → (R1 k1).p [(0, vl eField p1), (1, .one (.fn 71 [.pt 0 0 0 0])), (7, vi (p1.length : Int)), (8, vi x1)] [.box [ci z1, cst z2, cb z3, ci z4, ci z5, cl eField z6]] := by intro k1; induction k1 with | zero => intro z1 z2 z3 z4 z5 z6 x1 h; exact uE0 (slices_IndexFunc_api_Field_api_Field_of_value_fields_2_l1.eq_1 ..) h | succ k1 ih1 => intro z1 z2 z3 z4 z5 z6 x1 h; exact b1 h (uU (slices_IndexFunc_api_Field_api_Field_of_value_fields_2_l1.eq_2 ..) (uC (uL eField fun e1 a10 => (uMc true [0] (c_value_fields_2 _ _) fun r1 _ => (uC (uR .ret (xN (xN xFM))) (uJ (ih1 r1.2.id r1.2.name r1.2.need r1.2.type.kind r1.2.type.scale r1.2.type.fields (IntKind.i64.wrap (x1 + (1 : Int)))))))) (uR (.exit 0) (xM (uJ (hJ1 z1 z2 z3 z4 z5 z6))))))
 uE (hL1 BIG p2.id p2.name p2.need p2.type.kind p2.type.scale p2.type.fields (0 : Int)))))

def slices_ContainsFunc_api_Field_api_Field_of_value_fields_2 (p1 : (List GField)) (p2 : GField) : Option (Bool × GField) :=
    bnd (slices_IndexFunc_api_Field_api_Field_of_value_fields_2 p1 p2) fun r1 =>
    some ((decide ((0 : Int) ≤ r1.1)), r1.2)


theorem c_slices_ContainsFunc_api_Field_api_Field_of_value_fields_2 (p1 : (List GField)) (p2 : GField) : CM Tryz.prog 68 [vl eField p1, .one (.fn 71 [.pt 0 0 0 0])] [.box [ci p2.id, cst p2.name, cb p2.need, ci p2.type.kind, ci p2.type.scale, cl eField p2.type.fields]] (slices_ContainsFunc_api_Field_api_Field_of_value_fields_2 p1 p2) (fun r => vb r.1) (fun r => [.box [ci r.2.id, cst r.2.name, cb r.2.need, ci r.2.type.kind, ci r.2.type.scale, cl eField r.2.type.fields]]) :=
  uFnM 1 9 [] Tryz.f68 fun r => (uMc true [0] (c_slices_IndexFunc_api_Field_api_Field_of_value_fields_2 _ _) fun r1 _ => (uR .ret xFM))

def value_fields_j1 (x1 : Bool) : Option Int :=
    ift x1
      (some (1 : Int))
      (some (0 : Int))

def value_fields_j2 : Option Int :=
    some (0 : Int)

def value_fields_l1 (p1 : GType) : Nat → Int → Option Int
  | 0, _ => none
  | k1 + 1, x2 =>
    ift (decide (x2 < (p1.fields.length : Int)))
      (bnd (at? p1.fields x2) fun e2 =>
       grd (0 ≤ (0 : Int) ∧ (0 : Int) ≤ x2 ∧ x2 ≤ (p1.fields.length : Int)) <|
       bnd (slices_ContainsFunc_api_Field_api_Field_of_value_fields_2 ((p1.fields.drop (0 : Int).toNat).take (x2.toNat - (0 : Int).toNat)) e2) fun r2 =>
       ift r2.1
         (some (5 : Int))
         ((value_fields_l1 p1 k1) (IntKind.i64.wrap (x2 + (1 : Int)))))
      (value_fields_j2)

def value_fields (p1 : GType) : Option Int :=
    ift (p1.kind == (6 : Int))
      (ift ((p1.fields.length : Int) != (1 : Int))
         (value_fields_j1 true)
         (bnd (at? p1.fields (0 : Int)) fun e1 =>
          value_fields_j1 (!(e1.name.toList == (ByteArray.mk #[]).toList))))
      (ift (p1.kind != (7 : Int))
         (ift (decide ((0 : Int) < (p1.fields.length : Int)))
            (some (1 : Int))
            (some (0 : Int)))
         (ift ((p1.fields.length : Int) == (0 : Int))
            (some (1 : Int))
            (bnd (slices_ContainsFunc_api_Field_api_Field_of_value_fields_1 p1.fields) fun r1 =>
             ift r1
               (some (4 : Int))
               (value_fields_l1 p1 BIG (0 : Int)))))


theorem c_value_fields (p1 : GType) : CT Tryz.prog 56 [.ag [ci p1.kind, ci p1.scale, cl eField p1.fields]] (value_fields p1) vi :=
  uFn 52 [4] Tryz.f56 fun r => (uC (uQ (kS Tryz.f56 [1,0,0,1,0,0,0] 4) fun K6 hK6 => have hJ1 : ∀ (x1 : Bool), value_fields_j1 x1 = some r → K6.p [(20, vb x1)] [] := fun x1 h => hK6 h (uC (uR .ret xF) (uR .ret xF)); (uN eField p1.fields (uC (uJ (hJ1 true)) (uL eField fun e1 a8 => (uJ (hJ1 (!(e1.name.toList == (ByteArray.mk #[]).toList)))))))) (uC (uN eField p1.fields (uC (uR .ret xF) (uR .ret xF))) (uN eField p1.fields (uC (uR .ret xF) (uP (c_slices_ContainsFunc_api_Field_api_Field_of_value_fields_1 _) fun r1 _ => (uC (uR .ret xF) (uQ (kS Tryz.f56 [1,1,1,0] 1) fun K27 hK27 => have hJ2 : ∀ (_ : Unit), value_fields_j2 = some r → K27.p [] [] := fun _ h => hK27 h (uR .ret xF); (uN eField p1.fields (uO (cd Tryz.f56 [1,1,1,0,1,0,0]) (kS Tryz.f56 [1,1,1,0,1,0] 1) fun R1 b1 => have hL1 : ∀ (k1 : Nat) (x2 : Int), value_fields_l1 p1 k1 x2 = some r → (R1 k1).p [(1, .one (.pv (.rp [[pi p1.kind, pi p1.scale, .ro (eField.els p1.fields)]] 0 0))), (38, vl eField p1.fields), (39, vi (p1.fields.length : Int)), (40, vi x2)] [] := by intro k1; induction k1 with | zero => intro x2 h; exact uE0 (value_fields_l1.eq_1 ..) h | succ k1 ih1 => intro x2 h; exact b1 h (uU (value_fields_l1.eq_2 ..) (uC (uL eField fun e2 a34 => (uX eField (uMc true [0] (c_slices_ContainsFunc_api_Field_api_Field_of_value_fields_2 _ _) fun r2 _ => (uC (uR .ret (xN (xN xF))) (uJ (ih1 (IntKind.i64.wrap (x2 + (1 : Int))))))))) (uR (.exit 1) (xM (uJ (hJ2 ()))))))
 uE (hL1 BIG (0 : Int)))))))))))

def value_checker_check_j5 (z3 : Int) : Option (Int × GChecker) :=
    some ((0 : Int), (GChecker.mk z3))

def value_checker_check_l1 (q_value_checker_check : GType → Int → GChecker → Option (Int × GChecker)) (p1 : GType) (p2 : Int) : Nat → Int → Int → Option (Int × GChecker)
  | 0, _, _ => none
  | k1 + 1, z2, x4 =>
    ift (decide (x4 < (p1.fields.length : Int)))
      (bnd (at? p1.fields x4) fun e1 =>
       bnd (q_value_checker_check e1.type (IntKind.i64.wrap (p2 + (1 : Int))) (GChecker.mk z2)) fun r4 =>
       ift (r4.1 != (0 : Int))
         (some (r4.1, r4.2))
         ((value_checker_check_l1 q_value_checker_check p1 p2 k1) r4.2.leaves (IntKind.i64.wrap (x4 + (1 : Int)))))
      (value_checker_check_j5 z2)

def value_checker_check_j4 (q_value_checker_check : GType → Int → GChecker → Option (Int × GChecker)) (p1 : GType) (p2 : Int) (z1 : Int) (x3 : Bool) : Option (Int × GChecker) :=
    ift x3
      (some ((1 : Int), (GChecker.mk z1)))
      (bnd (value_fields p1) fun r3 =>
       ift (r3 != (0 : Int))
         (some (r3, (GChecker.mk z1)))
         (value_checker_check_l1 q_value_checker_check p1 p2 BIG z1 (0 : Int)))

def value_checker_check_j3 (q_value_checker_check : GType → Int → GChecker → Option (Int × GChecker)) (p1 : GType) (p2 : Int) (z1 : Int) (x2 : Bool) : Option (Int × GChecker) :=
    ift x2
      (some ((3 : Int), (GChecker.mk z1)))
      (ift (p1.scale != (0 : Int))
         (ift (p1.kind != (3 : Int))
            (value_checker_check_j4 q_value_checker_check p1 p2 z1 true)
            (ift (decide (p1.scale < (0 : Int)))
               (value_checker_check_j4 q_value_checker_check p1 p2 z1 true)
               (value_checker_check_j4 q_value_checker_check p1 p2 z1 (decide ((12 : Int) < p1.scale)))))
         (value_checker_check_j4 q_value_checker_check p1 p2 z1 false))

def value_checker_check_j2 (q_value_checker_check : GType → Int → GChecker → Option (Int × GChecker)) (p1 : GType) (p2 : Int) (z1 : Int) : Option (Int × GChecker) :=
    ift (decide (p1.kind < (1 : Int)))
      (value_checker_check_j3 q_value_checker_check p1 p2 z1 true)
      (value_checker_check_j3 q_value_checker_check p1 p2 z1 (decide ((7 : Int) < p1.kind)))

def value_checker_check_j1 (q_value_checker_check : GType → Int → GChecker → Option (Int × GChecker)) (p1 : GType) (p2 : Int) (p3 : GChecker) (x1 : Bool) : Option (Int × GChecker) :=
    ift x1
      (some ((7 : Int), p3))
      (bnd (value_leaf p1) fun r2 =>
       ift r2
         (value_checker_check_j2 q_value_checker_check p1 p2 (IntKind.i64.wrap (p3.leaves + (1 : Int))))
         (value_checker_check_j2 q_value_checker_check p1 p2 p3.leaves))

def value_checker_check : Nat → GType → Int → GChecker → Option (Int × GChecker)
  | 0, _, _, _ => none
  | k0 + 1, p1, p2, p3 =>
    ift (decide ((4 : Int) < p2))
      (value_checker_check_j1 (value_checker_check k0) p1 p2 p3 true)
      (bnd (value_leaf p1) fun r1 =>
       ift r1
         (value_checker_check_j1 (value_checker_check k0) p1 p2 p3 (p3.leaves == (40 : Int)))
         (value_checker_check_j1 (value_checker_check k0) p1 p2 p3 false))

abbrev qa470 (p1 : GType) : List PV := [pi p1.kind, pi p1.scale, .ro (eField.els p1.fields)]

theorem c_value_checker_check : ∀ (k0 : Nat) (p1 : GType) (p2 : Int) (p3 : GChecker), CM Tryz.prog 39 [.one (.pt 0 0 0 0), .ag [ci p1.kind, ci p1.scale, cl eField p1.fields], vi p2] [.box [ci p3.leaves]] (value_checker_check k0 p1 p2 p3) (fun r => vi r.1) (fun r => [.box [ci r.2.leaves]])
  | 0, _, _, _ => uM0 (value_checker_check.eq_1 ..)
  | k0 + 1, p1, p2, p3 => uFnM 1 83 [9] Tryz.f39 fun r => (uU (value_checker_check.eq_2 ..) (uQ (kS Tryz.f39 [1,0,0] 2) fun K3 hK3 => have hJ1 : ∀ (x1 : Bool), value_checker_check_j1 (value_checker_check k0) p1 p2 p3 x1 = some r → K3.p [(0, .one (.pt 0 0 0 0)), (2, vi p2), (4, .one (.pv (.rp [(qa470 p1)] 0 0))), (23, vb x1)] [.box [ci p3.leaves]] := fun x1 h => hK3 h (uC (uR .ret xFM) (uQ (kS Tryz.f39 [1,1,0] 1) fun K9 hK9 => have hJ2 : ∀ (z1 : Int), value_checker_check_j2 (value_checker_check k0) p1 p2 z1 = some r → K9.p [(0, .one (.pt 0 0 0 0)), (2, vi p2), (4, .one (.pv (.rp [(qa470 p1)] 0 0)))] [.box [ci z1]] := fun z1 h => hK9 h (uQ (kS Tryz.f39 [1,1,1,0,0,0] 3) fun K14 hK14 => have hJ3 : ∀ (x2 : Bool), value_checker_check_j3 (value_checker_check k0) p1 p2 z1 x2 = some r → K14.p [(0, .one (.pt 0 0 0 0)), (2, vi p2), (4, .one (.pv (.rp [(qa470 p1)] 0 0))), (33, vb x2)] [.box [ci z1]] := fun x2 h => hK14 h (uC (uR .ret xFM) (uQ (kS Tryz.f39 [1,1,1,0,0,1,1,0] 3) fun K18 hK18 => have hJ4 : ∀ (x3 : Bool), value_checker_check_j4 (value_checker_check k0) p1 p2 z1 x3 = some r → K18.p [(0, .one (.pt 0 0 0 0)), (2, vi p2), (4, .one (.pv (.rp [(qa470 p1)] 0 0))), (42, vb x3)] [.box [ci z1]] := fun x3 h => hK18 h (uC (uR .ret xFM) (uP (c_value_fields _) fun r3 _ => (uC (uR .ret xFM) (uQ (kS Tryz.f39 [1,1,1,1,1,0] 1) fun K30 hK30 => have hJ5 : ∀ (z3 : Int), value_checker_check_j5 z3 = some r → K30.p [] [.box [ci z3]] := fun z3 h => hK30 h (uR .ret xFM); (uN eField p1.fields (uO (cd Tryz.f39 [1,1,1,1,1,0,1,0,0]) (kS Tryz.f39 [1,1,1,1,1,0,1,0] 1) fun R1 b1 => have hL1 : ∀ (k1 : Nat) (z2 : Int) (x4 : Int), value_checker_check_l1 (value_checker_check k0) p1 p2 k1 z2 x4 = some r → (R1 k1).p [(0, .one (.pt 0 0 0 0)), (2, vi p2), (67, vl eField p1.fields), (68, vi (p1.fields.length : Int)), (69, vi x4)] [.box [ci z2]] := by intro k1; induction k1 with | zero => intro z2 x4 h; exact uE0 (value_checker_check_l1.eq_1 ..) h | succ k1 ih1 => intro z2 x4 h; exact b1 h (uU (value_checker_check_l1.eq_2 ..) (uC (uL eField fun e1 a37 => (uMc true [0] (c_value_checker_check k0 _ _ _) fun r4 _ => (uC (uR .ret (xN (xN xFM))) (uJ (ih1 r4.2.leaves (IntKind.i64.wrap (x4 + (1 : Int)))))))) (uR (.exit 1) (xM (uJ (hJ5 z2))))))
 uE (hL1 BIG z1 (0 : Int)))))))); (uC (uC (uJ (hJ4 true)) (uC (uJ (hJ4 true)) (uJ (hJ4 (decide ((12 : Int) < p1.scale)))))) (uJ (hJ4 false))))); (uC (uJ (hJ3 true)) (uJ (hJ3 (decide ((7 : Int) < p1.kind)))))); (uP (c_value_leaf _) fun r2 _ => (uC (uJ (hJ2 (IntKind.i64.wrap (p3.leaves + (1 : Int))))) (uJ (hJ2 p3.leaves)))))); (uC (uJ (hJ1 true)) (uP (c_value_leaf _) fun r1 _ => (uC (uJ (hJ1 (p3.leaves == (40 : Int)))) (uJ (hJ1 false)))))))

def value_CheckType (p1 : GType) : Option Int :=
    bnd (value_checker_check BIG p1 (1 : Int) (GChecker.mk (0 : Int))) fun r1 =>
    some r1.1


theorem c_value_CheckType (p1 : GType) : CT Tryz.prog 23 [.ag [ci p1.kind, ci p1.scale, cl eField p1.fields]] (value_CheckType p1) vi :=
  uFn 9 [5] Tryz.f23 fun r => (uMc true [0] (c_value_checker_check BIG _ _ _) fun r1 _ => (uR .ret xF))

def value_CheckSchema_1 (p1 : GField) (p2 : (List (Int × Int))) : Option (Int × (List (Int × Int))) :=
    ift (decide (p1.id < (1 : Int)))
      (some ((3 : Int), p2))
      (bnd (some (IntKind.i64.wrap (((mget (kInt .i64) p2 p1.id).getD (0 : Int)) + (1 : Int)))) fun y1 =>
       bnd (some (decide ((1 : Int) < ((mget (kInt .i64) (mset (kInt .i64) p2 p1.id y1) p1.id).getD (0 : Int))))) fun y2 =>
       ift y2
         (some ((5 : Int), (mset (kInt .i64) p2 p1.id y1)))
         (some ((0 : Int), (mset (kInt .i64) p2 p1.id y1))))

abbrev qa487 (p1 : GField) : List PV := [pi p1.id, .s (.string p1.name), .s (.bool p1.need), pi p1.type.kind, pi p1.type.scale, .ro (eField.els p1.type.fields)]
abbrev qa493 (p2 : (List (Int × Int))) : St := [.box [.mp 1], .raw (mapObj (kInt .i64) (eInt .i64) p2)]
abbrev qa497 (p1 : GField) (p2 : (List (Int × Int))) (y1 : Int) : St := [.box [.mp 1], .raw (mapObj (kInt .i64) (eInt .i64) (mset (kInt .i64) p2 p1.id y1))]

theorem c_value_CheckSchema_1 (p1 : GField) (p2 : (List (Int × Int))) (r : (Int × (List (Int × Int)))) (h : value_CheckSchema_1 p1 p2 = some r) : MC Tryz.prog 25 [.ag [ci p1.id, cst p1.name, cb p1.need, ci p1.type.kind, ci p1.type.scale, cl eField p1.type.fields], .one (.pt 0 0 0 0)] (qa493 p2) (vi r.1) [.box [.mp 1], .raw (mapObj (kInt .i64) (eInt .i64) r.2)] := by
 unfold value_CheckSchema_1 at h
 refine MC.of 2 (n := 17) (fn := Tryz.f25) (c := cd Tryz.f25 []) (by kernel_rfl) (by kernel_rfl) (by kernel_rfl) (Nat.le_of_ble_eq_true rfl) rfl (zq fun K1 hK1 => zr (zg [] 2 [1,2] (zd (hK1 _ _ (zq fun K2 hK2 => zq fun K3 hK3 => ?_)))))
 refine zr (zu [] 3 [1,2,6] [(qa487 p1)] (zd (hK3 _ _ (zC h (fun b4 h => ?_) (fun b4 h => ?_)))))
 ·refine zq fun K5 hK5 => zr (zv [] 1 [3] [] [(3, vi (3 : Int))] (qa493 p2) (zd (hK5 _ _ (ze ?_))))
  obtain rfl := Option.some.inj h
  exact FinM.fin (.inr rfl) [] [vi (3 : Int)] [] (by kernel_rfl) trivial (by kernel_rfl) (by kernel_rfl) (.one (.rfl _ rfl))
 ·refine zs (hK2 _ _ (zq fun K6 hK6 => zq fun K7 hK7 => ?_))
  obtain ⟨y1, hy8, h⟩ := zB h
  refine zr (zv [] 3 [1,2,7,9] [(qa487 p1)] [(1, .one (.pt 0 0 0 0)), (2, .one (.pv (.rp [(qa487 p1)] 0 0))), (7, .one (.mp 1)), (9, vi p1.id)] (qa493 p2) ?_)
  refine XO.look (kInt .i64) (eInt .i64) 1 p2 p1.id (0 : Int) 3 3 [(10, vi ((mget (kInt .i64) p2 p1.id).getD (0 : Int))), (1, .one (.pt 0 0 0 0)), (2, .one (.pv (.rp [(qa487 p1)] 0 0))), (7, .one (.mp 1)), (9, vi p1.id)] (by kernel_rfl) (by kernel_rfl) (by kernel_rfl) (by kernel_rfl) (by kernel_rfl) ?_
  refine zv [] 1 [1,2,7,9,11] [] [(1, .one (.pt 0 0 0 0)), (2, .one (.pv (.rp [[pi p1.id, .s (.string p1.name), .s (.bool p1.need), pi p1.type.kind, pi p1.type.scale, .ro (eField.els p1.type.fields)]] 0 0))), (7, .one (.mp 1)), (9, vi p1.id), (11, vi (IntKind.i64.wrap (((mget (kInt .i64) p2 p1.id).getD (0 : Int)) + (1 : Int))))] [.box [.mp 1], .raw (mapObj (kInt .i64) (eInt .i64) p2)] ?_
  rw [show (IntKind.i64.wrap (((mget (kInt .i64) p2 p1.id).getD (0 : Int)) + (1 : Int))) = y1 from Option.some.inj hy8]
  refine XO.mupd (kInt .i64) (eInt .i64) 1 p2 p1.id y1 3 (qa497 p1 p2 y1) (by kernel_rfl) (by kernel_rfl) (by kernel_rfl) (by kernel_rfl) (zd (hK7 _ _ (zq fun K9 hK9 => ?_)))
  obtain ⟨y2, hy10, h⟩ := zB h
  refine zr (zv [] 3 [12,14] [(qa487 p1)] [(12, .one (.mp 1)), (14, vi p1.id)] (qa497 p1 p2 y1) (XO.look (kInt .i64) (eInt .i64) 1 (mset (kInt .i64) p2 p1.id y1) p1.id (0 : Int) 3 3 [(15, vi ((mget (kInt .i64) (mset (kInt .i64) p2 p1.id y1) p1.id).getD (0 : Int))), (12, .one (.mp 1)), (14, vi p1.id)] (by kernel_rfl) (by kernel_rfl) (by kernel_rfl) (by kernel_rfl) (by kernel_rfl) ?_))
  refine zv [] 1 [16] [] [(16, vb (decide ((1 : Int) < ((mget (kInt .i64) (mset (kInt .i64) p2 p1.id y1) p1.id).getD (0 : Int)))))] [.box [.mp 1], .raw (mapObj (kInt .i64) (eInt .i64) (mset (kInt .i64) p2 p1.id y1))] ?_
  rw [show (decide ((1 : Int) < ((mget (kInt .i64) (mset (kInt .i64) p2 p1.id y1) p1.id).getD (0 : Int)))) = y2 from Option.some.inj hy10]
  refine zd (hK9 _ _ (zC h (fun b11 h => ?_) (fun b11 h => ?_)))
  ·refine zq fun K12 hK12 => zr (zv [] 1 [3] [] [(3, vi (5 : Int))] (qa497 p1 p2 y1) (zd (hK12 _ _ (ze ?_))))
   obtain rfl := Option.some.inj h
   exact FinM.fin (.inr rfl) [] [vi (5 : Int)] [] (by kernel_rfl) trivial (by kernel_rfl) (by kernel_rfl) (.one (.rfl _ rfl))
  ·refine zs (hK6 _ _ (zq fun K13 hK13 => zr (zv [] 1 [3] [] [(3, vi (0 : Int))] (qa497 p1 p2 y1) (zd (hK13 _ _ (ze ?_))))))
   obtain rfl := Option.some.inj h
   exact FinM.fin (.inr rfl) [] [vi (0 : Int)] [] (by kernel_rfl) trivial (by kernel_rfl) (by kernel_rfl) (.one (.rfl _ rfl))

def value_Walk_of_value_CheckSchema_1_j1 (z2 : (List (Int × Int))) : Option (Int × (List (Int × Int))) :=
    some ((0 : Int), z2)

def value_Walk_of_value_CheckSchema_1_l1 (q_value_Walk_of_value_CheckSchema_1 : (List GField) → (List (Int × Int)) → Option (Int × (List (Int × Int)))) (p1 : (List GField)) : Nat → (List (Int × Int)) → Int → Option (Int × (List (Int × Int)))
  | 0, _, _ => none
  | k1 + 1, z1, x1 =>
    ift (decide (x1 < (p1.length : Int)))
      (bnd (at? p1 x1) fun e1 =>
       bnd (value_CheckSchema_1 e1 z1) fun r1 =>
       ift (r1.1 != (0 : Int))
         (some (r1.1, r1.2))
         (bnd (q_value_Walk_of_value_CheckSchema_1 e1.type.fields r1.2) fun r2 =>
          ift (r2.1 != (0 : Int))
            (some (r2.1, r2.2))
            ((value_Walk_of_value_CheckSchema_1_l1 q_value_Walk_of_value_CheckSchema_1 p1 k1) r2.2 (IntKind.i64.wrap (x1 + (1 : Int))))))
      (value_Walk_of_value_CheckSchema_1_j1 z1)

def value_Walk_of_value_CheckSchema_1 : Nat → (List GField) → (List (Int × Int)) → Option (Int × (List (Int × Int)))
  | 0, _, _ => none
  | k0 + 1, p1, p2 =>
    value_Walk_of_value_CheckSchema_1_l1 (value_Walk_of_value_CheckSchema_1 k0) p1 BIG p2 (0 : Int)


theorem c_value_Walk_of_value_CheckSchema_1 : ∀ (k0 : Nat) (p1 : (List GField)) (p2 : (List (Int × Int))), CM Tryz.prog 24 [vl eField p1, .one (.fn 25 [.pt 0 0 0 0])] [.box [.mp 1], .raw (mapObj (kInt .i64) (eInt .i64) p2)] (value_Walk_of_value_CheckSchema_1 k0 p1 p2) (fun r => vi r.1) (fun r => [.box [.mp 1], .raw (mapObj (kInt .i64) (eInt .i64) r.2)])
  | 0, _, _ => uM0 (value_Walk_of_value_CheckSchema_1.eq_1 ..)
  | k0 + 1, p1, p2 => uFnM 2 30 [6] Tryz.f24 fun r => (uU (value_Walk_of_value_CheckSchema_1.eq_2 ..) (uQ (kS Tryz.f24 [1,0] 1) fun K2 hK2 => have hJ1 : ∀ (z2 : (List (Int × Int))), value_Walk_of_value_CheckSchema_1_j1 z2 = some r → K2.p [] [.box [.mp 1], .raw (mapObj (kInt .i64) (eInt .i64) z2)] := fun z2 h => hK2 h (uR .ret xFM); (uN eField p1 (uO (cd Tryz.f24 [1,0,1,0,0]) (kS Tryz.f24 [1,0,1,0] 1) fun R1 b1 => have hL1 : ∀ (k1 : Nat) (z1 : (List (Int × Int))) (x1 : Int), value_Walk_of_value_CheckSchema_1_l1 (value_Walk_of_value_CheckSchema_1 k0) p1 k1 z1 x1 = some r → (R1 k1).p [(1, .one (.fn 25 [.pt 0 0 0 0])), (9, vl eField p1), (10, vi (p1.length : Int)), (11, vi x1)] [.box [.mp 1], .raw (mapObj (kInt .i64) (eInt .i64) z1)] := by intro k1; induction k1 with | zero => intro z1 x1 h; exact uE0 (value_Walk_of_value_CheckSchema_1_l1.eq_1 ..) h | succ k1 ih1 => intro z1 x1 h; exact b1 h (uU (value_Walk_of_value_CheckSchema_1_l1.eq_2 ..) (uC (uL eField fun e1 a9 => (uMc true [0,1] (c_value_CheckSchema_1 _ _) fun r1 _ => (uC (uR .ret (xN (xN xFM))) (uMc true [0,1] (c_value_Walk_of_value_CheckSchema_1 k0 _ _) fun r2 _ => (uC (uR .ret (xN (xN xFM))) (uJ (ih1 r2.2 (IntKind.i64.wrap (x1 + (1 : Int)))))))))) (uR (.exit 0) (xM (uJ (hJ1 z1))))))
 uE (hL1 BIG p2 (0 : Int))))))

def value_CheckSchema (p1 : (List GField)) : Option Int :=
    bnd (value_CheckType (GType.mk (7 : Int) (0 : Int) p1)) fun r1 =>
    ift (r1 != (0 : Int))
      (some r1)
      (bnd (value_Walk_of_value_CheckSchema_1 BIG p1 []) fun r2 =>
       some r2.1)


theorem c_value_CheckSchema (p1 : (List GField)) (r : Int) (h : value_CheckSchema p1 = some r) : PC Tryz.prog 10 [vl eField p1] (vi r) := by
 unfold value_CheckSchema at h
 refine zF 15 Tryz.f10 (zq fun K1 hK1 => zr (zg [4] 1 [0] (zd (hK1 _ _ (zq fun K2 hK2 => zq fun K3 hK3 => ?_)))))
 obtain ⟨r1, c4, h⟩ := zB h
 refine zr (zg [4] 2 [0,6] (zl 23 [.ag [ci (7 : Int), ci (0 : Int), cl eField p1]] (vi r1) [(7, vi r1), (0, vl eField p1), (6, .ag [ci (7 : Int), ci (0 : Int), cl eField p1])] (c_value_CheckType _ _ c4) (zg [4] 1 [0,3] (zd (hK3 _ _ (zq fun K5 hK5 => zr ?_))))))
 refine zg [4] 2 [0,3,9] (zd (hK5 _ _ (zC h (fun b6 h => ?_) (fun b6 h => ?_))))
 ·refine zq fun K7 hK7 => zr (zv [4] 2 [2] [] [(2, vi r1)] [] (zd (hK7 _ _ (ze ?_))))
  obtain rfl := Option.some.inj h
  exact zf [vi r1] (.one (.rfl _ rfl))
 ·refine zs (hK2 _ _ (zq fun K8 hK8 => zr (XO.mkm (kInt .i64) (eInt .i64) [(11, .one (.mp 0)), (0, vl eField p1), (3, vi r1), (9, vb (r1 != (0 : Int)))] [.raw (mapObj (kInt .i64) (eInt .i64) [])] (by kernel_rfl) (by kernel_rfl) (by kernel_rfl) (zg [4] 2 [0,4] (zd (hK8 _ _ ?_))))))
  refine zq fun K9 hK9 => ?_
  obtain ⟨r2, c10, h⟩ := zB h
  refine zr (zv [4] 2 [12,13] [] [(12, vl eField p1), (13, .one (.fn 25 [.pt 1 0 0 0]))] [.raw (mapObj (kInt .i64) (eInt .i64) []), .box [.mp 0]] (XO.calm 24 [vl eField p1, .one (.fn 25 [.pt 0 0 0 0])] [.box [.mp 1], .raw (mapObj (kInt .i64) (eInt .i64) [])] [.box [.mp 1], .raw (mapObj (kInt .i64) (eInt .i64) r2.2)] (vi r2.1) [1, 0] [(14, vi r2.1), (12, vl eField p1), (13, .one (.fn 25 [.pt 1 0 0 0]))] [.raw (mapObj (kInt .i64) (eInt .i64) r2.2), .box [.mp 0]] (by kernel_rfl) (c_value_Walk_of_value_CheckSchema_1 BIG _ _ _ c10) (by kernel_rfl) (by kernel_rfl) (by kernel_rfl) (by kernel_rfl) ?_))
  refine zg [4] 1 [2] (zd (hK9 _ _ (ze ?_)))
  obtain rfl := Option.some.inj h
  exact zf [vi r2.1] (.one (.rfl _ rfl))

def value_within_j1 (x1 : Bool) : Option Bool :=
    some x1

def value_within (p1 : Int) (p2 : Int) (p3 : Int) : Option Bool :=
    ift (decide (p2 ≤ p1))
      (value_within_j1 (decide (p1 ≤ p3)))
      (value_within_j1 false)


theorem c_value_within (p1 : Int) (p2 : Int) (p3 : Int) : CT Tryz.prog 78 [vi p1, vi p2, vi p3] (value_within p1 p2 p3) vb :=
  uFn 15 [] Tryz.f78 fun r => (uQ (kS Tryz.f78 [1,0] 1) fun K2 hK2 => have hJ1 : ∀ (x1 : Bool), value_within_j1 x1 = some r → K2.p [(6, vb x1)] [] := fun x1 h => hK2 h (uR .ret xF); (uC (uJ (hJ1 (decide (p1 ≤ p3)))) (uJ (hJ1 false))))

def value_text_j2 (rec1 : Nat → Option Bool) (p1 : ByteArray) (z1 : Nat) (x2 : Bool) : Option Bool :=
    ift x2
      (some false)
      (rec1 (z1 + (Utf8.decode p1 z1).2))

def value_text_j3 : Option Bool :=
    some true

def value_text_l1 (p1 : ByteArray) : Nat → Nat → Option Bool
  | 0, _ => none
  | k1 + 1, z1 =>
    ift (decide (z1 < p1.size))
      (ift (decide (Int.ofNat (Utf8.decode p1 z1).1 < (32 : Int)))
         (value_text_j2 (value_text_l1 p1 k1) p1 z1 true)
         (value_text_j2 (value_text_l1 p1 k1) p1 z1 (Int.ofNat (Utf8.decode p1 z1).1 == (127 : Int))))
      (value_text_j3)

def value_text_j1 (p1 : ByteArray) (x1 : Bool) : Option Bool :=
    ift x1
      (some false)
      (value_text_l1 p1 BIG 0)

def value_text (p1 : ByteArray) : Option Bool :=
    ift (decide ((256 : Int) < (p1.size : Int)))
      (value_text_j1 p1 true)
      (bnd (utf8_ValidString p1) fun r1 =>
       value_text_j1 p1 (!r1))


theorem c_value_text (p1 : ByteArray) : CT Tryz.prog 79 [vs p1] (value_text p1) vb :=
  uFn 24 [] Tryz.f79 fun r => (uQ (kS Tryz.f79 [1,0,0] 2) fun K3 hK3 => have hJ1 : ∀ (x1 : Bool), value_text_j1 p1 x1 = some r → K3.p [(0, vs p1), (12, vb x1)] [] := fun x1 h => hK3 h (uC (uR .ret xF) (uQ (kS Tryz.f79 [1,1,0] 1) fun K8 hK8 => have hJ3 : ∀ (_ : Unit), value_text_j3 = some r → K8.p [] [] := fun _ h => hK8 h (uR .ret xF); (uRg p1 (uO (cd Tryz.f79 [1,1,0,1,0,0]) (kS Tryz.f79 [1,1,0,1,0] 1) fun R1 b1 => have hL1 : ∀ (k1 : Nat) (z1 : Nat), value_text_l1 p1 k1 z1 = some r → (R1 k1).p [(14, .one (.pt 0 0 0 0))] [.raw (.stringIter p1 z1)] := by intro k1; induction k1 with | zero => intro z1 h; exact uE0 (value_text_l1.eq_1 ..) h | succ k1 ih1 => intro z1 h; exact b1 h (uU (value_text_l1.eq_2 ..) (uNx 0 (fun b11 => (uT (uQ (kS Tryz.f79 [1,1,0,1,0,0,1,1,0,1,0] 2) fun K14 hK14 => have hJ2 : ∀ (x2 : Bool), value_text_j2 (value_text_l1 p1 k1) p1 z1 x2 = some r → K14.p [(14, .one (.pt 0 0 0 0)), (23, vb x2)] [.raw (.stringIter p1 (z1 + (Utf8.decode p1 z1).2))] := fun x2 h => hK14 h (uC (uR .ret (xN (xN xF))) (uJ (ih1 (z1 + (Utf8.decode p1 z1).2)))); (uC (uJ (hJ2 true)) (uJ (hJ2 (Int.ofNat (Utf8.decode p1 z1).1 == (127 : Int)))))))) (fun b11 => (uF (uR (.exit 0) (xM (uJ (hJ3 ()))))))))
 uE (hL1 BIG 0))))); (uC (uJ (hJ1 true)) (uP (c_utf8_ValidString _) fun r1 _ => (uJ (hJ1 (!r1))))))

def value_plain_j2 (x2 : Bool) : Option Bool :=
    some x2

def value_plain_j3 (x3 : Bool) : Option Bool :=
    some x3

def value_plain_j4 (x4 : Bool) : Option Bool :=
    some x4

def value_plain_j5 (x5 : Bool) : Option Bool :=
    some x5

def value_plain_j6 (x6 : Bool) : Option Bool :=
    some x6

def value_plain_j7 (x7 : Bool) : Option Bool :=
    some x7

def value_plain_j8 (x8 : Bool) : Option Bool :=
    some x8

def value_plain_j9 (x9 : Bool) : Option Bool :=
    some x9

def value_plain_j1 (p1 : GValue) (x1 : Bool) : Option Bool :=
    ift (p1.kind == (0 : Int))
      (ift x1
         (ift (p1.s.toList == (ByteArray.mk #[]).toList)
            (value_plain_j2 ((p1.items.length : Int) == (0 : Int)))
            (value_plain_j2 false))
         (value_plain_j2 false))
      (ift (p1.kind == (1 : Int))
         (bnd (value_within p1.n (0 : Int) (1 : Int)) fun r1 =>
          ift r1
            (ift (p1.scale == (0 : Int))
               (ift (p1.s.toList == (ByteArray.mk #[]).toList)
                  (value_plain_j3 ((p1.items.length : Int) == (0 : Int)))
                  (value_plain_j3 false))
               (value_plain_j3 false))
            (value_plain_j3 false))
         (ift (p1.kind == (2 : Int))
            (bnd (value_within p1.n (-999999999999999999 : Int) (999999999999999999 : Int)) fun r2 =>
             ift r2
               (ift (p1.scale == (0 : Int))
                  (ift (p1.s.toList == (ByteArray.mk #[]).toList)
                     (value_plain_j4 ((p1.items.length : Int) == (0 : Int)))
                     (value_plain_j4 false))
                  (value_plain_j4 false))
               (value_plain_j4 false))
            (ift (p1.kind == (3 : Int))
               (bnd (value_within p1.n (-999999999999999999 : Int) (999999999999999999 : Int)) fun r3 =>
                ift r3
                  (bnd (value_within p1.scale (0 : Int) (12 : Int)) fun r4 =>
                   ift r4
                     (ift (p1.s.toList == (ByteArray.mk #[]).toList)
                        (value_plain_j5 ((p1.items.length : Int) == (0 : Int)))
                        (value_plain_j5 false))
                     (value_plain_j5 false))
                  (value_plain_j5 false))
               (ift (p1.kind == (4 : Int))
                  (ift x1
                     (bnd (value_text p1.s) fun r5 =>
                      ift r5
                        (value_plain_j6 ((p1.items.length : Int) == (0 : Int)))
                        (value_plain_j6 false))
                     (value_plain_j6 false))
                  (ift (p1.kind == (5 : Int))
                     (bnd (value_within p1.n (-62135596800 : Int) (253402300799 : Int)) fun r6 =>
                      ift r6
                        (ift (p1.scale == (0 : Int))
                           (ift (p1.s.toList == (ByteArray.mk #[]).toList)
                              (value_plain_j7 ((p1.items.length : Int) == (0 : Int)))
                              (value_plain_j7 false))
                           (value_plain_j7 false))
                        (value_plain_j7 false))
                     (ift (p1.kind == (6 : Int))
                        (ift x1
                           (ift (p1.s.toList == (ByteArray.mk #[]).toList)
                              (value_plain_j8 (decide ((p1.items.length : Int) ≤ (64 : Int))))
                              (value_plain_j8 false))
                           (value_plain_j8 false))
                        (ift (p1.kind == (7 : Int))
                           (ift x1
                              (ift (p1.s.toList == (ByteArray.mk #[]).toList)
                                 (value_plain_j9 (decide ((0 : Int) < (p1.items.length : Int))))
                                 (value_plain_j9 false))
                              (value_plain_j9 false))
                           (some false))))))))

def value_plain (p1 : GValue) : Option Bool :=
    ift (p1.n == (0 : Int))
      (value_plain_j1 p1 (p1.scale == (0 : Int)))
      (value_plain_j1 p1 false)


theorem c_value_plain (p1 : GValue) : CT Tryz.prog 65 [.ag [ci p1.kind, ci p1.n, ci p1.scale, cst p1.s, cl eValue p1.items]] (value_plain p1) vb :=
  uFn 154 [] Tryz.f65 fun r => (uQ (kS Tryz.f65 [1,0] 1) fun K2 hK2 => have hJ1 : ∀ (x1 : Bool), value_plain_j1 p1 x1 = some r → K2.p [(1, .one (.pv (.rp [[pi p1.kind, pi p1.n, pi p1.scale, .s (.string p1.s), .ro (eValue.els p1.items)]] 0 0))), (3, vb x1)] [] := fun x1 h => hK2 h (uC (uQ (kS Tryz.f65 [1,1,0,1,0,1,0,0] 3) fun K8 hK8 => have hJ2 : ∀ (x2 : Bool), value_plain_j2 x2 = some r → K8.p [(2, vb x2)] [] := fun x2 h => hK8 h (uR .ret xF); (uC (uC (uN eValue p1.items (uJ (hJ2 ((p1.items.length : Int) == (0 : Int))))) (uJ (hJ2 false))) (uJ (hJ2 false)))) (uC (uQ (kS Tryz.f65 [1,1,0,1,0,1,1,1,0,0] 3) fun K13 hK13 => have hJ3 : ∀ (x3 : Bool), value_plain_j3 x3 = some r → K13.p [(2, vb x3)] [] := fun x3 h => hK13 h (uR .ret xF); (uP (c_value_within _ _ _) fun r1 _ => (uC (uC (uC (uN eValue p1.items (uJ (hJ3 ((p1.items.length : Int) == (0 : Int))))) (uJ (hJ3 false))) (uJ (hJ3 false))) (uJ (hJ3 false))))) (uC (uQ (kS Tryz.f65 [1,1,0,1,0,1,1,1,1,1,0,0] 3) fun K20 hK20 => have hJ4 : ∀ (x4 : Bool), value_plain_j4 x4 = some r → K20.p [(2, vb x4)] [] := fun x4 h => hK20 h (uR .ret xF); (uP (c_value_within _ _ _) fun r2 _ => (uC (uC (uC (uN eValue p1.items (uJ (hJ4 ((p1.items.length : Int) == (0 : Int))))) (uJ (hJ4 false))) (uJ (hJ4 false))) (uJ (hJ4 false))))) (uC (uQ (kS Tryz.f65 [1,1,0,1,0,1,1,1,1,1,1,1,0,0] 3) fun K27 hK27 => have hJ5 : ∀ (x5 : Bool), value_plain_j5 x5 = some r → K27.p [(2, vb x5)] [] := fun x5 h => hK27 h (uR .ret xF); (uP (c_value_within _ _ _) fun r3 _ => (uC (uP (c_value_within _ _ _) fun r4 _ => (uC (uC (uN eValue p1.items (uJ (hJ5 ((p1.items.length : Int) == (0 : Int))))) (uJ (hJ5 false))) (uJ (hJ5 false)))) (uJ (hJ5 false))))) (uC (uQ (kS Tryz.f65 [1,1,0,1,0,1,1,1,1,1,1,1,1,1,0,0] 3) fun K35 hK35 => have hJ6 : ∀ (x6 : Bool), value_plain_j6 x6 = some r → K35.p [(2, vb x6)] [] := fun x6 h => hK35 h (uR .ret xF); (uC (uP (c_value_text _) fun r5 _ => (uC (uN eValue p1.items (uJ (hJ6 ((p1.items.length : Int) == (0 : Int))))) (uJ (hJ6 false)))) (uJ (hJ6 false)))) (uC (uQ (kS Tryz.f65 [1,1,0,1,0,1,1,1,1,1,1,1,1,1,1,1,0,0] 3) fun K41 hK41 => have hJ7 : ∀ (x7 : Bool), value_plain_j7 x7 = some r → K41.p [(2, vb x7)] [] := fun x7 h => hK41 h (uR .ret xF); (uP (c_value_within _ _ _) fun r6 _ => (uC (uC (uC (uN eValue p1.items (uJ (hJ7 ((p1.items.length : Int) == (0 : Int))))) (uJ (hJ7 false))) (uJ (hJ7 false))) (uJ (hJ7 false))))) (uC (uQ (kS Tryz.f65 [1,1,0,1,0,1,1,1,1,1,1,1,1,1,1,1,1,1,0,0] 3) fun K48 hK48 => have hJ8 : ∀ (x8 : Bool), value_plain_j8 x8 = some r → K48.p [(2, vb x8)] [] := fun x8 h => hK48 h (uR .ret xF); (uC (uC (uN eValue p1.items (uJ (hJ8 (decide ((p1.items.length : Int) ≤ (64 : Int)))))) (uJ (hJ8 false))) (uJ (hJ8 false)))) (uC (uQ (kS Tryz.f65 [1,1,0,1,0,1,1,1,1,1,1,1,1,1,1,1,1,1,1,1,0,0] 3) fun K53 hK53 => have hJ9 : ∀ (x9 : Bool), value_plain_j9 x9 = some r → K53.p [(2, vb x9)] [] := fun x9 h => hK53 h (uR .ret xF); (uC (uC (uN eValue p1.items (uJ (hJ9 (decide ((0 : Int) < (p1.items.length : Int)))))) (uJ (hJ9 false))) (uJ (hJ9 false)))) (uR .ret xF))))))))); (uC (uJ (hJ1 (p1.scale == (0 : Int)))) (uJ (hJ1 false))))

def slices_IndexFunc_api_Value_api_Value_of_value_sound_1_j1 (z2 : Int) : Option (Int × Int) :=
    some ((-1 : Int), z2)

def slices_IndexFunc_api_Value_api_Value_of_value_sound_1_l1 (q_value_sound_1_s : GValue → Int → Int → Option (Bool × Int)) (p1 : (List GValue)) (p2 : Int) : Nat → Int → Int → Option (Int × Int)
  | 0, _, _ => none
  | k1 + 1, z1, x1 =>
    ift (decide (x1 < (p1.length : Int)))
      (bnd (at? p1 x1) fun e1 =>
       bnd (q_value_sound_1_s e1 p2 z1) fun r1 =>
       ift r1.1
         (some (x1, r1.2))
         ((slices_IndexFunc_api_Value_api_Value_of_value_sound_1_l1 q_value_sound_1_s p1 p2 k1) r1.2 (IntKind.i64.wrap (x1 + (1 : Int)))))
      (slices_IndexFunc_api_Value_api_Value_of_value_sound_1_j1 z1)

def value_sound_j2 (q_slices_ContainsFunc_api_Value_api_Value_of_value_sound_1 : (List GValue) → Int → Int → Option (Bool × Int)) (p1 : GValue) (p2 : Int) (z1 : Int) (x1 : Bool) : Option (Bool × Int) :=
    ift x1
      (some (false, z1))
      (bnd (q_slices_ContainsFunc_api_Value_api_Value_of_value_sound_1 p1.items p2 z1) fun r2 =>
       some ((!r2.1), r2.2))

def value_sound_j1 (q_slices_ContainsFunc_api_Value_api_Value_of_value_sound_1 : (List GValue) → Int → Int → Option (Bool × Int)) (p1 : GValue) (p2 : Int) (z1 : Int) : Option (Bool × Int) :=
    ift (decide ((4 : Int) < p2))
      (value_sound_j2 q_slices_ContainsFunc_api_Value_api_Value_of_value_sound_1 p1 p2 z1 true)
      (ift (decide ((256 : Int) < z1))
         (value_sound_j2 q_slices_ContainsFunc_api_Value_api_Value_of_value_sound_1 p1 p2 z1 true)
         (bnd (value_plain p1) fun r1 =>
          value_sound_j2 q_slices_ContainsFunc_api_Value_api_Value_of_value_sound_1 p1 p2 z1 (!r1)))

mutual

def slices_ContainsFunc_api_Value_api_Value_of_value_sound_1 : Nat → (List GValue) → Int → Int → Option (Bool × Int)
  | 0, _, _, _ => none
  | k0 + 1, p1, p2, p3 =>
    bnd ((slices_IndexFunc_api_Value_api_Value_of_value_sound_1 k0) p1 p2 p3) fun r1 =>
    some ((decide ((0 : Int) ≤ r1.1)), r1.2)

def slices_IndexFunc_api_Value_api_Value_of_value_sound_1 : Nat → (List GValue) → Int → Int → Option (Int × Int)
  | 0, _, _, _ => none
  | k0 + 1, p1, p2, p3 =>
    slices_IndexFunc_api_Value_api_Value_of_value_sound_1_l1 (value_sound_1_s k0) p1 p2 BIG p3 (0 : Int)

def value_sound : Nat → GValue → Int → Int → Option (Bool × Int)
  | 0, _, _, _ => none
  | k0 + 1, p1, p2, p3 =>
    ift (p1.kind != (0 : Int))
      (value_sound_j1 (slices_ContainsFunc_api_Value_api_Value_of_value_sound_1 k0) p1 p2 (IntKind.i64.wrap (p3 + (1 : Int))))
      (value_sound_j1 (slices_ContainsFunc_api_Value_api_Value_of_value_sound_1 k0) p1 p2 p3)

def value_sound_1_s : Nat → GValue → Int → Int → Option (Bool × Int)
  | 0, _, _, _ => none
  | k0 + 1, p1, p2, p3 =>
    bnd ((value_sound k0) p1 (IntKind.i64.wrap (p2 + (1 : Int))) p3) fun r1 =>
    some ((!r1.1), r1.2)

end


mutual

theorem c_slices_ContainsFunc_api_Value_api_Value_of_value_sound_1 : ∀ (k0 : Nat) (p1 : (List GValue)) (p2 : Int) (p3 : Int), CM Tryz.prog 50 [vl eValue p1, .one (.fn 66 [.pv (.rp [[pi p2]] 0 0), .pt 0 0 0 0])] [.box [.pt 1 0 0 0], .box [ci p3]] (slices_ContainsFunc_api_Value_api_Value_of_value_sound_1 k0 p1 p2 p3) (fun r => vb r.1) (fun r => [.box [.pt 1 0 0 0], .box [ci r.2]])
  | 0, _, _, _ => uM0 (slices_ContainsFunc_api_Value_api_Value_of_value_sound_1.eq_1 ..)
  | k0 + 1, p1, p2, p3 => uFnM 2 9 [] Tryz.f50 fun r => (uU (slices_ContainsFunc_api_Value_api_Value_of_value_sound_1.eq_2 ..) (uMc true [0,1] (c_slices_IndexFunc_api_Value_api_Value_of_value_sound_1 k0 _ _ _) fun r1 _ => (uR .ret xFM)))

theorem c_slices_IndexFunc_api_Value_api_Value_of_value_sound_1 : ∀ (k0 : Nat) (p1 : (List GValue)) (p2 : Int) (p3 : Int), CM Tryz.prog 67 [vl eValue p1, .one (.fn 66 [.pv (.rp [[pi p2]] 0 0), .pt 0 0 0 0])] [.box [.pt 1 0 0 0], .box [ci p3]] (slices_IndexFunc_api_Value_api_Value_of_value_sound_1 k0 p1 p2 p3) (fun r => vi r.1) (fun r => [.box [.pt 1 0 0 0], .box [ci r.2]])
  | 0, _, _, _ => uM0 (slices_IndexFunc_api_Value_api_Value_of_value_sound_1.eq_1 ..)
  | k0 + 1, p1, p2, p3 => uFnM 2 19 [] Tryz.f67 fun r => (uU (slices_IndexFunc_api_Value_api_Value_of_value_sound_1.eq_2 ..) (uQ (kS Tryz.f67 [1,0] 1) fun K2 hK2 => have hJ1 : ∀ (z2 : Int), slices_IndexFunc_api_Value_api_Value_of_value_sound_1_j1 z2 = some r → K2.p [] [.box [.pt 1 0 0 0], .box [ci z2]] := fun z2 h => hK2 h (uR .ret xFM); (uN eValue p1 (uO (cd Tryz.f67 [1,0,1,0,0]) (kS Tryz.f67 [1,0,1,0] 1) fun R1 b1 => have hL1 : ∀ (k1 : Nat) (z1 : Int) (x1 : Int), slices_IndexFunc_api_Value_api_Value_of_value_sound_1_l1 (value_sound_1_s k0) p1 p2 k1 z1 x1 = some r → (R1 k1).p [(0, vl eValue p1), (1, .one (.fn 66 [.pv (.rp [[pi p2]] 0 0), .pt 0 0 0 0])), (7, vi (p1.length : Int)), (8, vi x1)] [.box [.pt 1 0 0 0], .box [ci z1]] := by intro k1; induction k1 with | zero => intro z1 x1 h; exact uE0 (slices_IndexFunc_api_Value_api_Value_of_value_sound_1_l1.eq_1 ..) h | succ k1 ih1 => intro z1 x1 h; exact b1 h (uU (slices_IndexFunc_api_Value_api_Value_of_value_sound_1_l1.eq_2 ..) (uC (uL eValue fun e1 a10 => (uMc true [0,1] (c_value_sound_1_s k0 _ _ _) fun r1 _ => (uC (uR .ret (xN (xN xFM))) (uJ (ih1 r1.2 (IntKind.i64.wrap (x1 + (1 : Int)))))))) (uR (.exit 0) (xM (uJ (hJ1 z1))))))
 uE (hL1 BIG p3 (0 : Int))))))

theorem c_value_sound : ∀ (k0 : Nat) (p1 : GValue) (p2 : Int) (p3 : Int), CM Tryz.prog 49 [.ag [ci p1.kind, ci p1.n, ci p1.scale, cst p1.s, cl eValue p1.items], vi p2, .one (.pt 0 0 0 0)] [.box [ci p3]] (value_sound k0 p1 p2 p3) (fun r => vb r.1) (fun r => [.box [ci r.2]])
  | 0, _, _, _ => uM0 (value_sound.eq_1 ..)
  | k0 + 1, p1, p2, p3 => uFnM 1 33 [5] Tryz.f49 fun r => (uU (value_sound.eq_2 ..) (uQ (kS Tryz.f49 [1,0] 1) fun K2 hK2 => have hJ1 : ∀ (z1 : Int), value_sound_j1 (slices_ContainsFunc_api_Value_api_Value_of_value_sound_1 k0) p1 p2 z1 = some r → K2.p [(3, .one (.pv (.rp [[pi p1.kind, pi p1.n, pi p1.scale, .s (.string p1.s), .ro (eValue.els p1.items)]] 0 0))), (4, .one (.pv (.rp [[pi p2]] 0 0))), (5, .one (.pt 1 0 0 0))] [.box [ci z1], .box [.pt 0 0 0 0]] := fun z1 h => hK2 h (uQ (kS Tryz.f49 [1,1,0,0] 2) fun K6 hK6 => have hJ2 : ∀ (x1 : Bool), value_sound_j2 (slices_ContainsFunc_api_Value_api_Value_of_value_sound_1 k0) p1 p2 z1 x1 = some r → K6.p [(3, .one (.pv (.rp [[pi p1.kind, pi p1.n, pi p1.scale, .s (.string p1.s), .ro (eValue.els p1.items)]] 0 0))), (4, .one (.pv (.rp [[pi p2]] 0 0))), (5, .one (.pt 1 0 0 0)), (27, vb x1)] [.box [ci z1], .box [.pt 0 0 0 0]] := fun x1 h => hK6 h (uC (uR .ret xFM) (uMc true [1,0] (c_slices_ContainsFunc_api_Value_api_Value_of_value_sound_1 k0 _ _ _) fun r2 _ => (uR .ret xFM))); (uC (uJ (hJ2 true)) (uC (uJ (hJ2 true)) (uP (c_value_plain _) fun r1 _ => (uJ (hJ2 (!r1))))))); (uC (uJ (hJ1 (IntKind.i64.wrap (p3 + (1 : Int))))) (uJ (hJ1 p3)))))

theorem c_value_sound_1_s : ∀ (k0 : Nat) (p1 : GValue) (p2 : Int) (p3 : Int), CM Tryz.prog 66 [.ag [ci p1.kind, ci p1.n, ci p1.scale, cst p1.s, cl eValue p1.items], .one (.pv (.rp [[pi p2]] 0 0)), .one (.pt 0 0 0 0)] [.box [.pt 1 0 0 0], .box [ci p3]] (value_sound_1_s k0 p1 p2 p3) (fun r => vb r.1) (fun r => [.box [.pt 1 0 0 0], .box [ci r.2]])
  | 0, _, _, _ => uM0 (value_sound_1_s.eq_1 ..)
  | k0 + 1, p1, p2, p3 => uFnM 2 11 [] Tryz.f66 fun r => (uU (value_sound_1_s.eq_2 ..) (uMc true [1] (c_value_sound k0 _ _ _) fun r1 _ => (uR .ret xFM)))

end

def value_Sound (p1 : GValue) : Option Bool :=
    bnd (value_sound BIG p1 (1 : Int) (0 : Int)) fun r1 =>
    some r1.1


theorem c_value_Sound (p1 : GValue) : CT Tryz.prog 36 [.ag [ci p1.kind, ci p1.n, ci p1.scale, cst p1.s, cl eValue p1.items]] (value_Sound p1) vb :=
  uFn 6 [3] Tryz.f36 fun r => (uMc true [0] (c_value_sound BIG _ _ _) fun r1 _ => (uR .ret xF))

def slices_EqualFunc_api_Field_api_Value_api_Field_api_Value_of_value_of_2_j1 : Option Bool :=
    some true

def slices_EqualFunc_api_Field_api_Value_api_Field_api_Value_of_value_of_2_l1 (q_value_of_2 : GField → GValue → Option Bool) (p1 : (List GField)) (p2 : (List GValue)) : Nat → Int → Option Bool
  | 0, _ => none
  | k1 + 1, x1 =>
    ift (decide (x1 < (p1.length : Int)))
      (bnd (at? p1 x1) fun e1 =>
       bnd (at? p2 x1) fun e2 =>
       bnd (q_value_of_2 e1 e2) fun r1 =>
       ift (!r1)
         (some false)
         ((slices_EqualFunc_api_Field_api_Value_api_Field_api_Value_of_value_of_2_l1 q_value_of_2 p1 p2 k1) (IntKind.i64.wrap (x1 + (1 : Int)))))
      (slices_EqualFunc_api_Field_api_Value_api_Field_api_Value_of_value_of_2_j1)

def slices_IndexFunc_api_Value_api_Value_of_value_of_1_j1 : Option Int :=
    some (-1 : Int)

def slices_IndexFunc_api_Value_api_Value_of_value_of_1_l1 (q_value_of_1_s : GValue → Int → Int → (List GField) → Option Bool) (p1 : (List GValue)) (p2 : Int) (p3 : Int) (p4 : (List GField)) : Nat → Int → Option Int
  | 0, _ => none
  | k1 + 1, x1 =>
    ift (decide (x1 < (p1.length : Int)))
      (bnd (at? p1 x1) fun e1 =>
       bnd (q_value_of_1_s e1 p2 p3 p4) fun r1 =>
       ift r1
         (some x1)
         ((slices_IndexFunc_api_Value_api_Value_of_value_of_1_l1 q_value_of_1_s p1 p2 p3 p4 k1) (IntKind.i64.wrap (x1 + (1 : Int)))))
      (slices_IndexFunc_api_Value_api_Value_of_value_of_1_j1)

mutual

def slices_ContainsFunc_api_Value_api_Value_of_value_of_1 : Nat → (List GValue) → Int → Int → (List GField) → Option Bool
  | 0, _, _, _, _ => none
  | k0 + 1, p1, p2, p3, p4 =>
    bnd ((slices_IndexFunc_api_Value_api_Value_of_value_of_1 k0) p1 p2 p3 p4) fun r1 =>
    some (decide ((0 : Int) ≤ r1))

def slices_EqualFunc_api_Field_api_Value_api_Field_api_Value_of_value_of_2 : Nat → (List GField) → (List GValue) → Option Bool
  | 0, _, _ => none
  | k0 + 1, p1, p2 =>
    ift ((p1.length : Int) != (p2.length : Int))
      (some false)
      (slices_EqualFunc_api_Field_api_Value_api_Field_api_Value_of_value_of_2_l1 (value_of_2 k0) p1 p2 BIG (0 : Int))

def slices_IndexFunc_api_Value_api_Value_of_value_of_1 : Nat → (List GValue) → Int → Int → (List GField) → Option Int
  | 0, _, _, _, _ => none
  | k0 + 1, p1, p2, p3, p4 =>
    slices_IndexFunc_api_Value_api_Value_of_value_of_1_l1 (value_of_1_s k0) p1 p2 p3 p4 BIG (0 : Int)

def value_of : Nat → GType → GValue → Option Bool
  | 0, _, _ => none
  | k0 + 1, p1, p2 =>
    ift (p2.kind == (0 : Int))
      (some true)
      (ift (p2.kind != p1.kind)
         (some false)
         (ift (p2.kind == (3 : Int))
            (some (p2.scale == p1.scale))
            (ift (p2.kind == (6 : Int))
               (bnd ((slices_ContainsFunc_api_Value_api_Value_of_value_of_1 k0) p2.items p1.kind p1.scale p1.fields) fun r1 =>
                some (!r1))
               (ift (p2.kind == (7 : Int))
                  (bnd ((slices_EqualFunc_api_Field_api_Value_api_Field_api_Value_of_value_of_2 k0) p1.fields p2.items) fun r2 =>
                   some r2)
                  (some true)))))

def value_of_1_s : Nat → GValue → Int → Int → (List GField) → Option Bool
  | 0, _, _, _, _ => none
  | k0 + 1, p1, p2, p3, p4 =>
    bnd (at? p4 (0 : Int)) fun e1 =>
    bnd ((value_of k0) e1.type p1) fun r1 =>
    some (!r1)

def value_of_2 : Nat → GField → GValue → Option Bool
  | 0, _, _ => none
  | k0 + 1, p1, p2 =>
    bnd ((value_of k0) p1.type p2) fun r1 =>
    some r1

end


mutual

theorem c_slices_ContainsFunc_api_Value_api_Value_of_value_of_1 : ∀ (k0 : Nat) (p1 : (List GValue)) (p2 : Int) (p3 : Int) (p4 : (List GField)), CT Tryz.prog 50 [vl eValue p1, .one (.fn 51 [.pv (.rp [[pi p2, pi p3, .ro (eField.els p4)]] 0 0)])] (slices_ContainsFunc_api_Value_api_Value_of_value_of_1 k0 p1 p2 p3 p4) vb
  | 0, _, _, _, _ => uF0 (slices_ContainsFunc_api_Value_api_Value_of_value_of_1.eq_1 ..)
  | k0 + 1, p1, p2, p3, p4 => uFn 9 [] Tryz.f50 fun r => (uU (slices_ContainsFunc_api_Value_api_Value_of_value_of_1.eq_2 ..) (uP (c_slices_IndexFunc_api_Value_api_Value_of_value_of_1 k0 _ _ _ _) fun r1 _ => (uR .ret xF)))

theorem c_slices_EqualFunc_api_Field_api_Value_api_Field_api_Value_of_value_of_2 : ∀ (k0 : Nat) (p1 : (List GField)) (p2 : (List GValue)), CT Tryz.prog 52 [vl eField p1, vl eValue p2, .one (.pv (.fn 53 []))] (slices_EqualFunc_api_Field_api_Value_api_Field_api_Value_of_value_of_2 k0 p1 p2) vb
  | 0, _, _ => uF0 (slices_EqualFunc_api_Field_api_Value_api_Field_api_Value_of_value_of_2.eq_1 ..)
  | k0 + 1, p1, p2 => uFn 32 [8, 9] Tryz.f52 fun r => (uU (slices_EqualFunc_api_Field_api_Value_api_Field_api_Value_of_value_of_2.eq_2 ..) (uN eField p1 (uN eValue p2 (uC (uR .ret xF) (uQ (kS Tryz.f52 [1,1,0] 1) fun K6 hK6 => have hJ1 : ∀ (_ : Unit), slices_EqualFunc_api_Field_api_Value_api_Field_api_Value_of_value_of_2_j1 = some r → K6.p [] [] := fun _ h => hK6 h (uR .ret xF); (uN eField p1 (uO (cd Tryz.f52 [1,1,0,1,0,0]) (kS Tryz.f52 [1,1,0,1,0] 1) fun R1 b1 => have hL1 : ∀ (k1 : Nat) (x1 : Int), slices_EqualFunc_api_Field_api_Value_api_Field_api_Value_of_value_of_2_l1 (value_of_2 k0) p1 p2 k1 x1 = some r → (R1 k1).p [(1, vl eValue p2), (2, .one (.pv (.fn 53 []))), (15, vl eField p1), (16, vi (p1.length : Int)), (17, vi x1)] [] := by intro k1; induction k1 with | zero => intro x1 h; exact uE0 (slices_EqualFunc_api_Field_api_Value_api_Field_api_Value_of_value_of_2_l1.eq_1 ..) h | succ k1 ih1 => intro x1 h; exact b1 h (uU (slices_EqualFunc_api_Field_api_Value_api_Field_api_Value_of_value_of_2_l1.eq_2 ..) (uC (uL eField fun e1 a13 => (uL eValue fun e2 a15 => (uP (c_value_of_2 k0 _ _) fun r1 _ => (uC (uR .ret (xN (xN xF))) (uJ (ih1 (IntKind.i64.wrap (x1 + (1 : Int))))))))) (uR (.exit 0) (xM (uJ (hJ1 ()))))))
 uE (hL1 BIG (0 : Int)))))))))

theorem c_slices_IndexFunc_api_Value_api_Value_of_value_of_1 : ∀ (k0 : Nat) (p1 : (List GValue)) (p2 : Int) (p3 : Int) (p4 : (List GField)), CT Tryz.prog 67 [vl eValue p1, .one (.fn 51 [.pv (.rp [[pi p2, pi p3, .ro (eField.els p4)]] 0 0)])] (slices_IndexFunc_api_Value_api_Value_of_value_of_1 k0 p1 p2 p3 p4) vi
  | 0, _, _, _, _ => uF0 (slices_IndexFunc_api_Value_api_Value_of_value_of_1.eq_1 ..)
  | k0 + 1, p1, p2, p3, p4 => uFn 19 [] Tryz.f67 fun r => (uU (slices_IndexFunc_api_Value_api_Value_of_value_of_1.eq_2 ..) (uQ (kS Tryz.f67 [1,0] 1) fun K2 hK2 => have hJ1 : ∀ (_ : Unit), slices_IndexFunc_api_Value_api_Value_of_value_of_1_j1 = some r → K2.p [] [] := fun _ h => hK2 h (uR .ret xF); (uN eValue p1 (uO (cd Tryz.f67 [1,0,1,0,0]) (kS Tryz.f67 [1,0,1,0] 1) fun R1 b1 => have hL1 : ∀ (k1 : Nat) (x1 : Int), slices_IndexFunc_api_Value_api_Value_of_value_of_1_l1 (value_of_1_s k0) p1 p2 p3 p4 k1 x1 = some r → (R1 k1).p [(0, vl eValue p1), (1, .one (.fn 51 [.pv (.rp [[pi p2, pi p3, .ro (eField.els p4)]] 0 0)])), (7, vi (p1.length : Int)), (8, vi x1)] [] := by intro k1; induction k1 with | zero => intro x1 h; exact uE0 (slices_IndexFunc_api_Value_api_Value_of_value_of_1_l1.eq_1 ..) h | succ k1 ih1 => intro x1 h; exact b1 h (uU (slices_IndexFunc_api_Value_api_Value_of_value_of_1_l1.eq_2 ..) (uC (uL eValue fun e1 a10 => (uP (c_value_of_1_s k0 _ _ _ _) fun r1 _ => (uC (uR .ret (xN (xN xF))) (uJ (ih1 (IntKind.i64.wrap (x1 + (1 : Int)))))))) (uR (.exit 0) (xM (uJ (hJ1 ()))))))
 uE (hL1 BIG (0 : Int))))))

theorem c_value_of : ∀ (k0 : Nat) (p1 : GType) (p2 : GValue), CT Tryz.prog 37 [.ag [ci p1.kind, ci p1.scale, cl eField p1.fields], .ag [ci p2.kind, ci p2.n, ci p2.scale, cst p2.s, cl eValue p2.items]] (value_of k0 p1 p2) vb
  | 0, _, _ => uF0 (value_of.eq_1 ..)
  | k0 + 1, p1, p2 => uFn 42 [] Tryz.f37 fun r => (uU (value_of.eq_2 ..) (uC (uR .ret xF) (uC (uR .ret xF) (uC (uR .ret xF) (uC (uP (c_slices_ContainsFunc_api_Value_api_Value_of_value_of_1 k0 _ _ _ _) fun r1 _ => (uR .ret xF)) (uC (uP (c_slices_EqualFunc_api_Field_api_Value_api_Field_api_Value_of_value_of_2 k0 _ _) fun r2 _ => (uR .ret xF)) (uR .ret xF)))))))

theorem c_value_of_1_s : ∀ (k0 : Nat) (p1 : GValue) (p2 : Int) (p3 : Int) (p4 : (List GField)), CT Tryz.prog 51 [.ag [ci p1.kind, ci p1.n, ci p1.scale, cst p1.s, cl eValue p1.items], .one (.pv (.rp [[pi p2, pi p3, .ro (eField.els p4)]] 0 0))] (value_of_1_s k0 p1 p2 p3 p4) vb
  | 0, _, _, _, _ => uF0 (value_of_1_s.eq_1 ..)
  | k0 + 1, p1, p2, p3, p4 => uFn 12 [] Tryz.f51 fun r => (uU (value_of_1_s.eq_2 ..) (uDr 6 (uL eField fun e1 a3 => (uP (c_value_of k0 _ _) fun r1 _ => (uR .ret xF)))))

theorem c_value_of_2 : ∀ (k0 : Nat) (p1 : GField) (p2 : GValue), CT Tryz.prog 53 [.ag [ci p1.id, cst p1.name, cb p1.need, ci p1.type.kind, ci p1.type.scale, cl eField p1.type.fields], .ag [ci p2.kind, ci p2.n, ci p2.scale, cst p2.s, cl eValue p2.items]] (value_of_2 k0 p1 p2) vb
  | 0, _, _ => uF0 (value_of_2.eq_1 ..)
  | k0 + 1, p1, p2 => uFn 9 [] Tryz.f53 fun r => (uU (value_of_2.eq_2 ..) (uP (c_value_of k0 _ _) fun r1 _ => (uR .ret xF)))

end

def value_field_j1 (p1 : GType) (x1 : Int) : Option GField :=
    bnd (at? p1.fields x1) fun e1 =>
    some e1

def value_field (p1 : GType) (p2 : Int) : Option GField :=
    ift (p1.kind == (6 : Int))
      (value_field_j1 p1 (0 : Int))
      (value_field_j1 p1 p2)


theorem c_value_field (p1 : GType) (p2 : Int) : CT Tryz.prog 54 [.ag [ci p1.kind, ci p1.scale, cl eField p1.fields], vi p2] (value_field p1 p2) (fun r => .ag [ci r.id, cst r.name, cb r.need, ci r.type.kind, ci r.type.scale, cl eField r.type.fields]) :=
  uFn 13 [4] Tryz.f54 fun r => (uQ (kS Tryz.f54 [1,0] 1) fun K2 hK2 => have hJ1 : ∀ (x1 : Int), value_field_j1 p1 x1 = some r → K2.p [(1, vi x1), (2, .one (.pv (.rp [[pi p1.kind, pi p1.scale, .ro (eField.els p1.fields)]] 0 0))), (4, .one (.pt 0 0 0 0))] [.box [ci (0 : Int), cst ByteArray.empty, cb false, ci (0 : Int), ci (0 : Int), .pv (.s (.slice none 0 0))]] := fun x1 h => hK2 h (uL eField fun e1 a6 => (uR .ret xF)); (uC (uJ (hJ1 (0 : Int))) (uJ (hJ1 p2))))

def value_lacks_j1 (rec1 : Int → Option Bool) (x1 : Int) (x2 : Bool) : Option Bool :=
    ift x2
      (some true)
      (rec1 (IntKind.i64.wrap (x1 + (1 : Int))))

def value_lacks_j2 : Option Bool :=
    some false

def value_lacks_l1 (q_value_lacks : GType → GValue → Option Bool) (p1 : GType) (p2 : GValue) : Nat → Int → Option Bool
  | 0, _ => none
  | k1 + 1, x1 =>
    ift (decide (x1 < (p2.items.length : Int)))
      (bnd (at? p2.items x1) fun e1 =>
       bnd (value_field p1 x1) fun r1 =>
       ift (e1.kind == (0 : Int))
         (ift r1.need
            (value_lacks_j1 (value_lacks_l1 q_value_lacks p1 p2 k1) x1 true)
            (bnd (q_value_lacks r1.type e1) fun r2 =>
             value_lacks_j1 (value_lacks_l1 q_value_lacks p1 p2 k1) x1 r2))
         (bnd (q_value_lacks r1.type e1) fun r3 =>
          value_lacks_j1 (value_lacks_l1 q_value_lacks p1 p2 k1) x1 r3))
      (value_lacks_j2)

def value_lacks : Nat → GType → GValue → Option Bool
  | 0, _, _ => none
  | k0 + 1, p1, p2 =>
    value_lacks_l1 (value_lacks k0) p1 p2 BIG (0 : Int)


theorem c_value_lacks : ∀ (k0 : Nat) (p1 : GType) (p2 : GValue), CT Tryz.prog 38 [.ag [ci p1.kind, ci p1.scale, cl eField p1.fields], .ag [ci p2.kind, ci p2.n, ci p2.scale, cst p2.s, cl eValue p2.items]] (value_lacks k0 p1 p2) vb
  | 0, _, _ => uF0 (value_lacks.eq_1 ..)
  | k0 + 1, p1, p2 => uFn 33 [6, 7] Tryz.f38 fun r => (uU (value_lacks.eq_2 ..) (uQ (kS Tryz.f38 [1,0] 1) fun K2 hK2 => have hJ2 : ∀ (_ : Unit), value_lacks_j2 = some r → K2.p [] [] := fun _ h => hK2 h (uR .ret xF); (uN eValue p2.items (uO (cd Tryz.f38 [1,0,1,0,0]) (kS Tryz.f38 [1,0,1,0] 1) fun R1 b1 => have hL1 : ∀ (k1 : Nat) (x1 : Int), value_lacks_l1 (value_lacks k0) p1 p2 k1 x1 = some r → (R1 k1).p [(2, .one (.pv (.rp [[pi p1.kind, pi p1.scale, .ro (eField.els p1.fields)]] 0 0))), (9, vl eValue p2.items), (10, vi (p2.items.length : Int)), (11, vi x1)] [] := by intro k1; induction k1 with | zero => intro x1 h; exact uE0 (value_lacks_l1.eq_1 ..) h | succ k1 ih1 => intro x1 h; exact b1 h (uU (value_lacks_l1.eq_2 ..) (uC (uL eValue fun e1 a9 => (uP (c_value_field _ _) fun r1 _ => (uQ (kS Tryz.f38 [1,0,1,0,0,1,1,0,0,1,1,0] 3) fun K12 hK12 => have hJ1 : ∀ (x2 : Bool), value_lacks_j1 (value_lacks_l1 (value_lacks k0) p1 p2 k1) x1 x2 = some r → K12.p [(2, .one (.pv (.rp [[pi p1.kind, pi p1.scale, .ro (eField.els p1.fields)]] 0 0))), (9, vl eValue p2.items), (10, vi (p2.items.length : Int)), (11, vi x1), (31, vb x2)] [.dead, .dead] := fun x2 h => hK12 h (uC (uR .ret (xN (xN xF))) (uJ (ih1 (IntKind.i64.wrap (x1 + (1 : Int)))))); (uC (uC (uJ (hJ1 true)) (uP (c_value_lacks k0 _ _) fun r2 _ => (uJ (hJ1 r2)))) (uP (c_value_lacks k0 _ _) fun r3 _ => (uJ (hJ1 r3))))))) (uR (.exit 0) (xM (uJ (hJ2 ()))))))
 uE (hL1 BIG (0 : Int))))))

def value_Check (p1 : GType) (p2 : GValue) : Option Int :=
    bnd (value_CheckType p1) fun r1 =>
    ift (r1 != (0 : Int))
      (some r1)
      (bnd (value_Sound p2) fun r2 =>
       ift (!r2)
         (some (1 : Int))
         (bnd (value_of BIG p1 p2) fun r3 =>
          ift (!r3)
            (some (2 : Int))
            (bnd (value_lacks BIG p1 p2) fun r4 =>
             ift r4
               (some (9 : Int))
               (some (0 : Int)))))


theorem c_value_Check (p1 : GType) (p2 : GValue) : CT Tryz.prog 22 [.ag [ci p1.kind, ci p1.scale, cl eField p1.fields], .ag [ci p2.kind, ci p2.n, ci p2.scale, cst p2.s, cl eValue p2.items]] (value_Check p1 p2) vi :=
  uFn 24 [] Tryz.f22 fun r => (uP (c_value_CheckType _) fun r1 _ => (uC (uR .ret xF) (uP (c_value_Sound _) fun r2 _ => (uC (uR .ret xF) (uP (c_value_of BIG _ _) fun r3 _ => (uC (uR .ret xF) (uP (c_value_lacks BIG _ _) fun r4 _ => (uC (uR .ret xF) (uR .ret xF)))))))))

def column_CheckRows_j1 (rec2 : Int → Option Int) (x2 : Int) (x3 : Bool) : Option Int :=
    ift x3
      (some (9 : Int))
      (rec2 (IntKind.i64.wrap (x2 + (1 : Int))))

def column_CheckRows_j2 (rec1 : Int → Option Int) (x1 : Int) : Option Int :=
    rec1 (IntKind.i64.wrap (x1 + (1 : Int)))

def column_CheckRows_l2 (rec1 : Int → Option Int) (p1 : (List GField)) (x1 : Int) (e1 : (List GValue)) : Nat → Int → Option Int
  | 0, _ => none
  | k2 + 1, x2 =>
    ift (decide (x2 < (p1.length : Int)))
      (bnd (at? p1 x2) fun e2 =>
       bnd (at? e1 x2) fun e3 =>
       bnd (value_Check e2.type e3) fun r2 =>
       ift (r2 != (0 : Int))
         (some r2)
         (ift (e3.kind == (0 : Int))
            (column_CheckRows_j1 (column_CheckRows_l2 rec1 p1 x1 e1 k2) x2 e2.need)
            (column_CheckRows_j1 (column_CheckRows_l2 rec1 p1 x1 e1 k2) x2 false)))
      (column_CheckRows_j2 rec1 x1)

def column_CheckRows_j3 : Option Int :=
    some (0 : Int)

def column_CheckRows_l1 (p1 : (List GField)) (p2 : (List (List GValue))) : Nat → Int → Option Int
  | 0, _ => none
  | k1 + 1, x1 =>
    ift (decide (x1 < (p2.length : Int)))
      (bnd (at? p2 x1) fun e1 =>
       ift ((e1.length : Int) != (p1.length : Int))
         (some (1 : Int))
         (column_CheckRows_l2 (column_CheckRows_l1 p1 p2 k1) p1 x1 e1 BIG (0 : Int)))
      (column_CheckRows_j3)

def column_CheckRows (p1 : (List GField)) (p2 : (List (List GValue))) : Option Int :=
    bnd (value_CheckSchema p1) fun r1 =>
    ift (r1 != (0 : Int))
      (some r1)
      (ift (decide ((2000 : Int) < (p2.length : Int)))
         (some (7 : Int))
         (column_CheckRows_l1 p1 p2 BIG (0 : Int)))


theorem c_column_CheckRows (p1 : (List GField)) (p2 : (List (List GValue))) : CT Tryz.prog 9 [vl eField p1, vl (eL eValue) p2] (column_CheckRows p1 p2) vi :=
  uFn 59 [9] Tryz.f9 fun r => (uP (c_value_CheckSchema _) fun r1 _ => (uC (uR .ret xF) (uN (eL eValue) p2 (uC (uR .ret xF) (uQ (kS Tryz.f9 [1,1,1,0] 1) fun K12 hK12 => have hJ3 : ∀ (_ : Unit), column_CheckRows_j3 = some r → K12.p [] [] := fun _ h => hK12 h (uR .ret xF); (uN (eL eValue) p2 (uO (cd Tryz.f9 [1,1,1,0,1,0,0]) (kS Tryz.f9 [1,1,1,0,1,0] 1) fun R1 b1 => have hL1 : ∀ (k1 : Nat) (x1 : Int), column_CheckRows_l1 p1 p2 k1 x1 = some r → (R1 k1).p [(0, vl eField p1), (19, vl (eL eValue) p2), (20, vi (p2.length : Int)), (21, vi x1)] [] := by intro k1; induction k1 with | zero => intro x1 h; exact uE0 (column_CheckRows_l1.eq_1 ..) h | succ k1 ih1 => intro x1 h; exact b1 h (uU (column_CheckRows_l1.eq_2 ..) (uC (uQ (kS Tryz.f9 [1,1,1,0,1,0,0,1,1,0] 1) fun K17 hK17 => have hJ2 : ∀ (_ : Unit), column_CheckRows_j2 (column_CheckRows_l1 p1 p2 k1) x1 = some r → K17.p [(0, vl eField p1), (19, vl (eL eValue) p2), (20, vi (p2.length : Int)), (21, vi x1)] [] := fun _ h => hK17 h (uJ (ih1 (IntKind.i64.wrap (x1 + (1 : Int))))); (uL (eL eValue) fun e1 a19 => (uN eValue e1 (uN eField p1 (uC (uR .ret (xN (xN (xN xF)))) (uN eField p1 (uO (cd Tryz.f9 [1,1,1,0,1,0,0,1,1,0,0,1,1,1,0,0]) (kS Tryz.f9 [1,1,1,0,1,0,0,1,1,0,0,1,1,1,0] 2) fun R2 b2 => have hL2 : ∀ (k2 : Nat) (x2 : Int), column_CheckRows_l2 (column_CheckRows_l1 p1 p2 k1) p1 x1 e1 k2 x2 = some r → (R2 k2).p [(0, vl eField p1), (7, vl eValue e1), (19, vl (eL eValue) p2), (20, vi (p2.length : Int)), (21, vi x1), (30, vl eField p1), (31, vi (p1.length : Int)), (32, vi x2)] [] := by intro k2; induction k2 with | zero => intro x2 h; exact uE0 (column_CheckRows_l2.eq_1 ..) h | succ k2 ih2 => intro x2 h; exact b2 h (uU (column_CheckRows_l2.eq_2 ..) (uC (uL eField fun e2 a30 => (uDr 6 (uL eValue fun e3 a33 => (uP (c_value_Check _ _) fun r2 _ => (uC (uR .ret (xN (xN (xN (xN xF))))) (uQ (kS Tryz.f9 [1,1,1,0,1,0,0,1,1,0,0,1,1,1,0,0,1,1,0,0,1,1,0] 3) fun K38 hK38 => have hJ1 : ∀ (x3 : Bool), column_CheckRows_j1 (column_CheckRows_l2 (column_CheckRows_l1 p1 p2 k1) p1 x1 e1 k2) x2 x3 = some r → K38.p [(0, vl eField p1), (7, vl eValue e1), (19, vl (eL eValue) p2), (20, vi (p2.length : Int)), (21, vi x1), (30, vl eField p1), (31, vi (p1.length : Int)), (32, vi x2), (56, vb x3)] [.dead] := fun x3 h => hK38 h (uC (uR .ret (xN (xN (xN (xN xF))))) (uJ (ih2 (IntKind.i64.wrap (x2 + (1 : Int)))))); (uM eValue a33 (uC (uJ (hJ1 e2.need)) (uJ (hJ1 false)))))))))) (uR (.exit 2) (xM (uJ (hJ2 ()))))))
 uE (hL2 BIG (0 : Int))))))))) (uR (.exit 0) (xM (uJ (hJ3 ()))))))
 uE (hL1 BIG (0 : Int)))))))))

def column_earlier_1_s (p1 : GField) (p2 : Int) : Option Bool :=
    some (p1.id == p2)


theorem c_column_earlier_1_s (p1 : GField) (p2 : Int) : CT Tryz.prog 41 [.ag [ci p1.id, cst p1.name, cb p1.need, ci p1.type.kind, ci p1.type.scale, cl eField p1.type.fields], .one (.pv (.rp [[pi p2]] 0 0))] (column_earlier_1_s p1 p2) vb :=
  uFn 8 [] Tryz.f41 fun r => (uR .ret xF)

def slices_IndexFunc_api_Field_api_Field_of_column_earlier_1_j1 : Option Int :=
    some (-1 : Int)

def slices_IndexFunc_api_Field_api_Field_of_column_earlier_1_l1 (p1 : (List GField)) (p2 : Int) : Nat → Int → Option Int
  | 0, _ => none
  | k1 + 1, x1 =>
    ift (decide (x1 < (p1.length : Int)))
      (bnd (at? p1 x1) fun e1 =>
       bnd (column_earlier_1_s e1 p2) fun r1 =>
       ift r1
         (some x1)
         ((slices_IndexFunc_api_Field_api_Field_of_column_earlier_1_l1 p1 p2 k1) (IntKind.i64.wrap (x1 + (1 : Int)))))
      (slices_IndexFunc_api_Field_api_Field_of_column_earlier_1_j1)

def slices_IndexFunc_api_Field_api_Field_of_column_earlier_1 (p1 : (List GField)) (p2 : Int) : Option Int :=
    slices_IndexFunc_api_Field_api_Field_of_column_earlier_1_l1 p1 p2 BIG (0 : Int)


theorem c_slices_IndexFunc_api_Field_api_Field_of_column_earlier_1 (p1 : (List GField)) (p2 : Int) : CT Tryz.prog 40 [vl eField p1, .one (.fn 41 [.pv (.rp [[pi p2]] 0 0)])] (slices_IndexFunc_api_Field_api_Field_of_column_earlier_1 p1 p2) vi :=
  uFn 19 [] Tryz.f40 fun r => (uQ (kS Tryz.f40 [1,0] 1) fun K2 hK2 => have hJ1 : ∀ (_ : Unit), slices_IndexFunc_api_Field_api_Field_of_column_earlier_1_j1 = some r → K2.p [] [] := fun _ h => hK2 h (uR .ret xF); (uN eField p1 (uO (cd Tryz.f40 [1,0,1,0,0]) (kS Tryz.f40 [1,0,1,0] 1) fun R1 b1 => have hL1 : ∀ (k1 : Nat) (x1 : Int), slices_IndexFunc_api_Field_api_Field_of_column_earlier_1_l1 p1 p2 k1 x1 = some r → (R1 k1).p [(0, vl eField p1), (1, .one (.fn 41 [.pv (.rp [[pi p2]] 0 0)])), (7, vi (p1.length : Int)), (8, vi x1)] [] := by intro k1; induction k1 with | zero => intro x1 h; exact uE0 (slices_IndexFunc_api_Field_api_Field_of_column_earlier_1_l1.eq_1 ..) h | succ k1 ih1 => intro x1 h; exact b1 h (uU (slices_IndexFunc_api_Field_api_Field_of_column_earlier_1_l1.eq_2 ..) (uC (uL eField fun e1 a10 => (uP (c_column_earlier_1_s _ _) fun r1 _ => (uC (uR .ret (xN (xN xF))) (uJ (ih1 (IntKind.i64.wrap (x1 + (1 : Int)))))))) (uR (.exit 0) (xM (uJ (hJ1 ()))))))
 uE (hL1 BIG (0 : Int)))))

def column_earlier (p1 : (List GField)) (p2 : Int) : Option Int :=
    bnd (slices_IndexFunc_api_Field_api_Field_of_column_earlier_1 p1 p2) fun r1 =>
    some r1


theorem c_column_earlier (p1 : (List GField)) (p2 : Int) : CT Tryz.prog 26 [vl eField p1, vi p2] (column_earlier p1 p2) vi :=
  uFn 8 [] Tryz.f26 fun r => (uP (c_slices_IndexFunc_api_Field_api_Field_of_column_earlier_1 _ _) fun r1 _ => (uR .ret xF))

def column_grouped_j1 (x1 : Bool) : Option Bool :=
    some x1

def column_grouped (p1 : GType) : Option Bool :=
    ift (p1.kind == (6 : Int))
      (column_grouped_j1 true)
      (column_grouped_j1 (p1.kind == (7 : Int)))


theorem c_column_grouped (p1 : GType) : CT Tryz.prog 27 [.ag [ci p1.kind, ci p1.scale, cl eField p1.fields]] (column_grouped p1) vb :=
  uFn 11 [] Tryz.f27 fun r => (uQ (kS Tryz.f27 [1,0] 1) fun K2 hK2 => have hJ1 : ∀ (x1 : Bool), column_grouped_j1 x1 = some r → K2.p [(2, vb x1)] [] := fun x1 h => hK2 h (uR .ret xF); (uC (uJ (hJ1 true)) (uJ (hJ1 (p1.kind == (7 : Int))))))

def column_leafType_j1 (x1 : Bool) : Option Int :=
    ift x1
      (some (2 : Int))
      (some (0 : Int))

def column_leafType (p1 : GType) : Option Int :=
    bnd (value_CheckType p1) fun r1 =>
    ift (r1 != (0 : Int))
      (some r1)
      (ift (p1.kind == (6 : Int))
         (column_leafType_j1 true)
         (column_leafType_j1 (p1.kind == (7 : Int))))


theorem c_column_leafType (p1 : GType) : CT Tryz.prog 18 [.ag [ci p1.kind, ci p1.scale, cl eField p1.fields]] (column_leafType p1) vi :=
  uFn 17 [] Tryz.f18 fun r => (uP (c_value_CheckType _) fun r1 _ => (uC (uR .ret xF) (uQ (kS Tryz.f18 [1,1,0,0] 2) fun K9 hK9 => have hJ1 : ∀ (x1 : Bool), column_leafType_j1 x1 = some r → K9.p [(16, vb x1)] [] := fun x1 h => hK9 h (uC (uR .ret xF) (uR .ret xF)); (uC (uJ (hJ1 true)) (uJ (hJ1 (p1.kind == (7 : Int))))))))

def column_Widens_j4 (x4 : Bool) : Option Bool :=
    some x4

def column_Widens_j3 (p1 : GType) (p2 : GType) (x3 : Bool) : Option Bool :=
    ift x3
      (some true)
      (ift (p1.kind == (1 : Int))
         (ift (p2.kind == (3 : Int))
            (column_Widens_j4 (p2.scale == (0 : Int)))
            (column_Widens_j4 false))
         (ift (p1.kind == (2 : Int))
            (ift (p2.kind == (3 : Int))
               (column_Widens_j4 (p2.scale == (0 : Int)))
               (column_Widens_j4 false))
            (column_Widens_j4 false)))

def column_Widens_j2 (p1 : GType) (p2 : GType) (x2 : Bool) : Option Bool :=
    ift x2
      (some true)
      (ift (p1.kind == (1 : Int))
         (column_Widens_j3 p1 p2 (p2.kind == (2 : Int)))
         (column_Widens_j3 p1 p2 false))

def column_Widens_j1 (p1 : GType) (p2 : GType) (x1 : Bool) : Option Bool :=
    ift x1
      (some false)
      (ift (p1.kind == p2.kind)
         (column_Widens_j2 p1 p2 (p1.scale == p2.scale))
         (column_Widens_j2 p1 p2 false))

def column_Widens (p1 : GType) (p2 : GType) : Option Bool :=
    bnd (column_leafType p1) fun r1 =>
    ift (r1 != (0 : Int))
      (column_Widens_j1 p1 p2 true)
      (bnd (column_leafType p2) fun r2 =>
       column_Widens_j1 p1 p2 (r2 != (0 : Int)))

abbrev qa609 (p1 : GType) : List PV := [pi p1.kind, pi p1.scale, .ro (eField.els p1.fields)]
abbrev qa610 (p2 : GType) : List PV := [pi p2.kind, pi p2.scale, .ro (eField.els p2.fields)]

theorem c_column_Widens (p1 : GType) (p2 : GType) : CT Tryz.prog 6 [.ag [ci p1.kind, ci p1.scale, cl eField p1.fields], .ag [ci p2.kind, ci p2.scale, cl eField p2.fields]] (column_Widens p1 p2) vb :=
  uFn 53 [] Tryz.f6 fun r => (uQ (kS Tryz.f6 [1,0,0] 2) fun K3 hK3 => have hJ1 : ∀ (x1 : Bool), column_Widens_j1 p1 p2 x1 = some r → K3.p [(2, .one (.pv (.rp [(qa609 p1)] 0 0))), (3, .one (.pv (.rp [(qa610 p2)] 0 0))), (12, vb x1)] [] := fun x1 h => hK3 h (uC (uR .ret xF) (uQ (kS Tryz.f6 [1,1,0,0,0] 3) fun K10 hK10 => have hJ2 : ∀ (x2 : Bool), column_Widens_j2 p1 p2 x2 = some r → K10.p [(2, .one (.pv (.rp [(qa609 p1)] 0 0))), (3, .one (.pv (.rp [(qa610 p2)] 0 0))), (13, vb x2)] [] := fun x2 h => hK10 h (uC (uR .ret xF) (uQ (kS Tryz.f6 [1,1,0,0,1,1,0] 3) fun K14 hK14 => have hJ3 : ∀ (x3 : Bool), column_Widens_j3 p1 p2 x3 = some r → K14.p [(2, .one (.pv (.rp [(qa609 p1)] 0 0))), (3, .one (.pv (.rp [(qa610 p2)] 0 0))), (26, vb x3)] [] := fun x3 h => hK14 h (uC (uR .ret xF) (uQ (kS Tryz.f6 [1,1,1,0] 1) fun K18 hK18 => have hJ4 : ∀ (x4 : Bool), column_Widens_j4 x4 = some r → K18.p [(4, vb x4)] [] := fun x4 h => hK18 h (uR .ret xF); (uC (uC (uJ (hJ4 (p2.scale == (0 : Int)))) (uJ (hJ4 false))) (uC (uC (uJ (hJ4 (p2.scale == (0 : Int)))) (uJ (hJ4 false))) (uJ (hJ4 false)))))); (uC (uJ (hJ3 (p2.kind == (2 : Int)))) (uJ (hJ3 false))))); (uC (uJ (hJ2 (p1.scale == p2.scale))) (uJ (hJ2 false))))); (uP (c_column_leafType _) fun r1 _ => (uC (uJ (hJ1 true)) (uP (c_column_leafType _) fun r2 _ => (uJ (hJ1 (r2 != (0 : Int))))))))

def column_adaptable_j4 (rec1 : Int → Option Int) (x1 : Int) : Option Int :=
    rec1 (IntKind.i64.wrap (x1 + (1 : Int)))

def column_adaptable_j3 (q_column_adaptable : (List GField) → (List GField) → Option Int) (rec1 : Int → Option Int) (x1 : Int) (e1 : GField) (e2 : GField) (x4 : Bool) : Option Int :=
    ift x4
      (some (2 : Int))
      (bnd (q_column_adaptable e2.type.fields e1.type.fields) fun r5 =>
       ift (r5 != (0 : Int))
         (some r5)
         (column_adaptable_j4 rec1 x1))

def column_adaptable_j2 (q_column_adaptable : (List GField) → (List GField) → Option Int) (rec1 : Int → Option Int) (x1 : Int) (e1 : GField) (e2 : GField) (x3 : Bool) : Option Int :=
    ift x3
      (column_adaptable_j3 q_column_adaptable rec1 x1 e1 e2 x3)
      (bnd (column_grouped e2.type) fun r3 =>
       ift (!r3)
         (bnd (column_Widens e2.type e1.type) fun r4 =>
          column_adaptable_j3 q_column_adaptable rec1 x1 e1 e2 (!r4))
         (column_adaptable_j3 q_column_adaptable rec1 x1 e1 e2 false))

def column_adaptable_j1 (q_column_adaptable : (List GField) → (List GField) → Option Int) (rec1 : Int → Option Int) (x1 : Int) (e1 : GField) (e2 : GField) (x2 : Bool) : Option Int :=
    ift x2
      (some (9 : Int))
      (bnd (column_grouped e2.type) fun r2 =>
       ift r2
         (column_adaptable_j2 q_column_adaptable rec1 x1 e1 e2 (e1.type.kind != e2.type.kind))
         (column_adaptable_j2 q_column_adaptable rec1 x1 e1 e2 false))

def column_adaptable_j5 : Option Int :=
    some (0 : Int)

def column_adaptable_l1 (q_column_adaptable : (List GField) → (List GField) → Option Int) (p1 : (List GField)) (p2 : (List GField)) : Nat → Int → Option Int
  | 0, _ => none
  | k1 + 1, x1 =>
    ift (decide (x1 < (p2.length : Int)))
      (bnd (at? p2 x1) fun e1 =>
       bnd (column_earlier p1 e1.id) fun r1 =>
       ift (decide (r1 < (0 : Int)))
         (ift e1.need
            (some (9 : Int))
            (column_adaptable_j4 (column_adaptable_l1 q_column_adaptable p1 p2 k1) x1))
         (bnd (at? p1 r1) fun e2 =>
          ift e1.need
            (column_adaptable_j1 q_column_adaptable (column_adaptable_l1 q_column_adaptable p1 p2 k1) x1 e1 e2 (!e2.need))
            (column_adaptable_j1 q_column_adaptable (column_adaptable_l1 q_column_adaptable p1 p2 k1) x1 e1 e2 false)))
      (column_adaptable_j5)

def column_adaptable : Nat → (List GField) → (List GField) → Option Int
  | 0, _, _ => none
  | k0 + 1, p1, p2 =>
    column_adaptable_l1 (column_adaptable k0) p1 p2 BIG (0 : Int)

abbrev qa617 (e1 : GField) : List CV := [ci e1.id, cst e1.name, cb e1.need, ci e1.type.kind, ci e1.type.scale, cl eField e1.type.fields]
abbrev qa618 (e2 : GField) : List CV := [ci e2.id, cst e2.name, cb e2.need, ci e2.type.kind, ci e2.type.scale, cl eField e2.type.fields]

theorem c_column_adaptable : ∀ (k0 : Nat) (p1 : (List GField)) (p2 : (List GField)), CT Tryz.prog 11 [vl eField p1, vl eField p2] (column_adaptable k0 p1 p2) vi
  | 0, _, _ => uF0 (column_adaptable.eq_1 ..)
  | k0 + 1, p1, p2 => uFn 72 [6, 8] Tryz.f11 fun r => (uU (column_adaptable.eq_2 ..) (uQ (kS Tryz.f11 [1,0] 1) fun K2 hK2 => have hJ5 : ∀ (_ : Unit), column_adaptable_j5 = some r → K2.p [] [] := fun _ h => hK2 h (uR .ret xF); (uN eField p2 (uO (cd Tryz.f11 [1,0,1,0,0]) (kS Tryz.f11 [1,0,1,0] 1) fun R1 b1 => have hL1 : ∀ (k1 : Nat) (x1 : Int), column_adaptable_l1 (column_adaptable k0) p1 p2 k1 x1 = some r → (R1 k1).p [(0, vl eField p1), (10, vl eField p2), (11, vi (p2.length : Int)), (12, vi x1)] [] := by intro k1; induction k1 with | zero => intro x1 h; exact uE0 (column_adaptable_l1.eq_1 ..) h | succ k1 ih1 => intro x1 h; exact b1 h (uU (column_adaptable_l1.eq_2 ..) (uC (uQ (kS Tryz.f11 [1,0,1,0,0,1,1,0] 1) fun K7 hK7 => have hJ4 : ∀ (_ : Unit), column_adaptable_j4 (column_adaptable_l1 (column_adaptable k0) p1 p2 k1) x1 = some r → K7.p [(0, vl eField p1), (10, vl eField p2), (11, vi (p2.length : Int)), (12, vi x1)] [] := fun _ h => hK7 h (uJ (ih1 (IntKind.i64.wrap (x1 + (1 : Int))))); (uL eField fun e1 a9 => (uP (c_column_earlier _ _) fun r1 _ => (uC (uC (uR .ret (xN (xN (xN xF)))) (uJ (hJ4 ()))) (uL eField fun e2 a20 => (uQ (kS Tryz.f11 [1,0,1,0,0,1,1,0,0,1,1,1,1,0,0,0] 4) fun K22 hK22 => have hJ1 : ∀ (x2 : Bool), column_adaptable_j1 (column_adaptable k0) (column_adaptable_l1 (column_adaptable k0) p1 p2 k1) x1 e1 e2 x2 = some r → K22.p [(0, vl eField p1), (6, .one (.pt 0 0 0 0)), (8, .one (.pt 1 0 0 0)), (10, vl eField p2), (11, vi (p2.length : Int)), (12, vi x1), (28, vb x2)] [.box (qa617 e1), .box (qa618 e2)] := fun x2 h => hK22 h (uC (uR .ret (xN (xN (xN xF)))) (uQ (kS Tryz.f11 [1,0,1,0,0,1,1,0,0,1,1,1,1,0,0,1,1,0] 4) fun K26 hK26 => have hJ3 : ∀ (x4 : Bool), column_adaptable_j3 (column_adaptable k0) (column_adaptable_l1 (column_adaptable k0) p1 p2 k1) x1 e1 e2 x4 = some r → K26.p [(0, vl eField p1), (6, .one (.pt 0 0 0 0)), (8, .one (.pt 1 0 0 0)), (10, vl eField p2), (11, vi (p2.length : Int)), (12, vi x1), (36, vb x4)] [.box (qa617 e1), .box (qa618 e2)] := fun x4 h => hK26 h (uC (uR .ret (xN (xN (xN xF)))) (uP (c_column_adaptable k0 _ _) fun r5 _ => (uC (uR .ret (xN (xN (xN xF)))) (uJ (hJ4 ()))))); (uQ (kS Tryz.f11 [1,0,1,0,0,1,1,0,0,1,1,1,1,0,0,1,1,0,0] 1) fun K27 hK27 => have hJ2 : ∀ (x3 : Bool), column_adaptable_j2 (column_adaptable k0) (column_adaptable_l1 (column_adaptable k0) p1 p2 k1) x1 e1 e2 x3 = some r → K27.p [(0, vl eField p1), (6, .one (.pt 0 0 0 0)), (8, .one (.pt 1 0 0 0)), (10, vl eField p2), (11, vi (p2.length : Int)), (12, vi x1), (36, vb x3)] [.box (qa617 e1), .box (qa618 e2)] := fun x3 h => hK27 h (uC (uJ (hJ3 x3)) (uP (c_column_grouped _) fun r3 _ => (uC (uP (c_column_Widens _ _) fun r4 _ => (uJ (hJ3 (!r4)))) (uJ (hJ3 false))))); (uP (c_column_grouped _) fun r2 _ => (uC (uJ (hJ2 (e1.type.kind != e2.type.kind))) (uJ (hJ2 false))))))); (uC (uJ (hJ1 (!e2.need))) (uJ (hJ1 false))))))))) (uR (.exit 0) (xM (uJ (hJ5 ()))))))
 uE (hL1 BIG (0 : Int))))))

def value_can_j1 (x1 : Bool) : Option Bool :=
    some x1

def value_can_j2 (x2 : Bool) : Option Bool :=
    some x2

def value_can_j3 (x3 : Bool) : Option Bool :=
    some x3

def value_can (p1 : Int) (p2 : Int) : Option Bool :=
    ift (p1 == (1 : Int))
      (ift (p2 == (1 : Int))
         (value_can_j1 true)
         (ift (p2 == (2 : Int))
            (value_can_j1 true)
            (value_can_j1 (p2 == (4 : Int)))))
      (ift (p1 == (2 : Int))
         (bnd (value_within p2 (1 : Int) (5 : Int)) fun r1 =>
          some r1)
         (ift (p1 == (3 : Int))
            (ift (p2 == (2 : Int))
               (value_can_j2 true)
               (ift (p2 == (3 : Int))
                  (value_can_j2 true)
                  (value_can_j2 (p2 == (4 : Int)))))
            (ift (p1 == (4 : Int))
               (bnd (value_within p2 (1 : Int) (5 : Int)) fun r2 =>
                some r2)
               (ift (p1 == (5 : Int))
                  (ift (p2 == (2 : Int))
                     (value_can_j3 true)
                     (ift (p2 == (5 : Int))
                        (value_can_j3 true)
                        (value_can_j3 (p2 == (4 : Int)))))
                  (some (p1 == p2))))))


theorem c_value_can (p1 : Int) (p2 : Int) : CT Tryz.prog 82 [vi p1, vi p2] (value_can p1 p2) vb :=
  uFn 53 [] Tryz.f82 fun r => (uC (uQ (kS Tryz.f82 [1,0,1,0,1,0,0] 3) fun K6 hK6 => have hJ1 : ∀ (x1 : Bool), value_can_j1 x1 = some r → K6.p [(4, vb x1)] [] := fun x1 h => hK6 h (uR .ret xF); (uC (uJ (hJ1 true)) (uC (uJ (hJ1 true)) (uJ (hJ1 (p2 == (4 : Int))))))) (uC (uP (c_value_within _ _ _) fun r1 _ => (uR .ret xF)) (uC (uQ (kS Tryz.f82 [1,0,1,0,1,1,1,1,1,0,0] 3) fun K15 hK15 => have hJ2 : ∀ (x2 : Bool), value_can_j2 x2 = some r → K15.p [(4, vb x2)] [] := fun x2 h => hK15 h (uR .ret xF); (uC (uJ (hJ2 true)) (uC (uJ (hJ2 true)) (uJ (hJ2 (p2 == (4 : Int))))))) (uC (uP (c_value_within _ _ _) fun r2 _ => (uR .ret xF)) (uC (uQ (kS Tryz.f82 [1,0,1,0,1,1,1,1,1,1,1,1,1,0,0] 3) fun K24 hK24 => have hJ3 : ∀ (x3 : Bool), value_can_j3 x3 = some r → K24.p [(4, vb x3)] [] := fun x3 h => hK24 h (uR .ret xF); (uC (uJ (hJ3 true)) (uC (uJ (hJ3 true)) (uJ (hJ3 (p2 == (4 : Int))))))) (uR .ret xF))))))

def value_canValue_j2 : Option Bool :=
    some true

def value_canValue_l1 (q_value_canValue : GValue → GType → Option Bool) (p1 : GValue) (p2 : GType) : Nat → Int → Option Bool
  | 0, _ => none
  | k1 + 1, x2 =>
    ift (decide (x2 < (p1.items.length : Int)))
      (bnd (at? p1.items x2) fun e1 =>
       bnd (value_field p2 x2) fun r2 =>
       bnd (q_value_canValue e1 r2.type) fun r3 =>
       ift (!r3)
         (some false)
         ((value_canValue_l1 q_value_canValue p1 p2 k1) (IntKind.i64.wrap (x2 + (1 : Int)))))
      (value_canValue_j2)

def value_canValue_j1 (q_value_canValue : GValue → GType → Option Bool) (p1 : GValue) (p2 : GType) (x1 : Bool) : Option Bool :=
    ift x1
      (some false)
      (value_canValue_l1 q_value_canValue p1 p2 BIG (0 : Int))

def value_canValue : Nat → GValue → GType → Option Bool
  | 0, _, _ => none
  | k0 + 1, p1, p2 =>
    ift (p1.kind == (0 : Int))
      (some true)
      (bnd (value_can p1.kind p2.kind) fun r1 =>
       ift (!r1)
         (value_canValue_j1 (value_canValue k0) p1 p2 true)
         (ift (p1.kind == (7 : Int))
            (value_canValue_j1 (value_canValue k0) p1 p2 ((p1.items.length : Int) != (p2.fields.length : Int)))
            (value_canValue_j1 (value_canValue k0) p1 p2 false)))


theorem c_value_canValue : ∀ (k0 : Nat) (p1 : GValue) (p2 : GType), CT Tryz.prog 72 [.ag [ci p1.kind, ci p1.n, ci p1.scale, cst p1.s, cl eValue p1.items], .ag [ci p2.kind, ci p2.scale, cl eField p2.fields]] (value_canValue k0 p1 p2) vb
  | 0, _, _ => uF0 (value_canValue.eq_1 ..)
  | k0 + 1, p1, p2 => uFn 48 [6] Tryz.f72 fun r => (uU (value_canValue.eq_2 ..) (uC (uR .ret xF) (uQ (kS Tryz.f72 [1,0,0,1,1,0] 3) fun K6 hK6 => have hJ1 : ∀ (x1 : Bool), value_canValue_j1 (value_canValue k0) p1 p2 x1 = some r → K6.p [(2, .one (.pv (.rp [[pi p1.kind, pi p1.n, pi p1.scale, .s (.string p1.s), .ro (eValue.els p1.items)]] 0 0))), (3, .one (.pv (.rp [[pi p2.kind, pi p2.scale, .ro (eField.els p2.fields)]] 0 0))), (11, vb x1)] [] := fun x1 h => hK6 h (uC (uR .ret xF) (uQ (kS Tryz.f72 [1,1,0] 1) fun K12 hK12 => have hJ2 : ∀ (_ : Unit), value_canValue_j2 = some r → K12.p [] [] := fun _ h => hK12 h (uR .ret xF); (uN eValue p1.items (uO (cd Tryz.f72 [1,1,0,1,0,0]) (kS Tryz.f72 [1,1,0,1,0] 1) fun R1 b1 => have hL1 : ∀ (k1 : Nat) (x2 : Int), value_canValue_l1 (value_canValue k0) p1 p2 k1 x2 = some r → (R1 k1).p [(3, .one (.pv (.rp [[pi p2.kind, pi p2.scale, .ro (eField.els p2.fields)]] 0 0))), (33, vl eValue p1.items), (34, vi (p1.items.length : Int)), (35, vi x2)] [] := by intro k1; induction k1 with | zero => intro x2 h; exact uE0 (value_canValue_l1.eq_1 ..) h | succ k1 ih1 => intro x2 h; exact b1 h (uU (value_canValue_l1.eq_2 ..) (uC (uL eValue fun e1 a19 => (uDr 5 (uP (c_value_field _ _) fun r2 _ => (uP (c_value_canValue k0 _ _) fun r3 _ => (uC (uR .ret (xN (xN xF))) (uJ (ih1 (IntKind.i64.wrap (x2 + (1 : Int)))))))))) (uR (.exit 1) (xM (uJ (hJ2 ()))))))
 uE (hL1 BIG (0 : Int)))))); (uP (c_value_can _ _) fun r1 _ => (uC (uJ (hJ1 true)) (uC (uN eValue p1.items (uN eField p2.fields (uJ (hJ1 ((p1.items.length : Int) != (p2.fields.length : Int)))))) (uJ (hJ1 false))))))))

def value_whole (p1 : Int) : Option GWide :=
    ift (decide (p1 < (0 : Int)))
      (some (GWide.mk true ((IntKind.u64.wrap (0 - (IntKind.u64.wrap p1))), (0 : Int), (0 : Int), (0 : Int))))
      (some (GWide.mk false ((IntKind.u64.wrap p1), (0 : Int), (0 : Int), (0 : Int))))


theorem c_value_whole (p1 : Int) : CT Tryz.prog 88 [vi p1] (value_whole p1) (fun r => .ag [cb r.neg, ck .u64 r.size.1, ck .u64 r.size.2.1, ck .u64 r.size.2.2.1, ck .u64 r.size.2.2.2]) :=
  uFn 14 [2] Tryz.f88 fun r => (uC (uR .ret xF) (uR .ret xF))

def math_bits_Mul64 (p1 : Int) (p2 : Int) : Option (Int × Int) :=
    bnd (some (IntKind.u64.wrap (BitVec.ofInt (IntKind.u64).bits p1 &&& BitVec.ofInt (IntKind.u64).bits (4294967295 : Int)).toNat)) fun y1 =>
    bnd (some (IntKind.u64.wrap (BitVec.ofInt (IntKind.u64).bits p2 &&& BitVec.ofInt (IntKind.u64).bits (4294967295 : Int)).toNat)) fun y2 =>
    bnd (some (IntKind.u64.wrap ((p1.fdiv (2 ^ (min (32 : Int).toNat (IntKind.u64).bits))) * y2))) fun y3 =>
    bnd (some ((IntKind.u64.wrap (y1 * y2)).fdiv (2 ^ (min (32 : Int).toNat (IntKind.u64).bits)))) fun y4 =>
    bnd (some (IntKind.u64.wrap (BitVec.ofInt (IntKind.u64).bits (IntKind.u64.wrap (y3 + y4)) &&& BitVec.ofInt (IntKind.u64).bits (4294967295 : Int)).toNat)) fun y5 =>
    bnd (some ((IntKind.u64.wrap (y3 + y4)).fdiv (2 ^ (min (32 : Int).toNat (IntKind.u64).bits)))) fun y6 =>
    bnd (some (IntKind.u64.wrap (y1 * (p2.fdiv (2 ^ (min (32 : Int).toNat (IntKind.u64).bits)))))) fun y7 =>
    bnd (some (IntKind.u64.wrap ((p1.fdiv (2 ^ (min (32 : Int).toNat (IntKind.u64).bits))) * (p2.fdiv (2 ^ (min (32 : Int).toNat (IntKind.u64).bits)))))) fun y8 =>
    bnd (some ((IntKind.u64.wrap (y5 + y7)).fdiv (2 ^ (min (32 : Int).toNat (IntKind.u64).bits)))) fun y9 =>
    some ((IntKind.u64.wrap ((IntKind.u64.wrap (y8 + y6)) + y9)), (IntKind.u64.wrap (p1 * p2)))


theorem c_math_bits_Mul64 (p1 : Int) (p2 : Int) : CT Tryz.prog 130 [vk .u64 p1, vk .u64 p2] (math_bits_Mul64 p1 p2) (fun r => .tp [vk .u64 r.1, vk .u64 r.2]) :=
  uFn 51 [] Tryz.f130 fun r => (uY 15 (vk .u64) fun y1 => (uY 19 (vk .u64) fun y2 => (uY 27 (vk .u64) fun y3 => (uY 29 (vk .u64) fun y4 => (uY 32 (vk .u64) fun y5 => (uY 34 (vk .u64) fun y6 => (uY 38 (vk .u64) fun y7 => (uY 42 (vk .u64) fun y8 => (uY 46 (vk .u64) fun y9 => (uR .ret xF))))))))))

def value_wide_times (p1 : GWide) (p2 : Int) : Option GWide :=
    bnd (math_bits_Mul64 p1.size.1 p2) fun r1 =>
    grd (0 ≤ r1.2 ∧ 0 ≤ (0 : Int) ∧ 0 ≤ (0 : Int) ∧ (0 : Int) ≤ 1) <|
    bnd (some (IntKind.u64.wrap (r1.1 + ((r1.2 + (0 : Int) + (0 : Int)) / 18446744073709551616)))) fun y1 =>
    bnd (math_bits_Mul64 p1.size.2.1 p2) fun r2 =>
    grd (0 ≤ r2.2 ∧ 0 ≤ y1 ∧ 0 ≤ (0 : Int) ∧ (0 : Int) ≤ 1) <|
    bnd (some (IntKind.u64.wrap (r2.1 + ((r2.2 + y1 + (0 : Int)) / 18446744073709551616)))) fun y2 =>
    bnd (math_bits_Mul64 p1.size.2.2.1 p2) fun r3 =>
    grd (0 ≤ r3.2 ∧ 0 ≤ y2 ∧ 0 ≤ (0 : Int) ∧ (0 : Int) ≤ 1) <|
    bnd (some (IntKind.u64.wrap (r3.1 + ((r3.2 + y2 + (0 : Int)) / 18446744073709551616)))) fun y3 =>
    bnd (math_bits_Mul64 p1.size.2.2.2 p2) fun r4 =>
    grd (0 ≤ r4.2 ∧ 0 ≤ y3 ∧ 0 ≤ (0 : Int) ∧ (0 : Int) ≤ 1) <|
    bnd (some (IntKind.u64.wrap (r4.1 + ((r4.2 + y3 + (0 : Int)) / 18446744073709551616)))) fun y4 =>
    some (GWide.mk p1.neg (((r1.2 + (0 : Int) + (0 : Int)) % 18446744073709551616), ((r2.2 + y1 + (0 : Int)) % 18446744073709551616), ((r3.2 + y2 + (0 : Int)) % 18446744073709551616), ((r4.2 + y3 + (0 : Int)) % 18446744073709551616)))


theorem c_value_wide_times (p1 : GWide) (p2 : Int) : CT Tryz.prog 115 [.ag [cb p1.neg, ck .u64 p1.size.1, ck .u64 p1.size.2.1, ck .u64 p1.size.2.2.1, ck .u64 p1.size.2.2.2], vk .u64 p2] (value_wide_times p1 p2) (fun r => .ag [cb r.neg, ck .u64 r.size.1, ck .u64 r.size.2.1, ck .u64 r.size.2.2.1, ck .u64 r.size.2.2.2]) :=
  uFn 37 [2, 4] Tryz.f115 fun r => (uOk 4 (uP (c_math_bits_Mul64 _ _) fun r1 _ => (uAdd 131 Tryz.f131 (uY 34 (vk .u64) fun y1 => (uP (c_math_bits_Mul64 _ _) fun r2 _ => (uAdd 131 Tryz.f131 (uY 34 (vk .u64) fun y2 => (uP (c_math_bits_Mul64 _ _) fun r3 _ => (uAdd 131 Tryz.f131 (uY 34 (vk .u64) fun y3 => (uP (c_math_bits_Mul64 _ _) fun r4 _ => (uAdd 131 Tryz.f131 (uY 34 (vk .u64) fun y4 => (uR .ret xF))))))))))))))

def value_wide_shifted_j1 (z6 : Bool) (z7 : Int) (z8 : Int) (z9 : Int) (z10 : Int) : Option GWide :=
    some (GWide.mk z6 (z7, z8, z9, z10))

def value_wide_shifted_l1 (p2 : Int) : Nat → Bool → Int → Int → Int → Int → Int → Option GWide
  | 0, _, _, _, _, _, _ => none
  | k1 + 1, z1, z2, z3, z4, z5, x1 =>
    ift (decide (x1 < p2))
      (bnd (value_wide_times (GWide.mk z1 (z2, z3, z4, z5)) (10 : Int)) fun r1 =>
       (value_wide_shifted_l1 p2 k1) r1.neg r1.size.1 r1.size.2.1 r1.size.2.2.1 r1.size.2.2.2 (IntKind.i64.wrap (x1 + (1 : Int))))
      (value_wide_shifted_j1 z1 z2 z3 z4 z5)

def value_wide_shifted (p1 : GWide) (p2 : Int) : Option GWide :=
    value_wide_shifted_l1 p2 BIG p1.neg p1.size.1 p1.size.2.1 p1.size.2.2.1 p1.size.2.2.2 (0 : Int)

abbrev qa638 : List CV := [cb false, ck .u64 (0 : Int), ck .u64 (0 : Int), ck .u64 (0 : Int), ck .u64 (0 : Int)]

theorem c_value_wide_shifted (p1 : GWide) (p2 : Int) : CT Tryz.prog 100 [.ag [cb p1.neg, ck .u64 p1.size.1, ck .u64 p1.size.2.1, ck .u64 p1.size.2.2.1, ck .u64 p1.size.2.2.2], vi p2] (value_wide_shifted p1 p2) (fun r => .ag [cb r.neg, ck .u64 r.size.1, ck .u64 r.size.2.1, ck .u64 r.size.2.2.1, ck .u64 r.size.2.2.2]) :=
  uFn 12 [2, 4] Tryz.f100 fun r => (uQ (kS Tryz.f100 [1,0] 1) fun K2 hK2 => have hJ1 : ∀ (z6 : Bool) (z7 : Int) (z8 : Int) (z9 : Int) (z10 : Int), value_wide_shifted_j1 z6 z7 z8 z9 z10 = some r → K2.p [(2, .one (.pt 0 0 0 0)), (4, .one (.pt 1 0 0 0))] [.box [cb z6, ck .u64 z7, ck .u64 z8, ck .u64 z9, ck .u64 z10], .box qa638] := fun z6 z7 z8 z9 z10 h => hK2 h (uR .ret xF); (uO (cd Tryz.f100 [1,0,1,0,0]) (kS Tryz.f100 [1,0,1,0] 1) fun R1 b1 => have hL1 : ∀ (k1 : Nat) (z1 : Bool) (z2 : Int) (z3 : Int) (z4 : Int) (z5 : Int) (x1 : Int), value_wide_shifted_l1 p2 k1 z1 z2 z3 z4 z5 x1 = some r → (R1 k1).p [(2, .one (.pt 0 0 0 0)), (4, .one (.pt 1 0 0 0)), (5, vi p2), (6, vi x1)] [.box [cb z1, ck .u64 z2, ck .u64 z3, ck .u64 z4, ck .u64 z5], .box qa638] := by intro k1; induction k1 with | zero => intro z1 z2 z3 z4 z5 x1 h; exact uE0 (value_wide_shifted_l1.eq_1 ..) h | succ k1 ih1 => intro z1 z2 z3 z4 z5 x1 h; exact b1 h (uU (value_wide_shifted_l1.eq_2 ..) (uC (uP (c_value_wide_times _ _) fun r1 _ => (uJ (ih1 r1.neg r1.size.1 r1.size.2.1 r1.size.2.2.1 r1.size.2.2.2 (IntKind.i64.wrap (x1 + (1 : Int)))))) (uR (.exit 0) (xM (uJ (hJ1 z1 z2 z3 z4 z5))))))
 uE (hL1 BIG p1.neg p1.size.1 p1.size.2.1 p1.size.2.2.1 p1.size.2.2.2 (0 : Int))))

def value_scaled (p1 : Int) (p2 : Int) : Option GWide :=
    bnd (value_whole p1) fun r1 =>
    bnd (value_wide_shifted (GWide.mk r1.neg (r1.size.1, r1.size.2.1, r1.size.2.2.1, r1.size.2.2.2)) p2) fun r2 =>
    some (GWide.mk r2.neg (r2.size.1, r2.size.2.1, r2.size.2.2.1, r2.size.2.2.2))


theorem c_value_scaled (p1 : Int) (p2 : Int) : CT Tryz.prog 102 [vi p1, vi p2] (value_scaled p1 p2) (fun r => .ag [cb r.neg, ck .u64 r.size.1, ck .u64 r.size.2.1, ck .u64 r.size.2.2.1, ck .u64 r.size.2.2.2]) :=
  uFn 9 [4] Tryz.f102 fun r => (uP (c_value_whole _) fun r1 _ => (uP (c_value_wide_shifted _ _) fun r2 _ => (uR .ret xF)))

def value_rescaled (p1 : GWide) (p2 : Int) (p3 : Int) : Option GWide :=
    ift (decide (p2 ≤ p3))
      (bnd (value_wide_shifted (GWide.mk p1.neg (p1.size.1, p1.size.2.1, p1.size.2.2.1, p1.size.2.2.2)) (IntKind.i64.wrap (p3 - p2))) fun r1 =>
       some (GWide.mk r1.neg (r1.size.1, r1.size.2.1, r1.size.2.2.1, r1.size.2.2.2)))
      (bnd (value_scaled (1 : Int) (IntKind.i64.wrap (p2 - p3))) fun r2 =>
       none)


theorem c_value_rescaled (p1 : GWide) (p2 : Int) (p3 : Int) : CT Tryz.prog 87 [.ag [cb p1.neg, ck .u64 p1.size.1, ck .u64 p1.size.2.1, ck .u64 p1.size.2.2.1, ck .u64 p1.size.2.2.2], vi p2, vi p3] (value_rescaled p1 p2 p3) (fun r => .ag [cb r.neg, ck .u64 r.size.1, ck .u64 r.size.2.1, ck .u64 r.size.2.2.1, ck .u64 r.size.2.2.2]) :=
  uFn 21 [6] Tryz.f87 fun r => (uC (uP (c_value_wide_shifted _ _) fun r1 _ => (uR .ret xF)) (uDr 5 (uP (c_value_scaled _ _) fun r2 _ => uNo)))

def value_wide_number_j1 (p1 : GWide) (x1 : Bool) : Option (Int × Bool) :=
    ift x1
      (some ((0 : Int), false))
      (ift p1.neg
         (some ((IntKind.i64.wrap (0 - (IntKind.i64.wrap p1.size.1))), true))
         (some ((IntKind.i64.wrap p1.size.1), true)))

def value_wide_number (p1 : GWide) : Option (Int × Bool) :=
    bnd (some (IntKind.u64.wrap (BitVec.ofInt (IntKind.u64).bits p1.size.2.1 ||| BitVec.ofInt (IntKind.u64).bits p1.size.2.2.1).toNat)) fun y1 =>
    bnd (some (IntKind.u64.wrap (BitVec.ofInt (IntKind.u64).bits y1 ||| BitVec.ofInt (IntKind.u64).bits p1.size.2.2.2).toNat)) fun y2 =>
    ift (y2 != (0 : Int))
      (value_wide_number_j1 p1 true)
      (value_wide_number_j1 p1 (decide ((9223372036854775808 : Int) ≤ p1.size.1)))


theorem c_value_wide_number (p1 : GWide) : CT Tryz.prog 99 [.ag [cb p1.neg, ck .u64 p1.size.1, ck .u64 p1.size.2.1, ck .u64 p1.size.2.2.1, ck .u64 p1.size.2.2.2]] (value_wide_number p1) (fun r => .tp [vi r.1, vb r.2]) :=
  uFn 33 [] Tryz.f99 fun r => (uQu 10 (kS Tryz.f99 [1,0,0] 2) fun K3 hK3 => have hJ1 : ∀ (x1 : Bool), value_wide_number_j1 p1 x1 = some r → K3.p [(1, .one (.pv (.rp [[.s (.bool p1.neg), .s (.int .u64 p1.size.1), .s (.int .u64 p1.size.2.1), .s (.int .u64 p1.size.2.2.1), .s (.int .u64 p1.size.2.2.2)]] 0 0))), (21, vb x1)] [] := fun x1 h => hK3 h (uC (uR .ret xF) (uC (uR .ret xF) (uR .ret xF))); (uY 10 (vk .u64) fun y1 => (uY 14 (vk .u64) fun y2 => (uC (uJ (hJ1 true)) (uJ (hJ1 (decide ((9223372036854775808 : Int) ≤ p1.size.1))))))))

def value_made_j1 (p1 : Int) (p3 : Int) (r1 : (Int × Bool)) (x1 : Bool) : Option GValue :=
    ift x1
      (some (GValue.mk (0 : Int) (0 : Int) (0 : Int) ByteArray.empty []))
      (some (GValue.mk p1 r1.1 p3 ByteArray.empty []))

def value_made (p1 : Int) (p2 : GWide) (p3 : Int) : Option GValue :=
    bnd (value_wide_number (GWide.mk p2.neg (p2.size.1, p2.size.2.1, p2.size.2.2.1, p2.size.2.2.2))) fun r1 =>
    ift (!r1.2)
      (value_made_j1 p1 p3 r1 true)
      (bnd (value_Sound (GValue.mk p1 r1.1 p3 ByteArray.empty [])) fun r2 =>
       value_made_j1 p1 p3 r1 (!r2))


theorem c_value_made (p1 : Int) (p2 : GWide) (p3 : Int) : CT Tryz.prog 86 [vi p1, .ag [cb p2.neg, ck .u64 p2.size.1, ck .u64 p2.size.2.1, ck .u64 p2.size.2.2.1, ck .u64 p2.size.2.2.2], vi p3] (value_made p1 p2 p3) (fun r => .ag [ci r.kind, ci r.n, ci r.scale, cst r.s, cl eValue r.items]) :=
  uFn 28 [6, 9] Tryz.f86 fun r => (uP (c_value_wide_number _) fun r1 _ => (uQ (kS Tryz.f86 [1,1,1,0,0] 2) fun K6 hK6 => have hJ1 : ∀ (x1 : Bool), value_made_j1 p1 p3 r1 x1 = some r → K6.p [(6, .one (.pt 0 0 0 0)), (9, .one (.pt 1 0 0 0)), (25, vb x1)] [.box [ci (0 : Int), ci (0 : Int), ci (0 : Int), cst ByteArray.empty, .pv (.s (.slice none 0 0))], .box [ci p1, ci r1.1, ci p3, cst ByteArray.empty, .pv (.s (.slice none 0 0))]] := fun x1 h => hK6 h (uC (uR .ret xF) (uR .ret xF)); (uC (uJ (hJ1 true)) (uP (c_value_Sound _) fun r2 _ => (uJ (hJ1 (!r2)))))))

def value_cast_j3 (p1 : GValue) (p2 : GType) (x3 : Bool) : Option GValue :=
    ift x3
      (some (GValue.mk (0 : Int) (0 : Int) (0 : Int) ByteArray.empty []))
      (bnd (value_whole p1.n) fun r2 =>
       bnd (value_rescaled (GWide.mk r2.neg (r2.size.1, r2.size.2.1, r2.size.2.2.1, r2.size.2.2.2)) p1.scale p2.scale) fun r3 =>
       bnd (value_made p2.kind (GWide.mk r3.neg (r3.size.1, r3.size.2.1, r3.size.2.2.1, r3.size.2.2.2)) p2.scale) fun r4 =>
       some r4)

def value_cast_j2 (p1 : GValue) (p2 : GType) (x2 : Bool) : Option GValue :=
    ift x2
      (some p1)
      (ift (p2.kind == (4 : Int))
         (none)
         (ift (p1.kind == (4 : Int))
            (none)
            (ift (p2.kind == (1 : Int))
               (bnd (value_within p1.n (0 : Int) (1 : Int)) fun r1 =>
                value_cast_j3 p1 p2 (!r1))
               (value_cast_j3 p1 p2 false))))

def value_cast_j1 (p1 : GValue) (p2 : GType) (x1 : Bool) : Option GValue :=
    ift x1
      (none)
      (ift (p1.kind == p2.kind)
         (value_cast_j2 p1 p2 (p2.kind != (3 : Int)))
         (value_cast_j2 p1 p2 false))

def value_cast (p1 : GValue) (p2 : GType) : Option GValue :=
    ift (p1.kind == (0 : Int))
      (some (GValue.mk (0 : Int) (0 : Int) (0 : Int) ByteArray.empty []))
      (ift (p1.kind == (6 : Int))
         (value_cast_j1 p1 p2 true)
         (value_cast_j1 p1 p2 (p1.kind == (7 : Int))))

abbrev qa658 (p1 : GValue) : List PV := [pi p1.kind, pi p1.n, pi p1.scale, .s (.string p1.s), .ro (eValue.els p1.items)]
abbrev qa659 (p2 : GType) : List PV := [pi p2.kind, pi p2.scale, .ro (eField.els p2.fields)]
abbrev qa660 : List CV := [ci (0 : Int), ci (0 : Int), ci (0 : Int), cst ByteArray.empty, .pv (.s (.slice none 0 0))]

theorem c_value_cast (p1 : GValue) (p2 : GType) : CT Tryz.prog 73 [.ag [ci p1.kind, ci p1.n, ci p1.scale, cst p1.s, cl eValue p1.items], .ag [ci p2.kind, ci p2.scale, cl eField p2.fields]] (value_cast p1 p2) (fun r => .ag [ci r.kind, ci r.n, ci r.scale, cst r.s, cl eValue r.items]) :=
  uFn 73 [4] Tryz.f73 fun r => (uC (uR .ret xF) (uQ (kS Tryz.f73 [1,0,0,1,1,0] 3) fun K6 hK6 => have hJ1 : ∀ (x1 : Bool), value_cast_j1 p1 p2 x1 = some r → K6.p [(2, .one (.pv (.rp [(qa658 p1)] 0 0))), (3, .one (.pv (.rp [(qa659 p2)] 0 0))), (4, .one (.pt 0 0 0 0)), (10, vb x1)] [.box qa660] := fun x1 h => hK6 h (uC uNo (uQ (kS Tryz.f73 [1,0,0,1,1,1,1,0] 3) fun K10 hK10 => have hJ2 : ∀ (x2 : Bool), value_cast_j2 p1 p2 x2 = some r → K10.p [(2, .one (.pv (.rp [(qa658 p1)] 0 0))), (3, .one (.pv (.rp [(qa659 p2)] 0 0))), (4, .one (.pt 0 0 0 0)), (22, vb x2)] [.box qa660] := fun x2 h => hK10 h (uC (uR .ret xF) (uC uNo (uC uNo (uQ (kS Tryz.f73 [1,0,0,1,1,1,1,1,1,1,1,1,1,0] 3) fun K20 hK20 => have hJ3 : ∀ (x3 : Bool), value_cast_j3 p1 p2 x3 = some r → K20.p [(2, .one (.pv (.rp [(qa658 p1)] 0 0))), (3, .one (.pv (.rp [(qa659 p2)] 0 0))), (4, .one (.pt 0 0 0 0)), (49, vb x3)] [.box qa660] := fun x3 h => hK20 h (uC (uR .ret xF) (uDr 12 (uP (c_value_whole _) fun r2 _ => (uP (c_value_rescaled _ _ _) fun r3 _ => (uP (c_value_made _ _ _) fun r4 _ => (uR .ret xF)))))); (uC (uP (c_value_within _ _ _) fun r1 _ => (uJ (hJ3 (!r1)))) (uJ (hJ3 false))))))); (uC (uJ (hJ2 (p2.kind != (3 : Int)))) (uJ (hJ2 false))))); (uC (uJ (hJ1 true)) (uJ (hJ1 (p1.kind == (7 : Int)))))))

def value_Cast_j1 (p1 : GValue) (p2 : GType) (x1 : Bool) : Option GValue :=
    ift x1
      (some (GValue.mk (0 : Int) (0 : Int) (0 : Int) ByteArray.empty []))
      (bnd (value_cast p1 p2) fun r4 =>
       bnd (value_Sound r4) fun r5 =>
       ift (!r5)
         (some (GValue.mk (0 : Int) (0 : Int) (0 : Int) ByteArray.empty []))
         (some r4))

def value_Cast (p1 : GValue) (p2 : GType) : Option GValue :=
    bnd (value_Sound p1) fun r1 =>
    ift (!r1)
      (value_Cast_j1 p1 p2 true)
      (bnd (value_CheckType p2) fun r2 =>
       ift (r2 != (0 : Int))
         (value_Cast_j1 p1 p2 true)
         (bnd (value_canValue BIG p1 p2) fun r3 =>
          value_Cast_j1 p1 p2 (!r3)))


theorem c_value_Cast (p1 : GValue) (p2 : GType) : CT Tryz.prog 57 [.ag [ci p1.kind, ci p1.n, ci p1.scale, cst p1.s, cl eValue p1.items], .ag [ci p2.kind, ci p2.scale, cl eField p2.fields]] (value_Cast p1 p2) (fun r => .ag [ci r.kind, ci r.n, ci r.scale, cst r.s, cl eValue r.items]) :=
  uFn 29 [4, 5] Tryz.f57 fun r => (uQ (kS Tryz.f57 [1,0,0] 2) fun K3 hK3 => have hJ1 : ∀ (x1 : Bool), value_Cast_j1 p1 p2 x1 = some r → K3.p [(2, .one (.pv (.rp [[pi p1.kind, pi p1.n, pi p1.scale, .s (.string p1.s), .ro (eValue.els p1.items)]] 0 0))), (3, .one (.pv (.rp [[pi p2.kind, pi p2.scale, .ro (eField.els p2.fields)]] 0 0))), (4, .one (.pt 0 0 0 0)), (19, vb x1)] [.box [ci (0 : Int), ci (0 : Int), ci (0 : Int), cst ByteArray.empty, .pv (.s (.slice none 0 0))]] := fun x1 h => hK3 h (uC (uR .ret xF) (uP (c_value_cast _ _) fun r4 _ => (uP (c_value_Sound _) fun r5 _ => (uC (uR .ret xF) (uR .ret xF))))); (uP (c_value_Sound _) fun r1 _ => (uC (uJ (hJ1 true)) (uP (c_value_CheckType _) fun r2 _ => (uC (uJ (hJ1 true)) (uP (c_value_canValue BIG _ _) fun r3 _ => (uJ (hJ1 (!r3)))))))))

def column_widened_j2 (p2 : GType) (z1 : Int) (z2 : Int) (z3 : Int) (z4 : ByteArray) (z5 : List GValue) : Option GValue :=
    bnd (value_Cast (GValue.mk z1 z2 z3 z4 z5) p2) fun r2 =>
    some r2

def column_widened_j1 (p1 : GValue) (p2 : GType) (x1 : Bool) : Option GValue :=
    ift x1
      (bnd (value_Cast p1 (GType.mk (2 : Int) (0 : Int) [])) fun r1 =>
       column_widened_j2 p2 r1.kind r1.n r1.scale r1.s r1.items)
      (column_widened_j2 p2 p1.kind p1.n p1.scale p1.s p1.items)

def column_widened (p1 : GValue) (p2 : GType) : Option GValue :=
    ift (p1.kind == (1 : Int))
      (column_widened_j1 p1 p2 (p2.kind == (3 : Int)))
      (column_widened_j1 p1 p2 false)

abbrev qa678 : List CV := [ci (0 : Int), ci (0 : Int), ci (0 : Int), cst ByteArray.empty, .pv (.s (.slice none 0 0))]

theorem c_column_widened (p1 : GValue) (p2 : GType) : CT Tryz.prog 42 [.ag [ci p1.kind, ci p1.n, ci p1.scale, cst p1.s, cl eValue p1.items], .ag [ci p2.kind, ci p2.scale, cl eField p2.fields]] (column_widened p1 p2) (fun r => .ag [ci r.kind, ci r.n, ci r.scale, cst r.s, cl eValue r.items]) :=
  uFn 19 [2, 4] Tryz.f42 fun r => (uQ (kS Tryz.f42 [1,0] 1) fun K2 hK2 => have hJ2 : ∀ (z1 : Int) (z2 : Int) (z3 : Int) (z4 : ByteArray) (z5 : List GValue), column_widened_j2 p2 z1 z2 z3 z4 z5 = some r → K2.p [(2, .one (.pt 0 0 0 0)), (3, .one (.pv (.rp [[pi p2.kind, pi p2.scale, .ro (eField.els p2.fields)]] 0 0))), (4, .one (.pt 1 0 0 0))] [.box [ci z1, ci z2, ci z3, cst z4, cl eValue z5], .box qa678] := fun z1 z2 z3 z4 z5 h => hK2 h (uP (c_value_Cast _ _) fun r2 _ => (uR .ret xF)); (uQ (kS Tryz.f42 [1,0,0] 1) fun K3 hK3 => have hJ1 : ∀ (x1 : Bool), column_widened_j1 p1 p2 x1 = some r → K3.p [(2, .one (.pt 0 0 0 0)), (3, .one (.pv (.rp [[pi p2.kind, pi p2.scale, .ro (eField.els p2.fields)]] 0 0))), (4, .one (.pt 1 0 0 0)), (12, vb x1)] [.box [ci p1.kind, ci p1.n, ci p1.scale, cst p1.s, cl eValue p1.items], .box qa678] := fun x1 h => hK3 h (uC (uP (c_value_Cast _ _) fun r1 _ => (uJ (hJ2 r1.kind r1.n r1.scale r1.s r1.items))) (uJ (hJ2 p1.kind p1.n p1.scale p1.s p1.items))); (uC (uJ (hJ1 (p2.kind == (3 : Int)))) (uJ (hJ1 false)))))

def slices_Clip_api_Value_api_Value (p1 : (List GValue)) : Option (List GValue) :=
    grd (0 ≤ (0 : Int) ∧ (0 : Int) ≤ (p1.length : Int) ∧ (p1.length : Int) ≤ (p1.length : Int) ∧ (p1.length : Int) ≤ (p1.length : Int)) <|
    some ((p1.drop (0 : Int).toNat).take ((p1.length : Int).toNat - (0 : Int).toNat))


theorem c_slices_Clip_api_Value_api_Value (p1 : (List GValue)) : CT Tryz.prog 29 [vl eValue p1] (slices_Clip_api_Value_api_Value p1) (vl eValue) :=
  uFn 9 [] Tryz.f29 fun r => (uN eValue p1 (uN eValue p1 (uXm eValue (uR .ret xF))))

def column_adapt_j1 (rec1 : List GValue → Int → Option (List GValue)) (x1 : Int) (l2 : List GValue) : Option (List GValue) :=
    rec1 l2 (IntKind.i64.wrap (x1 + (1 : Int)))

def column_adapt_j2 (l3 : List GValue) : Option (List GValue) :=
    bnd (slices_Clip_api_Value_api_Value l3) fun r3 =>
    some r3

def column_adapt_l1 (q_column_adaptValue : GType → GType → GValue → Option GValue) (p1 : (List GField)) (p2 : (List GField)) (p3 : (List GValue)) : Nat → List GValue → Int → Option (List GValue)
  | 0, _, _ => none
  | k1 + 1, l1, x1 =>
    ift (decide (x1 < (p2.length : Int)))
      (bnd (at? p2 x1) fun e1 =>
       bnd (column_earlier p1 e1.id) fun r1 =>
       ift (decide (r1 < (0 : Int)))
         (grd (l1.length + 1 ≤ 4294967296) <|
          column_adapt_j1 (column_adapt_l1 q_column_adaptValue p1 p2 p3 k1) x1 (l1 ++ [(GValue.mk (0 : Int) (0 : Int) (0 : Int) ByteArray.empty [])]))
         (bnd (at? p1 r1) fun e2 =>
          bnd (at? p3 r1) fun e3 =>
          bnd (q_column_adaptValue e2.type e1.type e3) fun r2 =>
          grd (l1.length + 1 ≤ 4294967296) <|
          column_adapt_j1 (column_adapt_l1 q_column_adaptValue p1 p2 p3 k1) x1 (l1 ++ [r2])))
      (column_adapt_j2 l1)

def column_adaptValue_j1 (l2 : List GValue) : Option GValue :=
    bnd (slices_Clip_api_Value_api_Value l2) fun r4 =>
    some (GValue.mk (6 : Int) (0 : Int) (0 : Int) ByteArray.empty r4)

def column_adaptValue_l1 (q_column_adapt : (List GField) → (List GField) → (List GValue) → Option (List GValue)) (p1 : GType) (p2 : GType) (p3 : GValue) : Nat → List GValue → Int → Option GValue
  | 0, _, _ => none
  | k1 + 1, l1, x1 =>
    ift (decide (x1 < (p3.items.length : Int)))
      (bnd (at? p3.items x1) fun e1 =>
       bnd (q_column_adapt p1.fields p2.fields [e1]) fun r3 =>
       grd (l1.length + r3.length ≤ 4294967296) <|
       (column_adaptValue_l1 q_column_adapt p1 p2 p3 k1) (l1 ++ r3) (IntKind.i64.wrap (x1 + (1 : Int))))
      (column_adaptValue_j1 l1)

mutual

def column_adapt : Nat → (List GField) → (List GField) → (List GValue) → Option (List GValue)
  | 0, _, _, _ => none
  | k0 + 1, p1, p2, p3 =>
    column_adapt_l1 (column_adaptValue k0) p1 p2 p3 BIG [] (0 : Int)

def column_adaptValue : Nat → GType → GType → GValue → Option GValue
  | 0, _, _, _ => none
  | k0 + 1, p1, p2, p3 =>
    ift (p3.kind == (0 : Int))
      (some (GValue.mk (0 : Int) (0 : Int) (0 : Int) ByteArray.empty []))
      (ift (p1.kind == (7 : Int))
         (bnd ((column_adapt k0) p1.fields p2.fields p3.items) fun r1 =>
          some (GValue.mk (7 : Int) (0 : Int) (0 : Int) ByteArray.empty r1))
         (ift (p1.kind != (6 : Int))
            (bnd (column_widened p3 p2) fun r2 =>
             some r2)
            (column_adaptValue_l1 (column_adapt k0) p1 p2 p3 BIG [] (0 : Int))))

end

abbrev qa694 : List CV := [ci (0 : Int), ci (0 : Int), ci (0 : Int), cst ByteArray.empty, .pv (.s (.slice none 0 0))]

mutual

theorem c_column_adapt : ∀ (k0 : Nat) (p1 : (List GField)) (p2 : (List GField)) (p3 : (List GValue)), CT Tryz.prog 12 [vl eField p1, vl eField p2, vl eValue p3] (column_adapt k0 p1 p2 p3) (vl eValue)
  | 0, _, _, _ => uF0 (column_adapt.eq_1 ..)
  | k0 + 1, p1, p2, p3 => uFn 45 [9] Tryz.f12 fun r => (uU (column_adapt.eq_2 ..) (uQ (kS Tryz.f12 [1,1,0] 1) fun K3 hK3 => have hJ2 : ∀ (l3 : List GValue), column_adapt_j2 l3 = some r → K3.p [(7, .one (.sl 0 5 0 l3.length))] [.arr 5 (eValue.els l3)] := fun l3 h => hK3 h (uKl eValue l3 0 [43] (uP (c_slices_Clip_api_Value_api_Value _) fun r3 _ => (uR .ret xF))); (uN eField p2 (uCv (.li 7 5) (uO (cd Tryz.f12 [1,1,0,1,0,0]) (kS Tryz.f12 [1,1,0,1,0] 1) fun R1 b1 => have hL1 : ∀ (k1 : Nat) (l1 : List GValue) (x1 : Int), column_adapt_l1 (column_adaptValue k0) p1 p2 p3 k1 l1 x1 = some r → (R1 k1).p [(0, vl eField p1), (2, vl eValue p3), (7, .one (.sl 0 5 0 l1.length)), (11, vl eField p2), (12, vi (p2.length : Int)), (13, vi x1)] [.arr 5 (eValue.els l1)] := by intro k1; induction k1 with | zero => intro l1 x1 h; exact uE0 (column_adapt_l1.eq_1 ..) h | succ k1 ih1 => intro l1 x1 h; exact b1 h (uU (column_adapt_l1.eq_2 ..) (uC (uQ (kS Tryz.f12 [1,1,0,1,0,0,1,1,0] 1) fun K8 hK8 => have hJ1 : ∀ (l2 : List GValue), column_adapt_j1 (column_adapt_l1 (column_adaptValue k0) p1 p2 p3 k1) x1 l2 = some r → K8.p [(0, vl eField p1), (2, vl eValue p3), (7, .one (.sl 0 5 0 l2.length)), (11, vl eField p2), (12, vi (p2.length : Int)), (13, vi x1)] [.arr 5 (eValue.els l2)] := fun l2 h => hK8 h (uJ (ih1 l2 (IntKind.i64.wrap (x1 + (1 : Int))))); (uL eField fun e1 a10 => (uP (c_column_earlier _ _) fun r1 _ => (uC (uAp eValue 0 ([(GValue.mk (0 : Int) (0 : Int) (0 : Int) ByteArray.empty [])]) (uJ (hJ1 (l1 ++ [(GValue.mk (0 : Int) (0 : Int) (0 : Int) ByteArray.empty [])])))) (uDr 14 (uL eField fun e2 a18 => (uL eValue fun e3 a19 => (uP (c_column_adaptValue k0 _ _ _) fun r2 _ => (uW 40 eValue [r2] (uAp eValue 0 [r2] (uJ (hJ1 (l1 ++ [r2]))))))))))))) (uR (.exit 0) (xM (uJ (hJ2 l1))))))
 uE (hL1 BIG [] (0 : Int)))))))

theorem c_column_adaptValue : ∀ (k0 : Nat) (p1 : GType) (p2 : GType) (p3 : GValue), CT Tryz.prog 28 [.ag [ci p1.kind, ci p1.scale, cl eField p1.fields], .ag [ci p2.kind, ci p2.scale, cl eField p2.fields], .ag [ci p3.kind, ci p3.n, ci p3.scale, cst p3.s, cl eValue p3.items]] (column_adaptValue k0 p1 p2 p3) (fun r => .ag [ci r.kind, ci r.n, ci r.scale, cst r.s, cl eValue r.items])
  | 0, _, _, _ => uF0 (column_adaptValue.eq_1 ..)
  | k0 + 1, p1, p2, p3 => uFn 59 [6, 7, 9] Tryz.f28 fun r => (uU (column_adaptValue.eq_2 ..) (uC (uR .ret xF) (uC (uP (c_column_adapt k0 _ _ _) fun r1 _ => (uR .ret xF)) (uC (uP (c_column_widened _ _) fun r2 _ => (uR .ret xF)) (uQ (kS Tryz.f28 [1,1,1,0] 1) fun K15 hK15 => have hJ1 : ∀ (l2 : List GValue), column_adaptValue_j1 l2 = some r → K15.p [(6, .one (.pt 0 0 0 0)), (7, .one (.pt 1 0 0 0))] [.box qa694, .box [ci (6 : Int), ci (0 : Int), ci (0 : Int), cst ByteArray.empty, .sl 2 5 0 l2.length], .arr 5 (eValue.els l2)] := fun l2 h => hK15 h (uCv (.stl 1 4) (uKl eValue l2 2 [55] (uP (c_slices_Clip_api_Value_api_Value _) fun r4 _ => (uR .ret xF)))); (uN eValue p3.items (uCv (.lb 1 4 5) (uO (cd Tryz.f28 [1,1,1,0,1,0,0]) (kS Tryz.f28 [1,1,1,0,1,0] 1) fun R1 b1 => have hL1 : ∀ (k1 : Nat) (l1 : List GValue) (x1 : Int), column_adaptValue_l1 (column_adapt k0) p1 p2 p3 k1 l1 x1 = some r → (R1 k1).p [(3, .one (.pv (.rp [[pi p1.kind, pi p1.scale, .ro (eField.els p1.fields)]] 0 0))), (4, .one (.pv (.rp [[pi p2.kind, pi p2.scale, .ro (eField.els p2.fields)]] 0 0))), (6, .one (.pt 0 0 0 0)), (7, .one (.pt 1 0 0 0)), (36, vl eValue p3.items), (37, vi (p3.items.length : Int)), (38, vi x1)] [.box qa694, .box [ci (6 : Int), ci (0 : Int), ci (0 : Int), cst ByteArray.empty, .sl 2 5 0 l1.length], .arr 5 (eValue.els l1)] := by intro k1; induction k1 with | zero => intro l1 x1 h; exact uE0 (column_adaptValue_l1.eq_1 ..) h | succ k1 ih1 => intro l1 x1 h; exact b1 h (uU (column_adaptValue_l1.eq_2 ..) (uC (uL eValue fun e1 a22 => (uDr 9 (uW 49 eValue [e1] (uP (c_column_adapt k0 _ _ _) fun r3 _ => (uCv (.stl 1 4) (uAp eValue 2 r3 (uJ (ih1 (l1 ++ r3) (IntKind.i64.wrap (x1 + (1 : Int))))))))))) (uR (.exit 1) (xM (uJ (hJ1 l1))))))
 uE (hL1 BIG [] (0 : Int))))))))))

end

def slices_Clip_api_Value_api_Value_f13 (p1 : (List (List GValue))) : Option (List (List GValue)) :=
    grd (0 ≤ (0 : Int) ∧ (0 : Int) ≤ (p1.length : Int) ∧ (p1.length : Int) ≤ (p1.length : Int) ∧ (p1.length : Int) ≤ (p1.length : Int)) <|
    some ((p1.drop (0 : Int).toNat).take ((p1.length : Int).toNat - (0 : Int).toNat))


theorem c_slices_Clip_api_Value_api_Value_f13 (p1 : (List (List GValue))) : CT Tryz.prog 13 [vl (eL eValue) p1] (slices_Clip_api_Value_api_Value_f13 p1) (fun r => vl (eL eValue) r) :=
  uFn 9 [] Tryz.f13 fun r => (uN (eL eValue) p1 (uN (eL eValue) p1 (uXm (eL eValue) (uR .ret xF))))

def column_Adapt_j1 (l2 : List (List GValue)) : Option ((List (List GValue)) × Int) :=
    bnd (slices_Clip_api_Value_api_Value_f13 l2) fun r5 =>
    some (r5, (0 : Int))

def column_Adapt_l1 (p1 : (List GField)) (p2 : (List GField)) (p3 : (List (List GValue))) : Nat → List (List GValue) → Int → Option ((List (List GValue)) × Int)
  | 0, _, _ => none
  | k1 + 1, l1, x1 =>
    ift (decide (x1 < (p3.length : Int)))
      (bnd (at? p3 x1) fun e1 =>
       bnd (column_adapt BIG p1 p2 e1) fun r4 =>
       grd (l1.length + 1 ≤ 4294967296) <|
       (column_Adapt_l1 p1 p2 p3 k1) (l1 ++ [r4]) (IntKind.i64.wrap (x1 + (1 : Int))))
      (column_Adapt_j1 l1)

def column_Adapt (p1 : (List GField)) (p2 : (List GField)) (p3 : (List (List GValue))) : Option ((List (List GValue)) × Int) :=
    bnd (column_CheckRows p1 p3) fun r1 =>
    ift (r1 != (0 : Int))
      (some ([], r1))
      (bnd (value_CheckSchema p2) fun r2 =>
       ift (r2 != (0 : Int))
         (some ([], r2))
         (bnd (column_adaptable BIG p1 p2) fun r3 =>
          ift (r3 != (0 : Int))
            (some ([], r3))
            (column_Adapt_l1 p1 p2 p3 BIG [] (0 : Int))))


theorem c_column_Adapt (p1 : (List GField)) (p2 : (List GField)) (p3 : (List (List GValue))) : CT Tryz.prog 4 [vl eField p1, vl eField p2, vl (eL eValue) p3] (column_Adapt p1 p2 p3) (fun r => .tp [vl (eL eValue) r.1, vi r.2]) :=
  uFn 47 [] Tryz.f4 fun r => (uP (c_column_CheckRows _ _) fun r1 _ => (uC (uR .ret xF) (uP (c_value_CheckSchema _) fun r2 _ => (uC (uR .ret xF) (uP (c_column_adaptable BIG _ _) fun r3 _ => (uC (uR .ret xF) (uQ (kS Tryz.f4 [1,1,1,1,1,0] 1) fun K21 hK21 => have hJ1 : ∀ (l2 : List (List GValue)), column_Adapt_j1 l2 = some r → K21.p [(11, .one (.sl 0 1 0 l2.length))] [.arr 1 ((eL eValue).els l2)] := fun l2 h => hK21 h (uKl (eL eValue) l2 0 [45] (uP (c_slices_Clip_api_Value_api_Value_f13 _) fun r5 _ => (uR .ret xF))); (uN (eL eValue) p3 (uCv (.li 11 1) (uO (cd Tryz.f4 [1,1,1,1,1,0,1,0,0]) (kS Tryz.f4 [1,1,1,1,1,0,1,0] 1) fun R1 b1 => have hL1 : ∀ (k1 : Nat) (l1 : List (List GValue)) (x1 : Int), column_Adapt_l1 p1 p2 p3 k1 l1 x1 = some r → (R1 k1).p [(0, vl eField p1), (1, vl eField p2), (11, .one (.sl 0 1 0 l1.length)), (31, vl (eL eValue) p3), (32, vi (p3.length : Int)), (33, vi x1)] [.arr 1 ((eL eValue).els l1)] := by intro k1; induction k1 with | zero => intro l1 x1 h; exact uE0 (column_Adapt_l1.eq_1 ..) h | succ k1 ih1 => intro l1 x1 h; exact b1 h (uU (column_Adapt_l1.eq_2 ..) (uC (uL (eL eValue) fun e1 a28 => (uP (c_column_adapt BIG _ _ _) fun r4 _ => (uAp (eL eValue) 0 [r4] (uJ (ih1 (l1 ++ [r4]) (IntKind.i64.wrap (x1 + (1 : Int)))))))) (uR (.exit 0) (xM (uJ (hJ1 l1))))))
 uE (hL1 BIG [] (0 : Int))))))))))))

def ref1_Leaf_j1 (x1 : Bool) : Option Bool :=
    some x1

def ref1_Leaf (p1 : Int) : Option Bool :=
    ift (p1 != (6 : Int))
      (ref1_Leaf_j1 (p1 != (7 : Int)))
      (ref1_Leaf_j1 false)


theorem c_ref1_Leaf (p1 : Int) : CT Tryz.prog 21 [vi p1] (ref1_Leaf p1) vb :=
  uFn 9 [] Tryz.f21 fun r => (uQ (kS Tryz.f21 [1,0] 1) fun K2 hK2 => have hJ1 : ∀ (x1 : Bool), ref1_Leaf_j1 x1 = some r → K2.p [(2, vb x1)] [] := fun x1 h => hK2 h (uR .ret xF); (uC (uJ (hJ1 (p1 != (7 : Int)))) (uJ (hJ1 false))))

def ref1_within_j1 (x1 : Bool) : Option Bool :=
    some x1

def ref1_within (p1 : Int) (p2 : Int) (p3 : Int) : Option Bool :=
    ift (decide (p2 ≤ p1))
      (ref1_within_j1 (decide (p1 ≤ p3)))
      (ref1_within_j1 false)


theorem c_ref1_within (p1 : Int) (p2 : Int) (p3 : Int) : CT Tryz.prog 61 [vi p1, vi p2, vi p3] (ref1_within p1 p2 p3) vb :=
  uFn 15 [] Tryz.f61 fun r => (uQ (kS Tryz.f61 [1,0] 1) fun K2 hK2 => have hJ1 : ∀ (x1 : Bool), ref1_within_j1 x1 = some r → K2.p [(6, vb x1)] [] := fun x1 h => hK2 h (uR .ret xF); (uC (uJ (hJ1 (decide (p1 ≤ p3)))) (uJ (hJ1 false))))

def ref1_Name_j4 (rec1 : Int → Option Bool) (x2 : Int) (x5 : Bool) : Option Bool :=
    ift x5
      (some false)
      (rec1 (IntKind.i64.wrap (x2 + (1 : Int))))

def ref1_Name_j3 (rec1 : Int → Option Bool) (x2 : Int) (x3 : Bool) (x4 : Bool) : Option Bool :=
    ift (!x3)
      (ift (x2 == (0 : Int))
         (ref1_Name_j4 rec1 x2 true)
         (ref1_Name_j4 rec1 x2 (!x4)))
      (ref1_Name_j4 rec1 x2 false)

def ref1_Name_j2 (rec1 : Int → Option Bool) (p1 : ByteArray) (x2 : Int) (x3 : Bool) : Option Bool :=
    grd (0 ≤ x2 ∧ x2 < (p1.size : Int)) <|
    ift (((p1.data.toList.getD x2.toNat 0).toNat : Int) == (95 : Int))
      (ref1_Name_j3 rec1 x2 x3 true)
      (grd (0 ≤ x2 ∧ x2 < (p1.size : Int)) <|
       bnd (some (decide ((48 : Int) ≤ ((p1.data.toList.getD x2.toNat 0).toNat : Int)))) fun y3 =>
       ift y3
         (grd (0 ≤ x2 ∧ x2 < (p1.size : Int)) <|
          bnd (some (decide (((p1.data.toList.getD x2.toNat 0).toNat : Int) ≤ (57 : Int)))) fun y4 =>
          ref1_Name_j3 rec1 x2 x3 y4)
         (ref1_Name_j3 rec1 x2 x3 false))

def ref1_Name_j5 : Option Bool :=
    some true

def ref1_Name_l1 (p1 : ByteArray) : Nat → Int → Option Bool
  | 0, _ => none
  | k1 + 1, x2 =>
    ift (decide (x2 < (p1.size : Int)))
      (grd (0 ≤ x2 ∧ x2 < (p1.size : Int)) <|
       bnd (some (decide ((97 : Int) ≤ ((p1.data.toList.getD x2.toNat 0).toNat : Int)))) fun y1 =>
       ift y1
         (grd (0 ≤ x2 ∧ x2 < (p1.size : Int)) <|
          bnd (some (decide (((p1.data.toList.getD x2.toNat 0).toNat : Int) ≤ (122 : Int)))) fun y2 =>
          ref1_Name_j2 (ref1_Name_l1 p1 k1) p1 x2 y2)
         (ref1_Name_j2 (ref1_Name_l1 p1 k1) p1 x2 false))
      (ref1_Name_j5)

def ref1_Name_j1 (p1 : ByteArray) (x1 : Bool) : Option Bool :=
    ift x1
      (some false)
      (ref1_Name_l1 p1 BIG (0 : Int))

def ref1_Name (p1 : ByteArray) : Option Bool :=
    ift (decide ((p1.size : Int) < (1 : Int)))
      (ref1_Name_j1 p1 true)
      (ref1_Name_j1 p1 (decide ((24 : Int) < (p1.size : Int))))


theorem c_ref1_Name (p1 : ByteArray) : CT Tryz.prog 64 [vs p1] (ref1_Name p1) vb :=
  uFn 56 [] Tryz.f64 fun r => (uQ (kS Tryz.f64 [1,0,0] 2) fun K3 hK3 => have hJ1 : ∀ (x1 : Bool), ref1_Name_j1 p1 x1 = some r → K3.p [(0, vs p1), (13, vb x1)] [] := fun x1 h => hK3 h (uC (uR .ret xF) (uQ (kS Tryz.f64 [1,1,0] 1) fun K7 hK7 => have hJ5 : ∀ (_ : Unit), ref1_Name_j5 = some r → K7.p [] [] := fun _ h => hK7 h (uR .ret xF); (uO (cd Tryz.f64 [1,1,0,1,0,0]) (kS Tryz.f64 [1,1,0,1,0] 1) fun R1 b1 => have hL1 : ∀ (k1 : Nat) (x2 : Int), ref1_Name_l1 p1 k1 x2 = some r → (R1 k1).p [(0, vs p1), (3, vi x2)] [] := by intro k1; induction k1 with | zero => intro x2 h; exact uE0 (ref1_Name_l1.eq_1 ..) h | succ k1 ih1 => intro x2 h; exact b1 h (uU (ref1_Name_l1.eq_2 ..) (uC (uQ (kS Tryz.f64 [1,1,0,1,0,0,1,0,0,0] 3) fun K13 hK13 => have hJ2 : ∀ (x3 : Bool), ref1_Name_j2 (ref1_Name_l1 p1 k1) p1 x2 x3 = some r → K13.p [(0, vs p1), (3, vi x2), (4, vb x3)] [] := fun x3 h => hK13 h (uQ (kS Tryz.f64 [1,1,0,1,0,0,1,0,0,1,0] 3) fun K19 hK19 => have hJ3 : ∀ (x4 : Bool), ref1_Name_j3 (ref1_Name_l1 p1 k1) x2 x3 x4 = some r → K19.p [(0, vs p1), (3, vi x2), (4, vb x3), (5, vb x4)] [] := fun x4 h => hK19 h (uQ (kS Tryz.f64 [1,1,0,1,0,0,1,0,0,1,1,0] 3) fun K27 hK27 => have hJ4 : ∀ (x5 : Bool), ref1_Name_j4 (ref1_Name_l1 p1 k1) x2 x5 = some r → K27.p [(0, vs p1), (3, vi x2), (55, vb x5)] [] := fun x5 h => hK27 h (uC (uR .ret (xN (xN xF))) (uJ (ih1 (IntKind.i64.wrap (x2 + (1 : Int)))))); (uC (uC (uJ (hJ4 true)) (uJ (hJ4 (!x4)))) (uJ (hJ4 false)))); (uG (uC (uJ (hJ3 true)) (uG (uY 38 vb fun y3 => (uC (uG (uY 43 vb fun y4 => (uJ (hJ3 y4)))) (uJ (hJ3 false)))))))); (uG (uY 23 vb fun y1 => (uC (uG (uY 28 vb fun y2 => (uJ (hJ2 y2)))) (uJ (hJ2 false)))))) (uR (.exit 0) (xM (uJ (hJ5 ()))))))
 uE (hL1 BIG (0 : Int))))); (uC (uJ (hJ1 true)) (uJ (hJ1 (decide ((24 : Int) < (p1.size : Int)))))))

def ref1_shape_j5 (rec2 : Int → Option Int) (x5 : Int) : Option Int :=
    rec2 (IntKind.i64.wrap (x5 + (1 : Int)))

def ref1_shape_l3 (rec2 : Int → Option Int) (p1 : GType) (x5 : Int) : Nat → Int → Option Int
  | 0, _ => none
  | k3 + 1, x6 =>
    ift (decide (x6 < x5))
      (bnd (at? p1.fields x6) fun e3 =>
       bnd (at? p1.fields x5) fun e4 =>
       ift (e3.name.toList == e4.name.toList)
         (some (5 : Int))
         ((ref1_shape_l3 rec2 p1 x5 k3) (IntKind.i64.wrap (x6 + (1 : Int)))))
      (ref1_shape_j5 rec2 x5)

def ref1_shape_j6 : Option Int :=
    some (0 : Int)

def ref1_shape_l2 (p1 : GType) : Nat → Int → Option Int
  | 0, _ => none
  | k2 + 1, x5 =>
    ift (decide (x5 < (p1.fields.length : Int)))
      (ref1_shape_l3 (ref1_shape_l2 p1 k2) p1 x5 BIG (0 : Int))
      (ref1_shape_j6)

def ref1_shape_j4 (p1 : GType) : Option Int :=
    ref1_shape_l2 p1 BIG (0 : Int)

def ref1_shape_l1 (p1 : GType) : Nat → Int → Option Int
  | 0, _ => none
  | k1 + 1, x4 =>
    ift (decide (x4 < (p1.fields.length : Int)))
      (bnd (at? p1.fields x4) fun e2 =>
       bnd (ref1_Name e2.name) fun r5 =>
       ift (!r5)
         (some (4 : Int))
         ((ref1_shape_l1 p1 k1) (IntKind.i64.wrap (x4 + (1 : Int)))))
      (ref1_shape_j4 p1)

def ref1_shape_j3 (p1 : GType) (x3 : Bool) : Option Int :=
    ift x3
      (some (1 : Int))
      (ift (p1.kind != (7 : Int))
         (some (0 : Int))
         (ref1_shape_l1 p1 BIG (0 : Int)))

def ref1_shape_j2 (p1 : GType) (x2 : Bool) : Option Int :=
    ift x2
      (some (1 : Int))
      (ift (p1.kind == (7 : Int))
         (ift ((p1.fields.length : Int) == (0 : Int))
            (ref1_shape_j3 p1 true)
            (bnd (ref1_Leaf p1.kind) fun r3 =>
             ift r3
               (ref1_shape_j3 p1 (decide ((0 : Int) < (p1.fields.length : Int))))
               (ref1_shape_j3 p1 false)))
         (bnd (ref1_Leaf p1.kind) fun r4 =>
          ift r4
            (ref1_shape_j3 p1 (decide ((0 : Int) < (p1.fields.length : Int))))
            (ref1_shape_j3 p1 false)))

def ref1_shape_j1 (p1 : GType) (x1 : Bool) : Option Int :=
    ift x1
      (some (1 : Int))
      (ift (p1.kind == (6 : Int))
         (ift ((p1.fields.length : Int) != (1 : Int))
            (ref1_shape_j2 p1 true)
            (bnd (at? p1.fields (0 : Int)) fun e1 =>
             ref1_shape_j2 p1 (!(e1.name.toList == (ByteArray.mk #[]).toList))))
         (ref1_shape_j2 p1 false))

def ref1_shape (p1 : GType) : Option Int :=
    bnd (ref1_within p1.kind (1 : Int) (7 : Int)) fun r1 =>
    ift (!r1)
      (some (3 : Int))
      (ift (p1.kind == (3 : Int))
         (bnd (ref1_within p1.scale (0 : Int) (12 : Int)) fun r2 =>
          ift (!r2)
            (ref1_shape_j1 p1 true)
            (ift (p1.kind != (3 : Int))
               (ref1_shape_j1 p1 (p1.scale != (0 : Int)))
               (ref1_shape_j1 p1 false)))
         (ift (p1.kind != (3 : Int))
            (ref1_shape_j1 p1 (p1.scale != (0 : Int)))
            (ref1_shape_j1 p1 false)))

abbrev qa714 (p1 : GType) : List PV := [pi p1.kind, pi p1.scale, .ro (eField.els p1.fields)]

theorem c_ref1_shape (p1 : GType) : CT Tryz.prog 48 [.ag [ci p1.kind, ci p1.scale, cl eField p1.fields]] (ref1_shape p1) vi :=
  uFn 109 [] Tryz.f48 fun r => (uP (c_ref1_within _ _ _) fun r1 _ => (uC (uR .ret xF) (uQ (kS Tryz.f48 [1,1,0,0] 2) fun K8 hK8 => have hJ1 : ∀ (x1 : Bool), ref1_shape_j1 p1 x1 = some r → K8.p [(1, .one (.pv (.rp [(qa714 p1)] 0 0))), (28, vb x1)] [] := fun x1 h => hK8 h (uC (uR .ret xF) (uQ (kS Tryz.f48 [1,1,1,0,0] 2) fun K17 hK17 => have hJ2 : ∀ (x2 : Bool), ref1_shape_j2 p1 x2 = some r → K17.p [(1, .one (.pv (.rp [(qa714 p1)] 0 0))), (45, vb x2)] [] := fun x2 h => hK17 h (uC (uR .ret xF) (uQ (kS Tryz.f48 [1,1,1,1,0,0] 2) fun K24 hK24 => have hJ3 : ∀ (x3 : Bool), ref1_shape_j3 p1 x3 = some r → K24.p [(1, .one (.pv (.rp [(qa714 p1)] 0 0))), (65, vb x3)] [] := fun x3 h => hK24 h (uC (uR .ret xF) (uC (uR .ret xF) (uQ (kS Tryz.f48 [1,1,1,1,1,1,0] 1) fun K37 hK37 => have hJ4 : ∀ (_ : Unit), ref1_shape_j4 p1 = some r → K37.p [(1, .one (.pv (.rp [(qa714 p1)] 0 0)))] [] := fun _ h => hK37 h (uQ (kS Tryz.f48 [1,1,1,1,1,1,1,0] 1) fun K49 hK49 => have hJ6 : ∀ (_ : Unit), ref1_shape_j6 = some r → K49.p [] [] := fun _ h => hK49 h (uR .ret xF); (uN eField p1.fields (uO (cd Tryz.f48 [1,1,1,1,1,1,1,0,1,0,0]) (kS Tryz.f48 [1,1,1,1,1,1,1,0,1,0] 1) fun R2 b2 => have hL2 : ∀ (k2 : Nat) (x5 : Int), ref1_shape_l2 p1 k2 x5 = some r → (R2 k2).p [(1, .one (.pv (.rp [(qa714 p1)] 0 0))), (86, vi (p1.fields.length : Int)), (87, vi x5)] [] := by intro k2; induction k2 with | zero => intro x5 h; exact uE0 (ref1_shape_l2.eq_1 ..) h | succ k2 ih2 => intro x5 h; exact b2 h (uU (ref1_shape_l2.eq_2 ..) (uC (uQ (kS Tryz.f48 [1,1,1,1,1,1,1,0,1,0,0,1,1,0] 1) fun K54 hK54 => have hJ5 : ∀ (_ : Unit), ref1_shape_j5 (ref1_shape_l2 p1 k2) x5 = some r → K54.p [(1, .one (.pv (.rp [(qa714 p1)] 0 0))), (86, vi (p1.fields.length : Int)), (87, vi x5)] [] := fun _ h => hK54 h (uJ (ih2 (IntKind.i64.wrap (x5 + (1 : Int))))); (uO (cd Tryz.f48 [1,1,1,1,1,1,1,0,1,0,0,1,1,0,0,1,1,0,0]) (kS Tryz.f48 [1,1,1,1,1,1,1,0,1,0,0,1,1,0,0,1,1,0] 2) fun R3 b3 => have hL3 : ∀ (k3 : Nat) (x6 : Int), ref1_shape_l3 (ref1_shape_l2 p1 k2) p1 x5 k3 x6 = some r → (R3 k3).p [(1, .one (.pv (.rp [(qa714 p1)] 0 0))), (4, vi x5), (5, vi x6), (86, vi (p1.fields.length : Int)), (87, vi x5)] [] := by intro k3; induction k3 with | zero => intro x6 h; exact uE0 (ref1_shape_l3.eq_1 ..) h | succ k3 ih3 => intro x6 h; exact b3 h (uU (ref1_shape_l3.eq_2 ..) (uC (uDr 12 (uL eField fun e3 a62 => (uL eField fun e4 a63 => (uC (uR .ret (xN (xN (xN (xN xF))))) (uJ (ih3 (IntKind.i64.wrap (x6 + (1 : Int))))))))) (uR (.exit 4) (xM (uJ (hJ5 ()))))))
 uE (hL3 BIG (0 : Int)))) (uR (.exit 2) (xM (uJ (hJ6 ()))))))
 uE (hL2 BIG (0 : Int))))); (uN eField p1.fields (uO (cd Tryz.f48 [1,1,1,1,1,1,0,1,0,0]) (kS Tryz.f48 [1,1,1,1,1,1,0,1,0] 1) fun R1 b1 => have hL1 : ∀ (k1 : Nat) (x4 : Int), ref1_shape_l1 p1 k1 x4 = some r → (R1 k1).p [(1, .one (.pv (.rp [(qa714 p1)] 0 0))), (71, vi (p1.fields.length : Int)), (72, vi x4)] [] := by intro k1; induction k1 with | zero => intro x4 h; exact uE0 (ref1_shape_l1.eq_1 ..) h | succ k1 ih1 => intro x4 h; exact b1 h (uU (ref1_shape_l1.eq_2 ..) (uC (uL eField fun e2 a45 => (uP (c_ref1_Name _) fun r5 _ => (uC (uR .ret (xN (xN xF))) (uJ (ih1 (IntKind.i64.wrap (x4 + (1 : Int)))))))) (uR (.exit 0) (xM (uJ (hJ4 ()))))))
 uE (hL1 BIG (0 : Int))))))); (uC (uN eField p1.fields (uC (uJ (hJ3 true)) (uP (c_ref1_Leaf _) fun r3 _ => (uC (uN eField p1.fields (uJ (hJ3 (decide ((0 : Int) < (p1.fields.length : Int)))))) (uJ (hJ3 false)))))) (uP (c_ref1_Leaf _) fun r4 _ => (uC (uN eField p1.fields (uJ (hJ3 (decide ((0 : Int) < (p1.fields.length : Int)))))) (uJ (hJ3 false))))))); (uC (uN eField p1.fields (uC (uJ (hJ2 true)) (uL eField fun e1 a20 => (uJ (hJ2 (!(e1.name.toList == (ByteArray.mk #[]).toList))))))) (uJ (hJ2 false))))); (uC (uP (c_ref1_within _ _ _) fun r2 _ => (uC (uJ (hJ1 true)) (uC (uJ (hJ1 (p1.scale != (0 : Int)))) (uJ (hJ1 false))))) (uC (uJ (hJ1 (p1.scale != (0 : Int)))) (uJ (hJ1 false)))))))

def ref1_checkType_j2 (z3 : Int) : Option (Int × Int) :=
    some ((0 : Int), z3)

def ref1_checkType_l1 (q_ref1_checkType : GType → Int → Int → Option (Int × Int)) (p1 : GType) (p2 : Int) : Nat → Int → Int → Option (Int × Int)
  | 0, _, _ => none
  | k1 + 1, z2, x1 =>
    ift (decide (x1 < (p1.fields.length : Int)))
      (bnd (at? p1.fields x1) fun e1 =>
       bnd (q_ref1_checkType e1.type (IntKind.i64.wrap (p2 + (1 : Int))) z2) fun r3 =>
       ift (r3.1 != (0 : Int))
         (some (r3.1, r3.2))
         ((ref1_checkType_l1 q_ref1_checkType p1 p2 k1) r3.2 (IntKind.i64.wrap (x1 + (1 : Int)))))
      (ref1_checkType_j2 z2)

def ref1_checkType_j1 (q_ref1_checkType : GType → Int → Int → Option (Int × Int)) (p1 : GType) (p2 : Int) (z1 : Int) : Option (Int × Int) :=
    bnd (ref1_shape p1) fun r2 =>
    ift (r2 != (0 : Int))
      (some (r2, z1))
      (ref1_checkType_l1 q_ref1_checkType p1 p2 BIG z1 (0 : Int))

def ref1_checkType : Nat → GType → Int → Int → Option (Int × Int)
  | 0, _, _, _ => none
  | k0 + 1, p1, p2, p3 =>
    ift (decide ((4 : Int) < p2))
      (some ((7 : Int), p3))
      (bnd (ref1_Leaf p1.kind) fun r1 =>
       ift r1
         (ift (p3 == (40 : Int))
            (some ((7 : Int), p3))
            (ref1_checkType_j1 (ref1_checkType k0) p1 p2 (IntKind.i64.wrap (p3 + (1 : Int)))))
         (ref1_checkType_j1 (ref1_checkType k0) p1 p2 p3))


theorem c_ref1_checkType : ∀ (k0 : Nat) (p1 : GType) (p2 : Int) (p3 : Int), CM Tryz.prog 35 [.ag [ci p1.kind, ci p1.scale, cl eField p1.fields], vi p2, .one (.pt 0 0 0 0)] [.box [ci p3]] (ref1_checkType k0 p1 p2 p3) (fun r => vi r.1) (fun r => [.box [ci r.2]])
  | 0, _, _, _ => uM0 (ref1_checkType.eq_1 ..)
  | k0 + 1, p1, p2, p3 => uFnM 1 49 [] Tryz.f35 fun r => (uU (ref1_checkType.eq_2 ..) (uC (uR .ret xFM) (uQ (kS Tryz.f35 [1,1,0] 1) fun K6 hK6 => have hJ1 : ∀ (z1 : Int), ref1_checkType_j1 (ref1_checkType k0) p1 p2 z1 = some r → K6.p [(1, vi p2), (2, .one (.pt 0 0 0 0)), (3, .one (.pv (.rp [[pi p1.kind, pi p1.scale, .ro (eField.els p1.fields)]] 0 0)))] [.box [ci z1]] := fun z1 h => hK6 h (uP (c_ref1_shape _) fun r2 _ => (uC (uR .ret xFM) (uQ (kS Tryz.f35 [1,1,1,1,0] 1) fun K20 hK20 => have hJ2 : ∀ (z3 : Int), ref1_checkType_j2 z3 = some r → K20.p [] [.box [ci z3]] := fun z3 h => hK20 h (uR .ret xFM); (uN eField p1.fields (uO (cd Tryz.f35 [1,1,1,1,0,1,0,0]) (kS Tryz.f35 [1,1,1,1,0,1,0] 1) fun R1 b1 => have hL1 : ∀ (k1 : Nat) (z2 : Int) (x1 : Int), ref1_checkType_l1 (ref1_checkType k0) p1 p2 k1 z2 x1 = some r → (R1 k1).p [(1, vi p2), (2, .one (.pt 0 0 0 0)), (3, .one (.pv (.rp [[pi p1.kind, pi p1.scale, .ro (eField.els p1.fields)]] 0 0))), (31, vi (p1.fields.length : Int)), (32, vi x1)] [.box [ci z2]] := by intro k1; induction k1 with | zero => intro z2 x1 h; exact uE0 (ref1_checkType_l1.eq_1 ..) h | succ k1 ih1 => intro z2 x1 h; exact b1 h (uU (ref1_checkType_l1.eq_2 ..) (uC (uL eField fun e1 a28 => (uMc true [0] (c_ref1_checkType k0 _ _ _) fun r3 _ => (uC (uR .ret (xN (xN xFM))) (uJ (ih1 r3.2 (IntKind.i64.wrap (x1 + (1 : Int)))))))) (uR (.exit 0) (xM (uJ (hJ2 z2))))))
 uE (hL1 BIG z1 (0 : Int))))))); (uP (c_ref1_Leaf _) fun r1 _ => (uC (uC (uR .ret (xN xFM)) (uJ (hJ1 (IntKind.i64.wrap (p3 + (1 : Int)))))) (uJ (hJ1 p3)))))))

def ref1_CheckType (p1 : GType) : Option Int :=
    bnd (ref1_checkType BIG p1 (1 : Int) (0 : Int)) fun r1 =>
    some r1.1


theorem c_ref1_CheckType (p1 : GType) : CT Tryz.prog 20 [.ag [ci p1.kind, ci p1.scale, cl eField p1.fields]] (ref1_CheckType p1) vi :=
  uFn 6 [3] Tryz.f20 fun r => (uMc true [0] (c_ref1_checkType BIG _ _ _) fun r1 _ => (uR .ret xF))

def ref1_Ids_j1 (l2 : List Int) : Option (List Int) :=
    some l2

def ref1_Ids_l1 (q_ref1_Ids : (List GField) → Option (List Int)) (p1 : (List GField)) : Nat → List Int → Int → Option (List Int)
  | 0, _, _ => none
  | k1 + 1, l1, x1 =>
    ift (decide (x1 < (p1.length : Int)))
      (bnd (at? p1 x1) fun e1 =>
       grd (l1.length + 1 ≤ 4294967296) <|
       bnd (q_ref1_Ids e1.type.fields) fun r1 =>
       grd ((l1 ++ [e1.id]).length + r1.length ≤ 4294967296) <|
       (ref1_Ids_l1 q_ref1_Ids p1 k1) ((l1 ++ [e1.id]) ++ r1) (IntKind.i64.wrap (x1 + (1 : Int))))
      (ref1_Ids_j1 l1)

def ref1_Ids : Nat → (List GField) → Option (List Int)
  | 0, _ => none
  | k0 + 1, p1 =>
    ref1_Ids_l1 (ref1_Ids k0) p1 BIG [] (0 : Int)


theorem c_ref1_Ids : ∀ (k0 : Nat) (p1 : (List GField)), CT Tryz.prog 31 [vl eField p1] (ref1_Ids k0 p1) (vl eI)
  | 0, _ => uF0 (ref1_Ids.eq_1 ..)
  | k0 + 1, p1 => uFn 29 [] Tryz.f31 fun r => (uU (ref1_Ids.eq_2 ..) (uQ (kS Tryz.f31 [1,1,0] 1) fun K3 hK3 => have hJ1 : ∀ (l2 : List Int), ref1_Ids_j1 l2 = some r → K3.p [(3, .one (.sl 0 1 0 l2.length))] [.arr 1 (eI.els l2)] := fun l2 h => hK3 h (uKl eI l2 0 [2] (uR .ret xF)); (uN eField p1 (uCv (.li 3 1) (uO (cd Tryz.f31 [1,1,0,1,0,0]) (kS Tryz.f31 [1,1,0,1,0] 1) fun R1 b1 => have hL1 : ∀ (k1 : Nat) (l1 : List Int) (x1 : Int), ref1_Ids_l1 (ref1_Ids k0) p1 k1 l1 x1 = some r → (R1 k1).p [(0, vl eField p1), (3, .one (.sl 0 1 0 l1.length)), (6, vi (p1.length : Int)), (7, vi x1)] [.arr 1 (eI.els l1)] := by intro k1; induction k1 with | zero => intro l1 x1 h; exact uE0 (ref1_Ids_l1.eq_1 ..) h | succ k1 ih1 => intro l1 x1 h; exact b1 h (uU (ref1_Ids_l1.eq_2 ..) (uC (uL eField fun e1 a11 => (uAp eI 0 [e1.id] (uM eField a11 (uP (c_ref1_Ids k0 _) fun r1 _ => (uAp eI 0 r1 (uJ (ih1 ((l1 ++ [e1.id]) ++ r1) (IntKind.i64.wrap (x1 + (1 : Int)))))))))) (uR (.exit 0) (xM (uJ (hJ1 l1))))))
 uE (hL1 BIG [] (0 : Int)))))))

def ref1_CheckSchema_j1 (rec1 : Int → Option Int) (x1 : Int) : Option Int :=
    rec1 (IntKind.i64.wrap (x1 + (1 : Int)))

def ref1_CheckSchema_l2 (rec1 : Int → Option Int) (r2 : (List Int)) (x1 : Int) (e1 : Int) : Nat → Int → Option Int
  | 0, _ => none
  | k2 + 1, x2 =>
    ift (decide (x2 < x1))
      (bnd (at? r2 x2) fun e2 =>
       ift (e2 == e1)
         (some (5 : Int))
         ((ref1_CheckSchema_l2 rec1 r2 x1 e1 k2) (IntKind.i64.wrap (x2 + (1 : Int)))))
      (ref1_CheckSchema_j1 rec1 x1)

def ref1_CheckSchema_j2 : Option Int :=
    some (0 : Int)

def ref1_CheckSchema_l1 (r2 : (List Int)) : Nat → Int → Option Int
  | 0, _ => none
  | k1 + 1, x1 =>
    ift (decide (x1 < (r2.length : Int)))
      (bnd (at? r2 x1) fun e1 =>
       ift (decide (e1 < (1 : Int)))
         (some (3 : Int))
         (ref1_CheckSchema_l2 (ref1_CheckSchema_l1 r2 k1) r2 x1 e1 BIG (0 : Int)))
      (ref1_CheckSchema_j2)

def ref1_CheckSchema (p1 : (List GField)) : Option Int :=
    bnd (ref1_CheckType (GType.mk (7 : Int) (0 : Int) p1)) fun r1 =>
    ift (r1 != (0 : Int))
      (some r1)
      (bnd (ref1_Ids BIG p1) fun r2 =>
       ref1_CheckSchema_l1 r2 BIG (0 : Int))


theorem c_ref1_CheckSchema (p1 : (List GField)) : CT Tryz.prog 15 [vl eField p1] (ref1_CheckSchema p1) vi :=
  uFn 40 [] Tryz.f15 fun r => (uP (c_ref1_CheckType _) fun r1 _ => (uC (uR .ret xF) (uP (c_ref1_Ids BIG _) fun r2 _ => (uQ (kS Tryz.f15 [1,1,1,0] 1) fun K10 hK10 => have hJ2 : ∀ (_ : Unit), ref1_CheckSchema_j2 = some r → K10.p [] [] := fun _ h => hK10 h (uR .ret xF); (uN eI r2 (uO (cd Tryz.f15 [1,1,1,0,1,0,0]) (kS Tryz.f15 [1,1,1,0,1,0] 1) fun R1 b1 => have hL1 : ∀ (k1 : Nat) (x1 : Int), ref1_CheckSchema_l1 r2 k1 x1 = some r → (R1 k1).p [(4, vl eI r2), (16, vi (r2.length : Int)), (17, vi x1)] [] := by intro k1; induction k1 with | zero => intro x1 h; exact uE0 (ref1_CheckSchema_l1.eq_1 ..) h | succ k1 ih1 => intro x1 h; exact b1 h (uU (ref1_CheckSchema_l1.eq_2 ..) (uC (uQ (kS Tryz.f15 [1,1,1,0,1,0,0,1,1,0] 1) fun K15 hK15 => have hJ1 : ∀ (_ : Unit), ref1_CheckSchema_j1 (ref1_CheckSchema_l1 r2 k1) x1 = some r → K15.p [(4, vl eI r2), (16, vi (r2.length : Int)), (17, vi x1)] [] := fun _ h => hK15 h (uJ (ih1 (IntKind.i64.wrap (x1 + (1 : Int))))); (uL eI fun e1 a19 => (uC (uR .ret (xN (xN (xN xF)))) (uO (cd Tryz.f15 [1,1,1,0,1,0,0,1,1,0,0,1,1,1,0,0]) (kS Tryz.f15 [1,1,1,0,1,0,0,1,1,0,0,1,1,1,0] 2) fun R2 b2 => have hL2 : ∀ (k2 : Nat) (x2 : Int), ref1_CheckSchema_l2 (ref1_CheckSchema_l1 r2 k1) r2 x1 e1 k2 x2 = some r → (R2 k2).p [(4, vl eI r2), (5, vi x1), (6, vi x2), (16, vi (r2.length : Int)), (17, vi x1)] [] := by intro k2; induction k2 with | zero => intro x2 h; exact uE0 (ref1_CheckSchema_l2.eq_1 ..) h | succ k2 ih2 => intro x2 h; exact b2 h (uU (ref1_CheckSchema_l2.eq_2 ..) (uC (uDr 8 (uL eI fun e2 a28 => (uM eI a19 (uC (uR .ret (xN (xN (xN (xN xF))))) (uJ (ih2 (IntKind.i64.wrap (x2 + (1 : Int))))))))) (uR (.exit 2) (xM (uJ (hJ1 ()))))))
 uE (hL2 BIG (0 : Int)))))) (uR (.exit 0) (xM (uJ (hJ2 ()))))))
 uE (hL1 BIG (0 : Int))))))))

def ref1_characters_j2 (rec1 : Int → Option Bool) (x2 : Int) (x3 : Bool) : Option Bool :=
    ift x3
      (some false)
      (rec1 (IntKind.i64.wrap (x2 + (1 : Int))))

def ref1_characters_j3 : Option Bool :=
    some true

def ref1_characters_l1 (p1 : ByteArray) : Nat → Int → Option Bool
  | 0, _ => none
  | k1 + 1, x2 =>
    ift (decide (x2 < (p1.size : Int)))
      (grd (0 ≤ x2 ∧ x2 < (p1.size : Int)) <|
       bnd (some (decide (((p1.data.toList.getD x2.toNat 0).toNat : Int) < (32 : Int)))) fun y1 =>
       ift y1
         (ref1_characters_j2 (ref1_characters_l1 p1 k1) x2 true)
         (grd (0 ≤ x2 ∧ x2 < (p1.size : Int)) <|
          ref1_characters_j2 (ref1_characters_l1 p1 k1) x2 (((p1.data.toList.getD x2.toNat 0).toNat : Int) == (127 : Int))))
      (ref1_characters_j3)

def ref1_characters_j1 (p1 : ByteArray) (x1 : Bool) : Option Bool :=
    ift x1
      (some false)
      (ref1_characters_l1 p1 BIG (0 : Int))

def ref1_characters (p1 : ByteArray) : Option Bool :=
    bnd (utf8_ValidString p1) fun r1 =>
    ift (!r1)
      (ref1_characters_j1 p1 true)
      (ref1_characters_j1 p1 (decide ((256 : Int) < (p1.size : Int))))


theorem c_ref1_characters (p1 : ByteArray) : CT Tryz.prog 103 [vs p1] (ref1_characters p1) vb :=
  uFn 28 [] Tryz.f103 fun r => (uQ (kS Tryz.f103 [1,0,0] 2) fun K3 hK3 => have hJ1 : ∀ (x1 : Bool), ref1_characters_j1 p1 x1 = some r → K3.p [(0, vs p1), (11, vb x1)] [] := fun x1 h => hK3 h (uC (uR .ret xF) (uQ (kS Tryz.f103 [1,1,0] 1) fun K8 hK8 => have hJ3 : ∀ (_ : Unit), ref1_characters_j3 = some r → K8.p [] [] := fun _ h => hK8 h (uR .ret xF); (uO (cd Tryz.f103 [1,1,0,1,0,0]) (kS Tryz.f103 [1,1,0,1,0] 1) fun R1 b1 => have hL1 : ∀ (k1 : Nat) (x2 : Int), ref1_characters_l1 p1 k1 x2 = some r → (R1 k1).p [(0, vs p1), (3, vi x2)] [] := by intro k1; induction k1 with | zero => intro x2 h; exact uE0 (ref1_characters_l1.eq_1 ..) h | succ k1 ih1 => intro x2 h; exact b1 h (uU (ref1_characters_l1.eq_2 ..) (uC (uQ (kS Tryz.f103 [1,1,0,1,0,0,1,0,0,0] 3) fun K14 hK14 => have hJ2 : ∀ (x3 : Bool), ref1_characters_j2 (ref1_characters_l1 p1 k1) x2 x3 = some r → K14.p [(0, vs p1), (3, vi x2), (27, vb x3)] [] := fun x3 h => hK14 h (uC (uR .ret (xN (xN xF))) (uJ (ih1 (IntKind.i64.wrap (x2 + (1 : Int)))))); (uG (uY 21 vb fun y1 => (uC (uJ (hJ2 true)) (uG (uJ (hJ2 (((p1.data.toList.getD x2.toNat 0).toNat : Int) == (127 : Int))))))))) (uR (.exit 0) (xM (uJ (hJ3 ()))))))
 uE (hL1 BIG (0 : Int))))); (uP (c_utf8_ValidString _) fun r1 _ => (uC (uJ (hJ1 true)) (uJ (hJ1 (decide ((256 : Int) < (p1.size : Int))))))))

def ref1_alone_j2 (x2 : Bool) : Option Bool :=
    some x2

def ref1_alone_j3 (x3 : Bool) : Option Bool :=
    some x3

def ref1_alone_j4 (x4 : Bool) : Option Bool :=
    some x4

def ref1_alone_j5 (x5 : Bool) : Option Bool :=
    some x5

def ref1_alone_j6 (x6 : Bool) : Option Bool :=
    some x6

def ref1_alone_j7 (x7 : Bool) : Option Bool :=
    some x7

def ref1_alone_j8 (x8 : Bool) : Option Bool :=
    some x8

def ref1_alone_j9 (x9 : Bool) : Option Bool :=
    some x9

def ref1_alone_j1 (p1 : GValue) (x1 : Bool) : Option Bool :=
    ift (p1.kind == (0 : Int))
      (ift x1
         (ift (p1.n == (0 : Int))
            (ref1_alone_j2 (p1.scale == (0 : Int)))
            (ref1_alone_j2 false))
         (ref1_alone_j2 false))
      (ift (p1.kind == (1 : Int))
         (ift x1
            (bnd (ref1_within p1.n (0 : Int) (1 : Int)) fun r1 =>
             ift r1
               (ref1_alone_j3 (p1.scale == (0 : Int)))
               (ref1_alone_j3 false))
            (ref1_alone_j3 false))
         (ift (p1.kind == (2 : Int))
            (ift x1
               (bnd (ref1_within p1.n (-999999999999999999 : Int) (999999999999999999 : Int)) fun r2 =>
                ift r2
                  (ref1_alone_j4 (p1.scale == (0 : Int)))
                  (ref1_alone_j4 false))
               (ref1_alone_j4 false))
            (ift (p1.kind == (3 : Int))
               (ift x1
                  (bnd (ref1_within p1.n (-999999999999999999 : Int) (999999999999999999 : Int)) fun r3 =>
                   ift r3
                     (bnd (ref1_within p1.scale (0 : Int) (12 : Int)) fun r4 =>
                      ref1_alone_j5 r4)
                     (ref1_alone_j5 false))
                  (ref1_alone_j5 false))
               (ift (p1.kind == (4 : Int))
                  (ift ((p1.items.length : Int) == (0 : Int))
                     (ift (p1.n == (0 : Int))
                        (ift (p1.scale == (0 : Int))
                           (bnd (ref1_characters p1.s) fun r5 =>
                            ref1_alone_j6 r5)
                           (ref1_alone_j6 false))
                        (ref1_alone_j6 false))
                     (ref1_alone_j6 false))
                  (ift (p1.kind == (5 : Int))
                     (ift x1
                        (bnd (ref1_within p1.n (-62135596800 : Int) (253402300799 : Int)) fun r6 =>
                         ift r6
                           (ref1_alone_j7 (p1.scale == (0 : Int)))
                           (ref1_alone_j7 false))
                        (ref1_alone_j7 false))
                     (ift (p1.kind == (6 : Int))
                        (ift (p1.s.toList == (ByteArray.mk #[]).toList)
                           (ift (p1.n == (0 : Int))
                              (ift (p1.scale == (0 : Int))
                                 (ref1_alone_j8 (decide ((p1.items.length : Int) ≤ (64 : Int))))
                                 (ref1_alone_j8 false))
                              (ref1_alone_j8 false))
                           (ref1_alone_j8 false))
                        (ift (p1.kind == (7 : Int))
                           (ift (p1.s.toList == (ByteArray.mk #[]).toList)
                              (ift (p1.n == (0 : Int))
                                 (ift (p1.scale == (0 : Int))
                                    (ref1_alone_j9 (decide ((0 : Int) < (p1.items.length : Int))))
                                    (ref1_alone_j9 false))
                                 (ref1_alone_j9 false))
                              (ref1_alone_j9 false))
                           (some false))))))))

def ref1_alone (p1 : GValue) : Option Bool :=
    ift (p1.s.toList == (ByteArray.mk #[]).toList)
      (ref1_alone_j1 p1 ((p1.items.length : Int) == (0 : Int)))
      (ref1_alone_j1 p1 false)


theorem c_ref1_alone (p1 : GValue) : CT Tryz.prog 89 [.ag [ci p1.kind, ci p1.n, ci p1.scale, cst p1.s, cl eValue p1.items]] (ref1_alone p1) vb :=
  uFn 143 [] Tryz.f89 fun r => (uQ (kS Tryz.f89 [1,0] 1) fun K2 hK2 => have hJ1 : ∀ (x1 : Bool), ref1_alone_j1 p1 x1 = some r → K2.p [(1, .one (.pv (.rp [[pi p1.kind, pi p1.n, pi p1.scale, .s (.string p1.s), .ro (eValue.els p1.items)]] 0 0))), (3, vb x1)] [] := fun x1 h => hK2 h (uC (uQ (kS Tryz.f89 [1,1,0,1,0,1,0,0] 3) fun K8 hK8 => have hJ2 : ∀ (x2 : Bool), ref1_alone_j2 x2 = some r → K8.p [(2, vb x2)] [] := fun x2 h => hK8 h (uR .ret xF); (uC (uC (uJ (hJ2 (p1.scale == (0 : Int)))) (uJ (hJ2 false))) (uJ (hJ2 false)))) (uC (uQ (kS Tryz.f89 [1,1,0,1,0,1,1,1,0,0] 3) fun K13 hK13 => have hJ3 : ∀ (x3 : Bool), ref1_alone_j3 x3 = some r → K13.p [(2, vb x3)] [] := fun x3 h => hK13 h (uR .ret xF); (uC (uP (c_ref1_within _ _ _) fun r1 _ => (uC (uJ (hJ3 (p1.scale == (0 : Int)))) (uJ (hJ3 false)))) (uJ (hJ3 false)))) (uC (uQ (kS Tryz.f89 [1,1,0,1,0,1,1,1,1,1,0,0] 3) fun K19 hK19 => have hJ4 : ∀ (x4 : Bool), ref1_alone_j4 x4 = some r → K19.p [(2, vb x4)] [] := fun x4 h => hK19 h (uR .ret xF); (uC (uP (c_ref1_within _ _ _) fun r2 _ => (uC (uJ (hJ4 (p1.scale == (0 : Int)))) (uJ (hJ4 false)))) (uJ (hJ4 false)))) (uC (uQ (kS Tryz.f89 [1,1,0,1,0,1,1,1,1,1,1,1,0,0] 3) fun K25 hK25 => have hJ5 : ∀ (x5 : Bool), ref1_alone_j5 x5 = some r → K25.p [(2, vb x5)] [] := fun x5 h => hK25 h (uR .ret xF); (uC (uP (c_ref1_within _ _ _) fun r3 _ => (uC (uP (c_ref1_within _ _ _) fun r4 _ => (uJ (hJ5 r4))) (uJ (hJ5 false)))) (uJ (hJ5 false)))) (uC (uQ (kS Tryz.f89 [1,1,0,1,0,1,1,1,1,1,1,1,1,1,0,0] 3) fun K32 hK32 => have hJ6 : ∀ (x6 : Bool), ref1_alone_j6 x6 = some r → K32.p [(2, vb x6)] [] := fun x6 h => hK32 h (uR .ret xF); (uN eValue p1.items (uC (uC (uC (uP (c_ref1_characters _) fun r5 _ => (uJ (hJ6 r5))) (uJ (hJ6 false))) (uJ (hJ6 false))) (uJ (hJ6 false))))) (uC (uQ (kS Tryz.f89 [1,1,0,1,0,1,1,1,1,1,1,1,1,1,1,1,0,0] 3) fun K39 hK39 => have hJ7 : ∀ (x7 : Bool), ref1_alone_j7 x7 = some r → K39.p [(2, vb x7)] [] := fun x7 h => hK39 h (uR .ret xF); (uC (uP (c_ref1_within _ _ _) fun r6 _ => (uC (uJ (hJ7 (p1.scale == (0 : Int)))) (uJ (hJ7 false)))) (uJ (hJ7 false)))) (uC (uQ (kS Tryz.f89 [1,1,0,1,0,1,1,1,1,1,1,1,1,1,1,1,1,1,0,0] 3) fun K45 hK45 => have hJ8 : ∀ (x8 : Bool), ref1_alone_j8 x8 = some r → K45.p [(2, vb x8)] [] := fun x8 h => hK45 h (uR .ret xF); (uC (uC (uC (uN eValue p1.items (uJ (hJ8 (decide ((p1.items.length : Int) ≤ (64 : Int)))))) (uJ (hJ8 false))) (uJ (hJ8 false))) (uJ (hJ8 false)))) (uC (uQ (kS Tryz.f89 [1,1,0,1,0,1,1,1,1,1,1,1,1,1,1,1,1,1,1,1,0,0] 3) fun K51 hK51 => have hJ9 : ∀ (x9 : Bool), ref1_alone_j9 x9 = some r → K51.p [(2, vb x9)] [] := fun x9 h => hK51 h (uR .ret xF); (uC (uC (uC (uN eValue p1.items (uJ (hJ9 (decide ((0 : Int) < (p1.items.length : Int)))))) (uJ (hJ9 false))) (uJ (hJ9 false))) (uJ (hJ9 false)))) (uR .ret xF))))))))); (uC (uN eValue p1.items (uJ (hJ1 ((p1.items.length : Int) == (0 : Int))))) (uJ (hJ1 false))))

def ref1_sound_j3 (z3 : Int) : Option (Bool × Int) :=
    some (true, z3)

def ref1_sound_l1 (q_ref1_sound : GValue → Int → Int → Option (Bool × Int)) (p1 : GValue) (p2 : Int) : Nat → Int → Int → Option (Bool × Int)
  | 0, _, _ => none
  | k1 + 1, z2, x2 =>
    ift (decide (x2 < (p1.items.length : Int)))
      (bnd (at? p1.items x2) fun e1 =>
       bnd (q_ref1_sound e1 (IntKind.i64.wrap (p2 + (1 : Int))) z2) fun r2 =>
       ift (!r2.1)
         (some (false, r2.2))
         ((ref1_sound_l1 q_ref1_sound p1 p2 k1) r2.2 (IntKind.i64.wrap (x2 + (1 : Int)))))
      (ref1_sound_j3 z2)

def ref1_sound_j2 (q_ref1_sound : GValue → Int → Int → Option (Bool × Int)) (p1 : GValue) (p2 : Int) (z1 : Int) (x1 : Bool) : Option (Bool × Int) :=
    ift x1
      (some (false, z1))
      (ref1_sound_l1 q_ref1_sound p1 p2 BIG z1 (0 : Int))

def ref1_sound_j1 (q_ref1_sound : GValue → Int → Int → Option (Bool × Int)) (p1 : GValue) (p2 : Int) (z1 : Int) : Option (Bool × Int) :=
    ift (decide ((4 : Int) < p2))
      (ref1_sound_j2 q_ref1_sound p1 p2 z1 true)
      (ift (decide ((256 : Int) < z1))
         (ref1_sound_j2 q_ref1_sound p1 p2 z1 true)
         (bnd (ref1_alone p1) fun r1 =>
          ref1_sound_j2 q_ref1_sound p1 p2 z1 (!r1)))

def ref1_sound : Nat → GValue → Int → Int → Option (Bool × Int)
  | 0, _, _, _ => none
  | k0 + 1, p1, p2, p3 =>
    ift (p1.kind != (0 : Int))
      (ref1_sound_j1 (ref1_sound k0) p1 p2 (IntKind.i64.wrap (p3 + (1 : Int))))
      (ref1_sound_j1 (ref1_sound k0) p1 p2 p3)

abbrev qa760 (p1 : GValue) : List PV := [pi p1.kind, pi p1.n, pi p1.scale, .s (.string p1.s), .ro (eValue.els p1.items)]

theorem c_ref1_sound : ∀ (k0 : Nat) (p1 : GValue) (p2 : Int) (p3 : Int), CM Tryz.prog 74 [.ag [ci p1.kind, ci p1.n, ci p1.scale, cst p1.s, cl eValue p1.items], vi p2, .one (.pt 0 0 0 0)] [.box [ci p3]] (ref1_sound k0 p1 p2 p3) (fun r => vb r.1) (fun r => [.box [ci r.2]])
  | 0, _, _, _ => uM0 (ref1_sound.eq_1 ..)
  | k0 + 1, p1, p2, p3 => uFnM 1 46 [] Tryz.f74 fun r => (uU (ref1_sound.eq_2 ..) (uQ (kS Tryz.f74 [1,0] 1) fun K2 hK2 => have hJ1 : ∀ (z1 : Int), ref1_sound_j1 (ref1_sound k0) p1 p2 z1 = some r → K2.p [(1, vi p2), (2, .one (.pt 0 0 0 0)), (3, .one (.pv (.rp [(qa760 p1)] 0 0)))] [.box [ci z1]] := fun z1 h => hK2 h (uQ (kS Tryz.f74 [1,1,0,0] 2) fun K6 hK6 => have hJ2 : ∀ (x1 : Bool), ref1_sound_j2 (ref1_sound k0) p1 p2 z1 x1 = some r → K6.p [(1, vi p2), (2, .one (.pt 0 0 0 0)), (3, .one (.pv (.rp [(qa760 p1)] 0 0))), (28, vb x1)] [.box [ci z1]] := fun x1 h => hK6 h (uC (uR .ret xFM) (uQ (kS Tryz.f74 [1,1,1,0] 1) fun K12 hK12 => have hJ3 : ∀ (z3 : Int), ref1_sound_j3 z3 = some r → K12.p [] [.box [ci z3]] := fun z3 h => hK12 h (uR .ret xFM); (uN eValue p1.items (uO (cd Tryz.f74 [1,1,1,0,1,0,0]) (kS Tryz.f74 [1,1,1,0,1,0] 1) fun R1 b1 => have hL1 : ∀ (k1 : Nat) (z2 : Int) (x2 : Int), ref1_sound_l1 (ref1_sound k0) p1 p2 k1 z2 x2 = some r → (R1 k1).p [(1, vi p2), (2, .one (.pt 0 0 0 0)), (3, .one (.pv (.rp [(qa760 p1)] 0 0))), (31, vi (p1.items.length : Int)), (32, vi x2)] [.box [ci z2]] := by intro k1; induction k1 with | zero => intro z2 x2 h; exact uE0 (ref1_sound_l1.eq_1 ..) h | succ k1 ih1 => intro z2 x2 h; exact b1 h (uU (ref1_sound_l1.eq_2 ..) (uC (uL eValue fun e1 a20 => (uMc true [0] (c_ref1_sound k0 _ _ _) fun r2 _ => (uC (uR .ret (xN (xN xFM))) (uJ (ih1 r2.2 (IntKind.i64.wrap (x2 + (1 : Int)))))))) (uR (.exit 0) (xM (uJ (hJ3 z2))))))
 uE (hL1 BIG z1 (0 : Int)))))); (uC (uJ (hJ2 true)) (uC (uJ (hJ2 true)) (uP (c_ref1_alone _) fun r1 _ => (uJ (hJ2 (!r1))))))); (uC (uJ (hJ1 (IntKind.i64.wrap (p3 + (1 : Int))))) (uJ (hJ1 p3)))))

def ref1_Sound (p1 : GValue) : Option Bool :=
    bnd (ref1_sound BIG p1 (1 : Int) (0 : Int)) fun r1 =>
    some r1.1


theorem c_ref1_Sound (p1 : GValue) : CT Tryz.prog 58 [.ag [ci p1.kind, ci p1.n, ci p1.scale, cst p1.s, cl eValue p1.items]] (ref1_Sound p1) vb :=
  uFn 6 [3] Tryz.f58 fun r => (uMc true [0] (c_ref1_sound BIG _ _ _) fun r1 _ => (uR .ret xF))

def ref1_of_j3 (rec1 : Int → Option Bool) (q_ref1_of : GType → GValue → Option Bool) (p1 : GType) (p2 : GValue) (x3 : Int) (x4 : Int) : Option Bool :=
    bnd (at? p1.fields x4) fun e1 =>
    bnd (at? p2.items x3) fun e2 =>
    bnd (q_ref1_of e1.type e2) fun r1 =>
    ift (!r1)
      (some false)
      (rec1 (IntKind.i64.wrap (x3 + (1 : Int))))

def ref1_of_j4 : Option Bool :=
    some true

def ref1_of_l1 (q_ref1_of : GType → GValue → Option Bool) (p1 : GType) (p2 : GValue) : Nat → Int → Option Bool
  | 0, _ => none
  | k1 + 1, x3 =>
    ift (decide (x3 < (p2.items.length : Int)))
      (ift (p1.kind == (6 : Int))
         (ref1_of_j3 (ref1_of_l1 q_ref1_of p1 p2 k1) q_ref1_of p1 p2 x3 (0 : Int))
         (ref1_of_j3 (ref1_of_l1 q_ref1_of p1 p2 k1) q_ref1_of p1 p2 x3 x3))
      (ref1_of_j4)

def ref1_of_j2 (q_ref1_of : GType → GValue → Option Bool) (p1 : GType) (p2 : GValue) (x2 : Bool) : Option Bool :=
    ift x2
      (some false)
      (ref1_of_l1 q_ref1_of p1 p2 BIG (0 : Int))

def ref1_of_j1 (q_ref1_of : GType → GValue → Option Bool) (p1 : GType) (p2 : GValue) (x1 : Bool) : Option Bool :=
    ift x1
      (some false)
      (ift (p1.kind == (7 : Int))
         (ref1_of_j2 q_ref1_of p1 p2 ((p2.items.length : Int) != (p1.fields.length : Int)))
         (ref1_of_j2 q_ref1_of p1 p2 false))

def ref1_of : Nat → GType → GValue → Option Bool
  | 0, _, _ => none
  | k0 + 1, p1, p2 =>
    ift (p2.kind == (0 : Int))
      (some true)
      (ift (p2.kind != p1.kind)
         (ref1_of_j1 (ref1_of k0) p1 p2 true)
         (ref1_of_j1 (ref1_of k0) p1 p2 (p2.scale != p1.scale)))

abbrev qa775 (p1 : GType) : List PV := [pi p1.kind, pi p1.scale, .ro (eField.els p1.fields)]
abbrev qa776 (p2 : GValue) : List PV := [pi p2.kind, pi p2.n, pi p2.scale, .s (.string p2.s), .ro (eValue.els p2.items)]

theorem c_ref1_of : ∀ (k0 : Nat) (p1 : GType) (p2 : GValue), CT Tryz.prog 59 [.ag [ci p1.kind, ci p1.scale, cl eField p1.fields], .ag [ci p2.kind, ci p2.n, ci p2.scale, cst p2.s, cl eValue p2.items]] (ref1_of k0 p1 p2) vb
  | 0, _, _ => uF0 (ref1_of.eq_1 ..)
  | k0 + 1, p1, p2 => uFn 58 [] Tryz.f59 fun r => (uU (ref1_of.eq_2 ..) (uC (uR .ret xF) (uQ (kS Tryz.f59 [1,1,0,0] 2) fun K7 hK7 => have hJ1 : ∀ (x1 : Bool), ref1_of_j1 (ref1_of k0) p1 p2 x1 = some r → K7.p [(2, .one (.pv (.rp [(qa775 p1)] 0 0))), (3, .one (.pv (.rp [(qa776 p2)] 0 0))), (21, vb x1)] [] := fun x1 h => hK7 h (uC (uR .ret xF) (uQ (kS Tryz.f59 [1,1,1,0,0] 2) fun K12 hK12 => have hJ2 : ∀ (x2 : Bool), ref1_of_j2 (ref1_of k0) p1 p2 x2 = some r → K12.p [(2, .one (.pv (.rp [(qa775 p1)] 0 0))), (3, .one (.pv (.rp [(qa776 p2)] 0 0))), (33, vb x2)] [] := fun x2 h => hK12 h (uC (uR .ret xF) (uQ (kS Tryz.f59 [1,1,1,1,0] 1) fun K16 hK16 => have hJ4 : ∀ (_ : Unit), ref1_of_j4 = some r → K16.p [] [] := fun _ h => hK16 h (uR .ret xF); (uN eValue p2.items (uO (cd Tryz.f59 [1,1,1,1,0,1,0,0]) (kS Tryz.f59 [1,1,1,1,0,1,0] 1) fun R1 b1 => have hL1 : ∀ (k1 : Nat) (x3 : Int), ref1_of_l1 (ref1_of k0) p1 p2 k1 x3 = some r → (R1 k1).p [(2, .one (.pv (.rp [(qa775 p1)] 0 0))), (3, .one (.pv (.rp [(qa776 p2)] 0 0))), (36, vi (p2.items.length : Int)), (37, vi x3)] [] := by intro k1; induction k1 with | zero => intro x3 h; exact uE0 (ref1_of_l1.eq_1 ..) h | succ k1 ih1 => intro x3 h; exact b1 h (uU (ref1_of_l1.eq_2 ..) (uC (uQ (kS Tryz.f59 [1,1,1,1,0,1,0,0,1,1,0,0,1,1,0] 3) fun K24 hK24 => have hJ3 : ∀ (x4 : Int), ref1_of_j3 (ref1_of_l1 (ref1_of k0) p1 p2 k1) (ref1_of k0) p1 p2 x3 x4 = some r → K24.p [(2, .one (.pv (.rp [(qa775 p1)] 0 0))), (3, .one (.pv (.rp [(qa776 p2)] 0 0))), (5, vi x3), (6, vi x4), (36, vi (p2.items.length : Int)), (37, vi x3)] [] := fun x4 h => hK24 h (uDr 11 (uL eField fun e1 a28 => (uL eValue fun e2 a29 => (uP (c_ref1_of k0 _ _) fun r1 _ => (uC (uR .ret (xN (xN xF))) (uJ (ih1 (IntKind.i64.wrap (x3 + (1 : Int)))))))))); (uC (uJ (hJ3 (0 : Int))) (uJ (hJ3 x3)))) (uR (.exit 0) (xM (uJ (hJ4 ()))))))
 uE (hL1 BIG (0 : Int)))))); (uC (uN eValue p2.items (uN eField p1.fields (uJ (hJ2 ((p2.items.length : Int) != (p1.fields.length : Int)))))) (uJ (hJ2 false))))); (uC (uJ (hJ1 true)) (uJ (hJ1 (p2.scale != p1.scale)))))))

def ref1_missing_j2 (rec1 : Int → Option Bool) (x1 : Int) (x3 : Bool) : Option Bool :=
    ift x3
      (some true)
      (rec1 (IntKind.i64.wrap (x1 + (1 : Int))))

def ref1_missing_j1 (rec1 : Int → Option Bool) (q_ref1_missing : GType → GValue → Option Bool) (p1 : GType) (p2 : GValue) (x1 : Int) (x2 : Int) : Option Bool :=
    bnd (at? p1.fields x2) fun e1 =>
    ift e1.need
      (bnd (at? p2.items x1) fun e2 =>
       ift (e2.kind == (0 : Int))
         (ref1_missing_j2 rec1 x1 true)
         (bnd (q_ref1_missing e1.type e2) fun r1 =>
          ref1_missing_j2 rec1 x1 r1))
      (bnd (at? p2.items x1) fun e3 =>
       bnd (q_ref1_missing e1.type e3) fun r2 =>
       ref1_missing_j2 rec1 x1 r2)

def ref1_missing_j3 : Option Bool :=
    some false

def ref1_missing_l1 (q_ref1_missing : GType → GValue → Option Bool) (p1 : GType) (p2 : GValue) : Nat → Int → Option Bool
  | 0, _ => none
  | k1 + 1, x1 =>
    ift (decide (x1 < (p2.items.length : Int)))
      (ift (p1.kind == (6 : Int))
         (ref1_missing_j1 (ref1_missing_l1 q_ref1_missing p1 p2 k1) q_ref1_missing p1 p2 x1 (0 : Int))
         (ref1_missing_j1 (ref1_missing_l1 q_ref1_missing p1 p2 k1) q_ref1_missing p1 p2 x1 x1))
      (ref1_missing_j3)

def ref1_missing : Nat → GType → GValue → Option Bool
  | 0, _, _ => none
  | k0 + 1, p1, p2 =>
    ref1_missing_l1 (ref1_missing k0) p1 p2 BIG (0 : Int)

abbrev qa783 (p1 : GType) : List PV := [pi p1.kind, pi p1.scale, .ro (eField.els p1.fields)]
abbrev qa784 (p2 : GValue) : List PV := [pi p2.kind, pi p2.n, pi p2.scale, .s (.string p2.s), .ro (eValue.els p2.items)]

theorem c_ref1_missing : ∀ (k0 : Nat) (p1 : GType) (p2 : GValue), CT Tryz.prog 60 [.ag [ci p1.kind, ci p1.scale, cl eField p1.fields], .ag [ci p2.kind, ci p2.n, ci p2.scale, cst p2.s, cl eValue p2.items]] (ref1_missing k0 p1 p2) vb
  | 0, _, _ => uF0 (ref1_missing.eq_1 ..)
  | k0 + 1, p1, p2 => uFn 45 [7] Tryz.f60 fun r => (uU (ref1_missing.eq_2 ..) (uQ (kS Tryz.f60 [1,0] 1) fun K2 hK2 => have hJ3 : ∀ (_ : Unit), ref1_missing_j3 = some r → K2.p [] [] := fun _ h => hK2 h (uR .ret xF); (uN eValue p2.items (uO (cd Tryz.f60 [1,0,1,0,0]) (kS Tryz.f60 [1,0,1,0] 1) fun R1 b1 => have hL1 : ∀ (k1 : Nat) (x1 : Int), ref1_missing_l1 (ref1_missing k0) p1 p2 k1 x1 = some r → (R1 k1).p [(2, .one (.pv (.rp [(qa783 p1)] 0 0))), (3, .one (.pv (.rp [(qa784 p2)] 0 0))), (10, vi (p2.items.length : Int)), (11, vi x1)] [] := by intro k1; induction k1 with | zero => intro x1 h; exact uE0 (ref1_missing_l1.eq_1 ..) h | succ k1 ih1 => intro x1 h; exact b1 h (uU (ref1_missing_l1.eq_2 ..) (uC (uQ (kS Tryz.f60 [1,0,1,0,0,1,1,0,0,1,1,0] 3) fun K10 hK10 => have hJ1 : ∀ (x2 : Int), ref1_missing_j1 (ref1_missing_l1 (ref1_missing k0) p1 p2 k1) (ref1_missing k0) p1 p2 x1 x2 = some r → K10.p [(2, .one (.pv (.rp [(qa783 p1)] 0 0))), (3, .one (.pv (.rp [(qa784 p2)] 0 0))), (5, vi x1), (6, vi x2), (10, vi (p2.items.length : Int)), (11, vi x1)] [] := fun x2 h => hK10 h (uL eField fun e1 a14 => (uQ (kS Tryz.f60 [1,0,1,0,0,1,1,0,0,1,1,1,1,0] 3) fun K15 hK15 => have hJ2 : ∀ (x3 : Bool), ref1_missing_j2 (ref1_missing_l1 (ref1_missing k0) p1 p2 k1) x1 x3 = some r → K15.p [(2, .one (.pv (.rp [(qa783 p1)] 0 0))), (3, .one (.pv (.rp [(qa784 p2)] 0 0))), (10, vi (p2.items.length : Int)), (11, vi x1), (43, vb x3)] [.dead] := fun x3 h => hK15 h (uC (uR .ret (xN (xN xF))) (uJ (ih1 (IntKind.i64.wrap (x1 + (1 : Int)))))); (uDr 19 (uC (uL eValue fun e2 a17 => (uC (uJ (hJ2 true)) (uM eValue a17 (uP (c_ref1_missing k0 _ _) fun r1 _ => (uJ (hJ2 r1)))))) (uL eValue fun e3 a20 => (uP (c_ref1_missing k0 _ _) fun r2 _ => (uJ (hJ2 r2)))))))); (uC (uJ (hJ1 (0 : Int))) (uJ (hJ1 x1)))) (uR (.exit 0) (xM (uJ (hJ3 ()))))))
 uE (hL1 BIG (0 : Int))))))

def ref1_Check (p1 : GType) (p2 : GValue) : Option Int :=
    bnd (ref1_CheckType p1) fun r1 =>
    ift (r1 != (0 : Int))
      (some r1)
      (bnd (ref1_Sound p2) fun r2 =>
       ift (!r2)
         (some (1 : Int))
         (bnd (ref1_of BIG p1 p2) fun r3 =>
          ift (!r3)
            (some (2 : Int))
            (bnd (ref1_missing BIG p1 p2) fun r4 =>
             ift r4
               (some (9 : Int))
               (some (0 : Int)))))


theorem c_ref1_Check (p1 : GType) (p2 : GValue) : CT Tryz.prog 43 [.ag [ci p1.kind, ci p1.scale, cl eField p1.fields], .ag [ci p2.kind, ci p2.n, ci p2.scale, cst p2.s, cl eValue p2.items]] (ref1_Check p1 p2) vi :=
  uFn 21 [] Tryz.f43 fun r => (uP (c_ref1_CheckType _) fun r1 _ => (uC (uR .ret xF) (uP (c_ref1_Sound _) fun r2 _ => (uC (uR .ret xF) (uP (c_ref1_of BIG _ _) fun r3 _ => (uC (uR .ret xF) (uP (c_ref1_missing BIG _ _) fun r4 _ => (uC (uR .ret xF) (uR .ret xF)))))))))

def ref2_CheckRow_j1 (rec1 : Int → Option Int) (x1 : Int) (x2 : Bool) : Option Int :=
    ift x2
      (some (9 : Int))
      (rec1 (IntKind.i64.wrap (x1 + (1 : Int))))

def ref2_CheckRow_j2 : Option Int :=
    some (0 : Int)

def ref2_CheckRow_l1 (p1 : (List GField)) (p2 : (List GValue)) : Nat → Int → Option Int
  | 0, _ => none
  | k1 + 1, x1 =>
    ift (decide (x1 < (p1.length : Int)))
      (bnd (at? p1 x1) fun e1 =>
       bnd (at? p2 x1) fun e2 =>
       bnd (ref1_Check e1.type e2) fun r1 =>
       ift (r1 != (0 : Int))
         (some r1)
         (ift e1.need
            (ref2_CheckRow_j1 (ref2_CheckRow_l1 p1 p2 k1) x1 (e2.kind == (0 : Int)))
            (ref2_CheckRow_j1 (ref2_CheckRow_l1 p1 p2 k1) x1 false)))
      (ref2_CheckRow_j2)

def ref2_CheckRow (p1 : (List GField)) (p2 : (List GValue)) : Option Int :=
    ift ((p2.length : Int) != (p1.length : Int))
      (some (1 : Int))
      (ref2_CheckRow_l1 p1 p2 BIG (0 : Int))


theorem c_ref2_CheckRow (p1 : (List GField)) (p2 : (List GValue)) : CT Tryz.prog 30 [vl eField p1, vl eValue p2] (ref2_CheckRow p1 p2) vi :=
  uFn 44 [] Tryz.f30 fun r => (uN eValue p2 (uN eField p1 (uC (uR .ret xF) (uQ (kS Tryz.f30 [1,1,0] 1) fun K6 hK6 => have hJ2 : ∀ (_ : Unit), ref2_CheckRow_j2 = some r → K6.p [] [] := fun _ h => hK6 h (uR .ret xF); (uN eField p1 (uO (cd Tryz.f30 [1,1,0,1,0,0]) (kS Tryz.f30 [1,1,0,1,0] 1) fun R1 b1 => have hL1 : ∀ (k1 : Nat) (x1 : Int), ref2_CheckRow_l1 p1 p2 k1 x1 = some r → (R1 k1).p [(0, vl eField p1), (1, vl eValue p2), (13, vi (p1.length : Int)), (14, vi x1)] [] := by intro k1; induction k1 with | zero => intro x1 h; exact uE0 (ref2_CheckRow_l1.eq_1 ..) h | succ k1 ih1 => intro x1 h; exact b1 h (uU (ref2_CheckRow_l1.eq_2 ..) (uC (uDr 9 (uL eField fun e1 a15 => (uL eValue fun e2 a16 => (uP (c_ref1_Check _ _) fun r1 _ => (uC (uR .ret (xN (xN xF))) (uQ (kS Tryz.f30 [1,1,0,1,0,0,1,1,0,0,1,1,0] 3) fun K21 hK21 => have hJ1 : ∀ (x2 : Bool), ref2_CheckRow_j1 (ref2_CheckRow_l1 p1 p2 k1) x1 x2 = some r → K21.p [(0, vl eField p1), (1, vl eValue p2), (13, vi (p1.length : Int)), (14, vi x1), (42, vb x2)] [] := fun x2 h => hK21 h (uC (uR .ret (xN (xN xF))) (uJ (ih1 (IntKind.i64.wrap (x1 + (1 : Int)))))); (uM eField a15 (uC (uM eValue a16 (uJ (hJ1 (e2.kind == (0 : Int))))) (uJ (hJ1 false)))))))))) (uR (.exit 0) (xM (uJ (hJ2 ()))))))
 uE (hL1 BIG (0 : Int))))))))

def ref2_CheckRows_j1 : Option Int :=
    some (0 : Int)

def ref2_CheckRows_l1 (p1 : (List GField)) (p2 : (List (List GValue))) : Nat → Int → Option Int
  | 0, _ => none
  | k1 + 1, x1 =>
    ift (decide (x1 < (p2.length : Int)))
      (bnd (at? p2 x1) fun e1 =>
       bnd (ref2_CheckRow p1 e1) fun r2 =>
       ift (r2 != (0 : Int))
         (some r2)
         ((ref2_CheckRows_l1 p1 p2 k1) (IntKind.i64.wrap (x1 + (1 : Int)))))
      (ref2_CheckRows_j1)

def ref2_CheckRows (p1 : (List GField)) (p2 : (List (List GValue))) : Option Int :=
    bnd (ref1_CheckSchema p1) fun r1 =>
    ift (r1 != (0 : Int))
      (some r1)
      (ift (decide ((2000 : Int) < (p2.length : Int)))
         (some (7 : Int))
         (ref2_CheckRows_l1 p1 p2 BIG (0 : Int)))


theorem c_ref2_CheckRows (p1 : (List GField)) (p2 : (List (List GValue))) : CT Tryz.prog 14 [vl eField p1, vl (eL eValue) p2] (ref2_CheckRows p1 p2) vi :=
  uFn 30 [] Tryz.f14 fun r => (uP (c_ref1_CheckSchema _) fun r1 _ => (uC (uR .ret xF) (uN (eL eValue) p2 (uC (uR .ret xF) (uQ (kS Tryz.f14 [1,1,1,0] 1) fun K12 hK12 => have hJ1 : ∀ (_ : Unit), ref2_CheckRows_j1 = some r → K12.p [] [] := fun _ h => hK12 h (uR .ret xF); (uN (eL eValue) p2 (uO (cd Tryz.f14 [1,1,1,0,1,0,0]) (kS Tryz.f14 [1,1,1,0,1,0] 1) fun R1 b1 => have hL1 : ∀ (k1 : Nat) (x1 : Int), ref2_CheckRows_l1 p1 p2 k1 x1 = some r → (R1 k1).p [(0, vl eField p1), (17, vl (eL eValue) p2), (18, vi (p2.length : Int)), (19, vi x1)] [] := by intro k1; induction k1 with | zero => intro x1 h; exact uE0 (ref2_CheckRows_l1.eq_1 ..) h | succ k1 ih1 => intro x1 h; exact b1 h (uU (ref2_CheckRows_l1.eq_2 ..) (uC (uL (eL eValue) fun e1 a19 => (uP (c_ref2_CheckRow _ _) fun r2 _ => (uC (uR .ret (xN (xN xF))) (uJ (ih1 (IntKind.i64.wrap (x1 + (1 : Int)))))))) (uR (.exit 0) (xM (uJ (hJ1 ()))))))
 uE (hL1 BIG (0 : Int)))))))))

def ref2_find_j1 : Option Int :=
    some (-1 : Int)

def ref2_find_l1 (p1 : (List GField)) (p2 : Int) : Nat → Int → Option Int
  | 0, _ => none
  | k1 + 1, x1 =>
    ift (decide (x1 < (p1.length : Int)))
      (bnd (at? p1 x1) fun e1 =>
       ift (e1.id == p2)
         (some x1)
         ((ref2_find_l1 p1 p2 k1) (IntKind.i64.wrap (x1 + (1 : Int)))))
      (ref2_find_j1)

def ref2_find (p1 : (List GField)) (p2 : Int) : Option Int :=
    ref2_find_l1 p1 p2 BIG (0 : Int)


theorem c_ref2_find (p1 : (List GField)) (p2 : Int) : CT Tryz.prog 32 [vl eField p1, vi p2] (ref2_find p1 p2) vi :=
  uFn 20 [] Tryz.f32 fun r => (uQ (kS Tryz.f32 [1,0] 1) fun K2 hK2 => have hJ1 : ∀ (_ : Unit), ref2_find_j1 = some r → K2.p [] [] := fun _ h => hK2 h (uR .ret xF); (uN eField p1 (uO (cd Tryz.f32 [1,0,1,0,0]) (kS Tryz.f32 [1,0,1,0] 1) fun R1 b1 => have hL1 : ∀ (k1 : Nat) (x1 : Int), ref2_find_l1 p1 p2 k1 x1 = some r → (R1 k1).p [(0, vl eField p1), (1, vi p2), (7, vi (p1.length : Int)), (8, vi x1)] [] := by intro k1; induction k1 with | zero => intro x1 h; exact uE0 (ref2_find_l1.eq_1 ..) h | succ k1 ih1 => intro x1 h; exact b1 h (uU (ref2_find_l1.eq_2 ..) (uC (uL eField fun e1 a10 => (uC (uR .ret (xN (xN xF))) (uJ (ih1 (IntKind.i64.wrap (x1 + (1 : Int))))))) (uR (.exit 0) (xM (uJ (hJ1 ()))))))
 uE (hL1 BIG (0 : Int)))))

def ref2_Widens_j4 (x4 : Bool) : Option Bool :=
    some x4

def ref2_Widens_j3 (p1 : GType) (p2 : GType) (x3 : Bool) : Option Bool :=
    ift (p1.kind == (1 : Int))
      (ift (p2.kind == (2 : Int))
         (ref2_Widens_j4 true)
         (ift x3
            (ref2_Widens_j4 true)
            (ref2_Widens_j4 false)))
      (ift x3
         (ref2_Widens_j4 (p1.kind == (2 : Int)))
         (ref2_Widens_j4 false))

def ref2_Widens_j2 (p1 : GType) (p2 : GType) (x2 : Bool) : Option Bool :=
    ift x2
      (some true)
      (ift (p2.kind == (3 : Int))
         (ref2_Widens_j3 p1 p2 (p2.scale == (0 : Int)))
         (ref2_Widens_j3 p1 p2 false))

def ref2_Widens_j1 (p1 : GType) (p2 : GType) (x1 : Bool) : Option Bool :=
    ift x1
      (some false)
      (ift (p1.kind == p2.kind)
         (ref2_Widens_j2 p1 p2 (p1.scale == p2.scale))
         (ref2_Widens_j2 p1 p2 false))

def ref2_Widens (p1 : GType) (p2 : GType) : Option Bool :=
    bnd (ref1_CheckType p1) fun r1 =>
    ift (r1 != (0 : Int))
      (ref2_Widens_j1 p1 p2 true)
      (bnd (ref1_CheckType p2) fun r2 =>
       ift (r2 != (0 : Int))
         (ref2_Widens_j1 p1 p2 true)
         (bnd (ref1_Leaf p1.kind) fun r3 =>
          ift (!r3)
            (ref2_Widens_j1 p1 p2 true)
            (bnd (ref1_Leaf p2.kind) fun r4 =>
             ref2_Widens_j1 p1 p2 (!r4))))

abbrev qa797 (p1 : GType) : List PV := [pi p1.kind, pi p1.scale, .ro (eField.els p1.fields)]
abbrev qa798 (p2 : GType) : List PV := [pi p2.kind, pi p2.scale, .ro (eField.els p2.fields)]

theorem c_ref2_Widens (p1 : GType) (p2 : GType) : CT Tryz.prog 8 [.ag [ci p1.kind, ci p1.scale, cl eField p1.fields], .ag [ci p2.kind, ci p2.scale, cl eField p2.fields]] (ref2_Widens p1 p2) vb :=
  uFn 67 [] Tryz.f8 fun r => (uQ (kS Tryz.f8 [1,0,0] 2) fun K3 hK3 => have hJ1 : ∀ (x1 : Bool), ref2_Widens_j1 p1 p2 x1 = some r → K3.p [(2, .one (.pv (.rp [(qa797 p1)] 0 0))), (3, .one (.pv (.rp [(qa798 p2)] 0 0))), (25, vb x1)] [] := fun x1 h => hK3 h (uC (uR .ret xF) (uQ (kS Tryz.f8 [1,1,0,0] 2) fun K14 hK14 => have hJ2 : ∀ (x2 : Bool), ref2_Widens_j2 p1 p2 x2 = some r → K14.p [(2, .one (.pv (.rp [(qa797 p1)] 0 0))), (3, .one (.pv (.rp [(qa798 p2)] 0 0))), (37, vb x2)] [] := fun x2 h => hK14 h (uC (uR .ret xF) (uQ (kS Tryz.f8 [1,1,1,0] 1) fun K18 hK18 => have hJ3 : ∀ (x3 : Bool), ref2_Widens_j3 p1 p2 x3 = some r → K18.p [(2, .one (.pv (.rp [(qa797 p1)] 0 0))), (3, .one (.pv (.rp [(qa798 p2)] 0 0))), (5, vb x3)] [] := fun x3 h => hK18 h (uQ (kS Tryz.f8 [1,1,1,1,0] 1) fun K20 hK20 => have hJ4 : ∀ (x4 : Bool), ref2_Widens_j4 x4 = some r → K20.p [(4, vb x4)] [] := fun x4 h => hK20 h (uR .ret xF); (uC' (fun b21 => (uC (uJ (hJ4 true)) (uC (uH b21 (uJ (hJ4 true))) (uJ (hJ4 false))))) (fun b21 => (uC (uH b21 (uJ (hJ4 (p1.kind == (2 : Int))))) (uJ (hJ4 false)))))); (uC (uJ (hJ3 (p2.scale == (0 : Int)))) (uJ (hJ3 false))))); (uC (uJ (hJ2 (p1.scale == p2.scale))) (uJ (hJ2 false))))); (uP (c_ref1_CheckType _) fun r1 _ => (uC (uJ (hJ1 true)) (uP (c_ref1_CheckType _) fun r2 _ => (uC (uJ (hJ1 true)) (uP (c_ref1_Leaf _) fun r3 _ => (uC (uJ (hJ1 true)) (uP (c_ref1_Leaf _) fun r4 _ => (uJ (hJ1 (!r4)))))))))))

def ref2_adaptable_j3 (rec1 : Int → Option Int) (x1 : Int) : Option Int :=
    rec1 (IntKind.i64.wrap (x1 + (1 : Int)))

def ref2_adaptable_j2 (rec1 : Int → Option Int) (q_ref2_adaptable : (List GField) → (List GField) → Option Int) (x1 : Int) (e1 : GField) (e2 : GField) (x3 : Bool) : Option Int :=
    ift x3
      (some (2 : Int))
      (bnd (q_ref2_adaptable e2.type.fields e1.type.fields) fun r7 =>
       ift (r7 != (0 : Int))
         (some r7)
         (ref2_adaptable_j3 rec1 x1))

def ref2_adaptable_j1 (rec1 : Int → Option Int) (q_ref2_adaptable : (List GField) → (List GField) → Option Int) (x1 : Int) (e1 : GField) (e2 : GField) (x2 : Bool) : Option Int :=
    ift x2
      (some (9 : Int))
      (bnd (ref1_Leaf e2.type.kind) fun r2 =>
       ift (!r2)
         (ift (e2.type.kind != e1.type.kind)
            (ref2_adaptable_j2 rec1 q_ref2_adaptable x1 e1 e2 true)
            (bnd (ref1_Leaf e2.type.kind) fun r3 =>
             ift r3
               (bnd (ref2_Widens e2.type e1.type) fun r4 =>
                ref2_adaptable_j2 rec1 q_ref2_adaptable x1 e1 e2 (!r4))
               (ref2_adaptable_j2 rec1 q_ref2_adaptable x1 e1 e2 false)))
         (bnd (ref1_Leaf e2.type.kind) fun r5 =>
          ift r5
            (bnd (ref2_Widens e2.type e1.type) fun r6 =>
             ref2_adaptable_j2 rec1 q_ref2_adaptable x1 e1 e2 (!r6))
            (ref2_adaptable_j2 rec1 q_ref2_adaptable x1 e1 e2 false)))

def ref2_adaptable_j4 : Option Int :=
    some (0 : Int)

def ref2_adaptable_l1 (q_ref2_adaptable : (List GField) → (List GField) → Option Int) (p1 : (List GField)) (p2 : (List GField)) : Nat → Int → Option Int
  | 0, _ => none
  | k1 + 1, x1 =>
    ift (decide (x1 < (p2.length : Int)))
      (bnd (at? p2 x1) fun e1 =>
       bnd (ref2_find p1 e1.id) fun r1 =>
       ift (decide (r1 < (0 : Int)))
         (ift e1.need
            (some (9 : Int))
            (ref2_adaptable_j3 (ref2_adaptable_l1 q_ref2_adaptable p1 p2 k1) x1))
         (bnd (at? p1 r1) fun e2 =>
          ift e1.need
            (ref2_adaptable_j1 (ref2_adaptable_l1 q_ref2_adaptable p1 p2 k1) q_ref2_adaptable x1 e1 e2 (!e2.need))
            (ref2_adaptable_j1 (ref2_adaptable_l1 q_ref2_adaptable p1 p2 k1) q_ref2_adaptable x1 e1 e2 false)))
      (ref2_adaptable_j4)

def ref2_adaptable : Nat → (List GField) → (List GField) → Option Int
  | 0, _, _ => none
  | k0 + 1, p1, p2 =>
    ref2_adaptable_l1 (ref2_adaptable k0) p1 p2 BIG (0 : Int)

abbrev qa805 (e1 : GField) : List CV := [ci e1.id, cst e1.name, cb e1.need, ci e1.type.kind, ci e1.type.scale, cl eField e1.type.fields]
abbrev qa806 (e2 : GField) : List CV := [ci e2.id, cst e2.name, cb e2.need, ci e2.type.kind, ci e2.type.scale, cl eField e2.type.fields]

theorem c_ref2_adaptable : ∀ (k0 : Nat) (p1 : (List GField)) (p2 : (List GField)), CT Tryz.prog 16 [vl eField p1, vl eField p2] (ref2_adaptable k0 p1 p2) vi
  | 0, _, _ => uF0 (ref2_adaptable.eq_1 ..)
  | k0 + 1, p1, p2 => uFn 74 [6, 8] Tryz.f16 fun r => (uU (ref2_adaptable.eq_2 ..) (uQ (kS Tryz.f16 [1,0] 1) fun K2 hK2 => have hJ4 : ∀ (_ : Unit), ref2_adaptable_j4 = some r → K2.p [] [] := fun _ h => hK2 h (uR .ret xF); (uN eField p2 (uO (cd Tryz.f16 [1,0,1,0,0]) (kS Tryz.f16 [1,0,1,0] 1) fun R1 b1 => have hL1 : ∀ (k1 : Nat) (x1 : Int), ref2_adaptable_l1 (ref2_adaptable k0) p1 p2 k1 x1 = some r → (R1 k1).p [(0, vl eField p1), (10, vl eField p2), (11, vi (p2.length : Int)), (12, vi x1)] [] := by intro k1; induction k1 with | zero => intro x1 h; exact uE0 (ref2_adaptable_l1.eq_1 ..) h | succ k1 ih1 => intro x1 h; exact b1 h (uU (ref2_adaptable_l1.eq_2 ..) (uC (uQ (kS Tryz.f16 [1,0,1,0,0,1,1,0] 1) fun K7 hK7 => have hJ3 : ∀ (_ : Unit), ref2_adaptable_j3 (ref2_adaptable_l1 (ref2_adaptable k0) p1 p2 k1) x1 = some r → K7.p [(0, vl eField p1), (10, vl eField p2), (11, vi (p2.length : Int)), (12, vi x1)] [] := fun _ h => hK7 h (uJ (ih1 (IntKind.i64.wrap (x1 + (1 : Int))))); (uL eField fun e1 a9 => (uP (c_ref2_find _ _) fun r1 _ => (uC (uC (uR .ret (xN (xN (xN xF)))) (uJ (hJ3 ()))) (uL eField fun e2 a20 => (uQ (kS Tryz.f16 [1,0,1,0,0,1,1,0,0,1,1,1,1,0,0] 3) fun K22 hK22 => have hJ1 : ∀ (x2 : Bool), ref2_adaptable_j1 (ref2_adaptable_l1 (ref2_adaptable k0) p1 p2 k1) (ref2_adaptable k0) x1 e1 e2 x2 = some r → K22.p [(0, vl eField p1), (6, .one (.pt 0 0 0 0)), (8, .one (.pt 1 0 0 0)), (10, vl eField p2), (11, vi (p2.length : Int)), (12, vi x1), (34, vb x2)] [.box (qa805 e1), .box (qa806 e2)] := fun x2 h => hK22 h (uC (uR .ret (xN (xN (xN xF)))) (uQ (kS Tryz.f16 [1,0,1,0,0,1,1,0,0,1,1,1,1,1,0,0] 3) fun K27 hK27 => have hJ2 : ∀ (x3 : Bool), ref2_adaptable_j2 (ref2_adaptable_l1 (ref2_adaptable k0) p1 p2 k1) (ref2_adaptable k0) x1 e1 e2 x3 = some r → K27.p [(0, vl eField p1), (6, .one (.pt 0 0 0 0)), (8, .one (.pt 1 0 0 0)), (10, vl eField p2), (11, vi (p2.length : Int)), (12, vi x1), (62, vb x3)] [.box (qa805 e1), .box (qa806 e2)] := fun x3 h => hK27 h (uC (uR .ret (xN (xN (xN xF)))) (uP (c_ref2_adaptable k0 _ _) fun r7 _ => (uC (uR .ret (xN (xN (xN xF)))) (uJ (hJ3 ()))))); (uP (c_ref1_Leaf _) fun r2 _ => (uC (uC (uJ (hJ2 true)) (uP (c_ref1_Leaf _) fun r3 _ => (uC (uP (c_ref2_Widens _ _) fun r4 _ => (uJ (hJ2 (!r4)))) (uJ (hJ2 false))))) (uP (c_ref1_Leaf _) fun r5 _ => (uC (uP (c_ref2_Widens _ _) fun r6 _ => (uJ (hJ2 (!r6)))) (uJ (hJ2 false)))))))); (uC (uJ (hJ1 (!e2.need))) (uJ (hJ1 false))))))))) (uR (.exit 0) (xM (uJ (hJ4 ()))))))
 uE (hL1 BIG (0 : Int))))))

def ref2_Widen_j1 (p1 : GValue) (z1 : Int) : Option GValue :=
    some (GValue.mk z1 p1.n p1.scale p1.s p1.items)

def ref2_Widen (p1 : GValue) (p2 : GType) : Option GValue :=
    ift (p1.kind != (0 : Int))
      (ref2_Widen_j1 p1 p2.kind)
      (ref2_Widen_j1 p1 p1.kind)


theorem c_ref2_Widen (p1 : GValue) (p2 : GType) : CT Tryz.prog 44 [.ag [ci p1.kind, ci p1.n, ci p1.scale, cst p1.s, cl eValue p1.items], .ag [ci p2.kind, ci p2.scale, cl eField p2.fields]] (ref2_Widen p1 p2) (fun r => .ag [ci r.kind, ci r.n, ci r.scale, cst r.s, cl eValue r.items]) :=
  uFn 12 [2, 4] Tryz.f44 fun r => (uQ (kS Tryz.f44 [1,0] 1) fun K2 hK2 => have hJ1 : ∀ (z1 : Int), ref2_Widen_j1 p1 z1 = some r → K2.p [(2, .one (.pt 0 0 0 0)), (4, .one (.pt 1 0 0 0))] [.box [ci z1, ci p1.n, ci p1.scale, cst p1.s, cl eValue p1.items], .box [ci (0 : Int), ci (0 : Int), ci (0 : Int), cst ByteArray.empty, .pv (.s (.slice none 0 0))]] := fun z1 h => hK2 h (uR .ret xF); (uC (uJ (hJ1 p2.kind)) (uJ (hJ1 p1.kind))))

def ref2_adapted_j1 (p2 : GType) (l2 : List GValue) : Option GValue :=
    some (GValue.mk p2.kind (0 : Int) (0 : Int) ByteArray.empty l2)

def ref2_adapted_l1 (q_ref2_adaptedRow : (List GField) → (List GField) → (List GValue) → Option (List GValue)) (p1 : GType) (p2 : GType) (p3 : GValue) : Nat → List GValue → Int → Option GValue
  | 0, _, _ => none
  | k1 + 1, l1, x1 =>
    ift (decide (x1 < (p3.items.length : Int)))
      (grd (0 ≤ x1 ∧ x1 ≤ (IntKind.i64.wrap (x1 + (1 : Int))) ∧ (IntKind.i64.wrap (x1 + (1 : Int))) ≤ (p3.items.length : Int)) <|
       bnd (q_ref2_adaptedRow p1.fields p2.fields ((p3.items.drop x1.toNat).take ((IntKind.i64.wrap (x1 + (1 : Int))).toNat - x1.toNat))) fun r4 =>
       grd (l1.length + r4.length ≤ 4294967296) <|
       (ref2_adapted_l1 q_ref2_adaptedRow p1 p2 p3 k1) (l1 ++ r4) (IntKind.i64.wrap (x1 + (1 : Int))))
      (ref2_adapted_j1 p2 l1)

def ref2_adaptedRow_j1 (rec1 : List GValue → Int → Option (List GValue)) (x1 : Int) (l2 : List GValue) : Option (List GValue) :=
    rec1 l2 (IntKind.i64.wrap (x1 + (1 : Int)))

def ref2_adaptedRow_j2 (l3 : List GValue) : Option (List GValue) :=
    some l3

def ref2_adaptedRow_l1 (q_ref2_adapted : GType → GType → GValue → Option GValue) (p1 : (List GField)) (p2 : (List GField)) (p3 : (List GValue)) : Nat → List GValue → Int → Option (List GValue)
  | 0, _, _ => none
  | k1 + 1, l1, x1 =>
    ift (decide (x1 < (p2.length : Int)))
      (bnd (at? p2 x1) fun e1 =>
       bnd (ref2_find p1 e1.id) fun r1 =>
       ift (decide (r1 < (0 : Int)))
         (grd (l1.length + 1 ≤ 4294967296) <|
          ref2_adaptedRow_j1 (ref2_adaptedRow_l1 q_ref2_adapted p1 p2 p3 k1) x1 (l1 ++ [(GValue.mk (0 : Int) (0 : Int) (0 : Int) ByteArray.empty [])]))
         (bnd (at? p1 r1) fun e2 =>
          bnd (at? p3 r1) fun e3 =>
          bnd (q_ref2_adapted e2.type e1.type e3) fun r2 =>
          grd (l1.length + 1 ≤ 4294967296) <|
          ref2_adaptedRow_j1 (ref2_adaptedRow_l1 q_ref2_adapted p1 p2 p3 k1) x1 (l1 ++ [r2])))
      (ref2_adaptedRow_j2 l1)

mutual

def ref2_adapted : Nat → GType → GType → GValue → Option GValue
  | 0, _, _, _ => none
  | k0 + 1, p1, p2, p3 =>
    ift (p3.kind == (0 : Int))
      (some p3)
      (bnd (ref1_Leaf p2.kind) fun r1 =>
       ift r1
         (bnd (ref2_Widen p3 p2) fun r2 =>
          some r2)
         (ift (p2.kind == (7 : Int))
            (bnd ((ref2_adaptedRow k0) p1.fields p2.fields p3.items) fun r3 =>
             some (GValue.mk p2.kind (0 : Int) (0 : Int) ByteArray.empty r3))
            (ref2_adapted_l1 (ref2_adaptedRow k0) p1 p2 p3 BIG [] (0 : Int))))

def ref2_adaptedRow : Nat → (List GField) → (List GField) → (List GValue) → Option (List GValue)
  | 0, _, _, _ => none
  | k0 + 1, p1, p2, p3 =>
    ref2_adaptedRow_l1 (ref2_adapted k0) p1 p2 p3 BIG [] (0 : Int)

end

abbrev qa821 : List CV := [ci (0 : Int), ci (0 : Int), ci (0 : Int), cst ByteArray.empty, .pv (.s (.slice none 0 0))]

mutual

theorem c_ref2_adapted : ∀ (k0 : Nat) (p1 : GType) (p2 : GType) (p3 : GValue), CT Tryz.prog 33 [.ag [ci p1.kind, ci p1.scale, cl eField p1.fields], .ag [ci p2.kind, ci p2.scale, cl eField p2.fields], .ag [ci p3.kind, ci p3.n, ci p3.scale, cst p3.s, cl eValue p3.items]] (ref2_adapted k0 p1 p2 p3) (fun r => .ag [ci r.kind, ci r.n, ci r.scale, cst r.s, cl eValue r.items])
  | 0, _, _, _ => uF0 (ref2_adapted.eq_1 ..)
  | k0 + 1, p1, p2, p3 => uFn 57 [6, 7] Tryz.f33 fun r => (uU (ref2_adapted.eq_2 ..) (uC (uR .ret xF) (uP (c_ref1_Leaf _) fun r1 _ => (uC (uP (c_ref2_Widen _ _) fun r2 _ => (uR .ret xF)) (uC (uP (c_ref2_adaptedRow k0 _ _ _) fun r3 _ => (uR .ret xF)) (uQ (kS Tryz.f33 [1,1,1,1,1,0] 1) fun K19 hK19 => have hJ1 : ∀ (l2 : List GValue), ref2_adapted_j1 p2 l2 = some r → K19.p [(6, .one (.pt 0 0 0 0)), (7, .one (.pt 1 0 0 0))] [.box qa821, .box [ci p2.kind, ci (0 : Int), ci (0 : Int), cst ByteArray.empty, .sl 2 5 0 l2.length], .arr 5 (eValue.els l2)] := fun l2 h => hK19 h (uKl eValue l2 2 [] (uR .ret xF)); (uN eValue p3.items (uCv (.lb 1 4 5) (uO (cd Tryz.f33 [1,1,1,1,1,0,1,0,0]) (kS Tryz.f33 [1,1,1,1,1,0,1,0] 1) fun R1 b1 => have hL1 : ∀ (k1 : Nat) (l1 : List GValue) (x1 : Int), ref2_adapted_l1 (ref2_adaptedRow k0) p1 p2 p3 k1 l1 x1 = some r → (R1 k1).p [(3, .one (.pv (.rp [[pi p1.kind, pi p1.scale, .ro (eField.els p1.fields)]] 0 0))), (4, .one (.pv (.rp [[pi p2.kind, pi p2.scale, .ro (eField.els p2.fields)]] 0 0))), (5, .one (.pv (.rp [[pi p3.kind, pi p3.n, pi p3.scale, .s (.string p3.s), .ro (eValue.els p3.items)]] 0 0))), (6, .one (.pt 0 0 0 0)), (7, .one (.pt 1 0 0 0)), (36, vi (p3.items.length : Int)), (37, vi x1)] [.box qa821, .box [ci p2.kind, ci (0 : Int), ci (0 : Int), cst ByteArray.empty, .sl 2 5 0 l1.length], .arr 5 (eValue.els l1)] := by intro k1; induction k1 with | zero => intro l1 x1 h; exact uE0 (ref2_adapted_l1.eq_1 ..) h | succ k1 ih1 => intro l1 x1 h; exact b1 h (uU (ref2_adapted_l1.eq_2 ..) (uC (uDr 13 (uX eValue (uP (c_ref2_adaptedRow k0 _ _ _) fun r4 _ => (uCv (.stl 1 4) (uAp eValue 2 r4 (uJ (ih1 (l1 ++ r4) (IntKind.i64.wrap (x1 + (1 : Int)))))))))) (uR (.exit 0) (xM (uJ (hJ1 l1))))))
 uE (hL1 BIG [] (0 : Int)))))))))))

theorem c_ref2_adaptedRow : ∀ (k0 : Nat) (p1 : (List GField)) (p2 : (List GField)) (p3 : (List GValue)), CT Tryz.prog 17 [vl eField p1, vl eField p2, vl eValue p3] (ref2_adaptedRow k0 p1 p2 p3) (vl eValue)
  | 0, _, _, _ => uF0 (ref2_adaptedRow.eq_1 ..)
  | k0 + 1, p1, p2, p3 => uFn 44 [9] Tryz.f17 fun r => (uU (ref2_adaptedRow.eq_2 ..) (uQ (kS Tryz.f17 [1,1,0] 1) fun K3 hK3 => have hJ2 : ∀ (l3 : List GValue), ref2_adaptedRow_j2 l3 = some r → K3.p [(7, .one (.sl 0 5 0 l3.length))] [.arr 5 (eValue.els l3)] := fun l3 h => hK3 h (uKl eValue l3 0 [6] (uR .ret xF)); (uN eField p2 (uCv (.li 7 5) (uO (cd Tryz.f17 [1,1,0,1,0,0]) (kS Tryz.f17 [1,1,0,1,0] 1) fun R1 b1 => have hL1 : ∀ (k1 : Nat) (l1 : List GValue) (x1 : Int), ref2_adaptedRow_l1 (ref2_adapted k0) p1 p2 p3 k1 l1 x1 = some r → (R1 k1).p [(0, vl eField p1), (2, vl eValue p3), (7, .one (.sl 0 5 0 l1.length)), (11, vl eField p2), (12, vi (p2.length : Int)), (13, vi x1)] [.arr 5 (eValue.els l1)] := by intro k1; induction k1 with | zero => intro l1 x1 h; exact uE0 (ref2_adaptedRow_l1.eq_1 ..) h | succ k1 ih1 => intro l1 x1 h; exact b1 h (uU (ref2_adaptedRow_l1.eq_2 ..) (uC (uQ (kS Tryz.f17 [1,1,0,1,0,0,1,1,0] 1) fun K8 hK8 => have hJ1 : ∀ (l2 : List GValue), ref2_adaptedRow_j1 (ref2_adaptedRow_l1 (ref2_adapted k0) p1 p2 p3 k1) x1 l2 = some r → K8.p [(0, vl eField p1), (2, vl eValue p3), (7, .one (.sl 0 5 0 l2.length)), (11, vl eField p2), (12, vi (p2.length : Int)), (13, vi x1)] [.arr 5 (eValue.els l2)] := fun l2 h => hK8 h (uJ (ih1 l2 (IntKind.i64.wrap (x1 + (1 : Int))))); (uL eField fun e1 a10 => (uP (c_ref2_find _ _) fun r1 _ => (uC (uAp eValue 0 ([(GValue.mk (0 : Int) (0 : Int) (0 : Int) ByteArray.empty [])]) (uJ (hJ1 (l1 ++ [(GValue.mk (0 : Int) (0 : Int) (0 : Int) ByteArray.empty [])])))) (uDr 14 (uL eField fun e2 a16 => (uL eValue fun e3 a17 => (uP (c_ref2_adapted k0 _ _ _) fun r2 _ => (uW 40 eValue [r2] (uAp eValue 0 [r2] (uJ (hJ1 (l1 ++ [r2]))))))))))))) (uR (.exit 0) (xM (uJ (hJ2 l1))))))
 uE (hL1 BIG [] (0 : Int)))))))

end

def ref2_Adapt_j1 (l2 : List (List GValue)) : Option ((List (List GValue)) × Int) :=
    some (l2, (0 : Int))

def ref2_Adapt_l1 (p1 : (List GField)) (p2 : (List GField)) (p3 : (List (List GValue))) : Nat → List (List GValue) → Int → Option ((List (List GValue)) × Int)
  | 0, _, _ => none
  | k1 + 1, l1, x1 =>
    ift (decide (x1 < (p3.length : Int)))
      (bnd (at? p3 x1) fun e1 =>
       bnd (ref2_adaptedRow BIG p1 p2 e1) fun r4 =>
       grd (l1.length + 1 ≤ 4294967296) <|
       (ref2_Adapt_l1 p1 p2 p3 k1) (l1 ++ [r4]) (IntKind.i64.wrap (x1 + (1 : Int))))
      (ref2_Adapt_j1 l1)

def ref2_Adapt (p1 : (List GField)) (p2 : (List GField)) (p3 : (List (List GValue))) : Option ((List (List GValue)) × Int) :=
    bnd (ref2_CheckRows p1 p3) fun r1 =>
    ift (r1 != (0 : Int))
      (some ([], r1))
      (bnd (ref1_CheckSchema p2) fun r2 =>
       ift (r2 != (0 : Int))
         (some ([], r2))
         (bnd (ref2_adaptable BIG p1 p2) fun r3 =>
          ift (r3 != (0 : Int))
            (some ([], r3))
            (ref2_Adapt_l1 p1 p2 p3 BIG [] (0 : Int))))


theorem c_ref2_Adapt (p1 : (List GField)) (p2 : (List GField)) (p3 : (List (List GValue))) : CT Tryz.prog 5 [vl eField p1, vl eField p2, vl (eL eValue) p3] (ref2_Adapt p1 p2 p3) (fun r => .tp [vl (eL eValue) r.1, vi r.2]) :=
  uFn 46 [] Tryz.f5 fun r => (uP (c_ref2_CheckRows _ _) fun r1 _ => (uC (uR .ret xF) (uP (c_ref1_CheckSchema _) fun r2 _ => (uC (uR .ret xF) (uP (c_ref2_adaptable BIG _ _) fun r3 _ => (uC (uR .ret xF) (uQ (kS Tryz.f5 [1,1,1,1,1,0] 1) fun K21 hK21 => have hJ1 : ∀ (l2 : List (List GValue)), ref2_Adapt_j1 l2 = some r → K21.p [(11, .one (.sl 0 1 0 l2.length))] [.arr 1 ((eL eValue).els l2)] := fun l2 h => hK21 h (uKl (eL eValue) l2 0 [6] (uR .ret xF)); (uN (eL eValue) p3 (uCv (.li 11 1) (uO (cd Tryz.f5 [1,1,1,1,1,0,1,0,0]) (kS Tryz.f5 [1,1,1,1,1,0,1,0] 1) fun R1 b1 => have hL1 : ∀ (k1 : Nat) (l1 : List (List GValue)) (x1 : Int), ref2_Adapt_l1 p1 p2 p3 k1 l1 x1 = some r → (R1 k1).p [(0, vl eField p1), (1, vl eField p2), (11, .one (.sl 0 1 0 l1.length)), (31, vl (eL eValue) p3), (32, vi (p3.length : Int)), (33, vi x1)] [.arr 1 ((eL eValue).els l1)] := by intro k1; induction k1 with | zero => intro l1 x1 h; exact uE0 (ref2_Adapt_l1.eq_1 ..) h | succ k1 ih1 => intro l1 x1 h; exact b1 h (uU (ref2_Adapt_l1.eq_2 ..) (uC (uL (eL eValue) fun e1 a28 => (uP (c_ref2_adaptedRow BIG _ _ _) fun r4 _ => (uAp (eL eValue) 0 [r4] (uJ (ih1 (l1 ++ [r4]) (IntKind.i64.wrap (x1 + (1 : Int)))))))) (uR (.exit 0) (xM (uJ (hJ1 l1))))))
 uE (hL1 BIG [] (0 : Int))))))))))))

def ref1_order (p1 : Int) (p2 : Int) : Option Int :=
    ift (decide (p1 < p2))
      (some (-1 : Int))
      (ift (decide (p2 < p1))
         (some (1 : Int))
         (some (0 : Int)))


theorem c_ref1_order (p1 : Int) (p2 : Int) : CT Tryz.prog 45 [vi p1, vi p2] (ref1_order p1 p2) vi :=
  uFn 11 [] Tryz.f45 fun r => (uC (uR .ret xF) (uC (uR .ret xF) (uR .ret xF)))

def ref1_wideOf_j1 (rec1 : List Int → Int → Option RWide) (l1 : List Int) (x1 : Int) (x2 : Int) : Option RWide :=
    grd (l1.length + 1 ≤ 4294967296) <|
    rec1 (l1 ++ [x2]) (IntKind.i64.wrap (x1.tdiv (10 : Int)))

def ref1_wideOf_j2 (p1 : Int) (l2 : List Int) : Option RWide :=
    some (RWide.mk (decide (p1 < (0 : Int))) l2)

def ref1_wideOf_l1 (p1 : Int) : Nat → List Int → Int → Option RWide
  | 0, _, _ => none
  | k1 + 1, l1, x1 =>
    ift (x1 != (0 : Int))
      (ift (decide ((x1.tmod (10 : Int)) < (0 : Int)))
         (ref1_wideOf_j1 (ref1_wideOf_l1 p1 k1) l1 x1 (IntKind.i64.wrap (0 - (x1.tmod (10 : Int)))))
         (ref1_wideOf_j1 (ref1_wideOf_l1 p1 k1) l1 x1 (x1.tmod (10 : Int))))
      (ref1_wideOf_j2 p1 l1)

def ref1_wideOf (p1 : Int) : Option RWide :=
    ref1_wideOf_l1 p1 BIG [] p1

abbrev qa842 : List CV := [cb false, .pv (.s (.slice none 0 0))]

theorem c_ref1_wideOf (p1 : Int) : CT Tryz.prog 77 [vi p1] (ref1_wideOf p1) (fun r => .ag [cb r.below, cl eI r.d]) :=
  uFn 25 [2] Tryz.f77 fun r => (uQ (kS Tryz.f77 [1,1,0] 1) fun K3 hK3 => have hJ2 : ∀ (l2 : List Int), ref1_wideOf_j2 p1 l2 = some r → K3.p [(0, vi p1), (2, .one (.pt 0 0 0 0)), (3, .one (.sl 1 1 0 l2.length))] [.box qa842, .arr 1 (eI.els l2)] := fun l2 h => hK3 h (uKl eI l2 1 [] (uR .ret xF)); (uCv (.li 3 1) (uO (cd Tryz.f77 [1,1,0,1,0,0]) (kS Tryz.f77 [1,1,0,1,0] 1) fun R1 b1 => have hL1 : ∀ (k1 : Nat) (l1 : List Int) (x1 : Int), ref1_wideOf_l1 p1 k1 l1 x1 = some r → (R1 k1).p [(0, vi p1), (2, .one (.pt 0 0 0 0)), (3, .one (.sl 1 1 0 l1.length)), (4, vi x1)] [.box qa842, .arr 1 (eI.els l1)] := by intro k1; induction k1 with | zero => intro l1 x1 h; exact uE0 (ref1_wideOf_l1.eq_1 ..) h | succ k1 ih1 => intro l1 x1 h; exact b1 h (uU (ref1_wideOf_l1.eq_2 ..) (uC (uQ (kS Tryz.f77 [1,1,0,1,0,0,1,0,0,1,0] 3) fun K10 hK10 => have hJ1 : ∀ (x2 : Int), ref1_wideOf_j1 (ref1_wideOf_l1 p1 k1) l1 x1 x2 = some r → K10.p [(0, vi p1), (2, .one (.pt 0 0 0 0)), (3, .one (.sl 1 1 0 l1.length)), (4, vi x1), (5, vi x2)] [.box qa842, .arr 1 (eI.els l1)] := fun x2 h => hK10 h (uAp eI 1 [x2] (uJ (ih1 (l1 ++ [x2]) (IntKind.i64.wrap (x1.tdiv (10 : Int)))))); (uC (uJ (hJ1 (IntKind.i64.wrap (0 - (x1.tmod (10 : Int)))))) (uJ (hJ1 (x1.tmod (10 : Int)))))) (uR (.exit 0) (xM (uJ (hJ2 l1))))))
 uE (hL1 BIG [] p1))))

def ref1_tens (p1 : RWide) (p2 : Int) : Option RWide :=
    ift ((p1.d.length : Int) == (0 : Int))
      (some p1)
      (grd (0 ≤ p2 ∧ p2 ≤ p2 ∧ p2 ≤ 4294967296) <|
       grd ((List.replicate p2.toNat (0 : Int)).length + p1.d.length ≤ 4294967296) <|
       some (RWide.mk p1.below ((List.replicate p2.toNat (0 : Int)) ++ p1.d)))


theorem c_ref1_tens (p1 : RWide) (p2 : Int) : CT Tryz.prog 76 [.ag [cb p1.below, cl eI p1.d], vi p2] (ref1_tens p1 p2) (fun r => .ag [cb r.below, cl eI r.d]) :=
  uFn 18 [4] Tryz.f76 fun r => (uN eI p1.d (uC (uR .ret xF) (uGr 7 1 [1,2] (uMk eI (0 : Int) (uAp (L := p2.toNat) (hL := by simp) eI 1 p1.d (uKl eI ((List.replicate p2.toNat (0 : Int)) ++ p1.d) 1 [] (uR .ret xF)))))))

def ref1_twelve (p1 : GValue) : Option RWide :=
    bnd (ref1_wideOf p1.n) fun r1 =>
    bnd (ref1_tens r1 (IntKind.i64.wrap ((12 : Int) - p1.scale))) fun r2 =>
    some r2


theorem c_ref1_twelve (p1 : GValue) : CT Tryz.prog 63 [.ag [ci p1.kind, ci p1.n, ci p1.scale, cst p1.s, cl eValue p1.items]] (ref1_twelve p1) (fun r => .ag [cb r.below, cl eI r.d]) :=
  uFn 10 [2] Tryz.f63 fun r => (uDr 6 (uP (c_ref1_wideOf _) fun r1 _ => (uP (c_ref1_tens _ _) fun r2 _ => (uR .ret xF))))

def ref1_most_j1 : Option Int :=
    some (0 : Int)

def ref1_most_l1 (p1 : (List Int)) (p2 : (List Int)) : Nat → Int → Option Int
  | 0, _ => none
  | k1 + 1, x1 =>
    ift (decide ((0 : Int) ≤ x1))
      (bnd (at? p1 x1) fun e1 =>
       bnd (at? p2 x1) fun e2 =>
       ift (e1 != e2)
         (some (IntKind.i64.wrap (e1 - e2)))
         ((ref1_most_l1 p1 p2 k1) (IntKind.i64.wrap (x1 - (1 : Int)))))
      (ref1_most_j1)

def ref1_most (p1 : (List Int)) (p2 : (List Int)) : Option Int :=
    ift ((p1.length : Int) != (p2.length : Int))
      (some (IntKind.i64.wrap ((p1.length : Int) - (p2.length : Int))))
      (ref1_most_l1 p1 p2 BIG (IntKind.i64.wrap ((p1.length : Int) - (1 : Int))))


theorem c_ref1_most (p1 : (List Int)) (p2 : (List Int)) : CT Tryz.prog 75 [vl eI p1, vl eI p2] (ref1_most p1 p2) vi :=
  uFn 41 [] Tryz.f75 fun r => (uN eI p1 (uN eI p2 (uC (uN eI p1 (uN eI p2 (uR .ret xF))) (uQ (kS Tryz.f75 [1,1,0] 1) fun K6 hK6 => have hJ1 : ∀ (_ : Unit), ref1_most_j1 = some r → K6.p [] [] := fun _ h => hK6 h (uR .ret xF); (uN eI p1 (uO (cd Tryz.f75 [1,1,0,1,0,0]) (kS Tryz.f75 [1,1,0,1,0] 1) fun R1 b1 => have hL1 : ∀ (k1 : Nat) (x1 : Int), ref1_most_l1 p1 p2 k1 x1 = some r → (R1 k1).p [(0, vl eI p1), (1, vl eI p2), (5, vi x1)] [] := by intro k1; induction k1 with | zero => intro x1 h; exact uE0 (ref1_most_l1.eq_1 ..) h | succ k1 ih1 => intro x1 h; exact b1 h (uU (ref1_most_l1.eq_2 ..) (uC (uDr 8 (uL eI fun e1 a13 => (uL eI fun e2 a14 => (uC (uDr 8 (uM eI a13 (uM eI a14 (uR .ret (xN (xN xF)))))) (uJ (ih1 (IntKind.i64.wrap (x1 - (1 : Int))))))))) (uR (.exit 0) (xM (uJ (hJ1 ()))))))
 uE (hL1 BIG (IntKind.i64.wrap ((p1.length : Int) - (1 : Int))))))))))

def ref1_compareWide_j1 (x1 : Int) : Option Int :=
    ift (decide (x1 < (0 : Int)))
      (some (-1 : Int))
      (ift (decide ((0 : Int) < x1))
         (some (1 : Int))
         (some (0 : Int)))

def ref1_compareWide (p1 : RWide) (p2 : RWide) : Option Int :=
    ift (!(p1.below == p2.below))
      (ift p1.below
         (some (-1 : Int))
         (some (1 : Int)))
      (bnd (ref1_most p1.d p2.d) fun r1 =>
       ift p1.below
         (ref1_compareWide_j1 (IntKind.i64.wrap (0 - r1)))
         (ref1_compareWide_j1 r1))


theorem c_ref1_compareWide (p1 : RWide) (p2 : RWide) : CT Tryz.prog 62 [.ag [cb p1.below, cl eI p1.d], .ag [cb p2.below, cl eI p2.d]] (ref1_compareWide p1 p2) vi :=
  uFn 26 [] Tryz.f62 fun r => (uC (uC (uR .ret xF) (uR .ret xF)) (uP (c_ref1_most _ _) fun r1 _ => (uQ (kS Tryz.f62 [1,1,1,0] 1) fun K12 hK12 => have hJ1 : ∀ (x1 : Int), ref1_compareWide_j1 x1 = some r → K12.p [(5, vi x1)] [] := fun x1 h => hK12 h (uC (uR .ret xF) (uC (uR .ret xF) (uR .ret xF))); (uC (uJ (hJ1 (IntKind.i64.wrap (0 - r1)))) (uJ (hJ1 r1))))))

def ref1_decimals (p1 : GValue) (p2 : GValue) : Option Int :=
    bnd (ref1_within p1.scale (0 : Int) (12 : Int)) fun r1 =>
    bnd (ref1_within p2.scale (0 : Int) (12 : Int)) fun r2 =>
    ift (!(r1 == r2))
      (ift r1
         (some (-1 : Int))
         (some (1 : Int)))
      (ift r1
         (bnd (ref1_twelve p1) fun r3 =>
          bnd (ref1_twelve p2) fun r4 =>
          bnd (ref1_compareWide r3 r4) fun r5 =>
          ift (r5 != (0 : Int))
            (some r5)
            (bnd (ref1_order p1.scale p2.scale) fun r6 =>
             some r6))
         (ift (p1.n != p2.n)
            (bnd (ref1_order p1.n p2.n) fun r7 =>
             some r7)
            (bnd (ref1_order p1.scale p2.scale) fun r8 =>
             some r8)))


theorem c_ref1_decimals (p1 : GValue) (p2 : GValue) : CT Tryz.prog 46 [.ag [ci p1.kind, ci p1.n, ci p1.scale, cst p1.s, cl eValue p1.items], .ag [ci p2.kind, ci p2.n, ci p2.scale, cst p2.s, cl eValue p2.items]] (ref1_decimals p1 p2) vi :=
  uFn 47 [] Tryz.f46 fun r => (uDr 5 (uP (c_ref1_within _ _ _) fun r1 _ => (uP (c_ref1_within _ _ _) fun r2 _ => (uC (uC (uR .ret xF) (uR .ret xF)) (uC (uDr 3 (uP (c_ref1_twelve _) fun r3 _ => (uP (c_ref1_twelve _) fun r4 _ => (uP (c_ref1_compareWide _ _) fun r5 _ => (uC (uR .ret xF) (uP (c_ref1_order _ _) fun r6 _ => (uR .ret xF))))))) (uC (uP (c_ref1_order _ _) fun r7 _ => (uR .ret xF)) (uP (c_ref1_order _ _) fun r8 _ => (uR .ret xF))))))))

def ref1_texts_j2 (p1 : ByteArray) (p2 : ByteArray) : Option Int :=
    bnd (ref1_order (p1.size : Int) (p2.size : Int)) fun r2 =>
    some r2

def ref1_texts_j1 (rec1 : Int → Option Int) (p1 : ByteArray) (p2 : ByteArray) (x1 : Int) (x2 : Bool) : Option Int :=
    ift x2
      (grd (0 ≤ x1 ∧ x1 < (p1.size : Int)) <|
       grd (0 ≤ x1 ∧ x1 < (p2.size : Int)) <|
       bnd (some (((p1.data.toList.getD x1.toNat 0).toNat : Int) != ((p2.data.toList.getD x1.toNat 0).toNat : Int))) fun y1 =>
       ift y1
         (grd (0 ≤ x1 ∧ x1 < (p1.size : Int)) <|
          grd (0 ≤ x1 ∧ x1 < (p2.size : Int)) <|
          bnd (ref1_order (IntKind.i64.wrap ((p1.data.toList.getD x1.toNat 0).toNat : Int)) (IntKind.i64.wrap ((p2.data.toList.getD x1.toNat 0).toNat : Int))) fun r1 =>
          some r1)
         (rec1 (IntKind.i64.wrap (x1 + (1 : Int)))))
      (ref1_texts_j2 p1 p2)

def ref1_texts_l1 (p1 : ByteArray) (p2 : ByteArray) : Nat → Int → Option Int
  | 0, _ => none
  | k1 + 1, x1 =>
    ift (decide (x1 < (p1.size : Int)))
      (ref1_texts_j1 (ref1_texts_l1 p1 p2 k1) p1 p2 x1 (decide (x1 < (p2.size : Int))))
      (ref1_texts_j1 (ref1_texts_l1 p1 p2 k1) p1 p2 x1 false)

def ref1_texts (p1 : ByteArray) (p2 : ByteArray) : Option Int :=
    ref1_texts_l1 p1 p2 BIG (0 : Int)


theorem c_ref1_texts (p1 : ByteArray) (p2 : ByteArray) : CT Tryz.prog 47 [vs p1, vs p2] (ref1_texts p1 p2) vi :=
  uFn 39 [] Tryz.f47 fun r => (uQ (kS Tryz.f47 [1,0] 1) fun K2 hK2 => have hJ2 : ∀ (_ : Unit), ref1_texts_j2 p1 p2 = some r → K2.p [(0, vs p1), (1, vs p2)] [] := fun _ h => hK2 h (uP (c_ref1_order _ _) fun r2 _ => (uR .ret xF)); (uO (cd Tryz.f47 [1,0,1,0,0]) (kS Tryz.f47 [1,0,1,0] 1) fun R1 b1 => have hL1 : ∀ (k1 : Nat) (x1 : Int), ref1_texts_l1 p1 p2 k1 x1 = some r → (R1 k1).p [(0, vs p1), (1, vs p2), (5, vi x1)] [] := by intro k1; induction k1 with | zero => intro x1 h; exact uE0 (ref1_texts_l1.eq_1 ..) h | succ k1 ih1 => intro x1 h; exact b1 h (uU (ref1_texts_l1.eq_2 ..) (uQ (kS Tryz.f47 [1,0,1,0,0,0,0] 2) fun K5 hK5 => have hJ1 : ∀ (x2 : Bool), ref1_texts_j1 (ref1_texts_l1 p1 p2 k1) p1 p2 x1 x2 = some r → K5.p [(0, vs p1), (1, vs p2), (5, vi x1), (15, vb x2)] [] := fun x2 h => hK5 h (uC (uDr 6 (uG (uG (uY 24 vb fun y1 => (uC (uDr 8 (uG (uG (uP (c_ref1_order _ _) fun r1 _ => (uR .ret (xN (xN xF))))))) (uJ (ih1 (IntKind.i64.wrap (x1 + (1 : Int)))))))))) (uR (.exit 0) (xM (uJ (hJ2 ()))))); (uC (uJ (hJ1 (decide (x1 < (p2.size : Int))))) (uJ (hJ1 false)))))
 uE (hL1 BIG (0 : Int))))

def ref1_Compare_j4 (p1 : GValue) (p2 : GValue) : Option Int :=
    bnd (ref1_order (p1.items.length : Int) (p2.items.length : Int)) fun r7 =>
    some r7

def ref1_Compare_j3 (rec1 : Int → Option Int) (q_ref1_Compare : GValue → GValue → Option Int) (p1 : GValue) (p2 : GValue) (x2 : Int) (x3 : Bool) : Option Int :=
    ift x3
      (bnd (at? p1.items x2) fun e1 =>
       bnd (at? p2.items x2) fun e2 =>
       bnd (q_ref1_Compare e1 e2) fun r6 =>
       ift (r6 != (0 : Int))
         (some r6)
         (rec1 (IntKind.i64.wrap (x2 + (1 : Int)))))
      (ref1_Compare_j4 p1 p2)

def ref1_Compare_l1 (q_ref1_Compare : GValue → GValue → Option Int) (p1 : GValue) (p2 : GValue) : Nat → Int → Option Int
  | 0, _ => none
  | k1 + 1, x2 =>
    ift (decide (x2 < (p1.items.length : Int)))
      (ref1_Compare_j3 (ref1_Compare_l1 q_ref1_Compare p1 p2 k1) q_ref1_Compare p1 p2 x2 (decide (x2 < (p2.items.length : Int))))
      (ref1_Compare_j3 (ref1_Compare_l1 q_ref1_Compare p1 p2 k1) q_ref1_Compare p1 p2 x2 false)

def ref1_Compare_j2 (q_ref1_Compare : GValue → GValue → Option Int) (p1 : GValue) (p2 : GValue) (x1 : Bool) : Option Int :=
    ift x1
      (bnd (ref1_order p1.n p2.n) fun r3 =>
       some r3)
      (ift (p1.scale != p2.scale)
         (bnd (ref1_order p1.scale p2.scale) fun r4 =>
          some r4)
         (bnd (ref1_texts p1.s p2.s) fun r5 =>
          ift (r5 != (0 : Int))
            (some r5)
            (ref1_Compare_l1 q_ref1_Compare p1 p2 BIG (0 : Int))))

def ref1_Compare_j1 (q_ref1_Compare : GValue → GValue → Option Int) (p1 : GValue) (p2 : GValue) : Option Int :=
    ift (p1.n != p2.n)
      (ref1_Compare_j2 q_ref1_Compare p1 p2 (p1.kind != (3 : Int)))
      (ref1_Compare_j2 q_ref1_Compare p1 p2 false)

def ref1_Compare : Nat → GValue → GValue → Option Int
  | 0, _, _ => none
  | k0 + 1, p1, p2 =>
    ift (!((p1.kind == (0 : Int)) == (p2.kind == (0 : Int))))
      (ift (p1.kind == (0 : Int))
         (some (1 : Int))
         (some (-1 : Int)))
      (ift (p1.kind == (0 : Int))
         (some (0 : Int))
         (ift (p1.kind != p2.kind)
            (bnd (ref1_order p1.kind p2.kind) fun r1 =>
             some r1)
            (ift (p1.kind == (3 : Int))
               (bnd (ref1_decimals p1 p2) fun r2 =>
                ift (r2 != (0 : Int))
                  (some r2)
                  (ref1_Compare_j1 (ref1_Compare k0) p1 p2))
               (ref1_Compare_j1 (ref1_Compare k0) p1 p2))))

abbrev qa862 (p1 : GValue) : List PV := [pi p1.kind, pi p1.n, pi p1.scale, .s (.string p1.s), .ro (eValue.els p1.items)]
abbrev qa863 (p2 : GValue) : List PV := [pi p2.kind, pi p2.n, pi p2.scale, .s (.string p2.s), .ro (eValue.els p2.items)]

theorem c_ref1_Compare : ∀ (k0 : Nat) (p1 : GValue) (p2 : GValue), CT Tryz.prog 34 [.ag [ci p1.kind, ci p1.n, ci p1.scale, cst p1.s, cl eValue p1.items], .ag [ci p2.kind, ci p2.n, ci p2.scale, cst p2.s, cl eValue p2.items]] (ref1_Compare k0 p1 p2) vi
  | 0, _, _ => uF0 (ref1_Compare.eq_1 ..)
  | k0 + 1, p1, p2 => uFn 109 [] Tryz.f34 fun r => (uU (ref1_Compare.eq_2 ..) (uC (uC (uR .ret xF) (uR .ret xF)) (uC (uR .ret xF) (uC (uP (c_ref1_order _ _) fun r1 _ => (uR .ret xF)) (uQ (kS Tryz.f34 [1,1,1,1,0] 1) fun K19 hK19 => have hJ1 : ∀ (_ : Unit), ref1_Compare_j1 (ref1_Compare k0) p1 p2 = some r → K19.p [(2, .one (.pv (.rp [(qa862 p1)] 0 0))), (3, .one (.pv (.rp [(qa863 p2)] 0 0)))] [] := fun _ h => hK19 h (uQ (kS Tryz.f34 [1,1,1,1,1,0,0] 2) fun K28 hK28 => have hJ2 : ∀ (x1 : Bool), ref1_Compare_j2 (ref1_Compare k0) p1 p2 x1 = some r → K28.p [(2, .one (.pv (.rp [(qa862 p1)] 0 0))), (3, .one (.pv (.rp [(qa863 p2)] 0 0))), (50, vb x1)] [] := fun x1 h => hK28 h (uC (uP (c_ref1_order _ _) fun r3 _ => (uR .ret xF)) (uC (uP (c_ref1_order _ _) fun r4 _ => (uR .ret xF)) (uP (c_ref1_texts _ _) fun r5 _ => (uC (uR .ret xF) (uQ (kS Tryz.f34 [1,1,1,1,1,1,1,1,0] 1) fun K44 hK44 => have hJ4 : ∀ (_ : Unit), ref1_Compare_j4 p1 p2 = some r → K44.p [(2, .one (.pv (.rp [(qa862 p1)] 0 0))), (3, .one (.pv (.rp [(qa863 p2)] 0 0)))] [] := fun _ h => hK44 h (uN eValue p1.items (uN eValue p2.items (uP (c_ref1_order _ _) fun r7 _ => (uR .ret xF)))); (uO (cd Tryz.f34 [1,1,1,1,1,1,1,1,0,1,0,0]) (kS Tryz.f34 [1,1,1,1,1,1,1,1,0,1,0] 1) fun R1 b1 => have hL1 : ∀ (k1 : Nat) (x2 : Int), ref1_Compare_l1 (ref1_Compare k0) p1 p2 k1 x2 = some r → (R1 k1).p [(2, .one (.pv (.rp [(qa862 p1)] 0 0))), (3, .one (.pv (.rp [(qa863 p2)] 0 0))), (7, vi x2)] [] := by intro k1; induction k1 with | zero => intro x2 h; exact uE0 (ref1_Compare_l1.eq_1 ..) h | succ k1 ih1 => intro x2 h; exact b1 h (uU (ref1_Compare_l1.eq_2 ..) (uQ (kS Tryz.f34 [1,1,1,1,1,1,1,1,0,1,0,0,0,0] 2) fun K47 hK47 => have hJ3 : ∀ (x3 : Bool), ref1_Compare_j3 (ref1_Compare_l1 (ref1_Compare k0) p1 p2 k1) (ref1_Compare k0) p1 p2 x2 x3 = some r → K47.p [(2, .one (.pv (.rp [(qa862 p1)] 0 0))), (3, .one (.pv (.rp [(qa863 p2)] 0 0))), (7, vi x2), (85, vb x3)] [] := fun x3 h => hK47 h (uC (uDr 10 (uL eValue fun e1 a52 => (uL eValue fun e2 a53 => (uP (c_ref1_Compare k0 _ _) fun r6 _ => (uC (uR .ret (xN (xN xF))) (uJ (ih1 (IntKind.i64.wrap (x2 + (1 : Int)))))))))) (uR (.exit 0) (xM (uJ (hJ4 ()))))); (uN eValue p1.items (uC (uN eValue p2.items (uJ (hJ3 (decide (x2 < (p2.items.length : Int)))))) (uJ (hJ3 false))))))
 uE (hL1 BIG (0 : Int)))))))); (uC (uJ (hJ2 (p1.kind != (3 : Int)))) (uJ (hJ2 false)))); (uC (uP (c_ref1_decimals _ _) fun r2 _ => (uC (uR .ret (xN xF)) (uJ (hJ1 ())))) (uJ (hJ1 ()))))))))

def ref1_CompareRows (p1 : (List GValue)) (p2 : (List GValue)) : Option Int :=
    bnd (ref1_Compare BIG (GValue.mk (6 : Int) (0 : Int) (0 : Int) ByteArray.empty p1) (GValue.mk (6 : Int) (0 : Int) (0 : Int) ByteArray.empty p2)) fun r1 =>
    some r1


theorem c_ref1_CompareRows (p1 : (List GValue)) (p2 : (List GValue)) : CT Tryz.prog 19 [vl eValue p1, vl eValue p2] (ref1_CompareRows p1 p2) vi :=
  uFn 10 [] Tryz.f19 fun r => (uP (c_ref1_Compare BIG _ _) fun r1 _ => (uR .ret xF))

def law2_rows_j1 (rec1 : Int → Option Bool) (x1 : Int) (x2 : Bool) : Option Bool :=
    ift x2
      (some false)
      (rec1 (IntKind.i64.wrap (x1 + (1 : Int))))

def law2_rows_j2 : Option Bool :=
    some true

def law2_rows_l1 (p1 : (List (List GValue))) (p2 : (List (List GValue))) : Nat → Int → Option Bool
  | 0, _ => none
  | k1 + 1, x1 =>
    ift (decide (x1 < (p1.length : Int)))
      (bnd (at? p1 x1) fun e1 =>
       bnd (at? p2 x1) fun e2 =>
       ift ((e1.length : Int) != (e2.length : Int))
         (law2_rows_j1 (law2_rows_l1 p1 p2 k1) x1 true)
         (bnd (ref1_CompareRows e1 e2) fun r1 =>
          law2_rows_j1 (law2_rows_l1 p1 p2 k1) x1 (r1 != (0 : Int))))
      (law2_rows_j2)

def law2_rows (p1 : (List (List GValue))) (p2 : (List (List GValue))) : Option Bool :=
    ift ((p1.length : Int) != (p2.length : Int))
      (some false)
      (law2_rows_l1 p1 p2 BIG (0 : Int))


theorem c_law2_rows (p1 : (List (List GValue))) (p2 : (List (List GValue))) : CT Tryz.prog 7 [vl (eL eValue) p1, vl (eL eValue) p2] (law2_rows p1 p2) vb :=
  uFn 40 [] Tryz.f7 fun r => (uN (eL eValue) p1 (uN (eL eValue) p2 (uC (uR .ret xF) (uQ (kS Tryz.f7 [1,1,0] 1) fun K6 hK6 => have hJ2 : ∀ (_ : Unit), law2_rows_j2 = some r → K6.p [] [] := fun _ h => hK6 h (uR .ret xF); (uN (eL eValue) p1 (uO (cd Tryz.f7 [1,1,0,1,0,0]) (kS Tryz.f7 [1,1,0,1,0] 1) fun R1 b1 => have hL1 : ∀ (k1 : Nat) (x1 : Int), law2_rows_l1 p1 p2 k1 x1 = some r → (R1 k1).p [(0, vl (eL eValue) p1), (1, vl (eL eValue) p2), (12, vi (p1.length : Int)), (13, vi x1)] [] := by intro k1; induction k1 with | zero => intro x1 h; exact uE0 (law2_rows_l1.eq_1 ..) h | succ k1 ih1 => intro x1 h; exact b1 h (uU (law2_rows_l1.eq_2 ..) (uC (uQ (kS Tryz.f7 [1,1,0,1,0,0,1,1,0,0,1,0] 3) fun K13 hK13 => have hJ1 : ∀ (x2 : Bool), law2_rows_j1 (law2_rows_l1 p1 p2 k1) x1 x2 = some r → K13.p [(0, vl (eL eValue) p1), (1, vl (eL eValue) p2), (12, vi (p1.length : Int)), (13, vi x1), (38, vb x2)] [] := fun x2 h => hK13 h (uC (uR .ret (xN (xN xF))) (uJ (ih1 (IntKind.i64.wrap (x1 + (1 : Int)))))); (uDr 20 (uL (eL eValue) fun e1 a14 => (uN eValue e1 (uL (eL eValue) fun e2 a15 => (uN eValue e2 (uC (uJ (hJ1 true)) (uM (eL eValue) a14 (uM (eL eValue) a15 (uP (c_ref1_CompareRows _ _) fun r1 _ => (uJ (hJ1 (r1 != (0 : Int)))))))))))))) (uR (.exit 0) (xM (uJ (hJ2 ()))))))
 uE (hL1 BIG (0 : Int))))))))

def law2_ColumnAdaptsMatchSpec_j1 (x1 : Bool) : Option Bool :=
    some x1

def law2_ColumnAdaptsMatchSpec (p1 : (List GField)) (p2 : (List GField)) (p3 : (List (List GValue))) (p4 : GType) (p5 : GType) : Option Bool :=
    bnd (column_Adapt p1 p2 p3) fun r1 =>
    bnd (ref2_Adapt p1 p2 p3) fun r2 =>
    bnd (column_Widens (GType.mk (1 : Int) (0 : Int) []) (GType.mk (2 : Int) (0 : Int) [])) fun r3 =>
    ift r3
      (ift (r1.2 == r2.2)
         (bnd (law2_rows r1.1 r2.1) fun r4 =>
          ift r4
            (bnd (column_Widens p4 p5) fun r5 =>
             bnd (ref2_Widens p4 p5) fun r6 =>
             law2_ColumnAdaptsMatchSpec_j1 (r5 == r6))
            (law2_ColumnAdaptsMatchSpec_j1 false))
         (law2_ColumnAdaptsMatchSpec_j1 false))
      (law2_ColumnAdaptsMatchSpec_j1 false)


theorem c_law2_ColumnAdaptsMatchSpec (p1 : (List GField)) (p2 : (List GField)) (p3 : (List (List GValue))) (p4 : GType) (p5 : GType) : CT Tryz.prog 3 [vl eField p1, vl eField p2, vl (eL eValue) p3, .ag [ci p4.kind, ci p4.scale, cl eField p4.fields], .ag [ci p5.kind, ci p5.scale, cl eField p5.fields]] (law2_ColumnAdaptsMatchSpec p1 p2 p3 p4 p5) vb :=
  uFn 51 [] Tryz.f3 fun r => (uP (c_column_Adapt _ _ _) fun r1 _ => (uP (c_ref2_Adapt _ _ _) fun r2 _ => (uQ (kS Tryz.f3 [1,1,1,0] 1) fun K6 hK6 => have hJ1 : ∀ (x1 : Bool), law2_ColumnAdaptsMatchSpec_j1 x1 = some r → K6.p [(10, vb x1)] [] := fun x1 h => hK6 h (uR .ret xF); (uDr 19 (uP (c_column_Widens _ _) fun r3 _ => (uC (uC (uP (c_law2_rows _ _) fun r4 _ => (uC (uP (c_column_Widens _ _) fun r5 _ => (uP (c_ref2_Widens _ _) fun r6 _ => (uJ (hJ1 (r5 == r6))))) (uJ (hJ1 false)))) (uJ (hJ1 false))) (uJ (hJ1 false))))))))


end Go.Proofs.YtieiahlgllbklaaGreatDoor
