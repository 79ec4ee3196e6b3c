/- Printed by a program: what the functions compute, and the proofs of their contracts. -/
import Derived.Test.YtikbfjpcmalmlaaGreatDoorChecked
import Derived.Test.YtikbfjpcmalmlaaGreatDoorGeA
set_option linter.unusedVariables false
set_option linter.unusedSimpArgs false
set_option linter.unnecessarySimpa false
namespace Go.Proofs.YtikbfjpcmalmlaaGreatDoor
open Go.SX Go
set_option linter.unusedVariables false
set_option linter.unusedSimpArgs false
set_option maxRecDepth 100000
set_option maxHeartbeats 8000000

def value_leaf_j1 (x1 : Bool) : Option Bool :=
    some x1

def value_leaf (p1 : GType) : Option Bool :=
    ift (p1.kind != (6 : Int))
      (value_leaf_j1 (p1.kind != (7 : Int)))
      (value_leaf_j1 false)


theorem c_value_leaf (p1 : GType) : CT Tryz.prog 110 [.ag [ci p1.kind, ci p1.scale, cl eField p1.fields]] (value_leaf p1) vb :=
  uFn 11 [] Tryz.f110 fun r => (uQ (kS Tryz.f110 [1,0] 1) fun K2 hK2 => have hJ1 : ∀ (x1 : Bool), value_leaf_j1 x1 = some r → K2.p [(2, vb x1)] [] := fun x1 h => hK2 h (uR .ret xF); (uC (uJ (hJ1 (p1.kind != (7 : Int)))) (uJ (hJ1 false))))

def value_Name_1_j1 (x1 : Bool) : Option Bool :=
    some x1

def value_Name_1 (p1 : Int) : Option Bool :=
    ift (decide (p1 < (97 : Int)))
      (ift (decide (p1 < (48 : Int)))
         (value_Name_1_j1 (p1 != (95 : Int)))
         (ift (decide ((57 : Int) < p1))
            (value_Name_1_j1 (p1 != (95 : Int)))
            (value_Name_1_j1 false)))
      (ift (decide ((122 : Int) < p1))
         (ift (decide (p1 < (48 : Int)))
            (value_Name_1_j1 (p1 != (95 : Int)))
            (ift (decide ((57 : Int) < p1))
               (value_Name_1_j1 (p1 != (95 : Int)))
               (value_Name_1_j1 false)))
         (value_Name_1_j1 false))


theorem c_value_Name_1 (p1 : Int) : CT Tryz.prog 94 [vk .i32 p1] (value_Name_1 p1) vb :=
  uFn 21 [] Tryz.f94 fun r => (uQ (kS Tryz.f94 [1,0] 1) fun K2 hK2 => have hJ1 : ∀ (x1 : Bool), value_Name_1_j1 x1 = some r → K2.p [(2, vb x1)] [] := fun x1 h => hK2 h (uR .ret xF); (uC (uC (uJ (hJ1 (p1 != (95 : Int)))) (uC (uJ (hJ1 (p1 != (95 : Int)))) (uJ (hJ1 false)))) (uC (uC (uJ (hJ1 (p1 != (95 : Int)))) (uC (uJ (hJ1 (p1 != (95 : Int)))) (uJ (hJ1 false)))) (uJ (hJ1 false)))))

def strings_indexFunc_of_value_Name_1_j1 : Option Int :=
    some (-1 : Int)

def strings_indexFunc_of_value_Name_1_l1 (p1 : ByteArray) (p2 : Bool) : Nat → Nat → Option Int
  | 0, _ => none
  | k1 + 1, z1 =>
    ift (decide (z1 < p1.size))
      (bnd (value_Name_1 (Int.ofNat (Utf8.decode p1 z1).1)) fun r1 =>
       ift (r1 == p2)
         (some (Int.ofNat z1))
         ((strings_indexFunc_of_value_Name_1_l1 p1 p2 k1) (z1 + (Utf8.decode p1 z1).2)))
      (strings_indexFunc_of_value_Name_1_j1)

def strings_indexFunc_of_value_Name_1 (p1 : ByteArray) (p2 : Bool) : Option Int :=
    strings_indexFunc_of_value_Name_1_l1 p1 p2 BIG 0


theorem c_strings_indexFunc_of_value_Name_1 (p1 : ByteArray) (p2 : Bool) : CT Tryz.prog 173 [vs p1, .one (.pv (.fn 94 [])), vb p2] (strings_indexFunc_of_value_Name_1 p1 p2) vi :=
  uFn 21 [] Tryz.f173 fun r => (uQ (kS Tryz.f173 [1,0] 1) fun K2 hK2 => have hJ1 : ∀ (_ : Unit), strings_indexFunc_of_value_Name_1_j1 = some r → K2.p [] [] := fun _ h => hK2 h (uR .ret xF); (uRg p1 (uO (cd Tryz.f173 [1,0,1,0,0]) (kS Tryz.f173 [1,0,1,0] 1) fun R1 b1 => have hL1 : ∀ (k1 : Nat) (z1 : Nat), strings_indexFunc_of_value_Name_1_l1 p1 p2 k1 z1 = some r → (R1 k1).p [(1, .one (.pv (.fn 94 []))), (2, vb p2), (10, .one (.pt 0 0 0 0))] [.raw (.stringIter p1 z1)] := by intro k1; induction k1 with | zero => intro z1 h; exact uE0 (strings_indexFunc_of_value_Name_1_l1.eq_1 ..) h | succ k1 ih1 => intro z1 h; exact b1 h (uU (strings_indexFunc_of_value_Name_1_l1.eq_2 ..) (uNx 0 (fun b5 => (uT (uP (c_value_Name_1 _) fun r1 _ => (uC (uR .ret (xN (xN xF))) (uJ (ih1 (z1 + (Utf8.decode p1 z1).2))))))) (fun b5 => (uF (uR (.exit 0) (xM (uJ (hJ1 ()))))))))
 uE (hL1 BIG 0))))

def strings_IndexFunc_of_value_Name_1 (p1 : ByteArray) : Option Int :=
    bnd (strings_indexFunc_of_value_Name_1 p1 true) fun r1 =>
    some r1


theorem c_strings_IndexFunc_of_value_Name_1 (p1 : ByteArray) : CT Tryz.prog 140 [vs p1, .one (.pv (.fn 94 []))] (strings_IndexFunc_of_value_Name_1 p1) vi :=
  uFn 8 [] Tryz.f140 fun r => (uP (c_strings_indexFunc_of_value_Name_1 _ _) fun r1 _ => (uR .ret xF))

def strings_ContainsFunc_of_value_Name_1 (p1 : ByteArray) : Option Bool :=
    bnd (strings_IndexFunc_of_value_Name_1 p1) fun r1 =>
    some (decide ((0 : Int) ≤ r1))


theorem c_strings_ContainsFunc_of_value_Name_1 (p1 : ByteArray) : CT Tryz.prog 95 [vs p1, .one (.pv (.fn 94 []))] (strings_ContainsFunc_of_value_Name_1 p1) vb :=
  uFn 9 [] Tryz.f95 fun r => (uP (c_strings_IndexFunc_of_value_Name_1 _) fun r1 _ => (uR .ret xF))

def value_Name_j1 (p1 : ByteArray) (x1 : Bool) : Option Bool :=
    ift x1
      (some false)
      (bnd (strings_ContainsFunc_of_value_Name_1 p1) fun r1 =>
       some (!r1))

def value_Name (p1 : ByteArray) : Option Bool :=
    ift (p1.toList == (ByteArray.mk #[]).toList)
      (value_Name_j1 p1 true)
      (ift (decide ((24 : Int) < (p1.size : Int)))
         (value_Name_j1 p1 true)
         (grd (0 ≤ (0 : Int) ∧ (0 : Int) < (p1.size : Int)) <|
          bnd (some (decide (((p1.data.toList.getD (0 : Int).toNat 0).toNat : Int) < (97 : Int)))) fun y1 =>
          ift y1
            (value_Name_j1 p1 true)
            (grd (0 ≤ (0 : Int) ∧ (0 : Int) < (p1.size : Int)) <|
             bnd (some (decide ((122 : Int) < ((p1.data.toList.getD (0 : Int).toNat 0).toNat : Int)))) fun y2 =>
             value_Name_j1 p1 y2)))


theorem c_value_Name (p1 : ByteArray) : CT Tryz.prog 52 [vs p1] (value_Name p1) vb :=
  uFn 25 [] Tryz.f52 fun r => (uQ (kS Tryz.f52 [1,0,0] 2) fun K3 hK3 => have hJ1 : ∀ (x1 : Bool), value_Name_j1 p1 x1 = some r → K3.p [(0, vs p1), (20, vb x1)] [] := fun x1 h => hK3 h (uC (uR .ret xF) (uP (c_strings_ContainsFunc_of_value_Name_1 _) fun r1 _ => (uR .ret xF))); (uC (uJ (hJ1 true)) (uC (uJ (hJ1 true)) (uG (uY 14 vb fun y1 => (uC (uJ (hJ1 true)) (uG (uY 19 vb fun y2 => (uJ (hJ1 y2))))))))))

def value_fields_1 (p1 : GField) : Option Bool :=
    bnd (value_Name p1.name) fun r1 =>
    some (!r1)


theorem c_value_fields_1 (p1 : GField) : CT Tryz.prog 151 [.ag [ci p1.id, cst p1.name, cb p1.need, ci p1.type.kind, ci p1.type.scale, cl eField p1.type.fields]] (value_fields_1 p1) vb :=
  uFn 7 [] Tryz.f151 fun r => (uP (c_value_Name _) fun r1 _ => (uR .ret xF))

def slices_IndexFunc_api_Field_api_Field_of_value_fields_1_j1 : Option Int :=
    some (-1 : Int)

def slices_IndexFunc_api_Field_api_Field_of_value_fields_1_l1 (p1 : (List GField)) : Nat → Int → Option Int
  | 0, _ => none
  | k1 + 1, x1 =>
    ift (decide (x1 < (p1.length : Int)))
      (bnd (at? p1 x1) fun e1 =>
       bnd (value_fields_1 e1) fun r1 =>
       ift r1
         (some x1)
         ((slices_IndexFunc_api_Field_api_Field_of_value_fields_1_l1 p1 k1) (IntKind.i64.wrap (x1 + (1 : Int)))))
      (slices_IndexFunc_api_Field_api_Field_of_value_fields_1_j1)

def slices_IndexFunc_api_Field_api_Field_of_value_fields_1 (p1 : (List GField)) : Option Int :=
    slices_IndexFunc_api_Field_api_Field_of_value_fields_1_l1 p1 BIG (0 : Int)


theorem c_slices_IndexFunc_api_Field_api_Field_of_value_fields_1 (p1 : (List GField)) : CT Tryz.prog 81 [vl eField p1, .one (.pv (.fn 151 []))] (slices_IndexFunc_api_Field_api_Field_of_value_fields_1 p1) vi :=
  uFn 19 [] Tryz.f81 fun r => (uQ (kS Tryz.f81 [1,0] 1) fun K2 hK2 => have hJ1 : ∀ (_ : Unit), slices_IndexFunc_api_Field_api_Field_of_value_fields_1_j1 = some r → K2.p [] [] := fun _ h => hK2 h (uR .ret xF); (uN eField p1 (uO (cd Tryz.f81 [1,0,1,0,0]) (kS Tryz.f81 [1,0,1,0] 1) fun R1 b1 => have hL1 : ∀ (k1 : Nat) (x1 : Int), slices_IndexFunc_api_Field_api_Field_of_value_fields_1_l1 p1 k1 x1 = some r → (R1 k1).p [(0, vl eField p1), (1, .one (.pv (.fn 151 []))), (7, vi (p1.length : Int)), (8, vi x1)] [] := by intro k1; induction k1 with | zero => intro x1 h; exact uE0 (slices_IndexFunc_api_Field_api_Field_of_value_fields_1_l1.eq_1 ..) h | succ k1 ih1 => intro x1 h; exact b1 h (uU (slices_IndexFunc_api_Field_api_Field_of_value_fields_1_l1.eq_2 ..) (uC (uL eField fun e1 a10 => (uP (c_value_fields_1 _) fun r1 _ => (uC (uR .ret (xN (xN xF))) (uJ (ih1 (IntKind.i64.wrap (x1 + (1 : Int)))))))) (uR (.exit 0) (xM (uJ (hJ1 ()))))))
 uE (hL1 BIG (0 : Int)))))

def slices_ContainsFunc_api_Field_api_Field_of_value_fields_1 (p1 : (List GField)) : Option Bool :=
    bnd (slices_IndexFunc_api_Field_api_Field_of_value_fields_1 p1) fun r1 =>
    some (decide ((0 : Int) ≤ r1))


theorem c_slices_ContainsFunc_api_Field_api_Field_of_value_fields_1 (p1 : (List GField)) : CT Tryz.prog 150 [vl eField p1, .one (.pv (.fn 151 []))] (slices_ContainsFunc_api_Field_api_Field_of_value_fields_1 p1) vb :=
  uFn 9 [] Tryz.f150 fun r => (uP (c_slices_IndexFunc_api_Field_api_Field_of_value_fields_1 _) fun r1 _ => (uR .ret xF))

def value_fields_2 (p1 : GField) (p2 : GField) : Option (Bool × GField) :=
    some ((p1.name.toList == p2.name.toList), p2)


theorem c_value_fields_2 (p1 : GField) (p2 : GField) : CM Tryz.prog 152 [.ag [ci p1.id, cst p1.name, cb p1.need, ci p1.type.kind, ci p1.type.scale, cl eField p1.type.fields], .one (.pt 0 0 0 0)] [.box [ci p2.id, cst p2.name, cb p2.need, ci p2.type.kind, ci p2.type.scale, cl eField p2.type.fields]] (value_fields_2 p1 p2) (fun r => vb r.1) (fun r => [.box [ci r.2.id, cst r.2.name, cb r.2.need, ci r.2.type.kind, ci r.2.type.scale, cl eField r.2.type.fields]]) :=
  uFnM 1 9 [] Tryz.f152 fun r => (uR .ret xFM)

def slices_IndexFunc_api_Field_api_Field_of_value_fields_2_j1 (z7 : Int) (z8 : ByteArray) (z9 : Bool) (z10 : Int) (z11 : Int) (z12 : List GField) : Option (Int × GField) :=
    some ((-1 : Int), (FieldP.mk z7 z8 z9 (GType.mk z10 z11 z12)))

def slices_IndexFunc_api_Field_api_Field_of_value_fields_2_l1 (p1 : (List GField)) : Nat → Int → ByteArray → Bool → Int → Int → List GField → Int → Option (Int × GField)
  | 0, _, _, _, _, _, _, _ => none
  | k1 + 1, z1, z2, z3, z4, z5, z6, x1 =>
    ift (decide (x1 < (p1.length : Int)))
      (bnd (at? p1 x1) fun e1 =>
       bnd (value_fields_2 e1 (FieldP.mk z1 z2 z3 (GType.mk z4 z5 z6))) fun r1 =>
       ift r1.1
         (some (x1, r1.2))
         ((slices_IndexFunc_api_Field_api_Field_of_value_fields_2_l1 p1 k1) r1.2.id r1.2.name r1.2.need r1.2.type.kind r1.2.type.scale r1.2.type.fields (IntKind.i64.wrap (x1 + (1 : Int)))))
      (slices_IndexFunc_api_Field_api_Field_of_value_fields_2_j1 z1 z2 z3 z4 z5 z6)

def slices_IndexFunc_api_Field_api_Field_of_value_fields_2 (p1 : (List GField)) (p2 : GField) : Option (Int × GField) :=
    slices_IndexFunc_api_Field_api_Field_of_value_fields_2_l1 p1 BIG p2.id p2.name p2.need p2.type.kind p2.type.scale p2.type.fields (0 : Int)


theorem c_slices_IndexFunc_api_Field_api_Field_of_value_fields_2 (p1 : (List GField)) (p2 : GField) : CM Tryz.prog 81 [vl eField p1, .one (.fn 152 [.pt 0 0 0 0])] [.box [ci p2.id, cst p2.name, cb p2.need, ci p2.type.kind, ci p2.type.scale, cl eField p2.type.fields]] (slices_IndexFunc_api_Field_api_Field_of_value_fields_2 p1 p2) (fun r => vi r.1) (fun r => [.box [ci r.2.id, cst r.2.name, cb r.2.need, ci r.2.type.kind, ci r.2.type.scale, cl eField r.2.type.fields]]) :=
  uFnM 1 19 [] Tryz.f81 fun r => (uQ (kS Tryz.f81 [1,0] 1) fun K2 hK2 => have hJ1 : ∀ (z7 : Int) (z8 : ByteArray) (z9 : Bool) (z10 : Int) (z11 : Int) (z12 : List GField), slices_IndexFunc_api_Field_api_Field_of_value_fields_2_j1 z7 z8 z9 z10 z11 z12 = some r → K2.p [] [.box [ci z7, cst z8, cb z9, ci z10, ci z11, cl eField z12]] := fun z7 z8 z9 z10 z11 z12 h => hK2 h (uR .ret xFM); (uN eField p1 (uO (cd Tryz.f81 [1,0,1,0,0]) (kS Tryz.f81 [1,0,1,0] 1) fun R1 b1 => have hL1 : ∀ (k1 : Nat) (z1 : Int) (z2 : ByteArray) (z3 : Bool) (z4 : Int) (z5 : Int) (z6 : List GField) (x1 : Int), slices_IndexFunc_api_Field_api_Field_of_value_fields_2_l1 p1 k1 z1 z2 z3 z4 z5 z6 x1 = some r → (R1 k1).p [(0, vl eField p1), (1, .one (.fn 152 [.pt 0 0 0 0])), (7, vi (p1.length : Int)), (8, vi x1)] [.box [ci z1, cst z2, cb z3, ci z4, ci z5, cl eField z6]] := by intro k1; induction k1 with | zero => intro z1 z2 z3 z4 z5 z6 x1 h; exact uE0 (slices_IndexFunc_api_Field_api_Field_of_value_fields_2_l1.eq_1 ..) h | succ k1 ih1 => intro z1 z2 z3 z4 z5 z6 x1 h; exact b1 h (uU (slices_IndexFunc_api_Field_api_Field_of_value_fields_2_l1.eq_2 ..) (uC (uL eField fun e1 a10 => (uMc true [0] (c_value_fields_2 _ _) fun r1 _ => (uC (uR .ret (xN (xN xFM))) (uJ (ih1 r1.2.id r1.2.name r1.2.need r1.2.type.kind r1.2.type.scale r1.2.type.fields (IntKind.i64.wrap (x1 + (1 : Int)))))))) (uR (.exit 0) (xM (uJ (hJ1 z1 z2 z3 z4 z5 z6))))))
 uE (hL1 BIG p2.id p2.name p2.need p2.type.kind p2.type.scale p2.type.fields (0 : Int)))))

def slices_ContainsFunc_api_Field_api_Field_of_value_fields_2 (p1 : (List GField)) (p2 : GField) : Option (Bool × GField) :=
    bnd (slices_IndexFunc_api_Field_api_Field_of_value_fields_2 p1 p2) fun r1 =>
    some ((decide ((0 : Int) ≤ r1.1)), r1.2)


theorem c_slices_ContainsFunc_api_Field_api_Field_of_value_fields_2 (p1 : (List GField)) (p2 : GField) : CM Tryz.prog 150 [vl eField p1, .one (.fn 152 [.pt 0 0 0 0])] [.box [ci p2.id, cst p2.name, cb p2.need, ci p2.type.kind, ci p2.type.scale, cl eField p2.type.fields]] (slices_ContainsFunc_api_Field_api_Field_of_value_fields_2 p1 p2) (fun r => vb r.1) (fun r => [.box [ci r.2.id, cst r.2.name, cb r.2.need, ci r.2.type.kind, ci r.2.type.scale, cl eField r.2.type.fields]]) :=
  uFnM 1 9 [] Tryz.f150 fun r => (uMc true [0] (c_slices_IndexFunc_api_Field_api_Field_of_value_fields_2 _ _) fun r1 _ => (uR .ret xFM))

def value_fields_j1 (x1 : Bool) : Option Int :=
    ift x1
      (some (1 : Int))
      (some (0 : Int))

def value_fields_j2 : Option Int :=
    some (0 : Int)

def value_fields_l1 (p1 : GType) : Nat → Int → Option Int
  | 0, _ => none
  | k1 + 1, x2 =>
    ift (decide (x2 < (p1.fields.length : Int)))
      (bnd (at? p1.fields x2) fun e2 =>
       grd (0 ≤ (0 : Int) ∧ (0 : Int) ≤ x2 ∧ x2 ≤ (p1.fields.length : Int)) <|
       bnd (slices_ContainsFunc_api_Field_api_Field_of_value_fields_2 ((p1.fields.drop (0 : Int).toNat).take (x2.toNat - (0 : Int).toNat)) e2) fun r2 =>
       ift r2.1
         (some (5 : Int))
         ((value_fields_l1 p1 k1) (IntKind.i64.wrap (x2 + (1 : Int)))))
      (value_fields_j2)

def value_fields (p1 : GType) : Option Int :=
    ift (p1.kind == (6 : Int))
      (ift ((p1.fields.length : Int) != (1 : Int))
         (value_fields_j1 true)
         (bnd (at? p1.fields (0 : Int)) fun e1 =>
          value_fields_j1 (!(e1.name.toList == (ByteArray.mk #[]).toList))))
      (ift (p1.kind != (7 : Int))
         (ift (decide ((0 : Int) < (p1.fields.length : Int)))
            (some (1 : Int))
            (some (0 : Int)))
         (ift ((p1.fields.length : Int) == (0 : Int))
            (some (1 : Int))
            (bnd (slices_ContainsFunc_api_Field_api_Field_of_value_fields_1 p1.fields) fun r1 =>
             ift r1
               (some (4 : Int))
               (value_fields_l1 p1 BIG (0 : Int)))))


theorem c_value_fields (p1 : GType) : CT Tryz.prog 111 [.ag [ci p1.kind, ci p1.scale, cl eField p1.fields]] (value_fields p1) vi :=
  uFn 52 [4] Tryz.f111 fun r => (uC (uQ (kS Tryz.f111 [1,0,0,1,0,0,0] 4) fun K6 hK6 => have hJ1 : ∀ (x1 : Bool), value_fields_j1 x1 = some r → K6.p [(20, vb x1)] [] := fun x1 h => hK6 h (uC (uR .ret xF) (uR .ret xF)); (uN eField p1.fields (uC (uJ (hJ1 true)) (uL eField fun e1 a8 => (uJ (hJ1 (!(e1.name.toList == (ByteArray.mk #[]).toList)))))))) (uC (uN eField p1.fields (uC (uR .ret xF) (uR .ret xF))) (uN eField p1.fields (uC (uR .ret xF) (uP (c_slices_ContainsFunc_api_Field_api_Field_of_value_fields_1 _) fun r1 _ => (uC (uR .ret xF) (uQ (kS Tryz.f111 [1,1,1,0] 1) fun K27 hK27 => have hJ2 : ∀ (_ : Unit), value_fields_j2 = some r → K27.p [] [] := fun _ h => hK27 h (uR .ret xF); (uN eField p1.fields (uO (cd Tryz.f111 [1,1,1,0,1,0,0]) (kS Tryz.f111 [1,1,1,0,1,0] 1) fun R1 b1 => have hL1 : ∀ (k1 : Nat) (x2 : Int), value_fields_l1 p1 k1 x2 = some r → (R1 k1).p [(1, .one (.pv (.rp [[pi p1.kind, pi p1.scale, .ro (eField.els p1.fields)]] 0 0))), (38, vl eField p1.fields), (39, vi (p1.fields.length : Int)), (40, vi x2)] [] := by intro k1; induction k1 with | zero => intro x2 h; exact uE0 (value_fields_l1.eq_1 ..) h | succ k1 ih1 => intro x2 h; exact b1 h (uU (value_fields_l1.eq_2 ..) (uC (uL eField fun e2 a34 => (uX eField (uMc true [0] (c_slices_ContainsFunc_api_Field_api_Field_of_value_fields_2 _ _) fun r2 _ => (uC (uR .ret (xN (xN xF))) (uJ (ih1 (IntKind.i64.wrap (x2 + (1 : Int))))))))) (uR (.exit 1) (xM (uJ (hJ2 ()))))))
 uE (hL1 BIG (0 : Int)))))))))))

def value_checker_check_j5 (z3 : Int) : Option (Int × GChecker) :=
    some ((0 : Int), (GChecker.mk z3))

def value_checker_check_l1 (q_value_checker_check : GType → Int → GChecker → Option (Int × GChecker)) (p1 : GType) (p2 : Int) : Nat → Int → Int → Option (Int × GChecker)
  | 0, _, _ => none
  | k1 + 1, z2, x4 =>
    ift (decide (x4 < (p1.fields.length : Int)))
      (bnd (at? p1.fields x4) fun e1 =>
       bnd (q_value_checker_check e1.type (IntKind.i64.wrap (p2 + (1 : Int))) (GChecker.mk z2)) fun r4 =>
       ift (r4.1 != (0 : Int))
         (some (r4.1, r4.2))
         ((value_checker_check_l1 q_value_checker_check p1 p2 k1) r4.2.leaves (IntKind.i64.wrap (x4 + (1 : Int)))))
      (value_checker_check_j5 z2)

def value_checker_check_j4 (q_value_checker_check : GType → Int → GChecker → Option (Int × GChecker)) (p1 : GType) (p2 : Int) (z1 : Int) (x3 : Bool) : Option (Int × GChecker) :=
    ift x3
      (some ((1 : Int), (GChecker.mk z1)))
      (bnd (value_fields p1) fun r3 =>
       ift (r3 != (0 : Int))
         (some (r3, (GChecker.mk z1)))
         (value_checker_check_l1 q_value_checker_check p1 p2 BIG z1 (0 : Int)))

def value_checker_check_j3 (q_value_checker_check : GType → Int → GChecker → Option (Int × GChecker)) (p1 : GType) (p2 : Int) (z1 : Int) (x2 : Bool) : Option (Int × GChecker) :=
    ift x2
      (some ((3 : Int), (GChecker.mk z1)))
      (ift (p1.scale != (0 : Int))
         (ift (p1.kind != (3 : Int))
            (value_checker_check_j4 q_value_checker_check p1 p2 z1 true)
            (ift (decide (p1.scale < (0 : Int)))
               (value_checker_check_j4 q_value_checker_check p1 p2 z1 true)
               (value_checker_check_j4 q_value_checker_check p1 p2 z1 (decide ((12 : Int) < p1.scale)))))
         (value_checker_check_j4 q_value_checker_check p1 p2 z1 false))

def value_checker_check_j2 (q_value_checker_check : GType → Int → GChecker → Option (Int × GChecker)) (p1 : GType) (p2 : Int) (z1 : Int) : Option (Int × GChecker) :=
    ift (decide (p1.kind < (1 : Int)))
      (value_checker_check_j3 q_value_checker_check p1 p2 z1 true)
      (value_checker_check_j3 q_value_checker_check p1 p2 z1 (decide ((7 : Int) < p1.kind)))

def value_checker_check_j1 (q_value_checker_check : GType → Int → GChecker → Option (Int × GChecker)) (p1 : GType) (p2 : Int) (p3 : GChecker) (x1 : Bool) : Option (Int × GChecker) :=
    ift x1
      (some ((7 : Int), p3))
      (bnd (value_leaf p1) fun r2 =>
       ift r2
         (value_checker_check_j2 q_value_checker_check p1 p2 (IntKind.i64.wrap (p3.leaves + (1 : Int))))
         (value_checker_check_j2 q_value_checker_check p1 p2 p3.leaves))

def value_checker_check : Nat → GType → Int → GChecker → Option (Int × GChecker)
  | 0, _, _, _ => none
  | k0 + 1, p1, p2, p3 =>
    ift (decide ((4 : Int) < p2))
      (value_checker_check_j1 (value_checker_check k0) p1 p2 p3 true)
      (bnd (value_leaf p1) fun r1 =>
       ift r1
         (value_checker_check_j1 (value_checker_check k0) p1 p2 p3 (p3.leaves == (40 : Int)))
         (value_checker_check_j1 (value_checker_check k0) p1 p2 p3 false))

abbrev qa863 (p1 : GType) : List PV := [pi p1.kind, pi p1.scale, .ro (eField.els p1.fields)]

theorem c_value_checker_check : ∀ (k0 : Nat) (p1 : GType) (p2 : Int) (p3 : GChecker), CM Tryz.prog 68 [.one (.pt 0 0 0 0), .ag [ci p1.kind, ci p1.scale, cl eField p1.fields], vi p2] [.box [ci p3.leaves]] (value_checker_check k0 p1 p2 p3) (fun r => vi r.1) (fun r => [.box [ci r.2.leaves]])
  | 0, _, _, _ => uM0 (value_checker_check.eq_1 ..)
  | k0 + 1, p1, p2, p3 => uFnM 1 83 [9] Tryz.f68 fun r => (uU (value_checker_check.eq_2 ..) (uQ (kS Tryz.f68 [1,0,0] 2) fun K3 hK3 => have hJ1 : ∀ (x1 : Bool), value_checker_check_j1 (value_checker_check k0) p1 p2 p3 x1 = some r → K3.p [(0, .one (.pt 0 0 0 0)), (2, vi p2), (4, .one (.pv (.rp [(qa863 p1)] 0 0))), (23, vb x1)] [.box [ci p3.leaves]] := fun x1 h => hK3 h (uC (uR .ret xFM) (uQ (kS Tryz.f68 [1,1,0] 1) fun K9 hK9 => have hJ2 : ∀ (z1 : Int), value_checker_check_j2 (value_checker_check k0) p1 p2 z1 = some r → K9.p [(0, .one (.pt 0 0 0 0)), (2, vi p2), (4, .one (.pv (.rp [(qa863 p1)] 0 0)))] [.box [ci z1]] := fun z1 h => hK9 h (uQ (kS Tryz.f68 [1,1,1,0,0,0] 3) fun K14 hK14 => have hJ3 : ∀ (x2 : Bool), value_checker_check_j3 (value_checker_check k0) p1 p2 z1 x2 = some r → K14.p [(0, .one (.pt 0 0 0 0)), (2, vi p2), (4, .one (.pv (.rp [(qa863 p1)] 0 0))), (33, vb x2)] [.box [ci z1]] := fun x2 h => hK14 h (uC (uR .ret xFM) (uQ (kS Tryz.f68 [1,1,1,0,0,1,1,0] 3) fun K18 hK18 => have hJ4 : ∀ (x3 : Bool), value_checker_check_j4 (value_checker_check k0) p1 p2 z1 x3 = some r → K18.p [(0, .one (.pt 0 0 0 0)), (2, vi p2), (4, .one (.pv (.rp [(qa863 p1)] 0 0))), (42, vb x3)] [.box [ci z1]] := fun x3 h => hK18 h (uC (uR .ret xFM) (uP (c_value_fields _) fun r3 _ => (uC (uR .ret xFM) (uQ (kS Tryz.f68 [1,1,1,1,1,0] 1) fun K30 hK30 => have hJ5 : ∀ (z3 : Int), value_checker_check_j5 z3 = some r → K30.p [] [.box [ci z3]] := fun z3 h => hK30 h (uR .ret xFM); (uN eField p1.fields (uO (cd Tryz.f68 [1,1,1,1,1,0,1,0,0]) (kS Tryz.f68 [1,1,1,1,1,0,1,0] 1) fun R1 b1 => have hL1 : ∀ (k1 : Nat) (z2 : Int) (x4 : Int), value_checker_check_l1 (value_checker_check k0) p1 p2 k1 z2 x4 = some r → (R1 k1).p [(0, .one (.pt 0 0 0 0)), (2, vi p2), (67, vl eField p1.fields), (68, vi (p1.fields.length : Int)), (69, vi x4)] [.box [ci z2]] := by intro k1; induction k1 with | zero => intro z2 x4 h; exact uE0 (value_checker_check_l1.eq_1 ..) h | succ k1 ih1 => intro z2 x4 h; exact b1 h (uU (value_checker_check_l1.eq_2 ..) (uC (uL eField fun e1 a37 => (uMc true [0] (c_value_checker_check k0 _ _ _) fun r4 _ => (uC (uR .ret (xN (xN xFM))) (uJ (ih1 r4.2.leaves (IntKind.i64.wrap (x4 + (1 : Int)))))))) (uR (.exit 1) (xM (uJ (hJ5 z2))))))
 uE (hL1 BIG z1 (0 : Int)))))))); (uC (uC (uJ (hJ4 true)) (uC (uJ (hJ4 true)) (uJ (hJ4 (decide ((12 : Int) < p1.scale)))))) (uJ (hJ4 false))))); (uC (uJ (hJ3 true)) (uJ (hJ3 (decide ((7 : Int) < p1.kind)))))); (uP (c_value_leaf _) fun r2 _ => (uC (uJ (hJ2 (IntKind.i64.wrap (p3.leaves + (1 : Int))))) (uJ (hJ2 p3.leaves)))))); (uC (uJ (hJ1 true)) (uP (c_value_leaf _) fun r1 _ => (uC (uJ (hJ1 (p3.leaves == (40 : Int)))) (uJ (hJ1 false)))))))

def value_CheckType (p1 : GType) : Option Int :=
    bnd (value_checker_check BIG p1 (1 : Int) (GChecker.mk (0 : Int))) fun r1 =>
    some r1.1


theorem c_value_CheckType (p1 : GType) : CT Tryz.prog 30 [.ag [ci p1.kind, ci p1.scale, cl eField p1.fields]] (value_CheckType p1) vi :=
  uFn 9 [5] Tryz.f30 fun r => (uMc true [0] (c_value_checker_check BIG _ _ _) fun r1 _ => (uR .ret xF))

def table_top_1_s (p1 : GField) (p2 : Int) : Option Bool :=
    some (p1.id == p2)


theorem c_table_top_1_s (p1 : GField) (p2 : Int) : CT Tryz.prog 82 [.ag [ci p1.id, cst p1.name, cb p1.need, ci p1.type.kind, ci p1.type.scale, cl eField p1.type.fields], .one (.pv (.rp [[pi p2]] 0 0))] (table_top_1_s p1 p2) vb :=
  uFn 8 [] Tryz.f82 fun r => (uR .ret xF)

def slices_IndexFunc_api_Field_api_Field_of_table_top_1_j1 : Option Int :=
    some (-1 : Int)

def slices_IndexFunc_api_Field_api_Field_of_table_top_1_l1 (p1 : (List GField)) (p2 : Int) : Nat → Int → Option Int
  | 0, _ => none
  | k1 + 1, x1 =>
    ift (decide (x1 < (p1.length : Int)))
      (bnd (at? p1 x1) fun e1 =>
       bnd (table_top_1_s e1 p2) fun r1 =>
       ift r1
         (some x1)
         ((slices_IndexFunc_api_Field_api_Field_of_table_top_1_l1 p1 p2 k1) (IntKind.i64.wrap (x1 + (1 : Int)))))
      (slices_IndexFunc_api_Field_api_Field_of_table_top_1_j1)

def slices_IndexFunc_api_Field_api_Field_of_table_top_1 (p1 : (List GField)) (p2 : Int) : Option Int :=
    slices_IndexFunc_api_Field_api_Field_of_table_top_1_l1 p1 p2 BIG (0 : Int)


theorem c_slices_IndexFunc_api_Field_api_Field_of_table_top_1 (p1 : (List GField)) (p2 : Int) : CT Tryz.prog 81 [vl eField p1, .one (.fn 82 [.pv (.rp [[pi p2]] 0 0)])] (slices_IndexFunc_api_Field_api_Field_of_table_top_1 p1 p2) vi :=
  uFn 19 [] Tryz.f81 fun r => (uQ (kS Tryz.f81 [1,0] 1) fun K2 hK2 => have hJ1 : ∀ (_ : Unit), slices_IndexFunc_api_Field_api_Field_of_table_top_1_j1 = some r → K2.p [] [] := fun _ h => hK2 h (uR .ret xF); (uN eField p1 (uO (cd Tryz.f81 [1,0,1,0,0]) (kS Tryz.f81 [1,0,1,0] 1) fun R1 b1 => have hL1 : ∀ (k1 : Nat) (x1 : Int), slices_IndexFunc_api_Field_api_Field_of_table_top_1_l1 p1 p2 k1 x1 = some r → (R1 k1).p [(0, vl eField p1), (1, .one (.fn 82 [.pv (.rp [[pi p2]] 0 0)])), (7, vi (p1.length : Int)), (8, vi x1)] [] := by intro k1; induction k1 with | zero => intro x1 h; exact uE0 (slices_IndexFunc_api_Field_api_Field_of_table_top_1_l1.eq_1 ..) h | succ k1 ih1 => intro x1 h; exact b1 h (uU (slices_IndexFunc_api_Field_api_Field_of_table_top_1_l1.eq_2 ..) (uC (uL eField fun e1 a10 => (uP (c_table_top_1_s _ _) fun r1 _ => (uC (uR .ret (xN (xN xF))) (uJ (ih1 (IntKind.i64.wrap (x1 + (1 : Int)))))))) (uR (.exit 0) (xM (uJ (hJ1 ()))))))
 uE (hL1 BIG (0 : Int)))))

def table_top (p1 : (List GField)) (p2 : Int) : Option Int :=
    bnd (slices_IndexFunc_api_Field_api_Field_of_table_top_1 p1 p2) fun r1 =>
    some r1


theorem c_table_top (p1 : (List GField)) (p2 : Int) : CT Tryz.prog 47 [vl eField p1, vi p2] (table_top p1 p2) vi :=
  uFn 8 [] Tryz.f47 fun r => (uP (c_slices_IndexFunc_api_Field_api_Field_of_table_top_1 _ _) fun r1 _ => (uR .ret xF))

def table_leaf_j1 (x1 : Bool) : Option Bool :=
    some x1

def table_leaf (p1 : GType) : Option Bool :=
    ift (p1.kind != (6 : Int))
      (table_leaf_j1 (p1.kind != (7 : Int)))
      (table_leaf_j1 false)


theorem c_table_leaf (p1 : GType) : CT Tryz.prog 112 [.ag [ci p1.kind, ci p1.scale, cl eField p1.fields]] (table_leaf p1) vb :=
  uFn 11 [] Tryz.f112 fun r => (uQ (kS Tryz.f112 [1,0] 1) fun K2 hK2 => have hJ1 : ∀ (x1 : Bool), table_leaf_j1 x1 = some r → K2.p [(2, vb x1)] [] := fun x1 h => hK2 h (uR .ret xF); (uC (uJ (hJ1 (p1.kind != (7 : Int)))) (uJ (hJ1 false))))

def table_TransformType_j7 (p2 : GType) (x6 : Bool) : Option (GType × Int) :=
    ift x6
      (some ((GType.mk (2 : Int) (0 : Int) []), (0 : Int)))
      (some (p2, (0 : Int)))

def table_TransformType_j6 (p1 : GTransform) (p2 : GType) (x5 : Bool) : Option (GType × Int) :=
    ift x5
      (some ((GType.mk (0 : Int) (0 : Int) []), (2 : Int)))
      (ift (p1.kind == (2 : Int))
         (table_TransformType_j7 p2 true)
         (table_TransformType_j7 p2 (decide ((4 : Int) ≤ p1.kind))))

def table_TransformType_j5 (p1 : GTransform) (p2 : GType) (x4 : Bool) : Option (GType × Int) :=
    ift x4
      (table_TransformType_j6 p1 p2 x4)
      (ift (decide ((4 : Int) ≤ p1.kind))
         (table_TransformType_j6 p1 p2 (p2.kind != (5 : Int)))
         (table_TransformType_j6 p1 p2 false))

def table_TransformType_j4 (p1 : GTransform) (p2 : GType) : Option (GType × Int) :=
    bnd (table_leaf p2) fun r2 =>
    ift (!r2)
      (table_TransformType_j6 p1 p2 (!r2))
      (ift (p1.kind == (3 : Int))
         (ift (p2.kind != (2 : Int))
            (ift (p2.kind != (3 : Int))
               (table_TransformType_j5 p1 p2 (p2.kind != (4 : Int)))
               (table_TransformType_j5 p1 p2 false))
            (table_TransformType_j5 p1 p2 false))
         (table_TransformType_j5 p1 p2 false))

def table_TransformType_j3 (p1 : GTransform) (p2 : GType) (x3 : Bool) : Option (GType × Int) :=
    ift x3
      (some ((GType.mk (0 : Int) (0 : Int) []), (3 : Int)))
      (table_TransformType_j4 p1 p2)

def table_TransformType_j2 (p1 : GTransform) (p2 : GType) (x2 : Bool) : Option (GType × Int) :=
    ift x2
      (ift (decide (p1.param < (1 : Int)))
         (table_TransformType_j3 p1 p2 true)
         (table_TransformType_j3 p1 p2 (decide ((1000000 : Int) < p1.param))))
      (ift (p1.param != (0 : Int))
         (some ((GType.mk (0 : Int) (0 : Int) []), (3 : Int)))
         (table_TransformType_j4 p1 p2))

def table_TransformType_j1 (p1 : GTransform) (p2 : GType) (x1 : Bool) : Option (GType × Int) :=
    ift x1
      (some ((GType.mk (0 : Int) (0 : Int) []), (3 : Int)))
      (ift (p1.kind == (2 : Int))
         (table_TransformType_j2 p1 p2 true)
         (table_TransformType_j2 p1 p2 (p1.kind == (3 : Int))))

def table_TransformType (p1 : GTransform) (p2 : GType) : Option (GType × Int) :=
    bnd (value_CheckType p2) fun r1 =>
    ift (r1 != (0 : Int))
      (some ((GType.mk (0 : Int) (0 : Int) []), r1))
      (ift (decide (p1.kind < (0 : Int)))
         (table_TransformType_j1 p1 p2 true)
         (table_TransformType_j1 p1 p2 (decide ((7 : Int) < p1.kind))))

abbrev qa888 (p2 : GType) : List PV := [pi p2.kind, pi p2.scale, .ro (eField.els p2.fields)]
abbrev qa889 : List CV := [ci (0 : Int), ci (0 : Int), .pv (.s (.slice none 0 0))]

theorem c_table_TransformType (p1 : GTransform) (p2 : GType) : CT Tryz.prog 70 [.ag [ci p1.kind, ci p1.param], .ag [ci p2.kind, ci p2.scale, cl eField p2.fields]] (table_TransformType p1 p2) (fun r => .tp [.ag [ci r.1.kind, ci r.1.scale, cl eField r.1.fields], vi r.2]) :=
  uFn 85 [4] Tryz.f70 fun r => (uP (c_value_CheckType _) fun r1 _ => (uC (uR .ret xF) (uQ (kS Tryz.f70 [1,1,0,0] 2) fun K9 hK9 => have hJ1 : ∀ (x1 : Bool), table_TransformType_j1 p1 p2 x1 = some r → K9.p [(2, .one (.pv (.rp [[pi p1.kind, pi p1.param]] 0 0))), (3, .one (.pv (.rp [(qa888 p2)] 0 0))), (4, .one (.pt 0 0 0 0)), (20, vb x1)] [.box qa889] := fun x1 h => hK9 h (uC (uR .ret xF) (uQ (kS Tryz.f70 [1,1,1,0] 1) fun K13 hK13 => have hJ4 : ∀ (_ : Unit), table_TransformType_j4 p1 p2 = some r → K13.p [(2, .one (.pv (.rp [[pi p1.kind, pi p1.param]] 0 0))), (3, .one (.pv (.rp [(qa888 p2)] 0 0))), (4, .one (.pt 0 0 0 0))] [.box qa889] := fun _ h => hK13 h (uQ (kS Tryz.f70 [1,1,1,1,0,0,0] 3) fun K25 hK25 => have hJ6 : ∀ (x5 : Bool), table_TransformType_j6 p1 p2 x5 = some r → K25.p [(2, .one (.pv (.rp [[pi p1.kind, pi p1.param]] 0 0))), (3, .one (.pv (.rp [(qa888 p2)] 0 0))), (4, .one (.pt 0 0 0 0)), (43, vb x5)] [.box qa889] := fun x5 h => hK25 h (uC (uR .ret xF) (uQ (kS Tryz.f70 [1,1,1,1,0,0,1,1,0] 3) fun K37 hK37 => have hJ7 : ∀ (x6 : Bool), table_TransformType_j7 p2 x6 = some r → K37.p [(3, .one (.pv (.rp [(qa888 p2)] 0 0))), (4, .one (.pt 0 0 0 0)), (74, vb x6)] [.box qa889] := fun x6 h => hK37 h (uC (uR .ret xF) (uR .ret xF)); (uC (uJ (hJ7 true)) (uJ (hJ7 (decide ((4 : Int) ≤ p1.kind))))))); (uP (c_table_leaf _) fun r2 _ => (uC (uJ (hJ6 (!r2))) (uQ (kS Tryz.f70 [1,1,1,1,0,0,0,1,1,0] 1) fun K29 hK29 => have hJ5 : ∀ (x4 : Bool), table_TransformType_j5 p1 p2 x4 = some r → K29.p [(2, .one (.pv (.rp [[pi p1.kind, pi p1.param]] 0 0))), (3, .one (.pv (.rp [(qa888 p2)] 0 0))), (4, .one (.pt 0 0 0 0)), (43, vb x4)] [.box qa889] := fun x4 h => hK29 h (uC (uJ (hJ6 x4)) (uC (uJ (hJ6 (p2.kind != (5 : Int)))) (uJ (hJ6 false)))); (uC (uC (uC (uJ (hJ5 (p2.kind != (4 : Int)))) (uJ (hJ5 false))) (uJ (hJ5 false))) (uJ (hJ5 false))))))); (uQ (kS Tryz.f70 [1,1,1,0,0] 1) fun K14 hK14 => have hJ2 : ∀ (x2 : Bool), table_TransformType_j2 p1 p2 x2 = some r → K14.p [(2, .one (.pv (.rp [[pi p1.kind, pi p1.param]] 0 0))), (3, .one (.pv (.rp [(qa888 p2)] 0 0))), (4, .one (.pt 0 0 0 0)), (29, vb x2)] [.box qa889] := fun x2 h => hK14 h (uC (uQ (kS Tryz.f70 [1,1,1,0,1,0,0] 1) fun K17 hK17 => have hJ3 : ∀ (x3 : Bool), table_TransformType_j3 p1 p2 x3 = some r → K17.p [(2, .one (.pv (.rp [[pi p1.kind, pi p1.param]] 0 0))), (3, .one (.pv (.rp [(qa888 p2)] 0 0))), (4, .one (.pt 0 0 0 0)), (37, vb x3)] [.box qa889] := fun x3 h => hK17 h (uC (uR .ret (xN xF)) (uJ (hJ4 ()))); (uC (uJ (hJ3 true)) (uJ (hJ3 (decide ((1000000 : Int) < p1.param)))))) (uC (uR .ret (xN xF)) (uJ (hJ4 ())))); (uC (uJ (hJ2 true)) (uJ (hJ2 (p1.kind == (3 : Int)))))))); (uC (uJ (hJ1 true)) (uJ (hJ1 (decide ((7 : Int) < p1.kind))))))))

def slices_Index_api_SpecField_api_SpecField_j1 : Option Int :=
    some (-1 : Int)

def slices_Index_api_SpecField_api_SpecField_l1 (p1 : (List GSpecField)) (p2 : GSpecField) : Nat → Int → Option Int
  | 0, _ => none
  | k1 + 1, x1 =>
    ift (decide (x1 < (p1.length : Int)))
      (bnd (at? p1 x1) fun e1 =>
       bnd (some ((p2.source == e1.source) && (((p2.transform.kind == e1.transform.kind) && ((p2.transform.param == e1.transform.param) && true)) && true))) fun y1 =>
       ift y1
         (some x1)
         ((slices_Index_api_SpecField_api_SpecField_l1 p1 p2 k1) (IntKind.i64.wrap (x1 + (1 : Int)))))
      (slices_Index_api_SpecField_api_SpecField_j1)

def slices_Index_api_SpecField_api_SpecField (p1 : (List GSpecField)) (p2 : GSpecField) : Option Int :=
    slices_Index_api_SpecField_api_SpecField_l1 p1 p2 BIG (0 : Int)


theorem c_slices_Index_api_SpecField_api_SpecField (p1 : (List GSpecField)) (p2 : GSpecField) : CT Tryz.prog 113 [vl eSpecField p1, .ag [ci p2.source, ci p2.transform.kind, ci p2.transform.param]] (slices_Index_api_SpecField_api_SpecField p1 p2) vi :=
  uFn 19 [] Tryz.f113 fun r => (uQ (kS Tryz.f113 [1,0] 1) fun K2 hK2 => have hJ1 : ∀ (_ : Unit), slices_Index_api_SpecField_api_SpecField_j1 = some r → K2.p [] [] := fun _ h => hK2 h (uR .ret xF); (uN eSpecField p1 (uO (cd Tryz.f113 [1,0,1,0,0]) (kS Tryz.f113 [1,0,1,0] 1) fun R1 b1 => have hL1 : ∀ (k1 : Nat) (x1 : Int), slices_Index_api_SpecField_api_SpecField_l1 p1 p2 k1 x1 = some r → (R1 k1).p [(0, vl eSpecField p1), (3, .one (.pv (.rp [[pi p2.source, pi p2.transform.kind, pi p2.transform.param]] 0 0))), (7, vi (p1.length : Int)), (8, vi x1)] [] := by intro k1; induction k1 with | zero => intro x1 h; exact uE0 (slices_Index_api_SpecField_api_SpecField_l1.eq_1 ..) h | succ k1 ih1 => intro x1 h; exact b1 h (uU (slices_Index_api_SpecField_api_SpecField_l1.eq_2 ..) (uC (uDr 5 (uL eSpecField fun e1 a10 => (uY 16 vb fun y1 => (uC (uR .ret (xN (xN xF))) (uJ (ih1 (IntKind.i64.wrap (x1 + (1 : Int))))))))) (uR (.exit 0) (xM (uJ (hJ1 ()))))))
 uE (hL1 BIG (0 : Int)))))

def slices_Contains_api_SpecField_api_SpecField (p1 : (List GSpecField)) (p2 : GSpecField) : Option Bool :=
    bnd (slices_Index_api_SpecField_api_SpecField p1 p2) fun r1 =>
    some (decide ((0 : Int) ≤ r1))


theorem c_slices_Contains_api_SpecField_api_SpecField (p1 : (List GSpecField)) (p2 : GSpecField) : CT Tryz.prog 71 [vl eSpecField p1, .ag [ci p2.source, ci p2.transform.kind, ci p2.transform.param]] (slices_Contains_api_SpecField_api_SpecField p1 p2) vb :=
  uFn 9 [] Tryz.f71 fun r => (uP (c_slices_Index_api_SpecField_api_SpecField _ _) fun r1 _ => (uR .ret xF))

def table_suits_j1 : Option Int :=
    some (0 : Int)

def table_suits_l1 (p1 : GSpec) (p2 : (List GField)) : Nat → Int → Option Int
  | 0, _ => none
  | k1 + 1, x1 =>
    ift (decide (x1 < (p1.fields.length : Int)))
      (bnd (at? p1.fields x1) fun e1 =>
       bnd (table_top p2 e1.source) fun r1 =>
       ift (decide (r1 < (0 : Int)))
         (some (9 : Int))
         (bnd (at? p2 r1) fun e2 =>
          bnd (table_TransformType e1.transform e2.type) fun r2 =>
          ift (r2.2 != (0 : Int))
            (some r2.2)
            (grd (0 ≤ (0 : Int) ∧ (0 : Int) ≤ x1 ∧ x1 ≤ (p1.fields.length : Int)) <|
             bnd (slices_Contains_api_SpecField_api_SpecField ((p1.fields.drop (0 : Int).toNat).take (x1.toNat - (0 : Int).toNat)) e1) fun r3 =>
             ift r3
               (some (5 : Int))
               ((table_suits_l1 p1 p2 k1) (IntKind.i64.wrap (x1 + (1 : Int)))))))
      (table_suits_j1)

def table_suits (p1 : GSpec) (p2 : (List GField)) : Option Int :=
    ift (decide ((4 : Int) < (p1.fields.length : Int)))
      (some (7 : Int))
      (table_suits_l1 p1 p2 BIG (0 : Int))


theorem c_table_suits (p1 : GSpec) (p2 : (List GField)) : CT Tryz.prog 33 [.ag [cl eSpecField p1.fields], vl eField p2] (table_suits p1 p2) vi :=
  uFn 49 [6, 8] Tryz.f33 fun r => (uN eSpecField p1.fields (uC (uR .ret xF) (uQ (kS Tryz.f33 [1,1,0] 1) fun K6 hK6 => have hJ1 : ∀ (_ : Unit), table_suits_j1 = some r → K6.p [] [] := fun _ h => hK6 h (uR .ret xF); (uN eSpecField p1.fields (uO (cd Tryz.f33 [1,1,0,1,0,0]) (kS Tryz.f33 [1,1,0,1,0] 1) fun R1 b1 => have hL1 : ∀ (k1 : Nat) (x1 : Int), table_suits_l1 p1 p2 k1 x1 = some r → (R1 k1).p [(1, vl eField p2), (2, .one (.pv (.rp [[.ro (eSpecField.els p1.fields)]] 0 0))), (15, vl eSpecField p1.fields), (16, vi (p1.fields.length : Int)), (17, vi x1)] [] := by intro k1; induction k1 with | zero => intro x1 h; exact uE0 (table_suits_l1.eq_1 ..) h | succ k1 ih1 => intro x1 h; exact b1 h (uU (table_suits_l1.eq_2 ..) (uC (uL eSpecField fun e1 a13 => (uP (c_table_top _ _) fun r1 _ => (uC (uR .ret (xN (xN xF))) (uGr 13 1 [1,2] (uL eField fun e2 a22 => (uP (c_table_TransformType _ _) fun r2 _ => (uC (uR .ret (xN (xN xF))) (uDr 5 (uX eSpecField (uP (c_slices_Contains_api_SpecField_api_SpecField _ _) fun r3 _ => (uC (uR .ret (xN (xN xF))) (uJ (ih1 (IntKind.i64.wrap (x1 + (1 : Int)))))))))))))))) (uR (.exit 0) (xM (uJ (hJ1 ()))))))
 uE (hL1 BIG (0 : Int)))))))

def slices_Clip_api_SpecField_api_SpecField (p1 : (List GSpecField)) : Option (List GSpecField) :=
    grd (0 ≤ (0 : Int) ∧ (0 : Int) ≤ (p1.length : Int) ∧ (p1.length : Int) ≤ (p1.length : Int) ∧ (p1.length : Int) ≤ (p1.length : Int)) <|
    some ((p1.drop (0 : Int).toNat).take ((p1.length : Int).toNat - (0 : Int).toNat))


theorem c_slices_Clip_api_SpecField_api_SpecField (p1 : (List GSpecField)) : CT Tryz.prog 34 [vl eSpecField p1] (slices_Clip_api_SpecField_api_SpecField p1) (vl eSpecField) :=
  uFn 9 [] Tryz.f34 fun r => (uN eSpecField p1 (uN eSpecField p1 (uXm eSpecField (uR .ret xF))))

def table_New_t (p1 : (List GField)) (p2 : GSpec) : Option (GMeta × Int) :=
       bnd (table_newList p1) fun r2 =>
       bnd (table_newNext p1) fun r3 =>
       bnd (table_suits p2 r2) fun r4 =>
       ift (r4 != (0 : Int))
         (some ((GMeta.mk [] [] (0 : Int) (0 : Int) (0 : Int) (0 : Int) [] [] []), r4))
         (bnd (slices_CloneSF p2.fields) fun r5 =>
          bnd (slices_Clip_api_SpecField_api_SpecField r5) fun r6 =>
          some ((GMeta.mk [r2] [(GSpec.mk r6)] r3 (1 : Int) (1 : Int) (0 : Int) [] ([(GRef.mk (ByteArray.mk #[109, 97, 105, 110]) true (0 : Int))]) []), (0 : Int)))

def table_New (p1 : (List GField)) (p2 : GSpec) : Option (GMeta × Int) :=
    bnd (value_CheckType (GType.mk (7 : Int) (0 : Int) p1)) fun r1 =>
    ift (r1 != (0 : Int))
      (some ((GMeta.mk [] [] (0 : Int) (0 : Int) (0 : Int) (0 : Int) [] [] []), r1))
      (table_New_t p1 p2)


theorem c_table_New (p1 : (List GField)) (p2 : GSpec) : CT Tryz.prog 8 [vl eField p1, .ag [cl eSpecField p2.fields]] (table_New p1 p2) (fun r => .tp [.ag [cl (eL eField) r.1.schemas, cl eSpec r.1.specs, ci r.1.nextField, ci r.1.nextSeq, ci r.1.nextSnap, ci r.1.purges, cl eSnapshot r.1.snapshots, cl eRef r.1.refs, cl eProp r.1.props], vi r.2]) :=
  uFn 40 [4] Tryz.f8 fun r => (uQ (kS Tryz.f8 [1,0] 1) fun K1 hK1 => have hJ1 : table_New_t p1 p2 = some r → K1.p (Pr.B (eSpecField.els p2.fields) [(0, vl eField p1)]) Pr.S2 := fun h => hK1 h (uPair8 (let r2 := (numL p1 1).1; let r3 := (numL p1 1).2; (uP (c_table_suits _ _) fun r4 _ => (uC (uR .ret xF) (uP (c_slices_CloneSF _) fun r5 _ => (uP (c_slices_Clip_api_SpecField_api_SpecField _) fun r6 _ => (uR .ret xF))))))); (uP (c_value_CheckType _) fun r1 _ => (uC (uR .ret (xN xF)) (uJ hJ1))))

def law3_starts_j1 (x1 : Bool) : Option Bool :=
    some x1

def law3_starts : Option Bool :=
    bnd (table_New ([(FieldP.mk (0 : Int) (ByteArray.mk #[97]) false (GType.mk (2 : Int) (0 : Int) []))]) (GSpec.mk [])) fun r1 =>
    ift (r1.2 == (0 : Int))
      (ift (r1.1.nextField == (2 : Int))
         (law3_starts_j1 ((r1.1.schemas.length : Int) == (1 : Int)))
         (law3_starts_j1 false))
      (law3_starts_j1 false)


theorem c_law3_starts : CT Tryz.prog 5 [] (law3_starts) vb :=
  uFn 24 [1] Tryz.f5 fun r => (uP (c_table_New _ _) fun r1 _ => (uQ (kS Tryz.f5 [1,1,0] 1) fun K4 hK4 => have hJ1 : ∀ (x1 : Bool), law3_starts_j1 x1 = some r → K4.p [(0, vb x1)] [.dead] := fun x1 h => hK4 h (uR .ret xF); (uC (uC (uN (eL eField) r1.1.schemas (uJ (hJ1 ((r1.1.schemas.length : Int) == (1 : Int))))) (uJ (hJ1 false))) (uJ (hJ1 false)))))

def table_limits_j2 (rec1 : Int → Bool → Int → Option Int) (x2 : Int) (x4 : Int) (e1 : GSnapshot) (x5 : Bool) : Option Int :=
    bnd (some (IntKind.i64.wrap (x2 + (IntKind.i64.wrap ((e1.files.length : Int) + (e1.dby.length : Int)))))) fun y1 =>
    rec1 y1 x5 (IntKind.i64.wrap (x4 + (1 : Int)))

def table_limits_j4 (x8 : Bool) : Option Int :=
    ift x8
      (some (7 : Int))
      (some (0 : Int))

def table_limits_j3 (x6 : Int) (x7 : Bool) : Option Int :=
    ift x7
      (table_limits_j4 true)
      (table_limits_j4 (decide ((4000 : Int) < x6)))

def table_limits_l1 (p1 : GMeta) : Nat → Int → Bool → Int → Option Int
  | 0, _, _, _ => none
  | k1 + 1, x2, x3, x4 =>
    ift (decide (x4 < (p1.snapshots.length : Int)))
      (bnd (at? p1.snapshots x4) fun e1 =>
       ift x3
         (table_limits_j2 (table_limits_l1 p1 k1) x2 x4 e1 true)
         (ift (decide ((400 : Int) < (e1.files.length : Int)))
            (table_limits_j2 (table_limits_l1 p1 k1) x2 x4 e1 true)
            (table_limits_j2 (table_limits_l1 p1 k1) x2 x4 e1 (decide ((400 : Int) < (e1.dby.length : Int))))))
      (table_limits_j3 x2 x3)

def table_limits_j1 (p1 : GMeta) (x1 : Bool) : Option Int :=
    table_limits_l1 p1 BIG (0 : Int) x1 (0 : Int)

def table_limits (p1 : GMeta) : Option Int :=
    ift (decide ((40 : Int) < (p1.schemas.length : Int)))
      (table_limits_j1 p1 true)
      (ift (decide ((40 : Int) < (p1.specs.length : Int)))
         (table_limits_j1 p1 true)
         (ift (decide ((200 : Int) < (p1.snapshots.length : Int)))
            (table_limits_j1 p1 true)
            (ift (decide ((40 : Int) < (p1.refs.length : Int)))
               (table_limits_j1 p1 true)
               (table_limits_j1 p1 (decide ((40 : Int) < (p1.props.length : Int)))))))


theorem c_table_limits (p1 : GMeta) : CT Tryz.prog 11 [.ag [cl (eL eField) p1.schemas, cl eSpec p1.specs, ci p1.nextField, ci p1.nextSeq, ci p1.nextSnap, ci p1.purges, cl eSnapshot p1.snapshots, cl eRef p1.refs, cl eProp p1.props]] (table_limits p1) vi :=
  uFn 70 [6] Tryz.f11 fun r => (uQ (kS Tryz.f11 [1,1,0] 1) fun K3 hK3 => have hJ1 : ∀ (x1 : Bool), table_limits_j1 p1 x1 = some r → K3.p [(1, .one (.pv (.rp [[.ro ((eL eField).els p1.schemas), .ro (eSpec.els p1.specs), pi p1.nextField, pi p1.nextSeq, pi p1.nextSnap, pi p1.purges, .ro (eSnapshot.els p1.snapshots), .ro (eRef.els p1.refs), .ro (eProp.els p1.props)]] 0 0))), (3, vi (0 : Int)), (4, vb x1)] [] := fun x1 h => hK3 h (uQ (kS Tryz.f11 [1,1,1,0] 1) fun K8 hK8 => have hJ3 : ∀ (x6 : Int) (x7 : Bool), table_limits_j3 x6 x7 = some r → K8.p [(3, vi x6), (4, vb x7)] [] := fun x6 x7 h => hK8 h (uQ (kS Tryz.f11 [1,1,1,1,0,0] 2) fun K21 hK21 => have hJ4 : ∀ (x8 : Bool), table_limits_j4 x8 = some r → K21.p [(69, vb x8)] [] := fun x8 h => hK21 h (uC (uR .ret xF) (uR .ret xF)); (uC (uJ (hJ4 true)) (uJ (hJ4 (decide ((4000 : Int) < x6)))))); (uN eSnapshot p1.snapshots (uO (cd Tryz.f11 [1,1,1,0,1,0,0]) (kS Tryz.f11 [1,1,1,0,1,0] 1) fun R1 b1 => have hL1 : ∀ (k1 : Nat) (x2 : Int) (x3 : Bool) (x4 : Int), table_limits_l1 p1 k1 x2 x3 x4 = some r → (R1 k1).p [(3, vi x2), (4, vb x3), (36, vl eSnapshot p1.snapshots), (37, vi (p1.snapshots.length : Int)), (38, vi x4)] [] := by intro k1; induction k1 with | zero => intro x2 x3 x4 h; exact uE0 (table_limits_l1.eq_1 ..) h | succ k1 ih1 => intro x2 x3 x4 h; exact b1 h (uU (table_limits_l1.eq_2 ..) (uC (uL eSnapshot fun e1 a15 => (uQ (kS Tryz.f11 [1,1,1,0,1,0,0,1,1,0,0,1,0] 3) fun K16 hK16 => have hJ2 : ∀ (x5 : Bool), table_limits_j2 (table_limits_l1 p1 k1) x2 x4 e1 x5 = some r → K16.p [(3, vi x2), (4, vb x5), (6, .one (.pt 0 0 0 0)), (36, vl eSnapshot p1.snapshots), (37, vi (p1.snapshots.length : Int)), (38, vi x4)] [.box [ci e1.id, ci e1.parent, ci e1.seq, ci e1.schema, ci e1.time, ci e1.kind, cl eDataFile e1.files, cl eDeleteAt e1.dat, cl eDeleteBy e1.dby]] := fun x5 h => hK16 h (uN eDataFile e1.files (uN eDeleteBy e1.dby (uY 63 vi fun y1 => (uJ (ih1 y1 x5 (IntKind.i64.wrap (x4 + (1 : Int)))))))); (uC (uJ (hJ2 true)) (uN eDataFile e1.files (uC (uJ (hJ2 true)) (uN eDeleteBy e1.dby (uJ (hJ2 (decide ((400 : Int) < (e1.dby.length : Int))))))))))) (uR (.exit 0) (xM (uJ (hJ3 x2 x3))))))
 uE (hL1 BIG (0 : Int) x1 (0 : Int))))); (uN (eL eField) p1.schemas (uC (uJ (hJ1 true)) (uN eSpec p1.specs (uC (uJ (hJ1 true)) (uN eSnapshot p1.snapshots (uC (uJ (hJ1 true)) (uN eRef p1.refs (uC (uJ (hJ1 true)) (uN eProp p1.props (uJ (hJ1 (decide ((40 : Int) < (p1.props.length : Int)))))))))))))))

def table_within_j1 (x1 : Bool) : Option Bool :=
    some x1

def table_within (p1 : Int) (p2 : Int) (p3 : Int) : Option Bool :=
    ift (decide (p2 ≤ p1))
      (table_within_j1 (decide (p1 ≤ p3)))
      (table_within_j1 false)


theorem c_table_within (p1 : Int) (p2 : Int) (p3 : Int) : CT Tryz.prog 12 [vi p1, vi p2, vi p3] (table_within p1 p2 p3) vb :=
  uFn 15 [] Tryz.f12 fun r => (uQ (kS Tryz.f12 [1,0] 1) fun K2 hK2 => have hJ1 : ∀ (x1 : Bool), table_within_j1 x1 = some r → K2.p [(6, vb x1)] [] := fun x1 h => hK2 h (uR .ret xF); (uC (uJ (hJ1 (decide (p1 ≤ p3)))) (uJ (hJ1 false))))

def value_CheckSchema_1 (p1 : GField) (p2 : (List (Int × Int))) : Option (Int × (List (Int × Int))) :=
    ift (decide (p1.id < (1 : Int)))
      (some ((3 : Int), p2))
      (bnd (some ((mget (kInt .i64) p2 p1.id).getD (0 : Int))) fun x1 =>
       bnd (some ((mget (kInt .i64) (mset (kInt .i64) p2 p1.id (IntKind.i64.wrap (x1 + (1 : Int)))) p1.id).getD (0 : Int))) fun x2 =>
       ift (decide ((1 : Int) < x2))
         (some ((5 : Int), (mset (kInt .i64) p2 p1.id (IntKind.i64.wrap (x1 + (1 : Int))))))
         (some ((0 : Int), (mset (kInt .i64) p2 p1.id (IntKind.i64.wrap (x1 + (1 : Int)))))))


theorem c_value_CheckSchema_1 (p1 : GField) (p2 : (List (Int × Int))) : CM Tryz.prog 76 [.ag [ci p1.id, cst p1.name, cb p1.need, ci p1.type.kind, ci p1.type.scale, cl eField p1.type.fields], .one (.pt 0 0 0 0)] [.box [.mp 1], mapB (kInt .i64) eI false p2] (value_CheckSchema_1 p1 p2) (fun r => vi r.1) (fun r => [.box [.mp 1], mapB (kInt .i64) eI false r.2]) :=
  uFnM 2 17 [] Tryz.f76 fun r => (uC (uR .ret xFM) (uMl (kInt .i64) eI false 1 (0 : Int) 3 3 false fun x1 _ => (uMu (kInt .i64) eI false 1 (m := p2) (k0 := p1.id) (u := (IntKind.i64.wrap (x1 + (1 : Int)))) 3 (uMl (kInt .i64) eI false 1 (0 : Int) 3 3 false fun x2 _ => (uC (uR .ret xFM) (uR .ret xFM))))))

def value_Walk_of_value_CheckSchema_1_j1 (z2 : (List (Int × Int))) : Option (Int × (List (Int × Int))) :=
    some ((0 : Int), z2)

def value_Walk_of_value_CheckSchema_1_l1 (q_value_Walk_of_value_CheckSchema_1 : (List GField) → (List (Int × Int)) → Option (Int × (List (Int × Int)))) (p1 : (List GField)) : Nat → (List (Int × Int)) → Int → Option (Int × (List (Int × Int)))
  | 0, _, _ => none
  | k1 + 1, z1, x1 =>
    ift (decide (x1 < (p1.length : Int)))
      (bnd (at? p1 x1) fun e1 =>
       bnd (value_CheckSchema_1 e1 z1) fun r1 =>
       ift (r1.1 != (0 : Int))
         (some (r1.1, r1.2))
         (bnd (q_value_Walk_of_value_CheckSchema_1 e1.type.fields r1.2) fun r2 =>
          ift (r2.1 != (0 : Int))
            (some (r2.1, r2.2))
            ((value_Walk_of_value_CheckSchema_1_l1 q_value_Walk_of_value_CheckSchema_1 p1 k1) r2.2 (IntKind.i64.wrap (x1 + (1 : Int))))))
      (value_Walk_of_value_CheckSchema_1_j1 z1)

def value_Walk_of_value_CheckSchema_1 : Nat → (List GField) → (List (Int × Int)) → Option (Int × (List (Int × Int)))
  | 0, _, _ => none
  | k0 + 1, p1, p2 =>
    value_Walk_of_value_CheckSchema_1_l1 (value_Walk_of_value_CheckSchema_1 k0) p1 BIG p2 (0 : Int)


theorem c_value_Walk_of_value_CheckSchema_1 : ∀ (k0 : Nat) (p1 : (List GField)) (p2 : (List (Int × Int))), CM Tryz.prog 43 [vl eField p1, .one (.fn 76 [.pt 0 0 0 0])] [.box [.mp 1], mapB (kInt .i64) eI false p2] (value_Walk_of_value_CheckSchema_1 k0 p1 p2) (fun r => vi r.1) (fun r => [.box [.mp 1], mapB (kInt .i64) eI false r.2])
  | 0, _, _ => uM0 (value_Walk_of_value_CheckSchema_1.eq_1 ..)
  | k0 + 1, p1, p2 => uFnM 2 30 [6] Tryz.f43 fun r => (uU (value_Walk_of_value_CheckSchema_1.eq_2 ..) (uQ (kS Tryz.f43 [1,0] 1) fun K2 hK2 => have hJ1 : ∀ (z2 : (List (Int × Int))), value_Walk_of_value_CheckSchema_1_j1 z2 = some r → K2.p [] [.box [.mp 1], mapB (kInt .i64) eI false z2] := fun z2 h => hK2 h (uR .ret xFM); (uN eField p1 (uO (cd Tryz.f43 [1,0,1,0,0]) (kS Tryz.f43 [1,0,1,0] 1) fun R1 b1 => have hL1 : ∀ (k1 : Nat) (z1 : (List (Int × Int))) (x1 : Int), value_Walk_of_value_CheckSchema_1_l1 (value_Walk_of_value_CheckSchema_1 k0) p1 k1 z1 x1 = some r → (R1 k1).p [(1, .one (.fn 76 [.pt 0 0 0 0])), (9, vl eField p1), (10, vi (p1.length : Int)), (11, vi x1)] [.box [.mp 1], mapB (kInt .i64) eI false z1] := by intro k1; induction k1 with | zero => intro z1 x1 h; exact uE0 (value_Walk_of_value_CheckSchema_1_l1.eq_1 ..) h | succ k1 ih1 => intro z1 x1 h; exact b1 h (uU (value_Walk_of_value_CheckSchema_1_l1.eq_2 ..) (uC (uL eField fun e1 a9 => (uMc true [0,1] (c_value_CheckSchema_1 _ _) fun r1 _ => (uC (uR .ret (xN (xN xFM))) (uMc true [0,1] (c_value_Walk_of_value_CheckSchema_1 k0 _ _) fun r2 _ => (uC (uR .ret (xN (xN xFM))) (uJ (ih1 r2.2 (IntKind.i64.wrap (x1 + (1 : Int)))))))))) (uR (.exit 0) (xM (uJ (hJ1 z1))))))
 uE (hL1 BIG p2 (0 : Int))))))

def value_CheckSchema (p1 : (List GField)) : Option Int :=
    bnd (value_CheckType (GType.mk (7 : Int) (0 : Int) p1)) fun r1 =>
    ift (r1 != (0 : Int))
      (some r1)
      (bnd (value_Walk_of_value_CheckSchema_1 BIG p1 []) fun r2 =>
       some r2.1)


theorem c_value_CheckSchema (p1 : (List GField)) : CT Tryz.prog 42 [vl eField p1] (value_CheckSchema p1) vi :=
  uFn 15 [4] Tryz.f42 fun r => (uP (c_value_CheckType _) fun r1 _ => (uC (uR .ret xF) (uMm (kInt .i64) eI false (uMc true [1,0] (c_value_Walk_of_value_CheckSchema_1 BIG _ _) fun r2 _ => (uR .ret xF)))))

def table_schemas_1_s (p1 : GField) (p2 : (List (List GField))) (p3 : (List GSpec)) (p4 : Int) (p5 : Int) (p6 : Int) (p7 : Int) (p8 : (List GSnapshot)) (p9 : (List GRef)) (p10 : (List GProp)) : Option Int :=
    ift (decide (p4 ≤ p1.id))
      (some (3 : Int))
      (some (0 : Int))


theorem c_table_schemas_1_s (p1 : GField) (p2 : (List (List GField))) (p3 : (List GSpec)) (p4 : Int) (p5 : Int) (p6 : Int) (p7 : Int) (p8 : (List GSnapshot)) (p9 : (List GRef)) (p10 : (List GProp)) : CT Tryz.prog 44 [.ag [ci p1.id, cst p1.name, cb p1.need, ci p1.type.kind, ci p1.type.scale, cl eField p1.type.fields], .one (.pv (.rp [[.ro ((eL eField).els p2), .ro (eSpec.els p3), pi p4, pi p5, pi p6, pi p7, .ro (eSnapshot.els p8), .ro (eRef.els p9), .ro (eProp.els p10)]] 0 0))] (table_schemas_1_s p1 p2 p3 p4 p5 p6 p7 p8 p9 p10) vi :=
  uFn 9 [] Tryz.f44 fun r => (uC (uR .ret xF) (uR .ret xF))

def value_Walk_of_table_schemas_1_j1 : Option Int :=
    some (0 : Int)

def value_Walk_of_table_schemas_1_l1 (q_value_Walk_of_table_schemas_1 : (List GField) → (List (List GField)) → (List GSpec) → Int → Int → Int → Int → (List GSnapshot) → (List GRef) → (List GProp) → Option Int) (p1 : (List GField)) (p2 : (List (List GField))) (p3 : (List GSpec)) (p4 : Int) (p5 : Int) (p6 : Int) (p7 : Int) (p8 : (List GSnapshot)) (p9 : (List GRef)) (p10 : (List GProp)) : Nat → Int → Option Int
  | 0, _ => none
  | k1 + 1, x1 =>
    ift (decide (x1 < (p1.length : Int)))
      (bnd (at? p1 x1) fun e1 =>
       bnd (table_schemas_1_s e1 p2 p3 p4 p5 p6 p7 p8 p9 p10) fun r1 =>
       ift (r1 != (0 : Int))
         (some r1)
         (bnd (q_value_Walk_of_table_schemas_1 e1.type.fields p2 p3 p4 p5 p6 p7 p8 p9 p10) fun r2 =>
          ift (r2 != (0 : Int))
            (some r2)
            ((value_Walk_of_table_schemas_1_l1 q_value_Walk_of_table_schemas_1 p1 p2 p3 p4 p5 p6 p7 p8 p9 p10 k1) (IntKind.i64.wrap (x1 + (1 : Int))))))
      (value_Walk_of_table_schemas_1_j1)

def value_Walk_of_table_schemas_1 : Nat → (List GField) → (List (List GField)) → (List GSpec) → Int → Int → Int → Int → (List GSnapshot) → (List GRef) → (List GProp) → Option Int
  | 0, _, _, _, _, _, _, _, _, _, _ => none
  | k0 + 1, p1, p2, p3, p4, p5, p6, p7, p8, p9, p10 =>
    value_Walk_of_table_schemas_1_l1 (value_Walk_of_table_schemas_1 k0) p1 p2 p3 p4 p5 p6 p7 p8 p9 p10 BIG (0 : Int)


theorem c_value_Walk_of_table_schemas_1 : ∀ (k0 : Nat) (p1 : (List GField)) (p2 : (List (List GField))) (p3 : (List GSpec)) (p4 : Int) (p5 : Int) (p6 : Int) (p7 : Int) (p8 : (List GSnapshot)) (p9 : (List GRef)) (p10 : (List GProp)), CT Tryz.prog 43 [vl eField p1, .one (.fn 44 [.pv (.rp [[.ro ((eL eField).els p2), .ro (eSpec.els p3), pi p4, pi p5, pi p6, pi p7, .ro (eSnapshot.els p8), .ro (eRef.els p9), .ro (eProp.els p10)]] 0 0)])] (value_Walk_of_table_schemas_1 k0 p1 p2 p3 p4 p5 p6 p7 p8 p9 p10) vi
  | 0, _, _, _, _, _, _, _, _, _, _ => uF0 (value_Walk_of_table_schemas_1.eq_1 ..)
  | k0 + 1, p1, p2, p3, p4, p5, p6, p7, p8, p9, p10 => uFn 30 [6] Tryz.f43 fun r => (uU (value_Walk_of_table_schemas_1.eq_2 ..) (uQ (kS Tryz.f43 [1,0] 1) fun K2 hK2 => have hJ1 : ∀ (_ : Unit), value_Walk_of_table_schemas_1_j1 = some r → K2.p [] [] := fun _ h => hK2 h (uR .ret xF); (uN eField p1 (uO (cd Tryz.f43 [1,0,1,0,0]) (kS Tryz.f43 [1,0,1,0] 1) fun R1 b1 => have hL1 : ∀ (k1 : Nat) (x1 : Int), value_Walk_of_table_schemas_1_l1 (value_Walk_of_table_schemas_1 k0) p1 p2 p3 p4 p5 p6 p7 p8 p9 p10 k1 x1 = some r → (R1 k1).p [(1, .one (.fn 44 [.pv (.rp [[.ro ((eL eField).els p2), .ro (eSpec.els p3), pi p4, pi p5, pi p6, pi p7, .ro (eSnapshot.els p8), .ro (eRef.els p9), .ro (eProp.els p10)]] 0 0)])), (9, vl eField p1), (10, vi (p1.length : Int)), (11, vi x1)] [] := by intro k1; induction k1 with | zero => intro x1 h; exact uE0 (value_Walk_of_table_schemas_1_l1.eq_1 ..) h | succ k1 ih1 => intro x1 h; exact b1 h (uU (value_Walk_of_table_schemas_1_l1.eq_2 ..) (uC (uL eField fun e1 a9 => (uP (c_table_schemas_1_s _ _ _ _ _ _ _ _ _ _) fun r1 _ => (uC (uR .ret (xN (xN xF))) (uP (c_value_Walk_of_table_schemas_1 k0 _ _ _ _ _ _ _ _ _ _) fun r2 _ => (uC (uR .ret (xN (xN xF))) (uJ (ih1 (IntKind.i64.wrap (x1 + (1 : Int)))))))))) (uR (.exit 0) (xM (uJ (hJ1 ()))))))
 uE (hL1 BIG (0 : Int))))))

def column_CheckRows_of_k (p1 : (List GField)) : Option Int :=
    bnd (value_CheckSchema p1) fun r1 =>
    ift (r1 != (0 : Int))
      (some r1)
      (some (0 : Int))


theorem c_column_CheckRows_of_k (p1 : (List GField)) : CT Tryz.prog 77 [vl eField p1, .one (.pv (.s (.slice none 0 0)))] (column_CheckRows_of_k p1) vi :=
  uFn 59 [] Tryz.f77 fun r => (uP (c_value_CheckSchema _) fun r1 _ => (uC (uR .ret xF) (uF (uOk 0 (uF (uR .ret xF))))))

def column_earlier_1_s (p1 : GField) (p2 : Int) : Option Bool :=
    some (p1.id == p2)


theorem c_column_earlier_1_s (p1 : GField) (p2 : Int) : CT Tryz.prog 156 [.ag [ci p1.id, cst p1.name, cb p1.need, ci p1.type.kind, ci p1.type.scale, cl eField p1.type.fields], .one (.pv (.rp [[pi p2]] 0 0))] (column_earlier_1_s p1 p2) vb :=
  uFn 8 [] Tryz.f156 fun r => (uR .ret xF)

def slices_IndexFunc_api_Field_api_Field_of_column_earlier_1_j1 : Option Int :=
    some (-1 : Int)

def slices_IndexFunc_api_Field_api_Field_of_column_earlier_1_l1 (p1 : (List GField)) (p2 : Int) : Nat → Int → Option Int
  | 0, _ => none
  | k1 + 1, x1 =>
    ift (decide (x1 < (p1.length : Int)))
      (bnd (at? p1 x1) fun e1 =>
       bnd (column_earlier_1_s e1 p2) fun r1 =>
       ift r1
         (some x1)
         ((slices_IndexFunc_api_Field_api_Field_of_column_earlier_1_l1 p1 p2 k1) (IntKind.i64.wrap (x1 + (1 : Int)))))
      (slices_IndexFunc_api_Field_api_Field_of_column_earlier_1_j1)

def slices_IndexFunc_api_Field_api_Field_of_column_earlier_1 (p1 : (List GField)) (p2 : Int) : Option Int :=
    slices_IndexFunc_api_Field_api_Field_of_column_earlier_1_l1 p1 p2 BIG (0 : Int)


theorem c_slices_IndexFunc_api_Field_api_Field_of_column_earlier_1 (p1 : (List GField)) (p2 : Int) : CT Tryz.prog 81 [vl eField p1, .one (.fn 156 [.pv (.rp [[pi p2]] 0 0)])] (slices_IndexFunc_api_Field_api_Field_of_column_earlier_1 p1 p2) vi :=
  uFn 19 [] Tryz.f81 fun r => (uQ (kS Tryz.f81 [1,0] 1) fun K2 hK2 => have hJ1 : ∀ (_ : Unit), slices_IndexFunc_api_Field_api_Field_of_column_earlier_1_j1 = some r → K2.p [] [] := fun _ h => hK2 h (uR .ret xF); (uN eField p1 (uO (cd Tryz.f81 [1,0,1,0,0]) (kS Tryz.f81 [1,0,1,0] 1) fun R1 b1 => have hL1 : ∀ (k1 : Nat) (x1 : Int), slices_IndexFunc_api_Field_api_Field_of_column_earlier_1_l1 p1 p2 k1 x1 = some r → (R1 k1).p [(0, vl eField p1), (1, .one (.fn 156 [.pv (.rp [[pi p2]] 0 0)])), (7, vi (p1.length : Int)), (8, vi x1)] [] := by intro k1; induction k1 with | zero => intro x1 h; exact uE0 (slices_IndexFunc_api_Field_api_Field_of_column_earlier_1_l1.eq_1 ..) h | succ k1 ih1 => intro x1 h; exact b1 h (uU (slices_IndexFunc_api_Field_api_Field_of_column_earlier_1_l1.eq_2 ..) (uC (uL eField fun e1 a10 => (uP (c_column_earlier_1_s _ _) fun r1 _ => (uC (uR .ret (xN (xN xF))) (uJ (ih1 (IntKind.i64.wrap (x1 + (1 : Int)))))))) (uR (.exit 0) (xM (uJ (hJ1 ()))))))
 uE (hL1 BIG (0 : Int)))))

def column_earlier (p1 : (List GField)) (p2 : Int) : Option Int :=
    bnd (slices_IndexFunc_api_Field_api_Field_of_column_earlier_1 p1 p2) fun r1 =>
    some r1


theorem c_column_earlier (p1 : (List GField)) (p2 : Int) : CT Tryz.prog 117 [vl eField p1, vi p2] (column_earlier p1 p2) vi :=
  uFn 8 [] Tryz.f117 fun r => (uP (c_slices_IndexFunc_api_Field_api_Field_of_column_earlier_1 _ _) fun r1 _ => (uR .ret xF))

def column_grouped_j1 (x1 : Bool) : Option Bool :=
    some x1

def column_grouped (p1 : GType) : Option Bool :=
    ift (p1.kind == (6 : Int))
      (column_grouped_j1 true)
      (column_grouped_j1 (p1.kind == (7 : Int)))


theorem c_column_grouped (p1 : GType) : CT Tryz.prog 118 [.ag [ci p1.kind, ci p1.scale, cl eField p1.fields]] (column_grouped p1) vb :=
  uFn 11 [] Tryz.f118 fun r => (uQ (kS Tryz.f118 [1,0] 1) fun K2 hK2 => have hJ1 : ∀ (x1 : Bool), column_grouped_j1 x1 = some r → K2.p [(2, vb x1)] [] := fun x1 h => hK2 h (uR .ret xF); (uC (uJ (hJ1 true)) (uJ (hJ1 (p1.kind == (7 : Int))))))

def column_leafType_j1 (x1 : Bool) : Option Int :=
    ift x1
      (some (2 : Int))
      (some (0 : Int))

def column_leafType (p1 : GType) : Option Int :=
    bnd (value_CheckType p1) fun r1 =>
    ift (r1 != (0 : Int))
      (some r1)
      (ift (p1.kind == (6 : Int))
         (column_leafType_j1 true)
         (column_leafType_j1 (p1.kind == (7 : Int))))


theorem c_column_leafType (p1 : GType) : CT Tryz.prog 157 [.ag [ci p1.kind, ci p1.scale, cl eField p1.fields]] (column_leafType p1) vi :=
  uFn 17 [] Tryz.f157 fun r => (uP (c_value_CheckType _) fun r1 _ => (uC (uR .ret xF) (uQ (kS Tryz.f157 [1,1,0,0] 2) fun K9 hK9 => have hJ1 : ∀ (x1 : Bool), column_leafType_j1 x1 = some r → K9.p [(16, vb x1)] [] := fun x1 h => hK9 h (uC (uR .ret xF) (uR .ret xF)); (uC (uJ (hJ1 true)) (uJ (hJ1 (p1.kind == (7 : Int))))))))

def column_Widens_j4 (x4 : Bool) : Option Bool :=
    some x4

def column_Widens_j3 (p1 : GType) (p2 : GType) (x3 : Bool) : Option Bool :=
    ift x3
      (some true)
      (ift (p1.kind == (1 : Int))
         (ift (p2.kind == (3 : Int))
            (column_Widens_j4 (p2.scale == (0 : Int)))
            (column_Widens_j4 false))
         (ift (p1.kind == (2 : Int))
            (ift (p2.kind == (3 : Int))
               (column_Widens_j4 (p2.scale == (0 : Int)))
               (column_Widens_j4 false))
            (column_Widens_j4 false)))

def column_Widens_j2 (p1 : GType) (p2 : GType) (x2 : Bool) : Option Bool :=
    ift x2
      (some true)
      (ift (p1.kind == (1 : Int))
         (column_Widens_j3 p1 p2 (p2.kind == (2 : Int)))
         (column_Widens_j3 p1 p2 false))

def column_Widens_j1 (p1 : GType) (p2 : GType) (x1 : Bool) : Option Bool :=
    ift x1
      (some false)
      (ift (p1.kind == p2.kind)
         (column_Widens_j2 p1 p2 (p1.scale == p2.scale))
         (column_Widens_j2 p1 p2 false))

def column_Widens (p1 : GType) (p2 : GType) : Option Bool :=
    bnd (column_leafType p1) fun r1 =>
    ift (r1 != (0 : Int))
      (column_Widens_j1 p1 p2 true)
      (bnd (column_leafType p2) fun r2 =>
       column_Widens_j1 p1 p2 (r2 != (0 : Int)))

abbrev qa943 (p1 : GType) : List PV := [pi p1.kind, pi p1.scale, .ro (eField.els p1.fields)]
abbrev qa944 (p2 : GType) : List PV := [pi p2.kind, pi p2.scale, .ro (eField.els p2.fields)]

theorem c_column_Widens (p1 : GType) (p2 : GType) : CT Tryz.prog 119 [.ag [ci p1.kind, ci p1.scale, cl eField p1.fields], .ag [ci p2.kind, ci p2.scale, cl eField p2.fields]] (column_Widens p1 p2) vb :=
  uFn 53 [] Tryz.f119 fun r => (uQ (kS Tryz.f119 [1,0,0] 2) fun K3 hK3 => have hJ1 : ∀ (x1 : Bool), column_Widens_j1 p1 p2 x1 = some r → K3.p [(2, .one (.pv (.rp [(qa943 p1)] 0 0))), (3, .one (.pv (.rp [(qa944 p2)] 0 0))), (12, vb x1)] [] := fun x1 h => hK3 h (uC (uR .ret xF) (uQ (kS Tryz.f119 [1,1,0,0,0] 3) fun K10 hK10 => have hJ2 : ∀ (x2 : Bool), column_Widens_j2 p1 p2 x2 = some r → K10.p [(2, .one (.pv (.rp [(qa943 p1)] 0 0))), (3, .one (.pv (.rp [(qa944 p2)] 0 0))), (13, vb x2)] [] := fun x2 h => hK10 h (uC (uR .ret xF) (uQ (kS Tryz.f119 [1,1,0,0,1,1,0] 3) fun K14 hK14 => have hJ3 : ∀ (x3 : Bool), column_Widens_j3 p1 p2 x3 = some r → K14.p [(2, .one (.pv (.rp [(qa943 p1)] 0 0))), (3, .one (.pv (.rp [(qa944 p2)] 0 0))), (26, vb x3)] [] := fun x3 h => hK14 h (uC (uR .ret xF) (uQ (kS Tryz.f119 [1,1,1,0] 1) fun K18 hK18 => have hJ4 : ∀ (x4 : Bool), column_Widens_j4 x4 = some r → K18.p [(4, vb x4)] [] := fun x4 h => hK18 h (uR .ret xF); (uC (uC (uJ (hJ4 (p2.scale == (0 : Int)))) (uJ (hJ4 false))) (uC (uC (uJ (hJ4 (p2.scale == (0 : Int)))) (uJ (hJ4 false))) (uJ (hJ4 false)))))); (uC (uJ (hJ3 (p2.kind == (2 : Int)))) (uJ (hJ3 false))))); (uC (uJ (hJ2 (p1.scale == p2.scale))) (uJ (hJ2 false))))); (uP (c_column_leafType _) fun r1 _ => (uC (uJ (hJ1 true)) (uP (c_column_leafType _) fun r2 _ => (uJ (hJ1 (r2 != (0 : Int))))))))

def column_adaptable_j4 (rec1 : Int → Option Int) (x1 : Int) : Option Int :=
    rec1 (IntKind.i64.wrap (x1 + (1 : Int)))

def column_adaptable_j3 (q_column_adaptable : (List GField) → (List GField) → Option Int) (rec1 : Int → Option Int) (x1 : Int) (e1 : GField) (e2 : GField) (x4 : Bool) : Option Int :=
    ift x4
      (some (2 : Int))
      (bnd (q_column_adaptable e2.type.fields e1.type.fields) fun r5 =>
       ift (r5 != (0 : Int))
         (some r5)
         (column_adaptable_j4 rec1 x1))

def column_adaptable_j2 (q_column_adaptable : (List GField) → (List GField) → Option Int) (rec1 : Int → Option Int) (x1 : Int) (e1 : GField) (e2 : GField) (x3 : Bool) : Option Int :=
    ift x3
      (column_adaptable_j3 q_column_adaptable rec1 x1 e1 e2 x3)
      (bnd (column_grouped e2.type) fun r3 =>
       ift (!r3)
         (bnd (column_Widens e2.type e1.type) fun r4 =>
          column_adaptable_j3 q_column_adaptable rec1 x1 e1 e2 (!r4))
         (column_adaptable_j3 q_column_adaptable rec1 x1 e1 e2 false))

def column_adaptable_j1 (q_column_adaptable : (List GField) → (List GField) → Option Int) (rec1 : Int → Option Int) (x1 : Int) (e1 : GField) (e2 : GField) (x2 : Bool) : Option Int :=
    ift x2
      (some (9 : Int))
      (bnd (column_grouped e2.type) fun r2 =>
       ift r2
         (column_adaptable_j2 q_column_adaptable rec1 x1 e1 e2 (e1.type.kind != e2.type.kind))
         (column_adaptable_j2 q_column_adaptable rec1 x1 e1 e2 false))

def column_adaptable_j5 : Option Int :=
    some (0 : Int)

def column_adaptable_l1 (q_column_adaptable : (List GField) → (List GField) → Option Int) (p1 : (List GField)) (p2 : (List GField)) : Nat → Int → Option Int
  | 0, _ => none
  | k1 + 1, x1 =>
    ift (decide (x1 < (p2.length : Int)))
      (bnd (at? p2 x1) fun e1 =>
       bnd (column_earlier p1 e1.id) fun r1 =>
       ift (decide (r1 < (0 : Int)))
         (ift e1.need
            (some (9 : Int))
            (column_adaptable_j4 (column_adaptable_l1 q_column_adaptable p1 p2 k1) x1))
         (bnd (at? p1 r1) fun e2 =>
          ift e1.need
            (column_adaptable_j1 q_column_adaptable (column_adaptable_l1 q_column_adaptable p1 p2 k1) x1 e1 e2 (!e2.need))
            (column_adaptable_j1 q_column_adaptable (column_adaptable_l1 q_column_adaptable p1 p2 k1) x1 e1 e2 false)))
      (column_adaptable_j5)

def column_adaptable : Nat → (List GField) → (List GField) → Option Int
  | 0, _, _ => none
  | k0 + 1, p1, p2 =>
    column_adaptable_l1 (column_adaptable k0) p1 p2 BIG (0 : Int)

abbrev qa951 (e1 : GField) : List CV := [ci e1.id, cst e1.name, cb e1.need, ci e1.type.kind, ci e1.type.scale, cl eField e1.type.fields]
abbrev qa952 (e2 : GField) : List CV := [ci e2.id, cst e2.name, cb e2.need, ci e2.type.kind, ci e2.type.scale, cl eField e2.type.fields]

theorem c_column_adaptable : ∀ (k0 : Nat) (p1 : (List GField)) (p2 : (List GField)), CT Tryz.prog 78 [vl eField p1, vl eField p2] (column_adaptable k0 p1 p2) vi
  | 0, _, _ => uF0 (column_adaptable.eq_1 ..)
  | k0 + 1, p1, p2 => uFn 72 [6, 8] Tryz.f78 fun r => (uU (column_adaptable.eq_2 ..) (uQ (kS Tryz.f78 [1,0] 1) fun K2 hK2 => have hJ5 : ∀ (_ : Unit), column_adaptable_j5 = some r → K2.p [] [] := fun _ h => hK2 h (uR .ret xF); (uN eField p2 (uO (cd Tryz.f78 [1,0,1,0,0]) (kS Tryz.f78 [1,0,1,0] 1) fun R1 b1 => have hL1 : ∀ (k1 : Nat) (x1 : Int), column_adaptable_l1 (column_adaptable k0) p1 p2 k1 x1 = some r → (R1 k1).p [(0, vl eField p1), (10, vl eField p2), (11, vi (p2.length : Int)), (12, vi x1)] [] := by intro k1; induction k1 with | zero => intro x1 h; exact uE0 (column_adaptable_l1.eq_1 ..) h | succ k1 ih1 => intro x1 h; exact b1 h (uU (column_adaptable_l1.eq_2 ..) (uC (uQ (kS Tryz.f78 [1,0,1,0,0,1,1,0] 1) fun K7 hK7 => have hJ4 : ∀ (_ : Unit), column_adaptable_j4 (column_adaptable_l1 (column_adaptable k0) p1 p2 k1) x1 = some r → K7.p [(0, vl eField p1), (10, vl eField p2), (11, vi (p2.length : Int)), (12, vi x1)] [] := fun _ h => hK7 h (uJ (ih1 (IntKind.i64.wrap (x1 + (1 : Int))))); (uL eField fun e1 a9 => (uP (c_column_earlier _ _) fun r1 _ => (uC (uC (uR .ret (xN (xN (xN xF)))) (uJ (hJ4 ()))) (uL eField fun e2 a20 => (uQ (kS Tryz.f78 [1,0,1,0,0,1,1,0,0,1,1,1,1,0,0,0] 4) fun K22 hK22 => have hJ1 : ∀ (x2 : Bool), column_adaptable_j1 (column_adaptable k0) (column_adaptable_l1 (column_adaptable k0) p1 p2 k1) x1 e1 e2 x2 = some r → K22.p [(0, vl eField p1), (6, .one (.pt 0 0 0 0)), (8, .one (.pt 1 0 0 0)), (10, vl eField p2), (11, vi (p2.length : Int)), (12, vi x1), (28, vb x2)] [.box (qa951 e1), .box (qa952 e2)] := fun x2 h => hK22 h (uC (uR .ret (xN (xN (xN xF)))) (uQ (kS Tryz.f78 [1,0,1,0,0,1,1,0,0,1,1,1,1,0,0,1,1,0] 4) fun K26 hK26 => have hJ3 : ∀ (x4 : Bool), column_adaptable_j3 (column_adaptable k0) (column_adaptable_l1 (column_adaptable k0) p1 p2 k1) x1 e1 e2 x4 = some r → K26.p [(0, vl eField p1), (6, .one (.pt 0 0 0 0)), (8, .one (.pt 1 0 0 0)), (10, vl eField p2), (11, vi (p2.length : Int)), (12, vi x1), (36, vb x4)] [.box (qa951 e1), .box (qa952 e2)] := fun x4 h => hK26 h (uC (uR .ret (xN (xN (xN xF)))) (uP (c_column_adaptable k0 _ _) fun r5 _ => (uC (uR .ret (xN (xN (xN xF)))) (uJ (hJ4 ()))))); (uQ (kS Tryz.f78 [1,0,1,0,0,1,1,0,0,1,1,1,1,0,0,1,1,0,0] 1) fun K27 hK27 => have hJ2 : ∀ (x3 : Bool), column_adaptable_j2 (column_adaptable k0) (column_adaptable_l1 (column_adaptable k0) p1 p2 k1) x1 e1 e2 x3 = some r → K27.p [(0, vl eField p1), (6, .one (.pt 0 0 0 0)), (8, .one (.pt 1 0 0 0)), (10, vl eField p2), (11, vi (p2.length : Int)), (12, vi x1), (36, vb x3)] [.box (qa951 e1), .box (qa952 e2)] := fun x3 h => hK27 h (uC (uJ (hJ3 x3)) (uP (c_column_grouped _) fun r3 _ => (uC (uP (c_column_Widens _ _) fun r4 _ => (uJ (hJ3 (!r4)))) (uJ (hJ3 false))))); (uP (c_column_grouped _) fun r2 _ => (uC (uJ (hJ2 (e1.type.kind != e2.type.kind))) (uJ (hJ2 false))))))); (uC (uJ (hJ1 (!e2.need))) (uJ (hJ1 false))))))))) (uR (.exit 0) (xM (uJ (hJ5 ()))))))
 uE (hL1 BIG (0 : Int))))))

def slices_Clip_api_Value_api_Value (p1 : (List (List GValue))) : Option (List (List GValue)) :=
    grd (0 ≤ (0 : Int) ∧ (0 : Int) ≤ (p1.length : Int) ∧ (p1.length : Int) ≤ (p1.length : Int) ∧ (p1.length : Int) ≤ (p1.length : Int)) <|
    some ((p1.drop (0 : Int).toNat).take ((p1.length : Int).toNat - (0 : Int).toNat))


theorem c_slices_Clip_api_Value_api_Value (p1 : (List (List GValue))) : CT Tryz.prog 80 [vl (eL eValue) p1] (slices_Clip_api_Value_api_Value p1) (fun r => vl (eL eValue) r) :=
  uFn 9 [] Tryz.f80 fun r => (uN (eL eValue) p1 (uN (eL eValue) p1 (uXm (eL eValue) (uR .ret xF))))

def column_Adapt_of_k (p1 : (List GField)) (p2 : (List GField)) : Option ((List (List GValue)) × Int) :=
    bnd (column_CheckRows_of_k p1) fun r1 =>
    ift (r1 != (0 : Int))
      (some ([], r1))
      (bnd (value_CheckSchema p2) fun r2 =>
       ift (r2 != (0 : Int))
         (some ([], r2))
         (bnd (column_adaptable BIG p1 p2) fun r3 =>
          ift (r3 != (0 : Int))
            (some ([], r3))
            (bnd (slices_Clip_api_Value_api_Value []) fun r4 =>
             some (r4, (0 : Int)))))


theorem c_column_Adapt_of_k (p1 : (List GField)) (p2 : (List GField)) : CT Tryz.prog 45 [vl eField p1, vl eField p2, .one (.pv (.s (.slice none 0 0)))] (column_Adapt_of_k p1 p2) (fun r => .tp [vl (eL eValue) r.1, vi r.2]) :=
  uFn 47 [] Tryz.f45 fun r => (uPn (c_column_CheckRows_of_k _) fun r1 _ => (uC (uR .ret xF) (uP (c_value_CheckSchema _) fun r2 _ => (uC (uR .ret xF) (uP (c_column_adaptable BIG _ _) fun r3 _ => (uC (uR .ret xF) (uOk 0 (uF (uP (c_slices_Clip_api_Value_api_Value _) fun r4 _ => (uR .ret xF))))))))))

def table_schemas_j1 (rec1 : Int → Option Int) (x1 : Int) : Option Int :=
    rec1 (IntKind.i64.wrap (x1 + (1 : Int)))

def table_schemas_l2 (rec1 : Int → Option Int) (p1 : GMeta) (x1 : Int) (e1 : (List GField)) : Nat → Int → Option Int
  | 0, _ => none
  | k2 + 1, x2 =>
    bnd (some (decide (x2 < (((p1.schemas.drop (0 : Int).toNat).take (x1.toNat - (0 : Int).toNat)).length : Int)))) fun y1 =>
    ift y1
      (bnd (at? ((p1.schemas.drop (0 : Int).toNat).take (x1.toNat - (0 : Int).toNat)) x2) fun e2 =>
       bnd (column_Adapt_of_k e2 e1) fun r3 =>
       ift (r3.2 != (0 : Int))
         (some r3.2)
         ((table_schemas_l2 rec1 p1 x1 e1 k2) (IntKind.i64.wrap (x2 + (1 : Int)))))
      (table_schemas_j1 rec1 x1)

def table_schemas_j2 : Option Int :=
    some (0 : Int)

def table_schemas_l1 (p1 : GMeta) : Nat → Int → Option Int
  | 0, _ => none
  | k1 + 1, x1 =>
    ift (decide (x1 < (p1.schemas.length : Int)))
      (bnd (at? p1.schemas x1) fun e1 =>
       bnd (value_CheckSchema e1) fun r1 =>
       ift (r1 != (0 : Int))
         (some r1)
         (bnd (value_Walk_of_table_schemas_1 BIG e1 p1.schemas p1.specs p1.nextField p1.nextSeq p1.nextSnap p1.purges p1.snapshots p1.refs p1.props) fun r2 =>
          ift (r2 != (0 : Int))
            (some r2)
            (grd (0 ≤ (0 : Int) ∧ (0 : Int) ≤ x1 ∧ x1 ≤ (p1.schemas.length : Int)) <|
             table_schemas_l2 (table_schemas_l1 p1 k1) p1 x1 e1 BIG (0 : Int))))
      (table_schemas_j2)

def table_schemas (p1 : GMeta) : Option Int :=
    table_schemas_l1 p1 BIG (0 : Int)

abbrev qa957 (p1 : GMeta) : List PV := [.ro ((eL eField).els p1.schemas), .ro (eSpec.els p1.specs), pi p1.nextField, pi p1.nextSeq, pi p1.nextSnap, pi p1.purges, .ro (eSnapshot.els p1.snapshots), .ro (eRef.els p1.refs), .ro (eProp.els p1.props)]
abbrev qa958 (p1 : GMeta) (x1 : Int) : Fr := [(1, .one (.pv (.rp [(qa957 p1)] 0 0))), (12, vl (eL eField) p1.schemas), (13, vi (p1.schemas.length : Int)), (14, vi x1)]

theorem c_table_schemas (p1 : GMeta) : CT Tryz.prog 13 [.ag [cl (eL eField) p1.schemas, cl eSpec p1.specs, ci p1.nextField, ci p1.nextSeq, ci p1.nextSnap, ci p1.purges, cl eSnapshot p1.snapshots, cl eRef p1.refs, cl eProp p1.props]] (table_schemas p1) vi :=
  uFn 50 [] Tryz.f13 fun r => (uQ (kS Tryz.f13 [1,0] 1) fun K2 hK2 => have hJ2 : ∀ (_ : Unit), table_schemas_j2 = some r → K2.p [] [] := fun _ h => hK2 h (uR .ret xF); (uN (eL eField) p1.schemas (uO (cd Tryz.f13 [1,0,1,0,0]) (kS Tryz.f13 [1,0,1,0] 1) fun R1 b1 => have hL1 : ∀ (k1 : Nat) (x1 : Int), table_schemas_l1 p1 k1 x1 = some r → (R1 k1).p (qa958 p1 x1) [] := by intro k1; induction k1 with | zero => intro x1 h; exact uE0 (table_schemas_l1.eq_1 ..) h | succ k1 ih1 => intro x1 h; exact b1 h (uU (table_schemas_l1.eq_2 ..) (uC (uQ (kS Tryz.f13 [1,0,1,0,0,1,1,0] 1) fun K7 hK7 => have hJ1 : ∀ (_ : Unit), table_schemas_j1 (table_schemas_l1 p1 k1) x1 = some r → K7.p (qa958 p1 x1) [] := fun _ h => hK7 h (uJ (ih1 (IntKind.i64.wrap (x1 + (1 : Int))))); (uL (eL eField) fun e1 a9 => (uP (c_value_CheckSchema _) fun r1 _ => (uC (uR .ret (xN (xN (xN xF)))) (uP (c_value_Walk_of_table_schemas_1 BIG _ _ _ _ _ _ _ _ _ _) fun r2 _ => (uC (uR .ret (xN (xN (xN xF)))) (uX (eL eField) (uN (eL eField) ((p1.schemas.drop (0 : Int).toNat).take (x1.toNat - (0 : Int).toNat)) (uO (cd Tryz.f13 [1,0,1,0,0,1,1,0,0,1,1,1,1,1,0,0]) (kS Tryz.f13 [1,0,1,0,0,1,1,0,0,1,1,1,1,1,0] 2) fun R2 b2 => have hL2 : ∀ (k2 : Nat) (x2 : Int), table_schemas_l2 (table_schemas_l1 p1 k1) p1 x1 e1 k2 x2 = some r → (R2 k2).p [(1, .one (.pv (.rp [(qa957 p1)] 0 0))), (4, vl eField e1), (12, vl (eL eField) p1.schemas), (13, vi (p1.schemas.length : Int)), (14, vi x1), (33, vl (eL eField) ((p1.schemas.drop (0 : Int).toNat).take (x1.toNat - (0 : Int).toNat))), (34, vi (((p1.schemas.drop (0 : Int).toNat).take (x1.toNat - (0 : Int).toNat)).length : Int)), (35, vi x2)] [] := by intro k2; induction k2 with | zero => intro x2 h; exact uE0 (table_schemas_l2.eq_1 ..) h | succ k2 ih2 => intro x2 h; exact b2 h (uU (table_schemas_l2.eq_2 ..) (uY 36 vb fun y1 => (uC (uL (eL eField) fun e2 a30 => (uPn (c_column_Adapt_of_k _ _) fun r3 _ => (uC (uR .ret (xN (xN (xN (xN xF))))) (uJ (ih2 (IntKind.i64.wrap (x2 + (1 : Int)))))))) (uR (.exit 2) (xM (uJ (hJ1 ())))))))
 uE (hL2 BIG (0 : Int))))))))))) (uR (.exit 0) (xM (uJ (hJ2 ()))))))
 uE (hL1 BIG (0 : Int)))))

def table_specs_1_s (p1 : GSpecField) (p2 : (List (List GField))) (p3 : (List GSpec)) (p4 : Int) (p5 : Int) (p6 : Int) (p7 : Int) (p8 : (List GSnapshot)) (p9 : (List GRef)) (p10 : (List GProp)) (p11 : Int) : Option (Bool × Int) :=
    bnd (at? p2 p11) fun e1 =>
    bnd (table_top e1 p1.source) fun r1 =>
    some ((decide (r1 < (0 : Int))), p11)


theorem c_table_specs_1_s (p1 : GSpecField) (p2 : (List (List GField))) (p3 : (List GSpec)) (p4 : Int) (p5 : Int) (p6 : Int) (p7 : Int) (p8 : (List GSnapshot)) (p9 : (List GRef)) (p10 : (List GProp)) (p11 : Int) : CM Tryz.prog 46 [.ag [ci p1.source, ci p1.transform.kind, ci p1.transform.param], .one (.pv (.rp [[.ro ((eL eField).els p2), .ro (eSpec.els p3), pi p4, pi p5, pi p6, pi p7, .ro (eSnapshot.els p8), .ro (eRef.els p9), .ro (eProp.els p10)]] 0 0)), .one (.pt 0 0 0 0)] [.box [ci p11]] (table_specs_1_s p1 p2 p3 p4 p5 p6 p7 p8 p9 p10 p11) (fun r => vb r.1) (fun r => [.box [ci r.2]]) :=
  uFnM 1 14 [] Tryz.f46 fun r => (uDr 7 (uL (eL eField) fun e1 a3 => (uP (c_table_top _ _) fun r1 _ => (uR .ret xFM))))

def slices_IndexFunc_api_SpecField_api_SpecField_of_table_specs_1_j1 (z2 : Int) : Option (Int × Int) :=
    some ((-1 : Int), z2)

def slices_IndexFunc_api_SpecField_api_SpecField_of_table_specs_1_l1 (p1 : (List GSpecField)) (p2 : (List (List GField))) (p3 : (List GSpec)) (p4 : Int) (p5 : Int) (p6 : Int) (p7 : Int) (p8 : (List GSnapshot)) (p9 : (List GRef)) (p10 : (List GProp)) : Nat → Int → Int → Option (Int × Int)
  | 0, _, _ => none
  | k1 + 1, z1, x1 =>
    ift (decide (x1 < (p1.length : Int)))
      (bnd (at? p1 x1) fun e1 =>
       bnd (table_specs_1_s e1 p2 p3 p4 p5 p6 p7 p8 p9 p10 z1) fun r1 =>
       ift r1.1
         (some (x1, r1.2))
         ((slices_IndexFunc_api_SpecField_api_SpecField_of_table_specs_1_l1 p1 p2 p3 p4 p5 p6 p7 p8 p9 p10 k1) r1.2 (IntKind.i64.wrap (x1 + (1 : Int)))))
      (slices_IndexFunc_api_SpecField_api_SpecField_of_table_specs_1_j1 z1)

def slices_IndexFunc_api_SpecField_api_SpecField_of_table_specs_1 (p1 : (List GSpecField)) (p2 : (List (List GField))) (p3 : (List GSpec)) (p4 : Int) (p5 : Int) (p6 : Int) (p7 : Int) (p8 : (List GSnapshot)) (p9 : (List GRef)) (p10 : (List GProp)) (p11 : Int) : Option (Int × Int) :=
    slices_IndexFunc_api_SpecField_api_SpecField_of_table_specs_1_l1 p1 p2 p3 p4 p5 p6 p7 p8 p9 p10 BIG p11 (0 : Int)


theorem c_slices_IndexFunc_api_SpecField_api_SpecField_of_table_specs_1 (p1 : (List GSpecField)) (p2 : (List (List GField))) (p3 : (List GSpec)) (p4 : Int) (p5 : Int) (p6 : Int) (p7 : Int) (p8 : (List GSnapshot)) (p9 : (List GRef)) (p10 : (List GProp)) (p11 : Int) : CM Tryz.prog 83 [vl eSpecField p1, .one (.fn 46 [.pv (.rp [[.ro ((eL eField).els p2), .ro (eSpec.els p3), pi p4, pi p5, pi p6, pi p7, .ro (eSnapshot.els p8), .ro (eRef.els p9), .ro (eProp.els p10)]] 0 0), .pt 0 0 0 0])] [.box [ci p11]] (slices_IndexFunc_api_SpecField_api_SpecField_of_table_specs_1 p1 p2 p3 p4 p5 p6 p7 p8 p9 p10 p11) (fun r => vi r.1) (fun r => [.box [ci r.2]]) :=
  uFnM 1 19 [] Tryz.f83 fun r => (uQ (kS Tryz.f83 [1,0] 1) fun K2 hK2 => have hJ1 : ∀ (z2 : Int), slices_IndexFunc_api_SpecField_api_SpecField_of_table_specs_1_j1 z2 = some r → K2.p [] [.box [ci z2]] := fun z2 h => hK2 h (uR .ret xFM); (uN eSpecField p1 (uO (cd Tryz.f83 [1,0,1,0,0]) (kS Tryz.f83 [1,0,1,0] 1) fun R1 b1 => have hL1 : ∀ (k1 : Nat) (z1 : Int) (x1 : Int), slices_IndexFunc_api_SpecField_api_SpecField_of_table_specs_1_l1 p1 p2 p3 p4 p5 p6 p7 p8 p9 p10 k1 z1 x1 = some r → (R1 k1).p [(0, vl eSpecField p1), (1, .one (.fn 46 [.pv (.rp [[.ro ((eL eField).els p2), .ro (eSpec.els p3), pi p4, pi p5, pi p6, pi p7, .ro (eSnapshot.els p8), .ro (eRef.els p9), .ro (eProp.els p10)]] 0 0), .pt 0 0 0 0])), (7, vi (p1.length : Int)), (8, vi x1)] [.box [ci z1]] := by intro k1; induction k1 with | zero => intro z1 x1 h; exact uE0 (slices_IndexFunc_api_SpecField_api_SpecField_of_table_specs_1_l1.eq_1 ..) h | succ k1 ih1 => intro z1 x1 h; exact b1 h (uU (slices_IndexFunc_api_SpecField_api_SpecField_of_table_specs_1_l1.eq_2 ..) (uC (uL eSpecField fun e1 a10 => (uMc true [0] (c_table_specs_1_s _ _ _ _ _ _ _ _ _ _ _) fun r1 _ => (uC (uR .ret (xN (xN xFM))) (uJ (ih1 r1.2 (IntKind.i64.wrap (x1 + (1 : Int)))))))) (uR (.exit 0) (xM (uJ (hJ1 z1))))))
 uE (hL1 BIG p11 (0 : Int)))))

def slices_ContainsFunc_api_SpecField_api_SpecField_of_table_specs_1 (p1 : (List GSpecField)) (p2 : (List (List GField))) (p3 : (List GSpec)) (p4 : Int) (p5 : Int) (p6 : Int) (p7 : Int) (p8 : (List GSnapshot)) (p9 : (List GRef)) (p10 : (List GProp)) (p11 : Int) : Option (Bool × Int) :=
    bnd (slices_IndexFunc_api_SpecField_api_SpecField_of_table_specs_1 p1 p2 p3 p4 p5 p6 p7 p8 p9 p10 p11) fun r1 =>
    some ((decide ((0 : Int) ≤ r1.1)), r1.2)


theorem c_slices_ContainsFunc_api_SpecField_api_SpecField_of_table_specs_1 (p1 : (List GSpecField)) (p2 : (List (List GField))) (p3 : (List GSpec)) (p4 : Int) (p5 : Int) (p6 : Int) (p7 : Int) (p8 : (List GSnapshot)) (p9 : (List GRef)) (p10 : (List GProp)) (p11 : Int) : CM Tryz.prog 48 [vl eSpecField p1, .one (.fn 46 [.pv (.rp [[.ro ((eL eField).els p2), .ro (eSpec.els p3), pi p4, pi p5, pi p6, pi p7, .ro (eSnapshot.els p8), .ro (eRef.els p9), .ro (eProp.els p10)]] 0 0), .pt 0 0 0 0])] [.box [ci p11]] (slices_ContainsFunc_api_SpecField_api_SpecField_of_table_specs_1 p1 p2 p3 p4 p5 p6 p7 p8 p9 p10 p11) (fun r => vb r.1) (fun r => [.box [ci r.2]]) :=
  uFnM 1 9 [] Tryz.f48 fun r => (uMc true [0] (c_slices_IndexFunc_api_SpecField_api_SpecField_of_table_specs_1 _ _ _ _ _ _ _ _ _ _ _) fun r1 _ => (uR .ret xFM))

def table_specs_j3 (rec1 : Int → Option Int) (p1 : GMeta) (x1 : Int) (e1 : GSpec) (z3 : Int) (x3 : Bool) : Option Int :=
    ift x3
      (some (9 : Int))
      (bnd (at? p1.schemas z3) fun e2 =>
       bnd (table_suits e1 e2) fun r2 =>
       ift (r2 != (0 : Int))
         (some r2)
         (rec1 (IntKind.i64.wrap (x1 + (1 : Int)))))

def table_specs_j2 (rec1 : Int → Option Int) (p1 : GMeta) (x1 : Int) (e1 : GSpec) (z3 : Int) : Option Int :=
    ift (decide (z3 < (0 : Int)))
      (table_specs_j3 rec1 p1 x1 e1 z3 true)
      (ift (x1 == (IntKind.i64.wrap ((p1.specs.length : Int) - (1 : Int))))
         (bnd (some (decide (z3 < (IntKind.i64.wrap ((p1.schemas.length : Int) - (1 : Int)))))) fun y1 =>
          table_specs_j3 rec1 p1 x1 e1 z3 y1)
         (table_specs_j3 rec1 p1 x1 e1 z3 false))

def table_specs_j1 (rec1 : Int → Option Int) (rec2 : Int → Option Int) (p1 : GMeta) (x1 : Int) (e1 : GSpec) (z2 : Int) (x2 : Bool) : Option Int :=
    ift x2
      (rec2 (IntKind.i64.wrap (z2 - (1 : Int))))
      (table_specs_j2 rec1 p1 x1 e1 z2)

def table_specs_l2 (rec1 : Int → Option Int) (p1 : GMeta) (x1 : Int) (e1 : GSpec) : Nat → Int → Option Int
  | 0, _ => none
  | k2 + 1, z1 =>
    ift (decide ((0 : Int) ≤ z1))
      (bnd (slices_ContainsFunc_api_SpecField_api_SpecField_of_table_specs_1 e1.fields p1.schemas p1.specs p1.nextField p1.nextSeq p1.nextSnap p1.purges p1.snapshots p1.refs p1.props z1) fun r1 =>
       table_specs_j1 rec1 (table_specs_l2 rec1 p1 x1 e1 k2) p1 x1 e1 r1.2 r1.1)
      (table_specs_j1 rec1 (table_specs_l2 rec1 p1 x1 e1 k2) p1 x1 e1 z1 false)

def table_specs_j4 : Option Int :=
    some (0 : Int)

def table_specs_l1 (p1 : GMeta) : Nat → Int → Option Int
  | 0, _ => none
  | k1 + 1, x1 =>
    ift (decide (x1 < (p1.specs.length : Int)))
      (bnd (at? p1.specs x1) fun e1 =>
       table_specs_l2 (table_specs_l1 p1 k1) p1 x1 e1 BIG (IntKind.i64.wrap ((p1.schemas.length : Int) - (1 : Int))))
      (table_specs_j4)

def table_specs (p1 : GMeta) : Option Int :=
    table_specs_l1 p1 BIG (0 : Int)

abbrev qa982 (p1 : GMeta) : List PV := [.ro ((eL eField).els p1.schemas), .ro (eSpec.els p1.specs), pi p1.nextField, pi p1.nextSeq, pi p1.nextSnap, pi p1.purges, .ro (eSnapshot.els p1.snapshots), .ro (eRef.els p1.refs), .ro (eProp.els p1.props)]

theorem c_table_specs (p1 : GMeta) : CT Tryz.prog 14 [.ag [cl (eL eField) p1.schemas, cl eSpec p1.specs, ci p1.nextField, ci p1.nextSeq, ci p1.nextSnap, ci p1.purges, cl eSnapshot p1.snapshots, cl eRef p1.refs, cl eProp p1.props]] (table_specs p1) vi :=
  uFn 60 [4, 5] Tryz.f14 fun r => (uQ (kS Tryz.f14 [1,0] 1) fun K2 hK2 => have hJ4 : ∀ (_ : Unit), table_specs_j4 = some r → K2.p [] [] := fun _ h => hK2 h (uR .ret xF); (uN eSpec p1.specs (uO (cd Tryz.f14 [1,0,1,0,0]) (kS Tryz.f14 [1,0,1,0] 1) fun R1 b1 => have hL1 : ∀ (k1 : Nat) (x1 : Int), table_specs_l1 p1 k1 x1 = some r → (R1 k1).p [(1, .one (.pv (.rp [(qa982 p1)] 0 0))), (9, vl eSpec p1.specs), (10, vi (p1.specs.length : Int)), (11, vi x1)] [] := by intro k1; induction k1 with | zero => intro x1 h; exact uE0 (table_specs_l1.eq_1 ..) h | succ k1 ih1 => intro x1 h; exact b1 h (uU (table_specs_l1.eq_2 ..) (uC (uL eSpec fun e1 a9 => (uN (eL eField) p1.schemas (uQ (kS Tryz.f14 [1,0,1,0,0,1,1,0,0,1,1,1,0] 3) fun K12 hK12 => have hJ2 : ∀ (z3 : Int), table_specs_j2 (table_specs_l1 p1 k1) p1 x1 e1 z3 = some r → K12.p [(1, .one (.pv (.rp [(qa982 p1)] 0 0))), (3, vi x1), (4, .one (.pt 0 0 0 0)), (5, .one (.pt 1 0 0 0)), (9, vl eSpec p1.specs), (10, vi (p1.specs.length : Int)), (11, vi x1)] [.box [cl eSpecField e1.fields], .box [ci z3]] := fun z3 h => hK12 h (uQ (kS Tryz.f14 [1,0,1,0,0,1,1,0,0,1,1,1,1,0,0] 4) fun K19 hK19 => have hJ3 : ∀ (x3 : Bool), table_specs_j3 (table_specs_l1 p1 k1) p1 x1 e1 z3 x3 = some r → K19.p [(1, .one (.pv (.rp [(qa982 p1)] 0 0))), (4, .one (.pt 0 0 0 0)), (5, .one (.pt 1 0 0 0)), (9, vl eSpec p1.specs), (10, vi (p1.specs.length : Int)), (11, vi x1), (48, vb x3)] [.box [cl eSpecField e1.fields], .box [ci z3]] := fun x3 h => hK19 h (uC (uR .ret (xN (xN xF))) (uDr 6 (uL (eL eField) fun e2 a26 => (uP (c_table_suits _ _) fun r2 _ => (uC (uR .ret (xN (xN xF))) (uJ (ih1 (IntKind.i64.wrap (x1 + (1 : Int)))))))))); (uC (uJ (hJ3 true)) (uN eSpec p1.specs (uC (uN (eL eField) p1.schemas (uY 46 vb fun y1 => (uJ (hJ3 y1)))) (uJ (hJ3 false)))))); (uO (cd Tryz.f14 [1,0,1,0,0,1,1,0,0,1,1,1,0,0,0]) (kS Tryz.f14 [1,0,1,0,0,1,1,0,0,1,1,1,0,0] 1) fun R2 b2 => have hL2 : ∀ (k2 : Nat) (z1 : Int), table_specs_l2 (table_specs_l1 p1 k1) p1 x1 e1 k2 z1 = some r → (R2 k2).p [(1, .one (.pv (.rp [(qa982 p1)] 0 0))), (3, vi x1), (4, .one (.pt 0 0 0 0)), (5, .one (.pt 1 0 0 0)), (6, .one (.fn 46 [.pv (.rp [(qa982 p1)] 0 0), .pt 1 0 0 0])), (9, vl eSpec p1.specs), (10, vi (p1.specs.length : Int)), (11, vi x1)] [.box [cl eSpecField e1.fields], .box [ci z1]] := by intro k2; induction k2 with | zero => intro z1 h; exact uE0 (table_specs_l2.eq_1 ..) h | succ k2 ih2 => intro z1 h; exact b2 h (uU (table_specs_l2.eq_2 ..) (uQ (kS Tryz.f14 [1,0,1,0,0,1,1,0,0,1,1,1,0,0,0,0,0] 2) fun K14 hK14 => have hJ1 : ∀ (z2 : Int) (x2 : Bool), table_specs_j1 (table_specs_l1 p1 k1) (table_specs_l2 (table_specs_l1 p1 k1) p1 x1 e1 k2) p1 x1 e1 z2 x2 = some r → K14.p [(1, .one (.pv (.rp [(qa982 p1)] 0 0))), (3, vi x1), (4, .one (.pt 0 0 0 0)), (5, .one (.pt 1 0 0 0)), (6, .one (.fn 46 [.pv (.rp [(qa982 p1)] 0 0), .pt 1 0 0 0])), (9, vl eSpec p1.specs), (10, vi (p1.specs.length : Int)), (11, vi x1), (28, vb x2)] [.box [cl eSpecField e1.fields], .box [ci z2]] := fun z2 x2 h => hK14 h (uC (uJ (ih2 (IntKind.i64.wrap (z2 - (1 : Int))))) (uR (.exit 2) (xM (uJ (hJ2 z2))))); (uC (uMc true [1] (c_slices_ContainsFunc_api_SpecField_api_SpecField_of_table_specs_1 _ _ _ _ _ _ _ _ _ _ _) fun r1 _ => (uJ (hJ1 r1.2 r1.1))) (uJ (hJ1 z1 false)))))
 uE (hL2 BIG (IntKind.i64.wrap ((p1.schemas.length : Int) - (1 : Int)))))))) (uR (.exit 0) (xM (uJ (hJ4 ()))))))
 uE (hL1 BIG (0 : Int)))))

def unicode_utf8_ValidRune_j2 (x2 : Bool) : Option Bool :=
    ift x2
      (some true)
      (some false)

def unicode_utf8_ValidRune_j1 (p1 : Int) (x1 : Bool) : Option Bool :=
    ift x1
      (some true)
      (ift (decide ((57343 : Int) < p1))
         (unicode_utf8_ValidRune_j2 (decide (p1 ≤ (1114111 : Int))))
         (unicode_utf8_ValidRune_j2 false))

def unicode_utf8_ValidRune (p1 : Int) : Option Bool :=
    ift (decide ((0 : Int) ≤ p1))
      (unicode_utf8_ValidRune_j1 p1 (decide (p1 < (55296 : Int))))
      (unicode_utf8_ValidRune_j1 p1 false)


theorem c_unicode_utf8_ValidRune (p1 : Int) : CT Tryz.prog 186 [vk .i32 p1] (unicode_utf8_ValidRune p1) vb :=
  uFn 17 [] Tryz.f186 fun r => (uQ (kS Tryz.f186 [1,0,0,0] 3) fun K3 hK3 => have hJ1 : ∀ (x1 : Bool), unicode_utf8_ValidRune_j1 p1 x1 = some r → K3.p [(0, vk .i32 p1), (3, vb x1)] [] := fun x1 h => hK3 h (uC (uR .ret xF) (uQ (kS Tryz.f186 [1,0,0,1,1,0] 3) fun K7 hK7 => have hJ2 : ∀ (x2 : Bool), unicode_utf8_ValidRune_j2 x2 = some r → K7.p [(10, vb x2)] [] := fun x2 h => hK7 h (uC (uR .ret xF) (uR .ret xF)); (uC (uJ (hJ2 (decide (p1 ≤ (1114111 : Int))))) (uJ (hJ2 false))))); (uC (uJ (hJ1 (decide (p1 < (55296 : Int))))) (uJ (hJ1 false))))

def strings_IndexRune_j2 : Option Int :=
    some (-1 : Int)

def strings_IndexRune_l1 (p1 : ByteArray) : Nat → Nat → Option Int
  | 0, _ => none
  | k1 + 1, z1 =>
    ift (decide (z1 < p1.size))
      (ift (Int.ofNat (Utf8.decode p1 z1).1 == (65533 : Int))
         (some (Int.ofNat z1))
         ((strings_IndexRune_l1 p1 k1) (z1 + (Utf8.decode p1 z1).2)))
      (strings_IndexRune_j2)

def strings_IndexRune_j4 (p2 : Int) (x2 : Int) : Option Int :=
    bnd (some (IntKind.i64.wrap (x2 - (IntKind.i64.wrap (((Utf8.encode p2).size : Int) - (1 : Int)))))) fun y9 =>
    some y9

def strings_IndexRune_l3 (p1 : ByteArray) (p2 : Int) (x2 : Int) : Nat → Int → Option Int
  | 0, _ => none
  | k3 + 1, x3 =>
    ift (decide (x3 < ((Utf8.encode p2).size : Int)))
      (grd (0 ≤ (IntKind.i64.wrap (x2 - x3)) ∧ (IntKind.i64.wrap (x2 - x3)) < (p1.size : Int)) <|
       bnd (some ((p1.data.toList.getD (IntKind.i64.wrap (x2 - x3)).toNat 0).toNat : Int)) fun y7 =>
       bnd (some (IntKind.i64.wrap ((IntKind.i64.wrap (((Utf8.encode p2).size : Int) - (1 : Int))) - x3))) fun y8 =>
       grd (0 ≤ y8 ∧ y8 < ((Utf8.encode p2).size : Int)) <|
       ift (y7 != (((Utf8.encode p2).data.toList.getD y8.toNat 0).toNat : Int))
         (none)
         ((strings_IndexRune_l3 p1 p2 x2 k3) (IntKind.i64.wrap (x3 + (1 : Int)))))
      (strings_IndexRune_j4 p2 x2)

def strings_IndexRune_j3 (p1 : ByteArray) (p2 : Int) (x2 : Int) : Option Int :=
    strings_IndexRune_l3 p1 p2 x2 BIG (1 : Int)

def strings_IndexRune_j5 : Option Int :=
    some (-1 : Int)

def strings_IndexRune_l2 (p1 : ByteArray) (p2 : Int) : Nat → Option Int
  | 0 => none
  | k2 + 1 =>
    bnd (some (decide ((IntKind.i64.wrap (((Utf8.encode p2).size : Int) - (1 : Int))) < (p1.size : Int)))) fun y1 =>
    ift y1
      (grd (0 ≤ (IntKind.i64.wrap (((Utf8.encode p2).size : Int) - (1 : Int))) ∧ (IntKind.i64.wrap (((Utf8.encode p2).size : Int) - (1 : Int))) < (p1.size : Int)) <|
       bnd (some ((p1.data.toList.getD (IntKind.i64.wrap (((Utf8.encode p2).size : Int) - (1 : Int))).toNat 0).toNat : Int)) fun y2 =>
       grd (0 ≤ (IntKind.i64.wrap (((Utf8.encode p2).size : Int) - (1 : Int))) ∧ (IntKind.i64.wrap (((Utf8.encode p2).size : Int) - (1 : Int))) < ((Utf8.encode p2).size : Int)) <|
       bnd (some (((Utf8.encode p2).data.toList.getD (IntKind.i64.wrap (((Utf8.encode p2).size : Int) - (1 : Int))).toNat 0).toNat : Int)) fun y3 =>
       ift (y2 != y3)
         (bnd (some (IntKind.i64.wrap ((IntKind.i64.wrap (((Utf8.encode p2).size : Int) - (1 : Int))) + (1 : Int)))) fun y4 =>
          grd (0 ≤ y4 ∧ y4 ≤ (p1.size : Int) ∧ (p1.size : Int) ≤ (p1.size : Int)) <|
          grd (0 ≤ (IntKind.i64.wrap (((Utf8.encode p2).size : Int) - (1 : Int))) ∧ (IntKind.i64.wrap (((Utf8.encode p2).size : Int) - (1 : Int))) < ((Utf8.encode p2).size : Int)) <|
          bnd (some (((Utf8.encode p2).data.toList.getD (IntKind.i64.wrap (((Utf8.encode p2).size : Int) - (1 : Int))).toNat 0).toNat : Int)) fun y5 =>
          bnd (strings_IndexByte (p1.extract y4.toNat (p1.size : Int).toNat) y5) fun r3 =>
          ift (decide (r3 < (0 : Int)))
            (some (-1 : Int))
            (bnd (some (IntKind.i64.wrap ((IntKind.i64.wrap (((Utf8.encode p2).size : Int) - (1 : Int))) + (IntKind.i64.wrap (r3 + (1 : Int)))))) fun y6 =>
             strings_IndexRune_j3 p1 p2 y6))
         (strings_IndexRune_j3 p1 p2 (IntKind.i64.wrap (((Utf8.encode p2).size : Int) - (1 : Int)))))
      (strings_IndexRune_j5)

def strings_IndexRune_j1 (p1 : ByteArray) (p2 : Int) (x1 : Bool) : Option Int :=
    ift x1
      (bnd (strings_IndexByte p1 (IntKind.u8.wrap p2)) fun r1 =>
       some r1)
      (ift (p2 == (65533 : Int))
         (strings_IndexRune_l1 p1 BIG 0)
         (bnd (unicode_utf8_ValidRune p2) fun r2 =>
          ift (!r2)
            (some (-1 : Int))
            (strings_IndexRune_l2 p1 p2 BIG)))

def strings_IndexRune (p1 : ByteArray) (p2 : Int) : Option Int :=
    ift (decide ((0 : Int) ≤ p2))
      (strings_IndexRune_j1 p1 p2 (decide (p2 < (128 : Int))))
      (strings_IndexRune_j1 p1 p2 false)


theorem c_strings_IndexRune (p1 : ByteArray) (p2 : Int) : CT Tryz.prog 160 [vs p1, vk .i32 p2] (strings_IndexRune p1 p2) vi :=
  uFn 187 [] Tryz.f160 fun r => (uQ (kS Tryz.f160 [1,0,0] 2) fun K2 hK2 => have hJ1 : ∀ (x1 : Bool), strings_IndexRune_j1 p1 p2 x1 = some r → K2.p [(0, vs p1), (1, vk .i32 p2), (160, vb x1)] [] := fun x1 h => hK2 h (uC (uP (c_strings_IndexByte _ _) fun r1 _ => (uR .ret xF)) (uC (uQ (kS Tryz.f160 [1,0,1,1,1,0,0] 2) fun K9 hK9 => have hJ2 : ∀ (_ : Unit), strings_IndexRune_j2 = some r → K9.p [] [] := fun _ h => hK9 h (uR .ret xF); (uRg p1 (uO (cd Tryz.f160 [1,0,1,1,1,0,0,1,0,0]) (kS Tryz.f160 [1,0,1,1,1,0,0,1,0] 1) fun R1 b1 => have hL1 : ∀ (k1 : Nat) (z1 : Nat), strings_IndexRune_l1 p1 k1 z1 = some r → (R1 k1).p [(175, .one (.pt 0 0 0 0))] [.raw (.stringIter p1 z1)] := by intro k1; induction k1 with | zero => intro z1 h; exact uE0 (strings_IndexRune_l1.eq_1 ..) h | succ k1 ih1 => intro z1 h; exact b1 h (uU (strings_IndexRune_l1.eq_2 ..) (uNx 0 (fun b12 => (uT (uC (uR .ret (xN (xN xF))) (uJ (ih1 (z1 + (Utf8.decode p1 z1).2)))))) (fun b12 => (uF (uR (.exit 9) (xM (uJ (hJ2 ()))))))))
 uE (hL1 BIG 0)))) (uP (c_unicode_utf8_ValidRune _) fun r2 _ => (uC (uR .ret xF) (uQ (kS Tryz.f160 [1,0,1,1,1,1,1,1,0,1,1,1,1,0] 3) fun K28 hK28 => have hJ5 : ∀ (_ : Unit), strings_IndexRune_j5 = some r → K28.p [] [] := fun _ h => hK28 h (uR .ret xF); (uO (cd Tryz.f160 [1,0,1,1,1,1,1,1,0,1,1,1,1,0,0,0]) (kS Tryz.f160 [1,0,1,1,1,1,1,1,0,1,1,1,1,0,0] 1) fun R2 b2 => have hL2 : ∀ (k2 : Nat) (_ : Unit), strings_IndexRune_l2 p1 p2 k2 = some r → (R2 k2).p [(0, vs p1), (7, vs (Utf8.encode p2)), (8, vi (IntKind.i64.wrap (((Utf8.encode p2).size : Int) - (1 : Int)))), (9, vi (IntKind.i64.wrap (((Utf8.encode p2).size : Int) - (1 : Int))))] [] := by intro k2; induction k2 with | zero => intro _ h; exact uE0 (strings_IndexRune_l2.eq_1 ..) h | succ k2 ih2 => intro _ h; exact b2 h (uU (strings_IndexRune_l2.eq_2 ..) (uY 26 vb fun y1 => (uC (uQ (kS Tryz.f160 [1,0,1,1,1,1,1,1,0,1,1,1,1,0,0,0,1,0,0,0] 3) fun K33 hK33 => have hJ3 : ∀ (x2 : Int), strings_IndexRune_j3 p1 p2 x2 = some r → K33.p [(0, vs p1), (7, vs (Utf8.encode p2)), (8, vi (IntKind.i64.wrap (((Utf8.encode p2).size : Int) - (1 : Int)))), (9, vi x2)] [] := fun x2 h => hK33 h (uQ (kS Tryz.f160 [1,0,1,1,1,1,1,1,0,1,1,1,1,0,0,0,1,0,0,1,0] 3) fun K51 hK51 => have hJ4 : ∀ (_ : Unit), strings_IndexRune_j4 p2 x2 = some r → K51.p [(8, vi (IntKind.i64.wrap (((Utf8.encode p2).size : Int) - (1 : Int)))), (9, vi x2)] [] := fun _ h => hK51 h (uY 67 vi fun y9 => (uR .ret (xN (xN xF)))); (uO (cd Tryz.f160 [1,0,1,1,1,1,1,1,0,1,1,1,1,0,0,0,1,0,0,1,0,1,0,0]) (kS Tryz.f160 [1,0,1,1,1,1,1,1,0,1,1,1,1,0,0,0,1,0,0,1,0,1,0] 1) fun R3 b3 => have hL3 : ∀ (k3 : Nat) (x3 : Int), strings_IndexRune_l3 p1 p2 x2 k3 x3 = some r → (R3 k3).p [(0, vs p1), (7, vs (Utf8.encode p2)), (8, vi (IntKind.i64.wrap (((Utf8.encode p2).size : Int) - (1 : Int)))), (9, vi x2), (12, vi x3)] [] := by intro k3; induction k3 with | zero => intro x3 h; exact uE0 (strings_IndexRune_l3.eq_1 ..) h | succ k3 ih3 => intro x3 h; exact b3 h (uU (strings_IndexRune_l3.eq_2 ..) (uC (uDr 10 (uYg 58 (vk .u8) fun y7 => (uY 62 vi fun y8 => (uG (uC uNo (uJ (ih3 (IntKind.i64.wrap (x3 + (1 : Int)))))))))) (uR (.exit 3) (xM (uJ (hJ4 ()))))))
 uE (hL3 BIG (1 : Int)))); (uDr 6 (uYg 29 (vk .u8) fun y2 => (uYg 32 (vk .u8) fun y3 => (uC (uDr 7 (uY 36 vi fun y4 => (uG (uYg 40 (vk .u8) fun y5 => (uP (c_strings_IndexByte _ _) fun r3 _ => (uC (uR .ret (xN (xN (xN xF)))) (uY 47 vi fun y6 => (uJ (hJ3 y6))))))))) (uJ (hJ3 (IntKind.i64.wrap (((Utf8.encode p2).size : Int) - (1 : Int)))))))))) (uR (.exit 1) (xM (uJ (hJ5 ())))))))
 uE (hL2 BIG ()))))))); (uC (uJ (hJ1 (decide (p2 < (128 : Int))))) (uJ (hJ1 false))))

def table_objectName_1_j1 (x1 : Bool) : Option Bool :=
    some x1

def table_objectName_1 (p1 : Int) : Option Bool :=
    ift (decide (p1 < (97 : Int)))
      (ift (decide (p1 < (48 : Int)))
         (bnd (strings_IndexRune (ByteArray.mk #[95, 45, 46, 47]) p1) fun r1 =>
          table_objectName_1_j1 (decide (r1 < (0 : Int))))
         (ift (decide ((57 : Int) < p1))
            (bnd (strings_IndexRune (ByteArray.mk #[95, 45, 46, 47]) p1) fun r2 =>
             table_objectName_1_j1 (decide (r2 < (0 : Int))))
            (table_objectName_1_j1 false)))
      (ift (decide ((122 : Int) < p1))
         (ift (decide (p1 < (48 : Int)))
            (bnd (strings_IndexRune (ByteArray.mk #[95, 45, 46, 47]) p1) fun r3 =>
             table_objectName_1_j1 (decide (r3 < (0 : Int))))
            (ift (decide ((57 : Int) < p1))
               (bnd (strings_IndexRune (ByteArray.mk #[95, 45, 46, 47]) p1) fun r4 =>
                table_objectName_1_j1 (decide (r4 < (0 : Int))))
               (table_objectName_1_j1 false)))
         (table_objectName_1_j1 false))


theorem c_table_objectName_1 (p1 : Int) : CT Tryz.prog 159 [vk .i32 p1] (table_objectName_1 p1) vb :=
  uFn 22 [] Tryz.f159 fun r => (uQ (kS Tryz.f159 [1,0] 1) fun K2 hK2 => have hJ1 : ∀ (x1 : Bool), table_objectName_1_j1 x1 = some r → K2.p [(2, vb x1)] [] := fun x1 h => hK2 h (uR .ret xF); (uC (uC (uP (c_strings_IndexRune _ _) fun r1 _ => (uJ (hJ1 (decide (r1 < (0 : Int)))))) (uC (uP (c_strings_IndexRune _ _) fun r2 _ => (uJ (hJ1 (decide (r2 < (0 : Int)))))) (uJ (hJ1 false)))) (uC (uC (uP (c_strings_IndexRune _ _) fun r3 _ => (uJ (hJ1 (decide (r3 < (0 : Int)))))) (uC (uP (c_strings_IndexRune _ _) fun r4 _ => (uJ (hJ1 (decide (r4 < (0 : Int)))))) (uJ (hJ1 false)))) (uJ (hJ1 false)))))

def strings_indexFunc_of_table_objectName_1_j1 : Option Int :=
    some (-1 : Int)

def strings_indexFunc_of_table_objectName_1_l1 (p1 : ByteArray) (p2 : Bool) : Nat → Nat → Option Int
  | 0, _ => none
  | k1 + 1, z1 =>
    ift (decide (z1 < p1.size))
      (bnd (table_objectName_1 (Int.ofNat (Utf8.decode p1 z1).1)) fun r1 =>
       ift (r1 == p2)
         (some (Int.ofNat z1))
         ((strings_indexFunc_of_table_objectName_1_l1 p1 p2 k1) (z1 + (Utf8.decode p1 z1).2)))
      (strings_indexFunc_of_table_objectName_1_j1)

def strings_indexFunc_of_table_objectName_1 (p1 : ByteArray) (p2 : Bool) : Option Int :=
    strings_indexFunc_of_table_objectName_1_l1 p1 p2 BIG 0


theorem c_strings_indexFunc_of_table_objectName_1 (p1 : ByteArray) (p2 : Bool) : CT Tryz.prog 173 [vs p1, .one (.pv (.fn 159 [])), vb p2] (strings_indexFunc_of_table_objectName_1 p1 p2) vi :=
  uFn 21 [] Tryz.f173 fun r => (uQ (kS Tryz.f173 [1,0] 1) fun K2 hK2 => have hJ1 : ∀ (_ : Unit), strings_indexFunc_of_table_objectName_1_j1 = some r → K2.p [] [] := fun _ h => hK2 h (uR .ret xF); (uRg p1 (uO (cd Tryz.f173 [1,0,1,0,0]) (kS Tryz.f173 [1,0,1,0] 1) fun R1 b1 => have hL1 : ∀ (k1 : Nat) (z1 : Nat), strings_indexFunc_of_table_objectName_1_l1 p1 p2 k1 z1 = some r → (R1 k1).p [(1, .one (.pv (.fn 159 []))), (2, vb p2), (10, .one (.pt 0 0 0 0))] [.raw (.stringIter p1 z1)] := by intro k1; induction k1 with | zero => intro z1 h; exact uE0 (strings_indexFunc_of_table_objectName_1_l1.eq_1 ..) h | succ k1 ih1 => intro z1 h; exact b1 h (uU (strings_indexFunc_of_table_objectName_1_l1.eq_2 ..) (uNx 0 (fun b5 => (uT (uP (c_table_objectName_1 _) fun r1 _ => (uC (uR .ret (xN (xN xF))) (uJ (ih1 (z1 + (Utf8.decode p1 z1).2))))))) (fun b5 => (uF (uR (.exit 0) (xM (uJ (hJ1 ()))))))))
 uE (hL1 BIG 0))))

def strings_IndexFunc_of_table_objectName_1 (p1 : ByteArray) : Option Int :=
    bnd (strings_indexFunc_of_table_objectName_1 p1 true) fun r1 =>
    some r1


theorem c_strings_IndexFunc_of_table_objectName_1 (p1 : ByteArray) : CT Tryz.prog 140 [vs p1, .one (.pv (.fn 159 []))] (strings_IndexFunc_of_table_objectName_1 p1) vi :=
  uFn 8 [] Tryz.f140 fun r => (uP (c_strings_indexFunc_of_table_objectName_1 _ _) fun r1 _ => (uR .ret xF))

def strings_ContainsFunc_of_table_objectName_1 (p1 : ByteArray) : Option Bool :=
    bnd (strings_IndexFunc_of_table_objectName_1 p1) fun r1 =>
    some (decide ((0 : Int) ≤ r1))


theorem c_strings_ContainsFunc_of_table_objectName_1 (p1 : ByteArray) : CT Tryz.prog 95 [vs p1, .one (.pv (.fn 159 []))] (strings_ContainsFunc_of_table_objectName_1 p1) vb :=
  uFn 9 [] Tryz.f95 fun r => (uP (c_strings_IndexFunc_of_table_objectName_1 _) fun r1 _ => (uR .ret xF))

def table_objectName_j1 (p1 : ByteArray) (x1 : Bool) : Option Bool :=
    ift x1
      (some false)
      (bnd (strings_ContainsFunc_of_table_objectName_1 p1) fun r1 =>
       some (!r1))

def table_objectName (p1 : ByteArray) : Option Bool :=
    ift (decide ((p1.size : Int) < (1 : Int)))
      (table_objectName_j1 p1 true)
      (table_objectName_j1 p1 (decide ((64 : Int) < (p1.size : Int))))


theorem c_table_objectName (p1 : ByteArray) : CT Tryz.prog 122 [vs p1] (table_objectName p1) vb :=
  uFn 14 [] Tryz.f122 fun r => (uQ (kS Tryz.f122 [1,0,0] 2) fun K3 hK3 => have hJ1 : ∀ (x1 : Bool), table_objectName_j1 p1 x1 = some r → K3.p [(0, vs p1), (10, vb x1)] [] := fun x1 h => hK3 h (uC (uR .ret xF) (uP (c_strings_ContainsFunc_of_table_objectName_1 _) fun r1 _ => (uR .ret xF))); (uC (uJ (hJ1 true)) (uJ (hJ1 (decide ((64 : Int) < (p1.size : Int)))))))

def table_file_1 (p1 : GSpecField) (p2 : (List GField)) : Option (Bool × (List GField)) :=
    bnd (table_top p2 p1.source) fun r1 =>
    some ((decide (r1 < (0 : Int))), p2)


theorem c_table_file_1 (p1 : GSpecField) (p2 : (List GField)) : CM Tryz.prog 123 [.ag [ci p1.source, ci p1.transform.kind, ci p1.transform.param], .one (.pt 0 0 0 0)] [.box [cl eField p2]] (table_file_1 p1 p2) (fun r => vb r.1) (fun r => [.box [cl eField r.2]]) :=
  uFnM 1 9 [] Tryz.f123 fun r => (uP (c_table_top _ _) fun r1 _ => (uR .ret xFM))

def slices_IndexFunc_api_SpecField_api_SpecField_of_table_file_1_j1 (z2 : List GField) : Option (Int × (List GField)) :=
    some ((-1 : Int), z2)

def slices_IndexFunc_api_SpecField_api_SpecField_of_table_file_1_l1 (p1 : (List GSpecField)) : Nat → List GField → Int → Option (Int × (List GField))
  | 0, _, _ => none
  | k1 + 1, z1, x1 =>
    ift (decide (x1 < (p1.length : Int)))
      (bnd (at? p1 x1) fun e1 =>
       bnd (table_file_1 e1 z1) fun r1 =>
       ift r1.1
         (some (x1, r1.2))
         ((slices_IndexFunc_api_SpecField_api_SpecField_of_table_file_1_l1 p1 k1) r1.2 (IntKind.i64.wrap (x1 + (1 : Int)))))
      (slices_IndexFunc_api_SpecField_api_SpecField_of_table_file_1_j1 z1)

def slices_IndexFunc_api_SpecField_api_SpecField_of_table_file_1 (p1 : (List GSpecField)) (p2 : (List GField)) : Option (Int × (List GField)) :=
    slices_IndexFunc_api_SpecField_api_SpecField_of_table_file_1_l1 p1 BIG p2 (0 : Int)


theorem c_slices_IndexFunc_api_SpecField_api_SpecField_of_table_file_1 (p1 : (List GSpecField)) (p2 : (List GField)) : CM Tryz.prog 83 [vl eSpecField p1, .one (.fn 123 [.pt 0 0 0 0])] [.box [cl eField p2]] (slices_IndexFunc_api_SpecField_api_SpecField_of_table_file_1 p1 p2) (fun r => vi r.1) (fun r => [.box [cl eField r.2]]) :=
  uFnM 1 19 [] Tryz.f83 fun r => (uQ (kS Tryz.f83 [1,0] 1) fun K2 hK2 => have hJ1 : ∀ (z2 : List GField), slices_IndexFunc_api_SpecField_api_SpecField_of_table_file_1_j1 z2 = some r → K2.p [] [.box [cl eField z2]] := fun z2 h => hK2 h (uR .ret xFM); (uN eSpecField p1 (uO (cd Tryz.f83 [1,0,1,0,0]) (kS Tryz.f83 [1,0,1,0] 1) fun R1 b1 => have hL1 : ∀ (k1 : Nat) (z1 : List GField) (x1 : Int), slices_IndexFunc_api_SpecField_api_SpecField_of_table_file_1_l1 p1 k1 z1 x1 = some r → (R1 k1).p [(0, vl eSpecField p1), (1, .one (.fn 123 [.pt 0 0 0 0])), (7, vi (p1.length : Int)), (8, vi x1)] [.box [cl eField z1]] := by intro k1; induction k1 with | zero => intro z1 x1 h; exact uE0 (slices_IndexFunc_api_SpecField_api_SpecField_of_table_file_1_l1.eq_1 ..) h | succ k1 ih1 => intro z1 x1 h; exact b1 h (uU (slices_IndexFunc_api_SpecField_api_SpecField_of_table_file_1_l1.eq_2 ..) (uC (uL eSpecField fun e1 a10 => (uMc true [0] (c_table_file_1 _ _) fun r1 _ => (uC (uR .ret (xN (xN xFM))) (uJ (ih1 r1.2 (IntKind.i64.wrap (x1 + (1 : Int)))))))) (uR (.exit 0) (xM (uJ (hJ1 z1))))))
 uE (hL1 BIG p2 (0 : Int)))))

def slices_ContainsFunc_api_SpecField_api_SpecField_of_table_file_1 (p1 : (List GSpecField)) (p2 : (List GField)) : Option (Bool × (List GField)) :=
    bnd (slices_IndexFunc_api_SpecField_api_SpecField_of_table_file_1 p1 p2) fun r1 =>
    some ((decide ((0 : Int) ≤ r1.1)), r1.2)


theorem c_slices_ContainsFunc_api_SpecField_api_SpecField_of_table_file_1 (p1 : (List GSpecField)) (p2 : (List GField)) : CM Tryz.prog 48 [vl eSpecField p1, .one (.fn 123 [.pt 0 0 0 0])] [.box [cl eField p2]] (slices_ContainsFunc_api_SpecField_api_SpecField_of_table_file_1 p1 p2) (fun r => vb r.1) (fun r => [.box [cl eField r.2]]) :=
  uFnM 1 9 [] Tryz.f48 fun r => (uMc true [0] (c_slices_IndexFunc_api_SpecField_api_SpecField_of_table_file_1 _ _) fun r1 _ => (uR .ret xFM))

def value_within_j1 (x1 : Bool) : Option Bool :=
    some x1

def value_within (p1 : Int) (p2 : Int) (p3 : Int) : Option Bool :=
    ift (decide (p2 ≤ p1))
      (value_within_j1 (decide (p1 ≤ p3)))
      (value_within_j1 false)


theorem c_value_within (p1 : Int) (p2 : Int) (p3 : Int) : CT Tryz.prog 135 [vi p1, vi p2, vi p3] (value_within p1 p2 p3) vb :=
  uFn 15 [] Tryz.f135 fun r => (uQ (kS Tryz.f135 [1,0] 1) fun K2 hK2 => have hJ1 : ∀ (x1 : Bool), value_within_j1 x1 = some r → K2.p [(6, vb x1)] [] := fun x1 h => hK2 h (uR .ret xF); (uC (uJ (hJ1 (decide (p1 ≤ p3)))) (uJ (hJ1 false))))

def value_text_j2 (rec1 : Nat → Option Bool) (p1 : ByteArray) (z1 : Nat) (x2 : Bool) : Option Bool :=
    ift x2
      (some false)
      (rec1 (z1 + (Utf8.decode p1 z1).2))

def value_text_j3 : Option Bool :=
    some true

def value_text_l1 (p1 : ByteArray) : Nat → Nat → Option Bool
  | 0, _ => none
  | k1 + 1, z1 =>
    ift (decide (z1 < p1.size))
      (ift (decide (Int.ofNat (Utf8.decode p1 z1).1 < (32 : Int)))
         (value_text_j2 (value_text_l1 p1 k1) p1 z1 true)
         (value_text_j2 (value_text_l1 p1 k1) p1 z1 (Int.ofNat (Utf8.decode p1 z1).1 == (127 : Int))))
      (value_text_j3)

def value_text_j1 (p1 : ByteArray) (x1 : Bool) : Option Bool :=
    ift x1
      (some false)
      (value_text_l1 p1 BIG 0)

def value_text (p1 : ByteArray) : Option Bool :=
    ift (decide ((256 : Int) < (p1.size : Int)))
      (value_text_j1 p1 true)
      (bnd (utf8_ValidString p1) fun r1 =>
       value_text_j1 p1 (!r1))


theorem c_value_text (p1 : ByteArray) : CT Tryz.prog 196 [vs p1] (value_text p1) vb :=
  uFn 24 [] Tryz.f196 fun r => (uQ (kS Tryz.f196 [1,0,0] 2) fun K3 hK3 => have hJ1 : ∀ (x1 : Bool), value_text_j1 p1 x1 = some r → K3.p [(0, vs p1), (12, vb x1)] [] := fun x1 h => hK3 h (uC (uR .ret xF) (uQ (kS Tryz.f196 [1,1,0] 1) fun K8 hK8 => have hJ3 : ∀ (_ : Unit), value_text_j3 = some r → K8.p [] [] := fun _ h => hK8 h (uR .ret xF); (uRg p1 (uO (cd Tryz.f196 [1,1,0,1,0,0]) (kS Tryz.f196 [1,1,0,1,0] 1) fun R1 b1 => have hL1 : ∀ (k1 : Nat) (z1 : Nat), value_text_l1 p1 k1 z1 = some r → (R1 k1).p [(14, .one (.pt 0 0 0 0))] [.raw (.stringIter p1 z1)] := by intro k1; induction k1 with | zero => intro z1 h; exact uE0 (value_text_l1.eq_1 ..) h | succ k1 ih1 => intro z1 h; exact b1 h (uU (value_text_l1.eq_2 ..) (uNx 0 (fun b11 => (uT (uQ (kS Tryz.f196 [1,1,0,1,0,0,1,1,0,1,0] 2) fun K14 hK14 => have hJ2 : ∀ (x2 : Bool), value_text_j2 (value_text_l1 p1 k1) p1 z1 x2 = some r → K14.p [(14, .one (.pt 0 0 0 0)), (23, vb x2)] [.raw (.stringIter p1 (z1 + (Utf8.decode p1 z1).2))] := fun x2 h => hK14 h (uC (uR .ret (xN (xN xF))) (uJ (ih1 (z1 + (Utf8.decode p1 z1).2)))); (uC (uJ (hJ2 true)) (uJ (hJ2 (Int.ofNat (Utf8.decode p1 z1).1 == (127 : Int)))))))) (fun b11 => (uF (uR (.exit 0) (xM (uJ (hJ3 ()))))))))
 uE (hL1 BIG 0))))); (uC (uJ (hJ1 true)) (uP (c_utf8_ValidString _) fun r1 _ => (uJ (hJ1 (!r1))))))

def value_plain_j2 (x2 : Bool) : Option Bool :=
    some x2

def value_plain_j3 (x3 : Bool) : Option Bool :=
    some x3

def value_plain_j4 (x4 : Bool) : Option Bool :=
    some x4

def value_plain_j5 (x5 : Bool) : Option Bool :=
    some x5

def value_plain_j6 (x6 : Bool) : Option Bool :=
    some x6

def value_plain_j7 (x7 : Bool) : Option Bool :=
    some x7

def value_plain_j8 (x8 : Bool) : Option Bool :=
    some x8

def value_plain_j9 (x9 : Bool) : Option Bool :=
    some x9

def value_plain_j1 (p1 : GValue) (x1 : Bool) : Option Bool :=
    ift (p1.kind == (0 : Int))
      (ift x1
         (ift (p1.s.toList == (ByteArray.mk #[]).toList)
            (value_plain_j2 ((p1.items.length : Int) == (0 : Int)))
            (value_plain_j2 false))
         (value_plain_j2 false))
      (ift (p1.kind == (1 : Int))
         (bnd (value_within p1.n (0 : Int) (1 : Int)) fun r1 =>
          ift r1
            (ift (p1.scale == (0 : Int))
               (ift (p1.s.toList == (ByteArray.mk #[]).toList)
                  (value_plain_j3 ((p1.items.length : Int) == (0 : Int)))
                  (value_plain_j3 false))
               (value_plain_j3 false))
            (value_plain_j3 false))
         (ift (p1.kind == (2 : Int))
            (bnd (value_within p1.n (-999999999999999999 : Int) (999999999999999999 : Int)) fun r2 =>
             ift r2
               (ift (p1.scale == (0 : Int))
                  (ift (p1.s.toList == (ByteArray.mk #[]).toList)
                     (value_plain_j4 ((p1.items.length : Int) == (0 : Int)))
                     (value_plain_j4 false))
                  (value_plain_j4 false))
               (value_plain_j4 false))
            (ift (p1.kind == (3 : Int))
               (bnd (value_within p1.n (-999999999999999999 : Int) (999999999999999999 : Int)) fun r3 =>
                ift r3
                  (bnd (value_within p1.scale (0 : Int) (12 : Int)) fun r4 =>
                   ift r4
                     (ift (p1.s.toList == (ByteArray.mk #[]).toList)
                        (value_plain_j5 ((p1.items.length : Int) == (0 : Int)))
                        (value_plain_j5 false))
                     (value_plain_j5 false))
                  (value_plain_j5 false))
               (ift (p1.kind == (4 : Int))
                  (ift x1
                     (bnd (value_text p1.s) fun r5 =>
                      ift r5
                        (value_plain_j6 ((p1.items.length : Int) == (0 : Int)))
                        (value_plain_j6 false))
                     (value_plain_j6 false))
                  (ift (p1.kind == (5 : Int))
                     (bnd (value_within p1.n (-62135596800 : Int) (253402300799 : Int)) fun r6 =>
                      ift r6
                        (ift (p1.scale == (0 : Int))
                           (ift (p1.s.toList == (ByteArray.mk #[]).toList)
                              (value_plain_j7 ((p1.items.length : Int) == (0 : Int)))
                              (value_plain_j7 false))
                           (value_plain_j7 false))
                        (value_plain_j7 false))
                     (ift (p1.kind == (6 : Int))
                        (ift x1
                           (ift (p1.s.toList == (ByteArray.mk #[]).toList)
                              (value_plain_j8 (decide ((p1.items.length : Int) ≤ (64 : Int))))
                              (value_plain_j8 false))
                           (value_plain_j8 false))
                        (ift (p1.kind == (7 : Int))
                           (ift x1
                              (ift (p1.s.toList == (ByteArray.mk #[]).toList)
                                 (value_plain_j9 (decide ((0 : Int) < (p1.items.length : Int))))
                                 (value_plain_j9 false))
                              (value_plain_j9 false))
                           (some false))))))))

def value_plain (p1 : GValue) : Option Bool :=
    ift (p1.n == (0 : Int))
      (value_plain_j1 p1 (p1.scale == (0 : Int)))
      (value_plain_j1 p1 false)


theorem c_value_plain (p1 : GValue) : CT Tryz.prog 174 [.ag [ci p1.kind, ci p1.n, ci p1.scale, cst p1.s, cl eValue p1.items]] (value_plain p1) vb :=
  uFn 154 [] Tryz.f174 fun r => (uQ (kS Tryz.f174 [1,0] 1) fun K2 hK2 => have hJ1 : ∀ (x1 : Bool), value_plain_j1 p1 x1 = some r → K2.p [(1, .one (.pv (.rp [[pi p1.kind, pi p1.n, pi p1.scale, .s (.string p1.s), .ro (eValue.els p1.items)]] 0 0))), (3, vb x1)] [] := fun x1 h => hK2 h (uC (uQ (kS Tryz.f174 [1,1,0,1,0,1,0,0] 3) fun K8 hK8 => have hJ2 : ∀ (x2 : Bool), value_plain_j2 x2 = some r → K8.p [(2, vb x2)] [] := fun x2 h => hK8 h (uR .ret xF); (uC (uC (uN eValue p1.items (uJ (hJ2 ((p1.items.length : Int) == (0 : Int))))) (uJ (hJ2 false))) (uJ (hJ2 false)))) (uC (uQ (kS Tryz.f174 [1,1,0,1,0,1,1,1,0,0] 3) fun K13 hK13 => have hJ3 : ∀ (x3 : Bool), value_plain_j3 x3 = some r → K13.p [(2, vb x3)] [] := fun x3 h => hK13 h (uR .ret xF); (uP (c_value_within _ _ _) fun r1 _ => (uC (uC (uC (uN eValue p1.items (uJ (hJ3 ((p1.items.length : Int) == (0 : Int))))) (uJ (hJ3 false))) (uJ (hJ3 false))) (uJ (hJ3 false))))) (uC (uQ (kS Tryz.f174 [1,1,0,1,0,1,1,1,1,1,0,0] 3) fun K20 hK20 => have hJ4 : ∀ (x4 : Bool), value_plain_j4 x4 = some r → K20.p [(2, vb x4)] [] := fun x4 h => hK20 h (uR .ret xF); (uP (c_value_within _ _ _) fun r2 _ => (uC (uC (uC (uN eValue p1.items (uJ (hJ4 ((p1.items.length : Int) == (0 : Int))))) (uJ (hJ4 false))) (uJ (hJ4 false))) (uJ (hJ4 false))))) (uC (uQ (kS Tryz.f174 [1,1,0,1,0,1,1,1,1,1,1,1,0,0] 3) fun K27 hK27 => have hJ5 : ∀ (x5 : Bool), value_plain_j5 x5 = some r → K27.p [(2, vb x5)] [] := fun x5 h => hK27 h (uR .ret xF); (uP (c_value_within _ _ _) fun r3 _ => (uC (uP (c_value_within _ _ _) fun r4 _ => (uC (uC (uN eValue p1.items (uJ (hJ5 ((p1.items.length : Int) == (0 : Int))))) (uJ (hJ5 false))) (uJ (hJ5 false)))) (uJ (hJ5 false))))) (uC (uQ (kS Tryz.f174 [1,1,0,1,0,1,1,1,1,1,1,1,1,1,0,0] 3) fun K35 hK35 => have hJ6 : ∀ (x6 : Bool), value_plain_j6 x6 = some r → K35.p [(2, vb x6)] [] := fun x6 h => hK35 h (uR .ret xF); (uC (uP (c_value_text _) fun r5 _ => (uC (uN eValue p1.items (uJ (hJ6 ((p1.items.length : Int) == (0 : Int))))) (uJ (hJ6 false)))) (uJ (hJ6 false)))) (uC (uQ (kS Tryz.f174 [1,1,0,1,0,1,1,1,1,1,1,1,1,1,1,1,0,0] 3) fun K41 hK41 => have hJ7 : ∀ (x7 : Bool), value_plain_j7 x7 = some r → K41.p [(2, vb x7)] [] := fun x7 h => hK41 h (uR .ret xF); (uP (c_value_within _ _ _) fun r6 _ => (uC (uC (uC (uN eValue p1.items (uJ (hJ7 ((p1.items.length : Int) == (0 : Int))))) (uJ (hJ7 false))) (uJ (hJ7 false))) (uJ (hJ7 false))))) (uC (uQ (kS Tryz.f174 [1,1,0,1,0,1,1,1,1,1,1,1,1,1,1,1,1,1,0,0] 3) fun K48 hK48 => have hJ8 : ∀ (x8 : Bool), value_plain_j8 x8 = some r → K48.p [(2, vb x8)] [] := fun x8 h => hK48 h (uR .ret xF); (uC (uC (uN eValue p1.items (uJ (hJ8 (decide ((p1.items.length : Int) ≤ (64 : Int)))))) (uJ (hJ8 false))) (uJ (hJ8 false)))) (uC (uQ (kS Tryz.f174 [1,1,0,1,0,1,1,1,1,1,1,1,1,1,1,1,1,1,1,1,0,0] 3) fun K53 hK53 => have hJ9 : ∀ (x9 : Bool), value_plain_j9 x9 = some r → K53.p [(2, vb x9)] [] := fun x9 h => hK53 h (uR .ret xF); (uC (uC (uN eValue p1.items (uJ (hJ9 (decide ((0 : Int) < (p1.items.length : Int)))))) (uJ (hJ9 false))) (uJ (hJ9 false)))) (uR .ret xF))))))))); (uC (uJ (hJ1 (p1.scale == (0 : Int)))) (uJ (hJ1 false))))

def slices_IndexFunc_api_Value_api_Value_of_value_sound_1_j1 (z2 : Int) : Option (Int × Int) :=
    some ((-1 : Int), z2)

def slices_IndexFunc_api_Value_api_Value_of_value_sound_1_l1 (q_value_sound_1_s : GValue → Int → Int → Option (Bool × Int)) (p1 : (List GValue)) (p2 : Int) : Nat → Int → Int → Option (Int × Int)
  | 0, _, _ => none
  | k1 + 1, z1, x1 =>
    ift (decide (x1 < (p1.length : Int)))
      (bnd (at? p1 x1) fun e1 =>
       bnd (q_value_sound_1_s e1 p2 z1) fun r1 =>
       ift r1.1
         (some (x1, r1.2))
         ((slices_IndexFunc_api_Value_api_Value_of_value_sound_1_l1 q_value_sound_1_s p1 p2 k1) r1.2 (IntKind.i64.wrap (x1 + (1 : Int)))))
      (slices_IndexFunc_api_Value_api_Value_of_value_sound_1_j1 z1)

def value_sound_j2 (q_slices_ContainsFunc_api_Value_api_Value_of_value_sound_1 : (List GValue) → Int → Int → Option (Bool × Int)) (p1 : GValue) (p2 : Int) (z1 : Int) (x1 : Bool) : Option (Bool × Int) :=
    ift x1
      (some (false, z1))
      (bnd (q_slices_ContainsFunc_api_Value_api_Value_of_value_sound_1 p1.items p2 z1) fun r2 =>
       some ((!r2.1), r2.2))

def value_sound_j1 (q_slices_ContainsFunc_api_Value_api_Value_of_value_sound_1 : (List GValue) → Int → Int → Option (Bool × Int)) (p1 : GValue) (p2 : Int) (z1 : Int) : Option (Bool × Int) :=
    ift (decide ((4 : Int) < p2))
      (value_sound_j2 q_slices_ContainsFunc_api_Value_api_Value_of_value_sound_1 p1 p2 z1 true)
      (ift (decide ((256 : Int) < z1))
         (value_sound_j2 q_slices_ContainsFunc_api_Value_api_Value_of_value_sound_1 p1 p2 z1 true)
         (bnd (value_plain p1) fun r1 =>
          value_sound_j2 q_slices_ContainsFunc_api_Value_api_Value_of_value_sound_1 p1 p2 z1 (!r1)))

mutual

def slices_ContainsFunc_api_Value_api_Value_of_value_sound_1 : Nat → (List GValue) → Int → Int → Option (Bool × Int)
  | 0, _, _, _ => none
  | k0 + 1, p1, p2, p3 =>
    bnd ((slices_IndexFunc_api_Value_api_Value_of_value_sound_1 k0) p1 p2 p3) fun r1 =>
    some ((decide ((0 : Int) ≤ r1.1)), r1.2)

def slices_IndexFunc_api_Value_api_Value_of_value_sound_1 : Nat → (List GValue) → Int → Int → Option (Int × Int)
  | 0, _, _, _ => none
  | k0 + 1, p1, p2, p3 =>
    slices_IndexFunc_api_Value_api_Value_of_value_sound_1_l1 (value_sound_1_s k0) p1 p2 BIG p3 (0 : Int)

def value_sound : Nat → GValue → Int → Int → Option (Bool × Int)
  | 0, _, _, _ => none
  | k0 + 1, p1, p2, p3 =>
    ift (p1.kind != (0 : Int))
      (value_sound_j1 (slices_ContainsFunc_api_Value_api_Value_of_value_sound_1 k0) p1 p2 (IntKind.i64.wrap (p3 + (1 : Int))))
      (value_sound_j1 (slices_ContainsFunc_api_Value_api_Value_of_value_sound_1 k0) p1 p2 p3)

def value_sound_1_s : Nat → GValue → Int → Int → Option (Bool × Int)
  | 0, _, _, _ => none
  | k0 + 1, p1, p2, p3 =>
    bnd ((value_sound k0) p1 (IntKind.i64.wrap (p2 + (1 : Int))) p3) fun r1 =>
    some ((!r1.1), r1.2)

end


mutual

theorem c_slices_ContainsFunc_api_Value_api_Value_of_value_sound_1 : ∀ (k0 : Nat) (p1 : (List GValue)) (p2 : Int) (p3 : Int), CM Tryz.prog 175 [vl eValue p1, .one (.fn 176 [.pv (.rp [[pi p2]] 0 0), .pt 0 0 0 0])] [.box [.pt 1 0 0 0], .box [ci p3]] (slices_ContainsFunc_api_Value_api_Value_of_value_sound_1 k0 p1 p2 p3) (fun r => vb r.1) (fun r => [.box [.pt 1 0 0 0], .box [ci r.2]])
  | 0, _, _, _ => uM0 (slices_ContainsFunc_api_Value_api_Value_of_value_sound_1.eq_1 ..)
  | k0 + 1, p1, p2, p3 => uFnM 2 9 [] Tryz.f175 fun r => (uU (slices_ContainsFunc_api_Value_api_Value_of_value_sound_1.eq_2 ..) (uMc true [0,1] (c_slices_IndexFunc_api_Value_api_Value_of_value_sound_1 k0 _ _ _) fun r1 _ => (uR .ret xFM)))

theorem c_slices_IndexFunc_api_Value_api_Value_of_value_sound_1 : ∀ (k0 : Nat) (p1 : (List GValue)) (p2 : Int) (p3 : Int), CM Tryz.prog 197 [vl eValue p1, .one (.fn 176 [.pv (.rp [[pi p2]] 0 0), .pt 0 0 0 0])] [.box [.pt 1 0 0 0], .box [ci p3]] (slices_IndexFunc_api_Value_api_Value_of_value_sound_1 k0 p1 p2 p3) (fun r => vi r.1) (fun r => [.box [.pt 1 0 0 0], .box [ci r.2]])
  | 0, _, _, _ => uM0 (slices_IndexFunc_api_Value_api_Value_of_value_sound_1.eq_1 ..)
  | k0 + 1, p1, p2, p3 => uFnM 2 19 [] Tryz.f197 fun r => (uU (slices_IndexFunc_api_Value_api_Value_of_value_sound_1.eq_2 ..) (uQ (kS Tryz.f197 [1,0] 1) fun K2 hK2 => have hJ1 : ∀ (z2 : Int), slices_IndexFunc_api_Value_api_Value_of_value_sound_1_j1 z2 = some r → K2.p [] [.box [.pt 1 0 0 0], .box [ci z2]] := fun z2 h => hK2 h (uR .ret xFM); (uN eValue p1 (uO (cd Tryz.f197 [1,0,1,0,0]) (kS Tryz.f197 [1,0,1,0] 1) fun R1 b1 => have hL1 : ∀ (k1 : Nat) (z1 : Int) (x1 : Int), slices_IndexFunc_api_Value_api_Value_of_value_sound_1_l1 (value_sound_1_s k0) p1 p2 k1 z1 x1 = some r → (R1 k1).p [(0, vl eValue p1), (1, .one (.fn 176 [.pv (.rp [[pi p2]] 0 0), .pt 0 0 0 0])), (7, vi (p1.length : Int)), (8, vi x1)] [.box [.pt 1 0 0 0], .box [ci z1]] := by intro k1; induction k1 with | zero => intro z1 x1 h; exact uE0 (slices_IndexFunc_api_Value_api_Value_of_value_sound_1_l1.eq_1 ..) h | succ k1 ih1 => intro z1 x1 h; exact b1 h (uU (slices_IndexFunc_api_Value_api_Value_of_value_sound_1_l1.eq_2 ..) (uC (uL eValue fun e1 a10 => (uMc true [0,1] (c_value_sound_1_s k0 _ _ _) fun r1 _ => (uC (uR .ret (xN (xN xFM))) (uJ (ih1 r1.2 (IntKind.i64.wrap (x1 + (1 : Int)))))))) (uR (.exit 0) (xM (uJ (hJ1 z1))))))
 uE (hL1 BIG p3 (0 : Int))))))

theorem c_value_sound : ∀ (k0 : Nat) (p1 : GValue) (p2 : Int) (p3 : Int), CM Tryz.prog 141 [.ag [ci p1.kind, ci p1.n, ci p1.scale, cst p1.s, cl eValue p1.items], vi p2, .one (.pt 0 0 0 0)] [.box [ci p3]] (value_sound k0 p1 p2 p3) (fun r => vb r.1) (fun r => [.box [ci r.2]])
  | 0, _, _, _ => uM0 (value_sound.eq_1 ..)
  | k0 + 1, p1, p2, p3 => uFnM 1 33 [5] Tryz.f141 fun r => (uU (value_sound.eq_2 ..) (uQ (kS Tryz.f141 [1,0] 1) fun K2 hK2 => have hJ1 : ∀ (z1 : Int), value_sound_j1 (slices_ContainsFunc_api_Value_api_Value_of_value_sound_1 k0) p1 p2 z1 = some r → K2.p [(3, .one (.pv (.rp [[pi p1.kind, pi p1.n, pi p1.scale, .s (.string p1.s), .ro (eValue.els p1.items)]] 0 0))), (4, .one (.pv (.rp [[pi p2]] 0 0))), (5, .one (.pt 1 0 0 0))] [.box [ci z1], .box [.pt 0 0 0 0]] := fun z1 h => hK2 h (uQ (kS Tryz.f141 [1,1,0,0] 2) fun K6 hK6 => have hJ2 : ∀ (x1 : Bool), value_sound_j2 (slices_ContainsFunc_api_Value_api_Value_of_value_sound_1 k0) p1 p2 z1 x1 = some r → K6.p [(3, .one (.pv (.rp [[pi p1.kind, pi p1.n, pi p1.scale, .s (.string p1.s), .ro (eValue.els p1.items)]] 0 0))), (4, .one (.pv (.rp [[pi p2]] 0 0))), (5, .one (.pt 1 0 0 0)), (27, vb x1)] [.box [ci z1], .box [.pt 0 0 0 0]] := fun x1 h => hK6 h (uC (uR .ret xFM) (uMc true [1,0] (c_slices_ContainsFunc_api_Value_api_Value_of_value_sound_1 k0 _ _ _) fun r2 _ => (uR .ret xFM))); (uC (uJ (hJ2 true)) (uC (uJ (hJ2 true)) (uP (c_value_plain _) fun r1 _ => (uJ (hJ2 (!r1))))))); (uC (uJ (hJ1 (IntKind.i64.wrap (p3 + (1 : Int))))) (uJ (hJ1 p3)))))

theorem c_value_sound_1_s : ∀ (k0 : Nat) (p1 : GValue) (p2 : Int) (p3 : Int), CM Tryz.prog 176 [.ag [ci p1.kind, ci p1.n, ci p1.scale, cst p1.s, cl eValue p1.items], .one (.pv (.rp [[pi p2]] 0 0)), .one (.pt 0 0 0 0)] [.box [.pt 1 0 0 0], .box [ci p3]] (value_sound_1_s k0 p1 p2 p3) (fun r => vb r.1) (fun r => [.box [.pt 1 0 0 0], .box [ci r.2]])
  | 0, _, _, _ => uM0 (value_sound_1_s.eq_1 ..)
  | k0 + 1, p1, p2, p3 => uFnM 2 11 [] Tryz.f176 fun r => (uU (value_sound_1_s.eq_2 ..) (uMc true [1] (c_value_sound k0 _ _ _) fun r1 _ => (uR .ret xFM)))

end

def value_Sound (p1 : GValue) : Option Bool :=
    bnd (value_sound BIG p1 (1 : Int) (0 : Int)) fun r1 =>
    some r1.1


theorem c_value_Sound (p1 : GValue) : CT Tryz.prog 99 [.ag [ci p1.kind, ci p1.n, ci p1.scale, cst p1.s, cl eValue p1.items]] (value_Sound p1) vb :=
  uFn 6 [3] Tryz.f99 fun r => (uMc true [0] (c_value_sound BIG _ _ _) fun r1 _ => (uR .ret xF))

def slices_EqualFunc_api_Field_api_Value_api_Field_api_Value_of_value_of_2_j1 : Option Bool :=
    some true

def slices_EqualFunc_api_Field_api_Value_api_Field_api_Value_of_value_of_2_l1 (q_value_of_2 : GField → GValue → Option Bool) (p1 : (List GField)) (p2 : (List GValue)) : Nat → Int → Option Bool
  | 0, _ => none
  | k1 + 1, x1 =>
    ift (decide (x1 < (p1.length : Int)))
      (bnd (at? p1 x1) fun e1 =>
       bnd (at? p2 x1) fun e2 =>
       bnd (q_value_of_2 e1 e2) fun r1 =>
       ift (!r1)
         (some false)
         ((slices_EqualFunc_api_Field_api_Value_api_Field_api_Value_of_value_of_2_l1 q_value_of_2 p1 p2 k1) (IntKind.i64.wrap (x1 + (1 : Int)))))
      (slices_EqualFunc_api_Field_api_Value_api_Field_api_Value_of_value_of_2_j1)

def slices_IndexFunc_api_Value_api_Value_of_value_of_1_j1 : Option Int :=
    some (-1 : Int)

def slices_IndexFunc_api_Value_api_Value_of_value_of_1_l1 (q_value_of_1_s : GValue → Int → Int → (List GField) → Option Bool) (p1 : (List GValue)) (p2 : Int) (p3 : Int) (p4 : (List GField)) : Nat → Int → Option Int
  | 0, _ => none
  | k1 + 1, x1 =>
    ift (decide (x1 < (p1.length : Int)))
      (bnd (at? p1 x1) fun e1 =>
       bnd (q_value_of_1_s e1 p2 p3 p4) fun r1 =>
       ift r1
         (some x1)
         ((slices_IndexFunc_api_Value_api_Value_of_value_of_1_l1 q_value_of_1_s p1 p2 p3 p4 k1) (IntKind.i64.wrap (x1 + (1 : Int)))))
      (slices_IndexFunc_api_Value_api_Value_of_value_of_1_j1)

mutual

def slices_ContainsFunc_api_Value_api_Value_of_value_of_1 : Nat → (List GValue) → Int → Int → (List GField) → Option Bool
  | 0, _, _, _, _ => none
  | k0 + 1, p1, p2, p3, p4 =>
    bnd ((slices_IndexFunc_api_Value_api_Value_of_value_of_1 k0) p1 p2 p3 p4) fun r1 =>
    some (decide ((0 : Int) ≤ r1))

def slices_EqualFunc_api_Field_api_Value_api_Field_api_Value_of_value_of_2 : Nat → (List GField) → (List GValue) → Option Bool
  | 0, _, _ => none
  | k0 + 1, p1, p2 =>
    ift ((p1.length : Int) != (p2.length : Int))
      (some false)
      (slices_EqualFunc_api_Field_api_Value_api_Field_api_Value_of_value_of_2_l1 (value_of_2 k0) p1 p2 BIG (0 : Int))

def slices_IndexFunc_api_Value_api_Value_of_value_of_1 : Nat → (List GValue) → Int → Int → (List GField) → Option Int
  | 0, _, _, _, _ => none
  | k0 + 1, p1, p2, p3, p4 =>
    slices_IndexFunc_api_Value_api_Value_of_value_of_1_l1 (value_of_1_s k0) p1 p2 p3 p4 BIG (0 : Int)

def value_of : Nat → GType → GValue → Option Bool
  | 0, _, _ => none
  | k0 + 1, p1, p2 =>
    ift (p2.kind == (0 : Int))
      (some true)
      (ift (p2.kind != p1.kind)
         (some false)
         (ift (p2.kind == (3 : Int))
            (some (p2.scale == p1.scale))
            (ift (p2.kind == (6 : Int))
               (bnd ((slices_ContainsFunc_api_Value_api_Value_of_value_of_1 k0) p2.items p1.kind p1.scale p1.fields) fun r1 =>
                some (!r1))
               (ift (p2.kind == (7 : Int))
                  (bnd ((slices_EqualFunc_api_Field_api_Value_api_Field_api_Value_of_value_of_2 k0) p1.fields p2.items) fun r2 =>
                   some r2)
                  (some true)))))

def value_of_1_s : Nat → GValue → Int → Int → (List GField) → Option Bool
  | 0, _, _, _, _ => none
  | k0 + 1, p1, p2, p3, p4 =>
    bnd (at? p4 (0 : Int)) fun e1 =>
    bnd ((value_of k0) e1.type p1) fun r1 =>
    some (!r1)

def value_of_2 : Nat → GField → GValue → Option Bool
  | 0, _, _ => none
  | k0 + 1, p1, p2 =>
    bnd ((value_of k0) p1.type p2) fun r1 =>
    some r1

end


mutual

theorem c_slices_ContainsFunc_api_Value_api_Value_of_value_of_1 : ∀ (k0 : Nat) (p1 : (List GValue)) (p2 : Int) (p3 : Int) (p4 : (List GField)), CT Tryz.prog 175 [vl eValue p1, .one (.fn 180 [.pv (.rp [[pi p2, pi p3, .ro (eField.els p4)]] 0 0)])] (slices_ContainsFunc_api_Value_api_Value_of_value_of_1 k0 p1 p2 p3 p4) vb
  | 0, _, _, _, _ => uF0 (slices_ContainsFunc_api_Value_api_Value_of_value_of_1.eq_1 ..)
  | k0 + 1, p1, p2, p3, p4 => uFn 9 [] Tryz.f175 fun r => (uU (slices_ContainsFunc_api_Value_api_Value_of_value_of_1.eq_2 ..) (uP (c_slices_IndexFunc_api_Value_api_Value_of_value_of_1 k0 _ _ _ _) fun r1 _ => (uR .ret xF)))

theorem c_slices_EqualFunc_api_Field_api_Value_api_Field_api_Value_of_value_of_2 : ∀ (k0 : Nat) (p1 : (List GField)) (p2 : (List GValue)), CT Tryz.prog 181 [vl eField p1, vl eValue p2, .one (.pv (.fn 182 []))] (slices_EqualFunc_api_Field_api_Value_api_Field_api_Value_of_value_of_2 k0 p1 p2) vb
  | 0, _, _ => uF0 (slices_EqualFunc_api_Field_api_Value_api_Field_api_Value_of_value_of_2.eq_1 ..)
  | k0 + 1, p1, p2 => uFn 32 [8, 9] Tryz.f181 fun r => (uU (slices_EqualFunc_api_Field_api_Value_api_Field_api_Value_of_value_of_2.eq_2 ..) (uN eField p1 (uN eValue p2 (uC (uR .ret xF) (uQ (kS Tryz.f181 [1,1,0] 1) fun K6 hK6 => have hJ1 : ∀ (_ : Unit), slices_EqualFunc_api_Field_api_Value_api_Field_api_Value_of_value_of_2_j1 = some r → K6.p [] [] := fun _ h => hK6 h (uR .ret xF); (uN eField p1 (uO (cd Tryz.f181 [1,1,0,1,0,0]) (kS Tryz.f181 [1,1,0,1,0] 1) fun R1 b1 => have hL1 : ∀ (k1 : Nat) (x1 : Int), slices_EqualFunc_api_Field_api_Value_api_Field_api_Value_of_value_of_2_l1 (value_of_2 k0) p1 p2 k1 x1 = some r → (R1 k1).p [(1, vl eValue p2), (2, .one (.pv (.fn 182 []))), (15, vl eField p1), (16, vi (p1.length : Int)), (17, vi x1)] [] := by intro k1; induction k1 with | zero => intro x1 h; exact uE0 (slices_EqualFunc_api_Field_api_Value_api_Field_api_Value_of_value_of_2_l1.eq_1 ..) h | succ k1 ih1 => intro x1 h; exact b1 h (uU (slices_EqualFunc_api_Field_api_Value_api_Field_api_Value_of_value_of_2_l1.eq_2 ..) (uC (uL eField fun e1 a13 => (uL eValue fun e2 a15 => (uP (c_value_of_2 k0 _ _) fun r1 _ => (uC (uR .ret (xN (xN xF))) (uJ (ih1 (IntKind.i64.wrap (x1 + (1 : Int))))))))) (uR (.exit 0) (xM (uJ (hJ1 ()))))))
 uE (hL1 BIG (0 : Int)))))))))

theorem c_slices_IndexFunc_api_Value_api_Value_of_value_of_1 : ∀ (k0 : Nat) (p1 : (List GValue)) (p2 : Int) (p3 : Int) (p4 : (List GField)), CT Tryz.prog 197 [vl eValue p1, .one (.fn 180 [.pv (.rp [[pi p2, pi p3, .ro (eField.els p4)]] 0 0)])] (slices_IndexFunc_api_Value_api_Value_of_value_of_1 k0 p1 p2 p3 p4) vi
  | 0, _, _, _, _ => uF0 (slices_IndexFunc_api_Value_api_Value_of_value_of_1.eq_1 ..)
  | k0 + 1, p1, p2, p3, p4 => uFn 19 [] Tryz.f197 fun r => (uU (slices_IndexFunc_api_Value_api_Value_of_value_of_1.eq_2 ..) (uQ (kS Tryz.f197 [1,0] 1) fun K2 hK2 => have hJ1 : ∀ (_ : Unit), slices_IndexFunc_api_Value_api_Value_of_value_of_1_j1 = some r → K2.p [] [] := fun _ h => hK2 h (uR .ret xF); (uN eValue p1 (uO (cd Tryz.f197 [1,0,1,0,0]) (kS Tryz.f197 [1,0,1,0] 1) fun R1 b1 => have hL1 : ∀ (k1 : Nat) (x1 : Int), slices_IndexFunc_api_Value_api_Value_of_value_of_1_l1 (value_of_1_s k0) p1 p2 p3 p4 k1 x1 = some r → (R1 k1).p [(0, vl eValue p1), (1, .one (.fn 180 [.pv (.rp [[pi p2, pi p3, .ro (eField.els p4)]] 0 0)])), (7, vi (p1.length : Int)), (8, vi x1)] [] := by intro k1; induction k1 with | zero => intro x1 h; exact uE0 (slices_IndexFunc_api_Value_api_Value_of_value_of_1_l1.eq_1 ..) h | succ k1 ih1 => intro x1 h; exact b1 h (uU (slices_IndexFunc_api_Value_api_Value_of_value_of_1_l1.eq_2 ..) (uC (uL eValue fun e1 a10 => (uP (c_value_of_1_s k0 _ _ _ _) fun r1 _ => (uC (uR .ret (xN (xN xF))) (uJ (ih1 (IntKind.i64.wrap (x1 + (1 : Int)))))))) (uR (.exit 0) (xM (uJ (hJ1 ()))))))
 uE (hL1 BIG (0 : Int))))))

theorem c_value_of : ∀ (k0 : Nat) (p1 : GType) (p2 : GValue), CT Tryz.prog 154 [.ag [ci p1.kind, ci p1.scale, cl eField p1.fields], .ag [ci p2.kind, ci p2.n, ci p2.scale, cst p2.s, cl eValue p2.items]] (value_of k0 p1 p2) vb
  | 0, _, _ => uF0 (value_of.eq_1 ..)
  | k0 + 1, p1, p2 => uFn 42 [] Tryz.f154 fun r => (uU (value_of.eq_2 ..) (uC (uR .ret xF) (uC (uR .ret xF) (uC (uR .ret xF) (uC (uP (c_slices_ContainsFunc_api_Value_api_Value_of_value_of_1 k0 _ _ _ _) fun r1 _ => (uR .ret xF)) (uC (uP (c_slices_EqualFunc_api_Field_api_Value_api_Field_api_Value_of_value_of_2 k0 _ _) fun r2 _ => (uR .ret xF)) (uR .ret xF)))))))

theorem c_value_of_1_s : ∀ (k0 : Nat) (p1 : GValue) (p2 : Int) (p3 : Int) (p4 : (List GField)), CT Tryz.prog 180 [.ag [ci p1.kind, ci p1.n, ci p1.scale, cst p1.s, cl eValue p1.items], .one (.pv (.rp [[pi p2, pi p3, .ro (eField.els p4)]] 0 0))] (value_of_1_s k0 p1 p2 p3 p4) vb
  | 0, _, _, _, _ => uF0 (value_of_1_s.eq_1 ..)
  | k0 + 1, p1, p2, p3, p4 => uFn 12 [] Tryz.f180 fun r => (uU (value_of_1_s.eq_2 ..) (uDr 6 (uL eField fun e1 a3 => (uP (c_value_of k0 _ _) fun r1 _ => (uR .ret xF)))))

theorem c_value_of_2 : ∀ (k0 : Nat) (p1 : GField) (p2 : GValue), CT Tryz.prog 182 [.ag [ci p1.id, cst p1.name, cb p1.need, ci p1.type.kind, ci p1.type.scale, cl eField p1.type.fields], .ag [ci p2.kind, ci p2.n, ci p2.scale, cst p2.s, cl eValue p2.items]] (value_of_2 k0 p1 p2) vb
  | 0, _, _ => uF0 (value_of_2.eq_1 ..)
  | k0 + 1, p1, p2 => uFn 9 [] Tryz.f182 fun r => (uU (value_of_2.eq_2 ..) (uP (c_value_of k0 _ _) fun r1 _ => (uR .ret xF)))

end

def value_field_j1 (p1 : GType) (x1 : Int) : Option GField :=
    bnd (at? p1.fields x1) fun e1 =>
    some e1

def value_field (p1 : GType) (p2 : Int) : Option GField :=
    ift (p1.kind == (6 : Int))
      (value_field_j1 p1 (0 : Int))
      (value_field_j1 p1 p2)


theorem c_value_field (p1 : GType) (p2 : Int) : CT Tryz.prog 183 [.ag [ci p1.kind, ci p1.scale, cl eField p1.fields], vi p2] (value_field p1 p2) (fun r => .ag [ci r.id, cst r.name, cb r.need, ci r.type.kind, ci r.type.scale, cl eField r.type.fields]) :=
  uFn 13 [4] Tryz.f183 fun r => (uQ (kS Tryz.f183 [1,0] 1) fun K2 hK2 => have hJ1 : ∀ (x1 : Int), value_field_j1 p1 x1 = some r → K2.p [(1, vi x1), (2, .one (.pv (.rp [[pi p1.kind, pi p1.scale, .ro (eField.els p1.fields)]] 0 0))), (4, .one (.pt 0 0 0 0))] [.box [ci (0 : Int), cst ByteArray.empty, cb false, ci (0 : Int), ci (0 : Int), .pv (.s (.slice none 0 0))]] := fun x1 h => hK2 h (uL eField fun e1 a6 => (uR .ret xF)); (uC (uJ (hJ1 (0 : Int))) (uJ (hJ1 p2))))

def value_lacks_j1 (rec1 : Int → Option Bool) (x1 : Int) (x2 : Bool) : Option Bool :=
    ift x2
      (some true)
      (rec1 (IntKind.i64.wrap (x1 + (1 : Int))))

def value_lacks_j2 : Option Bool :=
    some false

def value_lacks_l1 (q_value_lacks : GType → GValue → Option Bool) (p1 : GType) (p2 : GValue) : Nat → Int → Option Bool
  | 0, _ => none
  | k1 + 1, x1 =>
    ift (decide (x1 < (p2.items.length : Int)))
      (bnd (at? p2.items x1) fun e1 =>
       bnd (value_field p1 x1) fun r1 =>
       ift (e1.kind == (0 : Int))
         (ift r1.need
            (value_lacks_j1 (value_lacks_l1 q_value_lacks p1 p2 k1) x1 true)
            (bnd (q_value_lacks r1.type e1) fun r2 =>
             value_lacks_j1 (value_lacks_l1 q_value_lacks p1 p2 k1) x1 r2))
         (bnd (q_value_lacks r1.type e1) fun r3 =>
          value_lacks_j1 (value_lacks_l1 q_value_lacks p1 p2 k1) x1 r3))
      (value_lacks_j2)

def value_lacks : Nat → GType → GValue → Option Bool
  | 0, _, _ => none
  | k0 + 1, p1, p2 =>
    value_lacks_l1 (value_lacks k0) p1 p2 BIG (0 : Int)


theorem c_value_lacks : ∀ (k0 : Nat) (p1 : GType) (p2 : GValue), CT Tryz.prog 155 [.ag [ci p1.kind, ci p1.scale, cl eField p1.fields], .ag [ci p2.kind, ci p2.n, ci p2.scale, cst p2.s, cl eValue p2.items]] (value_lacks k0 p1 p2) vb
  | 0, _, _ => uF0 (value_lacks.eq_1 ..)
  | k0 + 1, p1, p2 => uFn 33 [6, 7] Tryz.f155 fun r => (uU (value_lacks.eq_2 ..) (uQ (kS Tryz.f155 [1,0] 1) fun K2 hK2 => have hJ2 : ∀ (_ : Unit), value_lacks_j2 = some r → K2.p [] [] := fun _ h => hK2 h (uR .ret xF); (uN eValue p2.items (uO (cd Tryz.f155 [1,0,1,0,0]) (kS Tryz.f155 [1,0,1,0] 1) fun R1 b1 => have hL1 : ∀ (k1 : Nat) (x1 : Int), value_lacks_l1 (value_lacks k0) p1 p2 k1 x1 = some r → (R1 k1).p [(2, .one (.pv (.rp [[pi p1.kind, pi p1.scale, .ro (eField.els p1.fields)]] 0 0))), (9, vl eValue p2.items), (10, vi (p2.items.length : Int)), (11, vi x1)] [] := by intro k1; induction k1 with | zero => intro x1 h; exact uE0 (value_lacks_l1.eq_1 ..) h | succ k1 ih1 => intro x1 h; exact b1 h (uU (value_lacks_l1.eq_2 ..) (uC (uL eValue fun e1 a9 => (uP (c_value_field _ _) fun r1 _ => (uQ (kS Tryz.f155 [1,0,1,0,0,1,1,0,0,1,1,0] 3) fun K12 hK12 => have hJ1 : ∀ (x2 : Bool), value_lacks_j1 (value_lacks_l1 (value_lacks k0) p1 p2 k1) x1 x2 = some r → K12.p [(2, .one (.pv (.rp [[pi p1.kind, pi p1.scale, .ro (eField.els p1.fields)]] 0 0))), (9, vl eValue p2.items), (10, vi (p2.items.length : Int)), (11, vi x1), (31, vb x2)] [.dead, .dead] := fun x2 h => hK12 h (uC (uR .ret (xN (xN xF))) (uJ (ih1 (IntKind.i64.wrap (x1 + (1 : Int)))))); (uC (uC (uJ (hJ1 true)) (uP (c_value_lacks k0 _ _) fun r2 _ => (uJ (hJ1 r2)))) (uP (c_value_lacks k0 _ _) fun r3 _ => (uJ (hJ1 r3))))))) (uR (.exit 0) (xM (uJ (hJ2 ()))))))
 uE (hL1 BIG (0 : Int))))))

def value_Check (p1 : GType) (p2 : GValue) : Option Int :=
    bnd (value_CheckType p1) fun r1 =>
    ift (r1 != (0 : Int))
      (some r1)
      (bnd (value_Sound p2) fun r2 =>
       ift (!r2)
         (some (1 : Int))
         (bnd (value_of BIG p1 p2) fun r3 =>
          ift (!r3)
            (some (2 : Int))
            (bnd (value_lacks BIG p1 p2) fun r4 =>
             ift r4
               (some (9 : Int))
               (some (0 : Int)))))


theorem c_value_Check (p1 : GType) (p2 : GValue) : CT Tryz.prog 116 [.ag [ci p1.kind, ci p1.scale, cl eField p1.fields], .ag [ci p2.kind, ci p2.n, ci p2.scale, cst p2.s, cl eValue p2.items]] (value_Check p1 p2) vi :=
  uFn 24 [] Tryz.f116 fun r => (uP (c_value_CheckType _) fun r1 _ => (uC (uR .ret xF) (uP (c_value_Sound _) fun r2 _ => (uC (uR .ret xF) (uP (c_value_of BIG _ _) fun r3 _ => (uC (uR .ret xF) (uP (c_value_lacks BIG _ _) fun r4 _ => (uC (uR .ret xF) (uR .ret xF)))))))))

def table_stats_1 (p1 : GStats) (p2 : GField) : Option Bool :=
    some (p1.id == p2.id)


theorem c_table_stats_1 (p1 : GStats) (p2 : GField) : CT Tryz.prog 161 [.ag [ci p1.id, ci p1.nulls, ci p1.min.kind, ci p1.min.n, ci p1.min.scale, cst p1.min.s, cl eValue p1.min.items, ci p1.max.kind, ci p1.max.n, ci p1.max.scale, cst p1.max.s, cl eValue p1.max.items], .ag [ci p2.id, cst p2.name, cb p2.need, ci p2.type.kind, ci p2.type.scale, cl eField p2.type.fields]] (table_stats_1 p1 p2) vb :=
  uFn 10 [] Tryz.f161 fun r => (uR .ret xF)

def slices_EqualFunc_api_Stats_api_Field_api_Stats_api_Field_of_table_stats_1_j1 : Option Bool :=
    some true

def slices_EqualFunc_api_Stats_api_Field_api_Stats_api_Field_of_table_stats_1_l1 (p1 : (List GStats)) (p2 : (List GField)) : Nat → Int → Option Bool
  | 0, _ => none
  | k1 + 1, x1 =>
    ift (decide (x1 < (p1.length : Int)))
      (bnd (at? p1 x1) fun e1 =>
       bnd (at? p2 x1) fun e2 =>
       bnd (table_stats_1 e1 e2) fun r1 =>
       ift (!r1)
         (some false)
         ((slices_EqualFunc_api_Stats_api_Field_api_Stats_api_Field_of_table_stats_1_l1 p1 p2 k1) (IntKind.i64.wrap (x1 + (1 : Int)))))
      (slices_EqualFunc_api_Stats_api_Field_api_Stats_api_Field_of_table_stats_1_j1)

def slices_EqualFunc_api_Stats_api_Field_api_Stats_api_Field_of_table_stats_1 (p1 : (List GStats)) (p2 : (List GField)) : Option Bool :=
    ift ((p1.length : Int) != (p2.length : Int))
      (some false)
      (slices_EqualFunc_api_Stats_api_Field_api_Stats_api_Field_of_table_stats_1_l1 p1 p2 BIG (0 : Int))


theorem c_slices_EqualFunc_api_Stats_api_Field_api_Stats_api_Field_of_table_stats_1 (p1 : (List GStats)) (p2 : (List GField)) : CT Tryz.prog 162 [vl eStats p1, vl eField p2, .one (.pv (.fn 161 []))] (slices_EqualFunc_api_Stats_api_Field_api_Stats_api_Field_of_table_stats_1 p1 p2) vb :=
  uFn 32 [8, 9] Tryz.f162 fun r => (uN eStats p1 (uN eField p2 (uC (uR .ret xF) (uQ (kS Tryz.f162 [1,1,0] 1) fun K6 hK6 => have hJ1 : ∀ (_ : Unit), slices_EqualFunc_api_Stats_api_Field_api_Stats_api_Field_of_table_stats_1_j1 = some r → K6.p [] [] := fun _ h => hK6 h (uR .ret xF); (uN eStats p1 (uO (cd Tryz.f162 [1,1,0,1,0,0]) (kS Tryz.f162 [1,1,0,1,0] 1) fun R1 b1 => have hL1 : ∀ (k1 : Nat) (x1 : Int), slices_EqualFunc_api_Stats_api_Field_api_Stats_api_Field_of_table_stats_1_l1 p1 p2 k1 x1 = some r → (R1 k1).p [(1, vl eField p2), (2, .one (.pv (.fn 161 []))), (15, vl eStats p1), (16, vi (p1.length : Int)), (17, vi x1)] [] := by intro k1; induction k1 with | zero => intro x1 h; exact uE0 (slices_EqualFunc_api_Stats_api_Field_api_Stats_api_Field_of_table_stats_1_l1.eq_1 ..) h | succ k1 ih1 => intro x1 h; exact b1 h (uU (slices_EqualFunc_api_Stats_api_Field_api_Stats_api_Field_of_table_stats_1_l1.eq_2 ..) (uC (uL eStats fun e1 a13 => (uL eField fun e2 a15 => (uP (c_table_stats_1 _ _) fun r1 _ => (uC (uR .ret (xN (xN xF))) (uJ (ih1 (IntKind.i64.wrap (x1 + (1 : Int))))))))) (uR (.exit 0) (xM (uJ (hJ1 ()))))))
 uE (hL1 BIG (0 : Int))))))))

def cmp_isNaN_int (p1 : Int) : Option Bool :=
    some (p1 != p1)


theorem c_cmp_isNaN_int (p1 : Int) : CT Tryz.prog 167 [vi p1] (cmp_isNaN_int p1) vb :=
  uFn 6 [] Tryz.f167 fun r => (uR .ret xF)

def cmp_Compare_int (p1 : Int) (p2 : Int) : Option Int :=
    bnd (cmp_isNaN_int p1) fun r1 =>
    bnd (cmp_isNaN_int p2) fun r2 =>
    ift r1
      (ift r2
         (some (0 : Int))
         (some (-1 : Int)))
      (ift r2
         (some (1 : Int))
         (ift (decide (p1 < p2))
            (some (-1 : Int))
            (ift (decide (p2 < p1))
               (some (1 : Int))
               (some (0 : Int)))))


theorem c_cmp_Compare_int (p1 : Int) (p2 : Int) : CT Tryz.prog 134 [vi p1, vi p2] (cmp_Compare_int p1 p2) vi :=
  uFn 20 [] Tryz.f134 fun r => (uP (c_cmp_isNaN_int _) fun r1 _ => (uP (c_cmp_isNaN_int _) fun r2 _ => (uC (uC (uR .ret xF) (uR .ret xF)) (uC (uR .ret xF) (uC (uR .ret xF) (uC (uR .ret xF) (uR .ret xF)))))))

def value_whole (p1 : Int) : Option GWide :=
    ift (decide (p1 < (0 : Int)))
      (some (GWide.mk true ((IntKind.u64.wrap (0 - (IntKind.u64.wrap p1))), (0 : Int), (0 : Int), (0 : Int))))
      (some (GWide.mk false ((IntKind.u64.wrap p1), (0 : Int), (0 : Int), (0 : Int))))


theorem c_value_whole (p1 : Int) : CT Tryz.prog 168 [vi p1] (value_whole p1) (fun r => .ag [cb r.neg, ck .u64 r.size.1, ck .u64 r.size.2.1, ck .u64 r.size.2.2.1, ck .u64 r.size.2.2.2]) :=
  uFn 14 [2] Tryz.f168 fun r => (uC (uR .ret xF) (uR .ret xF))

def math_bits_Mul64 (p1 : Int) (p2 : Int) : Option (Int × Int) :=
    bnd (some (IntKind.u64.wrap (BitVec.ofInt (IntKind.u64).bits p1 &&& BitVec.ofInt (IntKind.u64).bits (4294967295 : Int)).toNat)) fun y1 =>
    bnd (some (IntKind.u64.wrap (BitVec.ofInt (IntKind.u64).bits p2 &&& BitVec.ofInt (IntKind.u64).bits (4294967295 : Int)).toNat)) fun y2 =>
    bnd (some (IntKind.u64.wrap ((p1.fdiv (2 ^ (min (32 : Int).toNat (IntKind.u64).bits))) * y2))) fun y3 =>
    bnd (some ((IntKind.u64.wrap (y1 * y2)).fdiv (2 ^ (min (32 : Int).toNat (IntKind.u64).bits)))) fun y4 =>
    bnd (some (IntKind.u64.wrap (BitVec.ofInt (IntKind.u64).bits (IntKind.u64.wrap (y3 + y4)) &&& BitVec.ofInt (IntKind.u64).bits (4294967295 : Int)).toNat)) fun y5 =>
    bnd (some ((IntKind.u64.wrap (y3 + y4)).fdiv (2 ^ (min (32 : Int).toNat (IntKind.u64).bits)))) fun y6 =>
    bnd (some (IntKind.u64.wrap (y1 * (p2.fdiv (2 ^ (min (32 : Int).toNat (IntKind.u64).bits)))))) fun y7 =>
    bnd (some (IntKind.u64.wrap ((p1.fdiv (2 ^ (min (32 : Int).toNat (IntKind.u64).bits))) * (p2.fdiv (2 ^ (min (32 : Int).toNat (IntKind.u64).bits)))))) fun y8 =>
    bnd (some ((IntKind.u64.wrap (y5 + y7)).fdiv (2 ^ (min (32 : Int).toNat (IntKind.u64).bits)))) fun y9 =>
    some ((IntKind.u64.wrap ((IntKind.u64.wrap (y8 + y6)) + y9)), (IntKind.u64.wrap (p1 * p2)))


theorem c_math_bits_Mul64 (p1 : Int) (p2 : Int) : CT Tryz.prog 205 [vk .u64 p1, vk .u64 p2] (math_bits_Mul64 p1 p2) (fun r => .tp [vk .u64 r.1, vk .u64 r.2]) :=
  uFn 51 [] Tryz.f205 fun r => (uY 15 (vk .u64) fun y1 => (uY 19 (vk .u64) fun y2 => (uY 27 (vk .u64) fun y3 => (uY 29 (vk .u64) fun y4 => (uY 32 (vk .u64) fun y5 => (uY 34 (vk .u64) fun y6 => (uY 38 (vk .u64) fun y7 => (uY 42 (vk .u64) fun y8 => (uY 46 (vk .u64) fun y9 => (uR .ret xF))))))))))

def value_wide_times (p1 : GWide) (p2 : Int) : Option GWide :=
    bnd (math_bits_Mul64 p1.size.1 p2) fun r1 =>
    grd (0 ≤ r1.2 ∧ 0 ≤ (0 : Int) ∧ 0 ≤ (0 : Int) ∧ (0 : Int) ≤ 1) <|
    bnd (some (IntKind.u64.wrap (r1.1 + ((r1.2 + (0 : Int) + (0 : Int)) / 18446744073709551616)))) fun y1 =>
    bnd (math_bits_Mul64 p1.size.2.1 p2) fun r2 =>
    grd (0 ≤ r2.2 ∧ 0 ≤ y1 ∧ 0 ≤ (0 : Int) ∧ (0 : Int) ≤ 1) <|
    bnd (some (IntKind.u64.wrap (r2.1 + ((r2.2 + y1 + (0 : Int)) / 18446744073709551616)))) fun y2 =>
    bnd (math_bits_Mul64 p1.size.2.2.1 p2) fun r3 =>
    grd (0 ≤ r3.2 ∧ 0 ≤ y2 ∧ 0 ≤ (0 : Int) ∧ (0 : Int) ≤ 1) <|
    bnd (some (IntKind.u64.wrap (r3.1 + ((r3.2 + y2 + (0 : Int)) / 18446744073709551616)))) fun y3 =>
    bnd (math_bits_Mul64 p1.size.2.2.2 p2) fun r4 =>
    grd (0 ≤ r4.2 ∧ 0 ≤ y3 ∧ 0 ≤ (0 : Int) ∧ (0 : Int) ≤ 1) <|
    bnd (some (IntKind.u64.wrap (r4.1 + ((r4.2 + y3 + (0 : Int)) / 18446744073709551616)))) fun y4 =>
    some (GWide.mk p1.neg (((r1.2 + (0 : Int) + (0 : Int)) % 18446744073709551616), ((r2.2 + y1 + (0 : Int)) % 18446744073709551616), ((r3.2 + y2 + (0 : Int)) % 18446744073709551616), ((r4.2 + y3 + (0 : Int)) % 18446744073709551616)))


theorem c_value_wide_times (p1 : GWide) (p2 : Int) : CT Tryz.prog 190 [.ag [cb p1.neg, ck .u64 p1.size.1, ck .u64 p1.size.2.1, ck .u64 p1.size.2.2.1, ck .u64 p1.size.2.2.2], vk .u64 p2] (value_wide_times p1 p2) (fun r => .ag [cb r.neg, ck .u64 r.size.1, ck .u64 r.size.2.1, ck .u64 r.size.2.2.1, ck .u64 r.size.2.2.2]) :=
  uFn 37 [2, 4] Tryz.f190 fun r => (uOk 4 (uP (c_math_bits_Mul64 _ _) fun r1 _ => (uAdd 206 Tryz.f206 (uY 34 (vk .u64) fun y1 => (uP (c_math_bits_Mul64 _ _) fun r2 _ => (uAdd 206 Tryz.f206 (uY 34 (vk .u64) fun y2 => (uP (c_math_bits_Mul64 _ _) fun r3 _ => (uAdd 206 Tryz.f206 (uY 34 (vk .u64) fun y3 => (uP (c_math_bits_Mul64 _ _) fun r4 _ => (uAdd 206 Tryz.f206 (uY 34 (vk .u64) fun y4 => (uR .ret xF))))))))))))))

def value_wide_shifted_j1 (z6 : Bool) (z7 : Int) (z8 : Int) (z9 : Int) (z10 : Int) : Option GWide :=
    some (GWide.mk z6 (z7, z8, z9, z10))

def value_wide_shifted_l1 (p2 : Int) : Nat → Bool → Int → Int → Int → Int → Int → Option GWide
  | 0, _, _, _, _, _, _ => none
  | k1 + 1, z1, z2, z3, z4, z5, x1 =>
    ift (decide (x1 < p2))
      (bnd (value_wide_times (GWide.mk z1 (z2, z3, z4, z5)) (10 : Int)) fun r1 =>
       (value_wide_shifted_l1 p2 k1) r1.neg r1.size.1 r1.size.2.1 r1.size.2.2.1 r1.size.2.2.2 (IntKind.i64.wrap (x1 + (1 : Int))))
      (value_wide_shifted_j1 z1 z2 z3 z4 z5)

def value_wide_shifted (p1 : GWide) (p2 : Int) : Option GWide :=
    value_wide_shifted_l1 p2 BIG p1.neg p1.size.1 p1.size.2.1 p1.size.2.2.1 p1.size.2.2.2 (0 : Int)

abbrev qa1114 : List CV := [cb false, ck .u64 (0 : Int), ck .u64 (0 : Int), ck .u64 (0 : Int), ck .u64 (0 : Int)]

theorem c_value_wide_shifted (p1 : GWide) (p2 : Int) : CT Tryz.prog 169 [.ag [cb p1.neg, ck .u64 p1.size.1, ck .u64 p1.size.2.1, ck .u64 p1.size.2.2.1, ck .u64 p1.size.2.2.2], vi p2] (value_wide_shifted p1 p2) (fun r => .ag [cb r.neg, ck .u64 r.size.1, ck .u64 r.size.2.1, ck .u64 r.size.2.2.1, ck .u64 r.size.2.2.2]) :=
  uFn 12 [2, 4] Tryz.f169 fun r => (uQ (kS Tryz.f169 [1,0] 1) fun K2 hK2 => have hJ1 : ∀ (z6 : Bool) (z7 : Int) (z8 : Int) (z9 : Int) (z10 : Int), value_wide_shifted_j1 z6 z7 z8 z9 z10 = some r → K2.p [(2, .one (.pt 0 0 0 0)), (4, .one (.pt 1 0 0 0))] [.box [cb z6, ck .u64 z7, ck .u64 z8, ck .u64 z9, ck .u64 z10], .box qa1114] := fun z6 z7 z8 z9 z10 h => hK2 h (uR .ret xF); (uO (cd Tryz.f169 [1,0,1,0,0]) (kS Tryz.f169 [1,0,1,0] 1) fun R1 b1 => have hL1 : ∀ (k1 : Nat) (z1 : Bool) (z2 : Int) (z3 : Int) (z4 : Int) (z5 : Int) (x1 : Int), value_wide_shifted_l1 p2 k1 z1 z2 z3 z4 z5 x1 = some r → (R1 k1).p [(2, .one (.pt 0 0 0 0)), (4, .one (.pt 1 0 0 0)), (5, vi p2), (6, vi x1)] [.box [cb z1, ck .u64 z2, ck .u64 z3, ck .u64 z4, ck .u64 z5], .box qa1114] := by intro k1; induction k1 with | zero => intro z1 z2 z3 z4 z5 x1 h; exact uE0 (value_wide_shifted_l1.eq_1 ..) h | succ k1 ih1 => intro z1 z2 z3 z4 z5 x1 h; exact b1 h (uU (value_wide_shifted_l1.eq_2 ..) (uC (uP (c_value_wide_times _ _) fun r1 _ => (uJ (ih1 r1.neg r1.size.1 r1.size.2.1 r1.size.2.2.1 r1.size.2.2.2 (IntKind.i64.wrap (x1 + (1 : Int)))))) (uR (.exit 0) (xM (uJ (hJ1 z1 z2 z3 z4 z5))))))
 uE (hL1 BIG p1.neg p1.size.1 p1.size.2.1 p1.size.2.2.1 p1.size.2.2.2 (0 : Int))))

def value_scaled (p1 : Int) (p2 : Int) : Option GWide :=
    bnd (value_whole p1) fun r1 =>
    bnd (value_wide_shifted (GWide.mk r1.neg (r1.size.1, r1.size.2.1, r1.size.2.2.1, r1.size.2.2.2)) p2) fun r2 =>
    some (GWide.mk r2.neg (r2.size.1, r2.size.2.1, r2.size.2.2.1, r2.size.2.2.2))


theorem c_value_scaled (p1 : Int) (p2 : Int) : CT Tryz.prog 137 [vi p1, vi p2] (value_scaled p1 p2) (fun r => .ag [cb r.neg, ck .u64 r.size.1, ck .u64 r.size.2.1, ck .u64 r.size.2.2.1, ck .u64 r.size.2.2.2]) :=
  uFn 9 [4] Tryz.f137 fun r => (uP (c_value_whole _) fun r1 _ => (uP (c_value_wide_shifted _ _) fun r2 _ => (uR .ret xF)))

def value_wide_negated (p1 : GWide) : Option GWide :=
    some (GWide.mk (!p1.neg) (p1.size.1, p1.size.2.1, p1.size.2.2.1, p1.size.2.2.2))


theorem c_value_wide_negated (p1 : GWide) : CT Tryz.prog 192 [.ag [cb p1.neg, ck .u64 p1.size.1, ck .u64 p1.size.2.1, ck .u64 p1.size.2.2.1, ck .u64 p1.size.2.2.2]] (value_wide_negated p1) (fun r => .ag [cb r.neg, ck .u64 r.size.1, ck .u64 r.size.2.1, ck .u64 r.size.2.2.1, ck .u64 r.size.2.2.2]) :=
  uFn 8 [1, 2] Tryz.f192 fun r => (uR .ret xF)

def value_compareSize (p1 : GWide) (p2 : GWide) : Option Int :=
    ift (decide (p1.size.2.2.2 < p2.size.2.2.2))
      (some (-1 : Int))
      (ift (decide (p2.size.2.2.2 < p1.size.2.2.2))
         (some (1 : Int))
         (ift (decide (p1.size.2.2.1 < p2.size.2.2.1))
            (some (-1 : Int))
            (ift (decide (p2.size.2.2.1 < p1.size.2.2.1))
               (some (1 : Int))
               (ift (decide (p1.size.2.1 < p2.size.2.1))
                  (some (-1 : Int))
                  (ift (decide (p2.size.2.1 < p1.size.2.1))
                     (some (1 : Int))
                     (ift (decide (p1.size.1 < p2.size.1))
                        (some (-1 : Int))
                        (ift (decide (p2.size.1 < p1.size.1))
                           (some (1 : Int))
                           (some (0 : Int)))))))))


theorem c_value_compareSize (p1 : GWide) (p2 : GWide) : CT Tryz.prog 193 [.ag [cb p1.neg, ck .u64 p1.size.1, ck .u64 p1.size.2.1, ck .u64 p1.size.2.2.1, ck .u64 p1.size.2.2.2], .ag [cb p2.neg, ck .u64 p2.size.1, ck .u64 p2.size.2.1, ck .u64 p2.size.2.2.1, ck .u64 p2.size.2.2.2]] (value_compareSize p1 p2) vi :=
  uFn 30 [] Tryz.f193 fun r => (uOk 4 (uDr 8 (uC (uR .ret xF) (uDr 8 (uC (uR .ret xF) (uDr 8 (uC (uR .ret xF) (uDr 8 (uC (uR .ret xF) (uDr 8 (uC (uR .ret xF) (uDr 8 (uC (uR .ret xF) (uDr 8 (uC (uR .ret xF) (uDr 8 (uC (uR .ret xF) (uR .ret xF))))))))))))))))))

def value_wide_minus_j1 (z1 : Bool) (z2 : Int) (z3 : Int) (z4 : Int) (z5 : Int) (z6 : Bool) (z7 : Int) (z8 : Int) (z9 : Int) (z10 : Int) : Option GWide :=
    grd (0 ≤ z2 ∧ 0 ≤ z7 ∧ z7 < 18446744073709551616 ∧ 0 ≤ (0 : Int) ∧ (0 : Int) ≤ 1) <|
    grd (0 ≤ z3 ∧ 0 ≤ z8 ∧ z8 < 18446744073709551616 ∧ 0 ≤ (if z2 < z7 + (0 : Int) then (1 : Int) else (0 : Int)) ∧ (if z2 < z7 + (0 : Int) then (1 : Int) else (0 : Int)) ≤ 1) <|
    bnd (some ((z3 - z8 - (if z2 < z7 + (0 : Int) then (1 : Int) else (0 : Int))) % 18446744073709551616)) fun y1 =>
    bnd (some (if z3 < z8 + (if z2 < z7 + (0 : Int) then (1 : Int) else (0 : Int)) then (1 : Int) else (0 : Int))) fun y2 =>
    grd (0 ≤ z4 ∧ 0 ≤ z9 ∧ z9 < 18446744073709551616 ∧ 0 ≤ y2 ∧ y2 ≤ 1) <|
    grd (0 ≤ z5 ∧ 0 ≤ z10 ∧ z10 < 18446744073709551616 ∧ 0 ≤ (if z4 < z9 + y2 then (1 : Int) else (0 : Int)) ∧ (if z4 < z9 + y2 then (1 : Int) else (0 : Int)) ≤ 1) <|
    bnd (some ((z5 - z10 - (if z4 < z9 + y2 then (1 : Int) else (0 : Int))) % 18446744073709551616)) fun y3 =>
    bnd (some (if z5 < z10 + (if z4 < z9 + y2 then (1 : Int) else (0 : Int)) then (1 : Int) else (0 : Int))) fun y4 =>
    some (GWide.mk z1 (((z2 - z7 - (0 : Int)) % 18446744073709551616), y1, ((z4 - z9 - y2) % 18446744073709551616), y3))

mutual

def value_wide_minus : Nat → GWide → GWide → Option GWide
  | 0, _, _ => none
  | k0 + 1, p1, p2 =>
    ift (!(p1.neg == p2.neg))
      (bnd (value_wide_negated (GWide.mk p2.neg (p2.size.1, p2.size.2.1, p2.size.2.2.1, p2.size.2.2.2))) fun r1 =>
       bnd ((value_wide_plus k0) (GWide.mk p1.neg (p1.size.1, p1.size.2.1, p1.size.2.2.1, p1.size.2.2.2)) (GWide.mk r1.neg (r1.size.1, r1.size.2.1, r1.size.2.2.1, r1.size.2.2.2))) fun r2 =>
       some (GWide.mk r2.neg (r2.size.1, r2.size.2.1, r2.size.2.2.1, r2.size.2.2.2)))
      (bnd (value_compareSize (GWide.mk p1.neg (p1.size.1, p1.size.2.1, p1.size.2.2.1, p1.size.2.2.2)) (GWide.mk p2.neg (p2.size.1, p2.size.2.1, p2.size.2.2.1, p2.size.2.2.2))) fun r3 =>
       ift (decide (r3 < (0 : Int)))
         (bnd (value_wide_negated (GWide.mk p2.neg (p2.size.1, p2.size.2.1, p2.size.2.2.1, p2.size.2.2.2))) fun r4 =>
          value_wide_minus_j1 r4.neg r4.size.1 r4.size.2.1 r4.size.2.2.1 r4.size.2.2.2 p1.neg p1.size.1 p1.size.2.1 p1.size.2.2.1 p1.size.2.2.2)
         (value_wide_minus_j1 p1.neg p1.size.1 p1.size.2.1 p1.size.2.2.1 p1.size.2.2.2 p2.neg p2.size.1 p2.size.2.1 p2.size.2.2.1 p2.size.2.2.2))

def value_wide_plus : Nat → GWide → GWide → Option GWide
  | 0, _, _ => none
  | k0 + 1, p1, p2 =>
    ift (!(p1.neg == p2.neg))
      (bnd (value_wide_negated (GWide.mk p2.neg (p2.size.1, p2.size.2.1, p2.size.2.2.1, p2.size.2.2.2))) fun r1 =>
       bnd ((value_wide_minus k0) (GWide.mk p1.neg (p1.size.1, p1.size.2.1, p1.size.2.2.1, p1.size.2.2.2)) (GWide.mk r1.neg (r1.size.1, r1.size.2.1, r1.size.2.2.1, r1.size.2.2.2))) fun r2 =>
       some (GWide.mk r2.neg (r2.size.1, r2.size.2.1, r2.size.2.2.1, r2.size.2.2.2)))
      (grd (0 ≤ p1.size.1 ∧ 0 ≤ p2.size.1 ∧ 0 ≤ (0 : Int) ∧ (0 : Int) ≤ 1) <|
       grd (0 ≤ p1.size.2.1 ∧ 0 ≤ p2.size.2.1 ∧ 0 ≤ ((p1.size.1 + p2.size.1 + (0 : Int)) / 18446744073709551616) ∧ ((p1.size.1 + p2.size.1 + (0 : Int)) / 18446744073709551616) ≤ 1) <|
       bnd (some ((p1.size.2.1 + p2.size.2.1 + ((p1.size.1 + p2.size.1 + (0 : Int)) / 18446744073709551616)) % 18446744073709551616)) fun y1 =>
       bnd (some ((p1.size.2.1 + p2.size.2.1 + ((p1.size.1 + p2.size.1 + (0 : Int)) / 18446744073709551616)) / 18446744073709551616)) fun y2 =>
       grd (0 ≤ p1.size.2.2.1 ∧ 0 ≤ p2.size.2.2.1 ∧ 0 ≤ y2 ∧ y2 ≤ 1) <|
       grd (0 ≤ p1.size.2.2.2 ∧ 0 ≤ p2.size.2.2.2 ∧ 0 ≤ ((p1.size.2.2.1 + p2.size.2.2.1 + y2) / 18446744073709551616) ∧ ((p1.size.2.2.1 + p2.size.2.2.1 + y2) / 18446744073709551616) ≤ 1) <|
       bnd (some ((p1.size.2.2.2 + p2.size.2.2.2 + ((p1.size.2.2.1 + p2.size.2.2.1 + y2) / 18446744073709551616)) % 18446744073709551616)) fun y3 =>
       bnd (some ((p1.size.2.2.2 + p2.size.2.2.2 + ((p1.size.2.2.1 + p2.size.2.2.1 + y2) / 18446744073709551616)) / 18446744073709551616)) fun y4 =>
       some (GWide.mk p1.neg (((p1.size.1 + p2.size.1 + (0 : Int)) % 18446744073709551616), y1, ((p1.size.2.2.1 + p2.size.2.2.1 + y2) % 18446744073709551616), y3)))

end


mutual

theorem c_value_wide_minus : ∀ (k0 : Nat) (p1 : GWide) (p2 : GWide), CT Tryz.prog 170 [.ag [cb p1.neg, ck .u64 p1.size.1, ck .u64 p1.size.2.1, ck .u64 p1.size.2.2.1, ck .u64 p1.size.2.2.2], .ag [cb p2.neg, ck .u64 p2.size.1, ck .u64 p2.size.2.1, ck .u64 p2.size.2.2.1, ck .u64 p2.size.2.2.2]] (value_wide_minus k0 p1 p2) (fun r => .ag [cb r.neg, ck .u64 r.size.1, ck .u64 r.size.2.1, ck .u64 r.size.2.2.1, ck .u64 r.size.2.2.2])
  | 0, _, _ => uF0 (value_wide_minus.eq_1 ..)
  | k0 + 1, p1, p2 => uFn 44 [2, 3, 4] Tryz.f170 fun r => (uU (value_wide_minus.eq_2 ..) (uC (uDr 3 (uP (c_value_wide_negated _) fun r1 _ => (uP (c_value_wide_plus k0 _ _) fun r2 _ => (uR .ret xF)))) (uQ (kS Tryz.f170 [1,1,0] 1) fun K8 hK8 => have hJ1 : ∀ (z1 : Bool) (z2 : Int) (z3 : Int) (z4 : Int) (z5 : Int) (z6 : Bool) (z7 : Int) (z8 : Int) (z9 : Int) (z10 : Int), value_wide_minus_j1 z1 z2 z3 z4 z5 z6 z7 z8 z9 z10 = some r → K8.p [(2, .one (.pt 0 0 0 0)), (3, .one (.pt 1 0 0 0)), (4, .one (.pt 2 0 0 0))] [.box [cb z1, ck .u64 z2, ck .u64 z3, ck .u64 z4, ck .u64 z5], .box [cb z6, ck .u64 z7, ck .u64 z8, ck .u64 z9, ck .u64 z10], .box [cb false, ck .u64 (0 : Int), ck .u64 (0 : Int), ck .u64 (0 : Int), ck .u64 (0 : Int)]] := fun z1 z2 z3 z4 z5 z6 z7 z8 z9 z10 h => hK8 h (uOk 4 (uGr 17 0 [3] (uSub 194 Tryz.f194 (uGr 17 0 [3] (uSub 194 Tryz.f194 (uY 38 (vk .u64) fun y1 => (uY 39 (vk .u64) fun y2 => (uGr 17 0 [3] (uSub 194 Tryz.f194 (uGr 17 0 [3] (uSub 194 Tryz.f194 (uY 38 (vk .u64) fun y3 => (uY 39 (vk .u64) fun y4 => (uR .ret xF)))))))))))))); (uP (c_value_compareSize _ _) fun r3 _ => (uC (uDr 3 (uP (c_value_wide_negated _) fun r4 _ => (uJ (hJ1 r4.neg r4.size.1 r4.size.2.1 r4.size.2.2.1 r4.size.2.2.2 p1.neg p1.size.1 p1.size.2.1 p1.size.2.2.1 p1.size.2.2.2)))) (uJ (hJ1 p1.neg p1.size.1 p1.size.2.1 p1.size.2.2.1 p1.size.2.2.2 p2.neg p2.size.1 p2.size.2.1 p2.size.2.2.1 p2.size.2.2.2)))))))

theorem c_value_wide_plus : ∀ (k0 : Nat) (p1 : GWide) (p2 : GWide), CT Tryz.prog 191 [.ag [cb p1.neg, ck .u64 p1.size.1, ck .u64 p1.size.2.1, ck .u64 p1.size.2.2.1, ck .u64 p1.size.2.2.2], .ag [cb p2.neg, ck .u64 p2.size.1, ck .u64 p2.size.2.1, ck .u64 p2.size.2.2.1, ck .u64 p2.size.2.2.2]] (value_wide_plus k0 p1 p2) (fun r => .ag [cb r.neg, ck .u64 r.size.1, ck .u64 r.size.2.1, ck .u64 r.size.2.2.1, ck .u64 r.size.2.2.2])
  | 0, _, _ => uF0 (value_wide_plus.eq_1 ..)
  | k0 + 1, p1, p2 => uFn 37 [2, 4] Tryz.f191 fun r => (uU (value_wide_plus.eq_2 ..) (uC (uDr 3 (uP (c_value_wide_negated _) fun r1 _ => (uP (c_value_wide_minus k0 _ _) fun r2 _ => (uR .ret xF)))) (uOk 4 (uGr 17 0 [2] (uAdd 206 Tryz.f206 (uGr 17 0 [2] (uAdd 206 Tryz.f206 (uY 31 (vk .u64) fun y1 => (uY 32 (vk .u64) fun y2 => (uGr 17 0 [2] (uAdd 206 Tryz.f206 (uGr 17 0 [2] (uAdd 206 Tryz.f206 (uY 31 (vk .u64) fun y3 => (uY 32 (vk .u64) fun y4 => (uR .ret xF))))))))))))))))

end

def value_wide_zero (p1 : GWide) : Option Bool :=
    bnd (some ((p1.size.1 == (0 : Int)) && ((p1.size.2.1 == (0 : Int)) && ((p1.size.2.2.1 == (0 : Int)) && ((p1.size.2.2.2 == (0 : Int)) && true))))) fun y1 =>
    some y1


theorem c_value_wide_zero (p1 : GWide) : CT Tryz.prog 171 [.ag [cb p1.neg, ck .u64 p1.size.1, ck .u64 p1.size.2.1, ck .u64 p1.size.2.2.1, ck .u64 p1.size.2.2.2]] (value_wide_zero p1) vb :=
  uFn 7 [] Tryz.f171 fun r => (uY 6 vb fun y1 => (uR .ret xF))

def value_wide_compare (p1 : GWide) (p2 : GWide) : Option Int :=
    bnd (value_wide_minus BIG (GWide.mk p1.neg (p1.size.1, p1.size.2.1, p1.size.2.2.1, p1.size.2.2.2)) (GWide.mk p2.neg (p2.size.1, p2.size.2.1, p2.size.2.2.1, p2.size.2.2.2))) fun r1 =>
    bnd (value_wide_zero (GWide.mk r1.neg (r1.size.1, r1.size.2.1, r1.size.2.2.1, r1.size.2.2.2))) fun r2 =>
    ift r2
      (some (0 : Int))
      (ift r1.neg
         (some (-1 : Int))
         (some (1 : Int)))


theorem c_value_wide_compare (p1 : GWide) (p2 : GWide) : CT Tryz.prog 138 [.ag [cb p1.neg, ck .u64 p1.size.1, ck .u64 p1.size.2.1, ck .u64 p1.size.2.2.1, ck .u64 p1.size.2.2.2], .ag [cb p2.neg, ck .u64 p2.size.1, ck .u64 p2.size.2.1, ck .u64 p2.size.2.2.1, ck .u64 p2.size.2.2.2]] (value_wide_compare p1 p2) vi :=
  uFn 15 [5] Tryz.f138 fun r => (uP (c_value_wide_minus BIG _ _) fun r1 _ => (uP (c_value_wide_zero _) fun r2 _ => (uC (uR .ret xF) (uC (uR .ret xF) (uR .ret xF)))))

def cmp_isNaN_string (p1 : ByteArray) : Option Bool :=
    some (!(p1.toList == p1.toList))


theorem c_cmp_isNaN_string (p1 : ByteArray) : CT Tryz.prog 195 [vs p1] (cmp_isNaN_string p1) vb :=
  uFn 6 [] Tryz.f195 fun r => (uR .ret xF)

def cmp_Compare_string (p1 : ByteArray) (p2 : ByteArray) : Option Int :=
    bnd (cmp_isNaN_string p1) fun r1 =>
    bnd (cmp_isNaN_string p2) fun r2 =>
    ift r1
      (ift r2
         (some (0 : Int))
         (some (-1 : Int)))
      (ift r2
         (some (1 : Int))
         (ift (Op.bytesLess p1.toList p2.toList)
            (some (-1 : Int))
            (ift (!(Op.bytesLess p1.toList p2.toList || p1.toList == p2.toList))
               (some (1 : Int))
               (some (0 : Int)))))


theorem c_cmp_Compare_string (p1 : ByteArray) (p2 : ByteArray) : CT Tryz.prog 172 [vs p1, vs p2] (cmp_Compare_string p1 p2) vi :=
  uFn 20 [] Tryz.f172 fun r => (uP (c_cmp_isNaN_string _) fun r1 _ => (uP (c_cmp_isNaN_string _) fun r2 _ => (uC (uC (uR .ret xF) (uR .ret xF)) (uC (uR .ret xF) (uC (uR .ret xF) (uC (uR .ret xF) (uR .ret xF)))))))

def cmp_Or_int_j1 : Option Int :=
    some (0 : Int)

def cmp_Or_int_l1 (p1 : (List Int)) : Nat → Int → Option Int
  | 0, _ => none
  | k1 + 1, x1 =>
    ift (decide (x1 < (p1.length : Int)))
      (bnd (at? p1 x1) fun e1 =>
       ift (e1 != (0 : Int))
         (some e1)
         ((cmp_Or_int_l1 p1 k1) (IntKind.i64.wrap (x1 + (1 : Int)))))
      (cmp_Or_int_j1)

def cmp_Or_int (p1 : (List Int)) : Option Int :=
    cmp_Or_int_l1 p1 BIG (0 : Int)


theorem c_cmp_Or_int (p1 : (List Int)) : CT Tryz.prog 136 [vl eI p1] (cmp_Or_int p1) vi :=
  uFn 18 [] Tryz.f136 fun r => (uQ (kS Tryz.f136 [1,1,0] 1) fun K3 hK3 => have hJ1 : ∀ (_ : Unit), cmp_Or_int_j1 = some r → K3.p [(3, vi (0 : Int))] [] := fun _ h => hK3 h (uR .ret xF); (uN eI p1 (uO (cd Tryz.f136 [1,1,0,1,0,0]) (kS Tryz.f136 [1,1,0,1,0] 1) fun R1 b1 => have hL1 : ∀ (k1 : Nat) (x1 : Int), cmp_Or_int_l1 p1 k1 x1 = some r → (R1 k1).p [(3, vi (0 : Int)), (6, vl eI p1), (7, vi (p1.length : Int)), (8, vi x1)] [] := by intro k1; induction k1 with | zero => intro x1 h; exact uE0 (cmp_Or_int_l1.eq_1 ..) h | succ k1 ih1 => intro x1 h; exact b1 h (uU (cmp_Or_int_l1.eq_2 ..) (uC (uL eI fun e1 a10 => (uC (uR .ret (xN (xN xF))) (uJ (ih1 (IntKind.i64.wrap (x1 + (1 : Int))))))) (uR (.exit 0) (xM (uJ (hJ1 ()))))))
 uE (hL1 BIG (0 : Int)))))

def slices_CompareFunc_api_Value_api_Value_api_Value_api_Value_of_value_Compare_j1 (p1 : (List GValue)) (p2 : (List GValue)) : Option Int :=
    ift (decide ((p1.length : Int) < (p2.length : Int)))
      (some (-1 : Int))
      (some (0 : Int))

def slices_CompareFunc_api_Value_api_Value_api_Value_api_Value_of_value_Compare_l1 (q_value_Compare : GValue → GValue → Option Int) (p1 : (List GValue)) (p2 : (List GValue)) : Nat → Int → Option Int
  | 0, _ => none
  | k1 + 1, x1 =>
    ift (decide (x1 < (p1.length : Int)))
      (bnd (at? p1 x1) fun e1 =>
       ift (decide ((p2.length : Int) ≤ x1))
         (some (1 : Int))
         (bnd (at? p2 x1) fun e2 =>
          bnd (q_value_Compare e1 e2) fun r1 =>
          ift (r1 != (0 : Int))
            (some r1)
            ((slices_CompareFunc_api_Value_api_Value_api_Value_api_Value_of_value_Compare_l1 q_value_Compare p1 p2 k1) (IntKind.i64.wrap (x1 + (1 : Int))))))
      (slices_CompareFunc_api_Value_api_Value_api_Value_api_Value_of_value_Compare_j1 p1 p2)

def value_Compare_j2 (q_value_rest : GValue → GValue → Option Int) (p1 : GValue) (p2 : GValue) : Option Int :=
    bnd (cmp_Compare_int p1.n p2.n) fun r9 =>
    bnd (q_value_rest p1 p2) fun r10 =>
    bnd (cmp_Or_int [r9, r10]) fun r11 =>
    some r11

def value_Compare_j1 (q_value_rest : GValue → GValue → Option Int) (p1 : GValue) (p2 : GValue) (r2 : Bool) (r3 : Bool) (x1 : Bool) : Option Int :=
    ift x1
      (bnd (value_scaled p1.n (IntKind.i64.wrap ((12 : Int) - p1.scale))) fun r4 =>
       bnd (value_scaled p2.n (IntKind.i64.wrap ((12 : Int) - p2.scale))) fun r5 =>
       bnd (value_wide_compare (GWide.mk r4.neg (r4.size.1, r4.size.2.1, r4.size.2.2.1, r4.size.2.2.2)) (GWide.mk r5.neg (r5.size.1, r5.size.2.1, r5.size.2.2.1, r5.size.2.2.2))) fun r6 =>
       bnd (q_value_rest p1 p2) fun r7 =>
       bnd (cmp_Or_int [r6, r7]) fun r8 =>
       some r8)
      (ift r2
         (some (-1 : Int))
         (ift r3
            (some (1 : Int))
            (value_Compare_j2 q_value_rest p1 p2)))

mutual

def slices_CompareFunc_api_Value_api_Value_api_Value_api_Value_of_value_Compare : Nat → (List GValue) → (List GValue) → Option Int
  | 0, _, _ => none
  | k0 + 1, p1, p2 =>
    slices_CompareFunc_api_Value_api_Value_api_Value_api_Value_of_value_Compare_l1 (value_Compare k0) p1 p2 BIG (0 : Int)

def value_Compare : Nat → GValue → GValue → Option Int
  | 0, _, _ => none
  | k0 + 1, p1, p2 =>
    ift (p1.kind != p2.kind)
      (ift (p1.kind == (0 : Int))
         (some (1 : Int))
         (ift (p2.kind == (0 : Int))
            (some (-1 : Int))
            (bnd (cmp_Compare_int p1.kind p2.kind) fun r1 =>
             some r1)))
      (ift (p1.kind == (0 : Int))
         (some (0 : Int))
         (ift (p1.kind == (3 : Int))
            (bnd (value_within p1.scale (0 : Int) (12 : Int)) fun r2 =>
             bnd (value_within p2.scale (0 : Int) (12 : Int)) fun r3 =>
             ift r2
               (value_Compare_j1 (value_rest k0) p1 p2 r2 r3 r3)
               (value_Compare_j1 (value_rest k0) p1 p2 r2 r3 false))
            (value_Compare_j2 (value_rest k0) p1 p2)))

def value_rest : Nat → GValue → GValue → Option Int
  | 0, _, _ => none
  | k0 + 1, p1, p2 =>
    bnd (cmp_Compare_int p1.scale p2.scale) fun r1 =>
    bnd (cmp_Compare_string p1.s p2.s) fun r2 =>
    bnd ((slices_CompareFunc_api_Value_api_Value_api_Value_api_Value_of_value_Compare k0) p1.items p2.items) fun r3 =>
    bnd (cmp_Or_int [r1, r2, r3]) fun r4 =>
    some r4

end


mutual

theorem c_slices_CompareFunc_api_Value_api_Value_api_Value_api_Value_of_value_Compare : ∀ (k0 : Nat) (p1 : (List GValue)) (p2 : (List GValue)), CT Tryz.prog 165 [vl eValue p1, vl eValue p2, .one (.pv (.fn 90 []))] (slices_CompareFunc_api_Value_api_Value_api_Value_api_Value_of_value_Compare k0 p1 p2) vi
  | 0, _, _ => uF0 (slices_CompareFunc_api_Value_api_Value_api_Value_api_Value_of_value_Compare.eq_1 ..)
  | k0 + 1, p1, p2 => uFn 39 [8, 9] Tryz.f165 fun r => (uU (slices_CompareFunc_api_Value_api_Value_api_Value_api_Value_of_value_Compare.eq_2 ..) (uQ (kS Tryz.f165 [1,0] 1) fun K2 hK2 => have hJ1 : ∀ (_ : Unit), slices_CompareFunc_api_Value_api_Value_api_Value_api_Value_of_value_Compare_j1 p1 p2 = some r → K2.p [(0, vl eValue p1), (1, vl eValue p2)] [] := fun _ h => hK2 h (uN eValue p1 (uN eValue p2 (uC (uR .ret xF) (uR .ret xF)))); (uN eValue p1 (uO (cd Tryz.f165 [1,0,1,0,0]) (kS Tryz.f165 [1,0,1,0] 1) fun R1 b1 => have hL1 : ∀ (k1 : Nat) (x1 : Int), slices_CompareFunc_api_Value_api_Value_api_Value_api_Value_of_value_Compare_l1 (value_Compare k0) p1 p2 k1 x1 = some r → (R1 k1).p [(0, vl eValue p1), (1, vl eValue p2), (2, .one (.pv (.fn 90 []))), (11, vl eValue p1), (12, vi (p1.length : Int)), (13, vi x1)] [] := by intro k1; induction k1 with | zero => intro x1 h; exact uE0 (slices_CompareFunc_api_Value_api_Value_api_Value_api_Value_of_value_Compare_l1.eq_1 ..) h | succ k1 ih1 => intro x1 h; exact b1 h (uU (slices_CompareFunc_api_Value_api_Value_api_Value_api_Value_of_value_Compare_l1.eq_2 ..) (uC (uL eValue fun e1 a9 => (uN eValue p2 (uC (uR .ret (xN (xN xF))) (uL eValue fun e2 a15 => (uP (c_value_Compare k0 _ _) fun r1 _ => (uC (uR .ret (xN (xN xF))) (uJ (ih1 (IntKind.i64.wrap (x1 + (1 : Int))))))))))) (uR (.exit 0) (xM (uJ (hJ1 ()))))))
 uE (hL1 BIG (0 : Int))))))

theorem c_value_Compare : ∀ (k0 : Nat) (p1 : GValue) (p2 : GValue), CT Tryz.prog 90 [.ag [ci p1.kind, ci p1.n, ci p1.scale, cst p1.s, cl eValue p1.items], .ag [ci p2.kind, ci p2.n, ci p2.scale, cst p2.s, cl eValue p2.items]] (value_Compare k0 p1 p2) vi
  | 0, _, _ => uF0 (value_Compare.eq_1 ..)
  | k0 + 1, p1, p2 => uFn 72 [] Tryz.f90 fun r => (uU (value_Compare.eq_2 ..) (uC (uC (uR .ret xF) (uC (uR .ret xF) (uP (c_cmp_Compare_int _ _) fun r1 _ => (uR .ret xF)))) (uQ (kS Tryz.f90 [1,1,0] 1) fun K15 hK15 => have hJ2 : ∀ (_ : Unit), value_Compare_j2 (value_rest k0) p1 p2 = some r → K15.p [(2, .one (.pv (.rp [[pi p1.kind, pi p1.n, pi p1.scale, .s (.string p1.s), .ro (eValue.els p1.items)]] 0 0))), (3, .one (.pv (.rp [[pi p2.kind, pi p2.n, pi p2.scale, .s (.string p2.s), .ro (eValue.els p2.items)]] 0 0)))] [] := fun _ h => hK15 h (uDr 7 (uP (c_cmp_Compare_int _ _) fun r9 _ => (uP (c_value_rest k0 _ _) fun r10 _ => (uP (c_cmp_Or_int _) fun r11 _ => (uR .ret xF))))); (uC (uR .ret (xN xF)) (uC (uDr 5 (uP (c_value_within _ _ _) fun r2 _ => (uP (c_value_within _ _ _) fun r3 _ => (uQ (kS Tryz.f90 [1,1,0,1,0,1,1,1,0,1,0,0] 3) fun K25 hK25 => have hJ1 : ∀ (x1 : Bool), value_Compare_j1 (value_rest k0) p1 p2 r2 r3 x1 = some r → K25.p [(2, .one (.pv (.rp [[pi p1.kind, pi p1.n, pi p1.scale, .s (.string p1.s), .ro (eValue.els p1.items)]] 0 0))), (3, .one (.pv (.rp [[pi p2.kind, pi p2.n, pi p2.scale, .s (.string p2.s), .ro (eValue.els p2.items)]] 0 0))), (5, vb r2), (6, vb r3), (35, vb x1)] [] := fun x1 h => hK25 h (uC (uDr 15 (uP (c_value_scaled _ _) fun r4 _ => (uP (c_value_scaled _ _) fun r5 _ => (uP (c_value_wide_compare _ _) fun r6 _ => (uP (c_value_rest k0 _ _) fun r7 _ => (uP (c_cmp_Or_int _) fun r8 _ => (uR .ret (xN xF)))))))) (uC (uR .ret (xN xF)) (uC (uR .ret (xN xF)) (uJ (hJ2 ()))))); (uC (uJ (hJ1 r3)) (uJ (hJ1 false))))))) (uJ (hJ2 ())))))))

theorem c_value_rest : ∀ (k0 : Nat) (p1 : GValue) (p2 : GValue), CT Tryz.prog 139 [.ag [ci p1.kind, ci p1.n, ci p1.scale, cst p1.s, cl eValue p1.items], .ag [ci p2.kind, ci p2.n, ci p2.scale, cst p2.s, cl eValue p2.items]] (value_rest k0 p1 p2) vi
  | 0, _, _ => uF0 (value_rest.eq_1 ..)
  | k0 + 1, p1, p2 => uFn 22 [] Tryz.f139 fun r => (uU (value_rest.eq_2 ..) (uDr 14 (uP (c_cmp_Compare_int _ _) fun r1 _ => (uP (c_cmp_Compare_string _ _) fun r2 _ => (uP (c_slices_CompareFunc_api_Value_api_Value_api_Value_api_Value_of_value_Compare k0 _ _) fun r3 _ => (uP (c_cmp_Or_int _) fun r4 _ => (uR .ret xF)))))))

end

def table_stats_j1 (rec1 : List GField → Int → Option Int) (x1 : Int) (l2 : List GField) : Option Int :=
    rec1 l2 (IntKind.i64.wrap (x1 + (1 : Int)))

def table_stats_j3 (rec2 : Int → Option Int) (x2 : Int) (x3 : Bool) : Option Int :=
    ift x3
      (some (1 : Int))
      (rec2 (IntKind.i64.wrap (x2 + (1 : Int))))

def table_stats_j4 : Option Int :=
    some (0 : Int)

def table_stats_l2 (p2 : GDataFile) (l3 : List GField) : Nat → Int → Option Int
  | 0, _ => none
  | k2 + 1, x2 =>
    ift (decide (x2 < (p2.stats.length : Int)))
      (bnd (at? p2.stats x2) fun e2 =>
       bnd (table_within e2.nulls (0 : Int) p2.rows) fun r3 =>
       ift (!r3)
         (some (3 : Int))
         (bnd (at? [e2.min, e2.max] (0 : Int)) fun e3 =>
          bnd (at? l3 x2) fun e4 =>
          bnd (value_Check e4.type e3) fun r4 =>
          ift (r4 != (0 : Int))
            (some r4)
            (bnd (at? [e2.min, e2.max] (1 : Int)) fun e5 =>
             bnd (value_Check e4.type e5) fun r5 =>
             ift (r5 != (0 : Int))
               (some r5)
               (ift (!((e2.min.kind == (0 : Int)) == (e2.nulls == p2.rows)))
                  (table_stats_j3 (table_stats_l2 p2 l3 k2) x2 true)
                  (ift (!((e2.max.kind == (0 : Int)) == (e2.nulls == p2.rows)))
                     (table_stats_j3 (table_stats_l2 p2 l3 k2) x2 true)
                     (bnd (value_Compare BIG e2.min e2.max) fun r6 =>
                      table_stats_j3 (table_stats_l2 p2 l3 k2) x2 (decide ((0 : Int) < r6))))))))
      (table_stats_j4)

def table_stats_j2 (p2 : GDataFile) (l3 : List GField) : Option Int :=
    bnd (slices_EqualFunc_api_Stats_api_Field_api_Stats_api_Field_of_table_stats_1 p2.stats l3) fun r2 =>
    ift (!r2)
      (some (1 : Int))
      (table_stats_l2 p2 l3 BIG (0 : Int))

def table_stats_l1 (p1 : (List GField)) (p2 : GDataFile) : Nat → List GField → Int → Option Int
  | 0, _, _ => none
  | k1 + 1, l1, x1 =>
    ift (decide (x1 < (p1.length : Int)))
      (bnd (at? p1 x1) fun e1 =>
       bnd (table_leaf e1.type) fun r1 =>
       ift r1
         (grd (l1.length + 1 ≤ 4294967296) <|
          table_stats_j1 (table_stats_l1 p1 p2 k1) x1 (l1 ++ [e1]))
         (table_stats_j1 (table_stats_l1 p1 p2 k1) x1 l1))
      (table_stats_j2 p2 l1)

def table_stats (p1 : (List GField)) (p2 : GDataFile) : Option Int :=
    table_stats_l1 p1 p2 BIG [] (0 : Int)

abbrev qa1151 (p2 : GDataFile) : List PV := [.s (.string p2.name), pi p2.schema, pi p2.spec, .ro (eValue.els p2.part), pi p2.rows, pi p2.seq, .ro (eStats.els p2.stats)]

theorem c_table_stats (p1 : (List GField)) (p2 : GDataFile) : CT Tryz.prog 124 [vl eField p1, .ag [cst p2.name, ci p2.schema, ci p2.spec, cl eValue p2.part, ci p2.rows, ci p2.seq, cl eStats p2.stats]] (table_stats p1 p2) vi :=
  uFn 98 [7, 10, 12] Tryz.f124 fun r => (uQ (kS Tryz.f124 [1,1,0] 1) fun K3 hK3 => have hJ2 : ∀ (l3 : List GField), table_stats_j2 p2 l3 = some r → K3.p [(3, .one (.pv (.rp [(qa1151 p2)] 0 0))), (5, .one (.sl 0 6 0 l3.length))] [.arr 6 (eField.els l3)] := fun l3 h => hK3 h (uKl eField l3 0 [5,31] (uP (c_slices_EqualFunc_api_Stats_api_Field_api_Stats_api_Field_of_table_stats_1 _ _) fun r2 _ => (uC (uR .ret xF) (uQ (kS Tryz.f124 [1,1,1,1,1,0] 1) fun K21 hK21 => have hJ4 : ∀ (_ : Unit), table_stats_j4 = some r → K21.p [] [.dead] := fun _ h => hK21 h (uR .ret xF); (uN eStats p2.stats (uO (cd Tryz.f124 [1,1,1,1,1,0,1,0,0]) (kS Tryz.f124 [1,1,1,1,1,0,1,0] 1) fun R2 b2 => have hL2 : ∀ (k2 : Nat) (x2 : Int), table_stats_l2 p2 l3 k2 x2 = some r → (R2 k2).p [(3, .one (.pv (.rp [(qa1151 p2)] 0 0))), (5, vl eField l3), (36, vl eStats p2.stats), (37, vi (p2.stats.length : Int)), (38, vi x2)] [.dead] := by intro k2; induction k2 with | zero => intro x2 h; exact uE0 (table_stats_l2.eq_1 ..) h | succ k2 ih2 => intro x2 h; exact b2 h (uU (table_stats_l2.eq_2 ..) (uC (uL eStats fun e2 a28 => (uP (c_table_within _ _ _) fun r3 _ => (uC (uR .ret (xN (xN xF))) (uW 53 eValue [e2.min, e2.max] (uA (vi (2 : Int)) (uOk 2 (uT (uL eValue fun e3 a40 => (uDr 6 (uL eField fun e4 a42 => (uP (c_value_Check _ _) fun r4 _ => (uC (uR .ret (xN (xN xF))) (uT (uL eValue fun e5 a51 => (uDr 6 (uM eField a42 (uP (c_value_Check _ _) fun r5 _ => (uC (uR .ret (xN (xN xF))) (uF (uQ (kS Tryz.f124 [1,1,1,1,1,0,1,0,0,1,1,0,0,1,1,1,1,0] 3) fun K60 hK60 => have hJ3 : ∀ (x3 : Bool), table_stats_j3 (table_stats_l2 p2 l3 k2) x2 x3 = some r → K60.p [(3, .one (.pv (.rp [(qa1151 p2)] 0 0))), (5, vl eField l3), (36, vl eStats p2.stats), (37, vi (p2.stats.length : Int)), (38, vi x2), (96, vb x3)] [.dead, .dead, .dead, .dead] := fun x3 h => hK60 h (uC (uR .ret (xN (xN xF))) (uJ (ih2 (IntKind.i64.wrap (x2 + (1 : Int)))))); (uC (uJ (hJ3 true)) (uC (uJ (hJ3 true)) (uP (c_value_Compare BIG _ _) fun r6 _ => (uJ (hJ3 (decide ((0 : Int) < r6))))))))))))))))))))))))))) (uR (.exit 2) (xM (uJ (hJ4 ()))))))
 uE (hL2 BIG (0 : Int)))))))); (uN eField p1 (uCv (.li 5 6) (uO (cd Tryz.f124 [1,1,0,1,0,0]) (kS Tryz.f124 [1,1,0,1,0] 1) fun R1 b1 => have hL1 : ∀ (k1 : Nat) (l1 : List GField) (x1 : Int), table_stats_l1 p1 p2 k1 l1 x1 = some r → (R1 k1).p [(3, .one (.pv (.rp [(qa1151 p2)] 0 0))), (5, .one (.sl 0 6 0 l1.length)), (15, vl eField p1), (16, vi (p1.length : Int)), (17, vi x1)] [.arr 6 (eField.els l1)] := by intro k1; induction k1 with | zero => intro l1 x1 h; exact uE0 (table_stats_l1.eq_1 ..) h | succ k1 ih1 => intro l1 x1 h; exact b1 h (uU (table_stats_l1.eq_2 ..) (uC (uQ (kS Tryz.f124 [1,1,0,1,0,0,1,1,0] 1) fun K8 hK8 => have hJ1 : ∀ (l2 : List GField), table_stats_j1 (table_stats_l1 p1 p2 k1) x1 l2 = some r → K8.p [(3, .one (.pv (.rp [(qa1151 p2)] 0 0))), (5, .one (.sl 0 6 0 l2.length)), (15, vl eField p1), (16, vi (p1.length : Int)), (17, vi x1)] [.arr 6 (eField.els l2)] := fun l2 h => hK8 h (uJ (ih1 l2 (IntKind.i64.wrap (x1 + (1 : Int))))); (uL eField fun e1 a10 => (uP (c_table_leaf _) fun r1 _ => (uC (uW 26 eField [e1] (uAp eField 0 [e1] (uJ (hJ1 (l1 ++ [e1]))))) (uJ (hJ1 l1)))))) (uR (.exit 0) (xM (uJ (hJ2 l1))))))
 uE (hL1 BIG [] (0 : Int))))))

def table_file_j2 (p2 : GDataFile) (r5 : (Bool × (List GField))) : Option Int :=
    bnd (table_stats r5.2 p2) fun r9 =>
    some r9

def table_file_l1 (p2 : GDataFile) (e2 : GSpec) (r5 : (Bool × (List GField))) : Nat → Int → Option Int
  | 0, _ => none
  | k1 + 1, x2 =>
    ift (decide (x2 < (e2.fields.length : Int)))
      (bnd (at? e2.fields x2) fun e3 =>
       bnd (table_top r5.2 e3.source) fun r6 =>
       bnd (at? r5.2 r6) fun e4 =>
       bnd (table_TransformType e3.transform e4.type) fun r7 =>
       ift (r7.2 != (0 : Int))
         (some (2 : Int))
         (bnd (at? p2.part x2) fun e5 =>
          bnd (value_Check r7.1 e5) fun r8 =>
          ift (r8 != (0 : Int))
            (some r8)
            ((table_file_l1 p2 e2 r5 k1) (IntKind.i64.wrap (x2 + (1 : Int))))))
      (table_file_j2 p2 r5)

def table_file_j1 (p1 : GMeta) (p2 : GDataFile) (x1 : Bool) : Option Int :=
    ift x1
      (some (3 : Int))
      (bnd (at? p1.schemas p2.schema) fun e1 =>
       bnd (at? p1.specs p2.spec) fun e2 =>
       bnd (slices_ContainsFunc_api_SpecField_api_SpecField_of_table_file_1 e2.fields e1) fun r5 =>
       ift r5.1
         (some (9 : Int))
         (ift ((p2.part.length : Int) != (e2.fields.length : Int))
            (some (1 : Int))
            (table_file_l1 p2 e2 r5 BIG (0 : Int))))

def table_file (p1 : GMeta) (p2 : GDataFile) : Option Int :=
    bnd (table_objectName p2.name) fun r1 =>
    ift (!r1)
      (some (4 : Int))
      (bnd (table_within p2.schema (0 : Int) (IntKind.i64.wrap ((p1.schemas.length : Int) - (1 : Int)))) fun r2 =>
       ift (!r2)
         (table_file_j1 p1 p2 true)
         (bnd (table_within p2.spec (0 : Int) (IntKind.i64.wrap ((p1.specs.length : Int) - (1 : Int)))) fun r3 =>
          ift (!r3)
            (table_file_j1 p1 p2 true)
            (bnd (table_within p2.rows (1 : Int) (2000 : Int)) fun r4 =>
             ift (!r4)
               (table_file_j1 p1 p2 true)
               (table_file_j1 p1 p2 (decide (p2.seq < (1 : Int)))))))

abbrev qa1165 (p2 : GDataFile) : List PV := [.s (.string p2.name), pi p2.schema, pi p2.spec, .ro (eValue.els p2.part), pi p2.rows, pi p2.seq, .ro (eStats.els p2.stats)]

theorem c_table_file (p1 : GMeta) (p2 : GDataFile) : CT Tryz.prog 84 [.ag [cl (eL eField) p1.schemas, cl eSpec p1.specs, ci p1.nextField, ci p1.nextSeq, ci p1.nextSnap, ci p1.purges, cl eSnapshot p1.snapshots, cl eRef p1.refs, cl eProp p1.props], .ag [cst p2.name, ci p2.schema, ci p2.spec, cl eValue p2.part, ci p2.rows, ci p2.seq, cl eStats p2.stats]] (table_file p1 p2) vi :=
  uFn 108 [5, 6, 8, 9] Tryz.f84 fun r => (uP (c_table_objectName _) fun r1 _ => (uC (uR .ret xF) (uQ (kS Tryz.f84 [1,0,0,1,1,0] 3) fun K7 hK7 => have hJ1 : ∀ (x1 : Bool), table_file_j1 p1 p2 x1 = some r → K7.p [(2, .one (.pv (.rp [[.ro ((eL eField).els p1.schemas), .ro (eSpec.els p1.specs), pi p1.nextField, pi p1.nextSeq, pi p1.nextSnap, pi p1.purges, .ro (eSnapshot.els p1.snapshots), .ro (eRef.els p1.refs), .ro (eProp.els p1.props)]] 0 0))), (3, .one (.pv (.rp [(qa1165 p2)] 0 0))), (17, vb x1)] [] := fun x1 h => hK7 h (uC (uR .ret xF) (uGr 15 2 [0,1,2] (uL (eL eField) fun e1 a17 => (uL eSpec fun e2 a18 => (uMc true [0] (c_slices_ContainsFunc_api_SpecField_api_SpecField_of_table_file_1 _ _) fun r5 _ => (uC (uR .ret xF) (uN eValue p2.part (uN eSpecField e2.fields (uC (uR .ret xF) (uQ (kS Tryz.f84 [1,1,1,1,1,0] 1) fun K28 hK28 => have hJ2 : ∀ (_ : Unit), table_file_j2 p2 r5 = some r → K28.p [(3, .one (.pv (.rp [(qa1165 p2)] 0 0))), (5, .one (.pt 0 0 0 0))] [.box [cl eField r5.2], .dead] := fun _ h => hK28 h (uP (c_table_stats _ _) fun r9 _ => (uR .ret xF)); (uN eSpecField e2.fields (uO (cd Tryz.f84 [1,1,1,1,1,0,1,0,0]) (kS Tryz.f84 [1,1,1,1,1,0,1,0] 1) fun R1 b1 => have hL1 : ∀ (k1 : Nat) (x2 : Int), table_file_l1 p2 e2 r5 k1 x2 = some r → (R1 k1).p [(3, .one (.pv (.rp [(qa1165 p2)] 0 0))), (5, .one (.pt 0 0 0 0)), (71, vl eSpecField e2.fields), (72, vi (e2.fields.length : Int)), (73, vi x2)] [.box [cl eField r5.2], .dead] := by intro k1; induction k1 with | zero => intro x2 h; exact uE0 (table_file_l1.eq_1 ..) h | succ k1 ih1 => intro x2 h; exact b1 h (uU (table_file_l1.eq_2 ..) (uC (uL eSpecField fun e3 a35 => (uGr 16 1 [3,4] (uP (c_table_top _ _) fun r6 _ => (uL eField fun e4 a38 => (uP (c_table_TransformType _ _) fun r7 _ => (uC (uR .ret (xN (xN xF))) (uDr 6 (uL eValue fun e5 a45 => (uP (c_value_Check _ _) fun r8 _ => (uC (uR .ret (xN (xN xF))) (uJ (ih1 (IntKind.i64.wrap (x2 + (1 : Int))))))))))))))) (uR (.exit 1) (xM (uJ (hJ2 ()))))))
 uE (hL1 BIG (0 : Int)))))))))))))); (uN (eL eField) p1.schemas (uP (c_table_within _ _ _) fun r2 _ => (uC (uJ (hJ1 true)) (uN eSpec p1.specs (uP (c_table_within _ _ _) fun r3 _ => (uC (uJ (hJ1 true)) (uP (c_table_within _ _ _) fun r4 _ => (uC (uJ (hJ1 true)) (uJ (hJ1 (decide (p2.seq < (1 : Int))))))))))))))))

def table_files_j2 (rec1 : Int → Option Int) (x1 : Int) (x3 : Bool) : Option Int :=
    ift x3
      (some (1 : Int))
      (rec1 (IntKind.i64.wrap (x1 + (1 : Int))))

def table_files_j1 (rec1 : Int → Option Int) (p2 : GSnapshot) (x1 : Int) (e1 : GDataFile) (x2 : Bool) : Option Int :=
    ift x2
      (some (3 : Int))
      (ift (decide ((0 : Int) < x1))
         (bnd (at? p2.files (IntKind.i64.wrap (x1 - (1 : Int)))) fun e2 =>
          bnd (some (Op.bytesLess e1.name.toList e2.name.toList || e1.name.toList == e2.name.toList)) fun y1 =>
          table_files_j2 rec1 x1 y1)
         (table_files_j2 rec1 x1 false))

def table_files_j3 : Option Int :=
    some (0 : Int)

def table_files_l1 (p1 : GMeta) (p2 : GSnapshot) : Nat → Int → Option Int
  | 0, _ => none
  | k1 + 1, x1 =>
    ift (decide (x1 < (p2.files.length : Int)))
      (bnd (at? p2.files x1) fun e1 =>
       bnd (table_file p1 e1) fun r1 =>
       ift (r1 != (0 : Int))
         (some r1)
         (ift (decide (p2.seq < e1.seq))
            (table_files_j1 (table_files_l1 p1 p2 k1) p2 x1 e1 true)
            (table_files_j1 (table_files_l1 p1 p2 k1) p2 x1 e1 (decide (p2.schema < e1.schema)))))
      (table_files_j3)

def table_files (p1 : GMeta) (p2 : GSnapshot) : Option Int :=
    table_files_l1 p1 p2 BIG (0 : Int)

abbrev qa1173 (p1 : GMeta) : List PV := [.ro ((eL eField).els p1.schemas), .ro (eSpec.els p1.specs), pi p1.nextField, pi p1.nextSeq, pi p1.nextSnap, pi p1.purges, .ro (eSnapshot.els p1.snapshots), .ro (eRef.els p1.refs), .ro (eProp.els p1.props)]
abbrev qa1174 (p2 : GSnapshot) : List PV := [pi p2.id, pi p2.parent, pi p2.seq, pi p2.schema, pi p2.time, pi p2.kind, .ro (eDataFile.els p2.files), .ro (eDeleteAt.els p2.dat), .ro (eDeleteBy.els p2.dby)]

theorem c_table_files (p1 : GMeta) (p2 : GSnapshot) : CT Tryz.prog 49 [.ag [cl (eL eField) p1.schemas, cl eSpec p1.specs, ci p1.nextField, ci p1.nextSeq, ci p1.nextSnap, ci p1.purges, cl eSnapshot p1.snapshots, cl eRef p1.refs, cl eProp p1.props], .ag [ci p2.id, ci p2.parent, ci p2.seq, ci p2.schema, ci p2.time, ci p2.kind, cl eDataFile p2.files, cl eDeleteAt p2.dat, cl eDeleteBy p2.dby]] (table_files p1 p2) vi :=
  uFn 51 [6] Tryz.f49 fun r => (uQ (kS Tryz.f49 [1,0] 1) fun K2 hK2 => have hJ3 : ∀ (_ : Unit), table_files_j3 = some r → K2.p [] [] := fun _ h => hK2 h (uR .ret xF); (uN eDataFile p2.files (uO (cd Tryz.f49 [1,0,1,0,0]) (kS Tryz.f49 [1,0,1,0] 1) fun R1 b1 => have hL1 : ∀ (k1 : Nat) (x1 : Int), table_files_l1 p1 p2 k1 x1 = some r → (R1 k1).p [(2, .one (.pv (.rp [(qa1173 p1)] 0 0))), (3, .one (.pv (.rp [(qa1174 p2)] 0 0))), (9, vl eDataFile p2.files), (10, vi (p2.files.length : Int)), (11, vi x1)] [] := by intro k1; induction k1 with | zero => intro x1 h; exact uE0 (table_files_l1.eq_1 ..) h | succ k1 ih1 => intro x1 h; exact b1 h (uU (table_files_l1.eq_2 ..) (uC (uL eDataFile fun e1 a9 => (uP (c_table_file _ _) fun r1 _ => (uC (uR .ret (xN (xN xF))) (uQ (kS Tryz.f49 [1,0,1,0,0,1,1,0,0,1,1,0,0] 4) fun K16 hK16 => have hJ1 : ∀ (x2 : Bool), table_files_j1 (table_files_l1 p1 p2 k1) p2 x1 e1 x2 = some r → K16.p [(2, .one (.pv (.rp [(qa1173 p1)] 0 0))), (3, .one (.pv (.rp [(qa1174 p2)] 0 0))), (5, vi x1), (6, .one (.pt 0 0 0 0)), (9, vl eDataFile p2.files), (10, vi (p2.files.length : Int)), (11, vi x1), (22, vb x2)] [.box [cst e1.name, ci e1.schema, ci e1.spec, cl eValue e1.part, ci e1.rows, ci e1.seq, cl eStats e1.stats]] := fun x2 h => hK16 h (uC (uR .ret (xN (xN xF))) (uQ (kS Tryz.f49 [1,0,1,0,0,1,1,0,0,1,1,0,1,1,0] 4) fun K20 hK20 => have hJ2 : ∀ (x3 : Bool), table_files_j2 (table_files_l1 p1 p2 k1) x1 x3 = some r → K20.p [(2, .one (.pv (.rp [(qa1173 p1)] 0 0))), (3, .one (.pv (.rp [(qa1174 p2)] 0 0))), (9, vl eDataFile p2.files), (10, vi (p2.files.length : Int)), (11, vi x1), (35, vb x3)] [.dead] := fun x3 h => hK20 h (uC (uR .ret (xN (xN xF))) (uJ (ih1 (IntKind.i64.wrap (x1 + (1 : Int)))))); (uDr 12 (uC (uL eDataFile fun e2 a22 => (uY 48 vb fun y1 => (uJ (hJ2 y1)))) (uJ (hJ2 false)))))); (uC (uJ (hJ1 true)) (uJ (hJ1 (decide (p2.schema < e1.schema))))))))) (uR (.exit 0) (xM (uJ (hJ3 ()))))))
 uE (hL1 BIG (0 : Int)))))

def table_find_1 (p1 : GDataFile) (p2 : ByteArray) : Option Int :=
    bnd (strings_Compare p1.name p2) fun r1 =>
    some r1


theorem c_table_find_1 (p1 : GDataFile) (p2 : ByteArray) : CT Tryz.prog 126 [.ag [cst p1.name, ci p1.schema, ci p1.spec, cl eValue p1.part, ci p1.rows, ci p1.seq, cl eStats p1.stats], vs p2] (table_find_1 p1 p2) vi :=
  uFn 9 [] Tryz.f126 fun r => (uP (c_strings_Compare _ _) fun r1 _ => (uR .ret xF))

def slices_BinarySearchFunc_api_DataFile_api_DataFile_string_of_table_find_1_j2 (x3 : Int) (x4 : Bool) : Option (Int × Bool) :=
    some (x3, x4)

def slices_BinarySearchFunc_api_DataFile_api_DataFile_string_of_table_find_1_j1 (p1 : (List GDataFile)) (p2 : ByteArray) (x3 : Int) : Option (Int × Bool) :=
    ift (decide (x3 < (p1.length : Int)))
      (bnd (at? p1 x3) fun e2 =>
       bnd (table_find_1 e2 p2) fun r2 =>
       slices_BinarySearchFunc_api_DataFile_api_DataFile_string_of_table_find_1_j2 x3 (r2 == (0 : Int)))
      (slices_BinarySearchFunc_api_DataFile_api_DataFile_string_of_table_find_1_j2 x3 false)

def slices_BinarySearchFunc_api_DataFile_api_DataFile_string_of_table_find_1_l1 (p1 : (List GDataFile)) (p2 : ByteArray) : Nat → Int → Int → Option (Int × Bool)
  | 0, _, _ => none
  | k1 + 1, x1, x2 =>
    ift (decide (x1 < x2))
      (bnd (some ((IntKind.u64.wrap (IntKind.i64.wrap (x1 + x2))).fdiv (2 ^ (min (1 : Int).toNat (IntKind.u64).bits)))) fun y1 =>
       bnd (at? p1 (IntKind.i64.wrap y1)) fun e1 =>
       bnd (table_find_1 e1 p2) fun r1 =>
       ift (decide (r1 < (0 : Int)))
         ((slices_BinarySearchFunc_api_DataFile_api_DataFile_string_of_table_find_1_l1 p1 p2 k1) (IntKind.i64.wrap ((IntKind.i64.wrap y1) + (1 : Int))) x2)
         ((slices_BinarySearchFunc_api_DataFile_api_DataFile_string_of_table_find_1_l1 p1 p2 k1) x1 (IntKind.i64.wrap y1)))
      (slices_BinarySearchFunc_api_DataFile_api_DataFile_string_of_table_find_1_j1 p1 p2 x1)

def slices_BinarySearchFunc_api_DataFile_api_DataFile_string_of_table_find_1 (p1 : (List GDataFile)) (p2 : ByteArray) : Option (Int × Bool) :=
    slices_BinarySearchFunc_api_DataFile_api_DataFile_string_of_table_find_1_l1 p1 p2 BIG (0 : Int) (p1.length : Int)


theorem c_slices_BinarySearchFunc_api_DataFile_api_DataFile_string_of_table_find_1 (p1 : (List GDataFile)) (p2 : ByteArray) : CT Tryz.prog 125 [vl eDataFile p1, vs p2, .one (.pv (.fn 126 []))] (slices_BinarySearchFunc_api_DataFile_api_DataFile_string_of_table_find_1 p1 p2) (fun r => .tp [vi r.1, vb r.2]) :=
  uFn 49 [] Tryz.f125 fun r => (uN eDataFile p1 (uQ (kS Tryz.f125 [1,1,1,0] 1) fun K4 hK4 => have hJ1 : ∀ (x3 : Int), slices_BinarySearchFunc_api_DataFile_api_DataFile_string_of_table_find_1_j1 p1 p2 x3 = some r → K4.p [(0, vl eDataFile p1), (1, vs p2), (2, .one (.pv (.fn 126 []))), (8, vi (p1.length : Int)), (9, vi x3)] [] := fun x3 h => hK4 h (uQ (kS Tryz.f125 [1,1,1,1,0] 1) fun K14 hK14 => have hJ2 : ∀ (x4 : Bool), slices_BinarySearchFunc_api_DataFile_api_DataFile_string_of_table_find_1_j2 x3 x4 = some r → K14.p [(6, vi x3), (7, vb x4)] [] := fun x4 h => hK14 h (uR .ret xF); (uC (uL eDataFile fun e2 a16 => (uP (c_table_find_1 _ _) fun r2 _ => (uJ (hJ2 (r2 == (0 : Int)))))) (uJ (hJ2 false)))); (uO (cd Tryz.f125 [1,1,1,0,0,0]) (kS Tryz.f125 [1,1,1,0,0] 1) fun R1 b1 => have hL1 : ∀ (k1 : Nat) (x1 : Int) (x2 : Int), slices_BinarySearchFunc_api_DataFile_api_DataFile_string_of_table_find_1_l1 p1 p2 k1 x1 x2 = some r → (R1 k1).p [(0, vl eDataFile p1), (1, vs p2), (2, .one (.pv (.fn 126 []))), (8, vi (p1.length : Int)), (9, vi x1), (10, vi x2)] [] := by intro k1; induction k1 with | zero => intro x1 x2 h; exact uE0 (slices_BinarySearchFunc_api_DataFile_api_DataFile_string_of_table_find_1_l1.eq_1 ..) h | succ k1 ih1 => intro x1 x2 h; exact b1 h (uU (slices_BinarySearchFunc_api_DataFile_api_DataFile_string_of_table_find_1_l1.eq_2 ..) (uC (uY 22 (vk .u64) fun y1 => (uL eDataFile fun e1 a11 => (uP (c_table_find_1 _ _) fun r1 _ => (uC (uJ (ih1 (IntKind.i64.wrap ((IntKind.i64.wrap y1) + (1 : Int))) x2)) (uJ (ih1 x1 (IntKind.i64.wrap y1))))))) (uR (.exit 0) (xM (uJ (hJ1 x1))))))
 uE (hL1 BIG (0 : Int) (p1.length : Int)))))

def table_find (p1 : GSnapshot) (p2 : ByteArray) : Option (GDataFile × Bool) :=
    bnd (slices_BinarySearchFunc_api_DataFile_api_DataFile_string_of_table_find_1 p1.files p2) fun r1 =>
    ift (!r1.2)
      (some ((GDataFile.mk ByteArray.empty (0 : Int) (0 : Int) [] (0 : Int) (0 : Int) []), false))
      (bnd (at? p1.files r1.1) fun e1 =>
       some (e1, true))


theorem c_table_find (p1 : GSnapshot) (p2 : ByteArray) : CT Tryz.prog 85 [.ag [ci p1.id, ci p1.parent, ci p1.seq, ci p1.schema, ci p1.time, ci p1.kind, cl eDataFile p1.files, cl eDeleteAt p1.dat, cl eDeleteBy p1.dby], vs p2] (table_find p1 p2) (fun r => .tp [.ag [cst r.1.name, ci r.1.schema, ci r.1.spec, cl eValue r.1.part, ci r.1.rows, ci r.1.seq, cl eStats r.1.stats], vb r.2]) :=
  uFn 23 [4] Tryz.f85 fun r => (uP (c_slices_BinarySearchFunc_api_DataFile_api_DataFile_string_of_table_find_1 _ _) fun r1 _ => (uC (uR .ret xF) (uL eDataFile fun e1 a9 => (uR .ret xF))))

def table_rising_j1 (p1 : (List Int)) : Option Bool :=
    some (decide ((0 : Int) < (p1.length : Int)))

def table_rising_l1 (p1 : (List Int)) : Nat → Int → Option Bool
  | 0, _ => none
  | k1 + 1, x1 =>
    ift (decide (x1 < (p1.length : Int)))
      (bnd (at? p1 x1) fun e1 =>
       bnd (at? p1 (IntKind.i64.wrap (x1 - (1 : Int)))) fun e2 =>
       ift (decide (e1 ≤ e2))
         (some false)
         ((table_rising_l1 p1 k1) (IntKind.i64.wrap (x1 + (1 : Int)))))
      (table_rising_j1 p1)

def table_rising (p1 : (List Int)) : Option Bool :=
    table_rising_l1 p1 BIG (1 : Int)


theorem c_table_rising (p1 : (List Int)) : CT Tryz.prog 86 [vl eI p1] (table_rising p1) vb :=
  uFn 23 [] Tryz.f86 fun r => (uQ (kS Tryz.f86 [1,0] 1) fun K2 hK2 => have hJ1 : ∀ (_ : Unit), table_rising_j1 p1 = some r → K2.p [(0, vl eI p1)] [] := fun _ h => hK2 h (uN eI p1 (uR .ret xF)); (uO (cd Tryz.f86 [1,0,1,0,0]) (kS Tryz.f86 [1,0,1,0] 1) fun R1 b1 => have hL1 : ∀ (k1 : Nat) (x1 : Int), table_rising_l1 p1 k1 x1 = some r → (R1 k1).p [(0, vl eI p1), (3, vi x1)] [] := by intro k1; induction k1 with | zero => intro x1 h; exact uE0 (table_rising_l1.eq_1 ..) h | succ k1 ih1 => intro x1 h; exact b1 h (uU (table_rising_l1.eq_2 ..) (uN eI p1 (uC (uDr 9 (uL eI fun e1 a9 => (uL eI fun e2 a10 => (uC (uR .ret (xN (xN xF))) (uJ (ih1 (IntKind.i64.wrap (x1 + (1 : Int))))))))) (uR (.exit 0) (xM (uJ (hJ1 ())))))))
 uE (hL1 BIG (1 : Int))))

def table_topLeaf_j1 (p1 : (List GField)) (r1 : Int) (x1 : Bool) : Option (GType × Bool) :=
    ift x1
      (some ((GType.mk (0 : Int) (0 : Int) []), false))
      (bnd (at? p1 r1) fun e2 =>
       some (e2.type, true))

def table_topLeaf (p1 : (List GField)) (p2 : Int) : Option (GType × Bool) :=
    bnd (table_top p1 p2) fun r1 =>
    ift (decide (r1 < (0 : Int)))
      (table_topLeaf_j1 p1 r1 true)
      (bnd (at? p1 r1) fun e1 =>
       bnd (table_leaf e1.type) fun r2 =>
       table_topLeaf_j1 p1 r1 (!r2))


theorem c_table_topLeaf (p1 : (List GField)) (p2 : Int) : CT Tryz.prog 129 [vl eField p1, vi p2] (table_topLeaf p1 p2) (fun r => .tp [.ag [ci r.1.kind, ci r.1.scale, cl eField r.1.fields], vb r.2]) :=
  uFn 27 [4] Tryz.f129 fun r => (uP (c_table_top _ _) fun r1 _ => (uQ (kS Tryz.f129 [1,1,0,0] 2) fun K5 hK5 => have hJ1 : ∀ (x1 : Bool), table_topLeaf_j1 p1 r1 x1 = some r → K5.p [(0, vl eField p1), (4, .one (.pt 0 0 0 0)), (6, vi r1), (20, vb x1)] [.box [ci (0 : Int), ci (0 : Int), .pv (.s (.slice none 0 0))]] := fun x1 h => hK5 h (uC (uR .ret xF) (uL eField fun e2 a12 => (uR .ret xF))); (uC (uJ (hJ1 true)) (uL eField fun e1 a7 => (uP (c_table_leaf _) fun r2 _ => (uJ (hJ1 (!r2))))))))

def table_by_1 (p1 : Int) (p2 : (List GField)) : Option (Bool × (List GField)) :=
    bnd (table_topLeaf p2 p1) fun r1 =>
    some ((!r1.2), p2)


theorem c_table_by_1 (p1 : Int) (p2 : (List GField)) : CM Tryz.prog 128 [vi p1, .one (.pt 0 0 0 0)] [.box [cl eField p2]] (table_by_1 p1 p2) (fun r => vb r.1) (fun r => [.box [cl eField r.2]]) :=
  uFnM 1 14 [4] Tryz.f128 fun r => (uP (c_table_topLeaf _ _) fun r1 _ => (uR .ret xFM))

def slices_IndexFunc_int_int_of_table_by_1_j1 (z2 : List GField) : Option (Int × (List GField)) :=
    some ((-1 : Int), z2)

def slices_IndexFunc_int_int_of_table_by_1_l1 (p1 : (List Int)) : Nat → List GField → Int → Option (Int × (List GField))
  | 0, _, _ => none
  | k1 + 1, z1, x1 =>
    ift (decide (x1 < (p1.length : Int)))
      (bnd (at? p1 x1) fun e1 =>
       bnd (table_by_1 e1 z1) fun r1 =>
       ift r1.1
         (some (x1, r1.2))
         ((slices_IndexFunc_int_int_of_table_by_1_l1 p1 k1) r1.2 (IntKind.i64.wrap (x1 + (1 : Int)))))
      (slices_IndexFunc_int_int_of_table_by_1_j1 z1)

def slices_IndexFunc_int_int_of_table_by_1 (p1 : (List Int)) (p2 : (List GField)) : Option (Int × (List GField)) :=
    slices_IndexFunc_int_int_of_table_by_1_l1 p1 BIG p2 (0 : Int)


theorem c_slices_IndexFunc_int_int_of_table_by_1 (p1 : (List Int)) (p2 : (List GField)) : CM Tryz.prog 164 [vl eI p1, .one (.fn 128 [.pt 0 0 0 0])] [.box [cl eField p2]] (slices_IndexFunc_int_int_of_table_by_1 p1 p2) (fun r => vi r.1) (fun r => [.box [cl eField r.2]]) :=
  uFnM 1 19 [] Tryz.f164 fun r => (uQ (kS Tryz.f164 [1,0] 1) fun K2 hK2 => have hJ1 : ∀ (z2 : List GField), slices_IndexFunc_int_int_of_table_by_1_j1 z2 = some r → K2.p [] [.box [cl eField z2]] := fun z2 h => hK2 h (uR .ret xFM); (uN eI p1 (uO (cd Tryz.f164 [1,0,1,0,0]) (kS Tryz.f164 [1,0,1,0] 1) fun R1 b1 => have hL1 : ∀ (k1 : Nat) (z1 : List GField) (x1 : Int), slices_IndexFunc_int_int_of_table_by_1_l1 p1 k1 z1 x1 = some r → (R1 k1).p [(0, vl eI p1), (1, .one (.fn 128 [.pt 0 0 0 0])), (7, vi (p1.length : Int)), (8, vi x1)] [.box [cl eField z1]] := by intro k1; induction k1 with | zero => intro z1 x1 h; exact uE0 (slices_IndexFunc_int_int_of_table_by_1_l1.eq_1 ..) h | succ k1 ih1 => intro z1 x1 h; exact b1 h (uU (slices_IndexFunc_int_int_of_table_by_1_l1.eq_2 ..) (uC (uL eI fun e1 a10 => (uMc true [0] (c_table_by_1 _ _) fun r1 _ => (uC (uR .ret (xN (xN xFM))) (uJ (ih1 r1.2 (IntKind.i64.wrap (x1 + (1 : Int)))))))) (uR (.exit 0) (xM (uJ (hJ1 z1))))))
 uE (hL1 BIG p2 (0 : Int)))))

def slices_ContainsFunc_int_int_of_table_by_1 (p1 : (List Int)) (p2 : (List GField)) : Option (Bool × (List GField)) :=
    bnd (slices_IndexFunc_int_int_of_table_by_1 p1 p2) fun r1 =>
    some ((decide ((0 : Int) ≤ r1.1)), r1.2)


theorem c_slices_ContainsFunc_int_int_of_table_by_1 (p1 : (List Int)) (p2 : (List GField)) : CM Tryz.prog 130 [vl eI p1, .one (.fn 128 [.pt 0 0 0 0])] [.box [cl eField p2]] (slices_ContainsFunc_int_int_of_table_by_1 p1 p2) (fun r => vb r.1) (fun r => [.box [cl eField r.2]]) :=
  uFnM 1 9 [] Tryz.f130 fun r => (uMc true [0] (c_slices_IndexFunc_int_int_of_table_by_1 _ _) fun r1 _ => (uR .ret xFM))

def table_compareKeys (p1 : (List GValue)) (p2 : (List GValue)) : Option Int :=
    bnd (slices_CompareFunc_api_Value_api_Value_api_Value_api_Value_of_value_Compare BIG p1 p2) fun r1 =>
    some r1


theorem c_table_compareKeys (p1 : (List GValue)) (p2 : (List GValue)) : CT Tryz.prog 131 [vl eValue p1, vl eValue p2] (table_compareKeys p1 p2) vi :=
  uFn 8 [] Tryz.f131 fun r => (uP (c_slices_CompareFunc_api_Value_api_Value_api_Value_api_Value_of_value_Compare BIG _ _) fun r1 _ => (uR .ret xF))

def table_by_j4 (rec1 : Int → Option Int) (x3 : Int) (x5 : Bool) : Option Int :=
    ift x5
      (some (1 : Int))
      (rec1 (IntKind.i64.wrap (x3 + (1 : Int))))

def table_by_j3 (rec1 : Int → Option Int) (p2 : GDeleteBy) (p3 : Bool) (x3 : Int) (e2 : (List GValue)) : Option Int :=
    ift p3
      (ift (decide ((0 : Int) < x3))
         (bnd (at? p2.keys (IntKind.i64.wrap (x3 - (1 : Int)))) fun e5 =>
          bnd (table_compareKeys e5 e2) fun r6 =>
          table_by_j4 rec1 x3 (decide ((0 : Int) ≤ r6)))
         (table_by_j4 rec1 x3 false))
      (table_by_j4 rec1 x3 false)

def table_by_l2 (rec1 : Int → Option Int) (p2 : GDeleteBy) (p3 : Bool) (z1 : List GField) (x3 : Int) (e2 : (List GValue)) : Nat → Int → Option Int
  | 0, _ => none
  | k2 + 1, x4 =>
    ift (decide (x4 < (e2.length : Int)))
      (bnd (at? e2 x4) fun e3 =>
       bnd (at? p2.ids x4) fun e4 =>
       bnd (table_topLeaf z1 e4) fun r4 =>
       bnd (value_Check r4.1 e3) fun r5 =>
       ift (r5 != (0 : Int))
         (some r5)
         ((table_by_l2 rec1 p2 p3 z1 x3 e2 k2) (IntKind.i64.wrap (x4 + (1 : Int)))))
      (table_by_j3 rec1 p2 p3 x3 e2)

def table_by_j5 : Option Int :=
    some (0 : Int)

def table_by_l1 (p2 : GDeleteBy) (p3 : Bool) (z1 : List GField) : Nat → Int → Option Int
  | 0, _ => none
  | k1 + 1, x3 =>
    ift (decide (x3 < (p2.keys.length : Int)))
      (bnd (at? p2.keys x3) fun e2 =>
       ift ((e2.length : Int) != (p2.ids.length : Int))
         (some (1 : Int))
         (table_by_l2 (table_by_l1 p2 p3 z1 k1) p2 p3 z1 x3 e2 BIG (0 : Int)))
      (table_by_j5)

def table_by_j2 (p2 : GDeleteBy) (p3 : Bool) (z1 : List GField) (x2 : Bool) : Option Int :=
    ift x2
      (some (9 : Int))
      (bnd (table_rising p2.ids) fun r3 =>
       ift (!r3)
         (some (1 : Int))
         (ift (decide ((200 : Int) < (p2.keys.length : Int)))
            (some (7 : Int))
            (ift ((p2.keys.length : Int) == (0 : Int))
               (some (9 : Int))
               (table_by_l1 p2 p3 z1 BIG (0 : Int)))))

def table_by_j1 (p1 : GMeta) (p2 : GDeleteBy) (p3 : Bool) (x1 : Bool) : Option Int :=
    ift x1
      (some (3 : Int))
      (bnd (at? p1.schemas p2.schema) fun e1 =>
       ift ((p2.ids.length : Int) == (0 : Int))
         (table_by_j2 p2 p3 e1 true)
         (bnd (slices_ContainsFunc_int_int_of_table_by_1 p2.ids e1) fun r2 =>
          table_by_j2 p2 p3 r2.2 r2.1))

def table_by (p1 : GMeta) (p2 : GDeleteBy) (p3 : Bool) : Option Int :=
    bnd (table_within p2.schema (0 : Int) (IntKind.i64.wrap ((p1.schemas.length : Int) - (1 : Int)))) fun r1 =>
    ift (!r1)
      (table_by_j1 p1 p2 p3 true)
      (table_by_j1 p1 p2 p3 (decide (p2.seq < (1 : Int))))

abbrev qa1213 (p2 : GDeleteBy) : List PV := [pi p2.schema, .ro (eI.els p2.ids), .ro ((eL eValue).els p2.keys), pi p2.seq]

theorem c_table_by (p1 : GMeta) (p2 : GDeleteBy) (p3 : Bool) : CT Tryz.prog 87 [.ag [cl (eL eField) p1.schemas, cl eSpec p1.specs, ci p1.nextField, ci p1.nextSeq, ci p1.nextSnap, ci p1.purges, cl eSnapshot p1.snapshots, cl eRef p1.refs, cl eProp p1.props], .ag [ci p2.schema, cl eI p2.ids, cl (eL eValue) p2.keys, ci p2.seq], vb p3] (table_by p1 p2 p3) vi :=
  uFn 117 [7, 12, 13] Tryz.f87 fun r => (uQ (kS Tryz.f87 [1,0,0] 2) fun K3 hK3 => have hJ1 : ∀ (x1 : Bool), table_by_j1 p1 p2 p3 x1 = some r → K3.p [(2, vb p3), (3, .one (.pv (.rp [[.ro ((eL eField).els p1.schemas), .ro (eSpec.els p1.specs), pi p1.nextField, pi p1.nextSeq, pi p1.nextSnap, pi p1.purges, .ro (eSnapshot.els p1.snapshots), .ro (eRef.els p1.refs), .ro (eProp.els p1.props)]] 0 0))), (4, .one (.pv (.rp [(qa1213 p2)] 0 0))), (28, vb x1)] [] := fun x1 h => hK3 h (uC (uR .ret xF) (uL (eL eField) fun e1 a9 => (uQ (kS Tryz.f87 [1,1,1,1,0,0,0] 3) fun K12 hK12 => have hJ2 : ∀ (z1 : List GField) (x2 : Bool), table_by_j2 p2 p3 z1 x2 = some r → K12.p [(2, vb p3), (4, .one (.pv (.rp [(qa1213 p2)] 0 0))), (7, .one (.pt 0 0 0 0)), (36, vb x2)] [.box [cl eField z1]] := fun z1 x2 h => hK12 h (uC (uR .ret xF) (uP (c_table_rising _) fun r3 _ => (uC (uR .ret xF) (uN (eL eValue) p2.keys (uC (uR .ret xF) (uN (eL eValue) p2.keys (uC (uR .ret xF) (uQ (kS Tryz.f87 [1,1,1,1,1,0] 1) fun K27 hK27 => have hJ5 : ∀ (_ : Unit), table_by_j5 = some r → K27.p [] [.dead] := fun _ h => hK27 h (uR .ret xF); (uN (eL eValue) p2.keys (uO (cd Tryz.f87 [1,1,1,1,1,0,1,0,0]) (kS Tryz.f87 [1,1,1,1,1,0,1,0] 1) fun R1 b1 => have hL1 : ∀ (k1 : Nat) (x3 : Int), table_by_l1 p2 p3 z1 k1 x3 = some r → (R1 k1).p [(2, vb p3), (4, .one (.pv (.rp [(qa1213 p2)] 0 0))), (7, .one (.pt 0 0 0 0)), (63, vl (eL eValue) p2.keys), (64, vi (p2.keys.length : Int)), (65, vi x3)] [.box [cl eField z1]] := by intro k1; induction k1 with | zero => intro x3 h; exact uE0 (table_by_l1.eq_1 ..) h | succ k1 ih1 => intro x3 h; exact b1 h (uU (table_by_l1.eq_2 ..) (uC (uL (eL eValue) fun e2 a34 => (uN eValue e2 (uN eI p2.ids (uC (uR .ret (xN (xN xF))) (uQ (kS Tryz.f87 [1,1,1,1,1,0,1,0,0,1,1,0,0,1,1,0] 3) fun K39 hK39 => have hJ3 : ∀ (_ : Unit), table_by_j3 (table_by_l1 p2 p3 z1 k1) p2 p3 x3 e2 = some r → K39.p [(2, vb p3), (4, .one (.pv (.rp [(qa1213 p2)] 0 0))), (7, .one (.pt 0 0 0 0)), (9, vi x3), (10, vl eValue e2), (63, vl (eL eValue) p2.keys), (64, vi (p2.keys.length : Int)), (65, vi x3)] [.box [cl eField z1]] := fun _ h => hK39 h (uQ (kS Tryz.f87 [1,1,1,1,1,0,1,0,0,1,1,0,0,1,1,1,0] 3) fun K55 hK55 => have hJ4 : ∀ (x5 : Bool), table_by_j4 (table_by_l1 p2 p3 z1 k1) x3 x5 = some r → K55.p [(2, vb p3), (4, .one (.pv (.rp [(qa1213 p2)] 0 0))), (7, .one (.pt 0 0 0 0)), (63, vl (eL eValue) p2.keys), (64, vi (p2.keys.length : Int)), (65, vi x3), (115, vb x5)] [.box [cl eField z1]] := fun x5 h => hK55 h (uC (uR .ret (xN (xN xF))) (uJ (ih1 (IntKind.i64.wrap (x3 + (1 : Int)))))); (uC (uC (uL (eL eValue) fun e5 a58 => (uP (c_table_compareKeys _ _) fun r6 _ => (uJ (hJ4 (decide ((0 : Int) ≤ r6)))))) (uJ (hJ4 false))) (uJ (hJ4 false)))); (uN eValue e2 (uO (cd Tryz.f87 [1,1,1,1,1,0,1,0,0,1,1,0,0,1,1,0,1,0,0]) (kS Tryz.f87 [1,1,1,1,1,0,1,0,0,1,1,0,0,1,1,0,1,0] 1) fun R2 b2 => have hL2 : ∀ (k2 : Nat) (x4 : Int), table_by_l2 (table_by_l1 p2 p3 z1 k1) p2 p3 z1 x3 e2 k2 x4 = some r → (R2 k2).p [(2, vb p3), (4, .one (.pv (.rp [(qa1213 p2)] 0 0))), (7, .one (.pt 0 0 0 0)), (9, vi x3), (10, vl eValue e2), (63, vl (eL eValue) p2.keys), (64, vi (p2.keys.length : Int)), (65, vi x3), (76, vl eValue e2), (77, vi (e2.length : Int)), (78, vi x4)] [.box [cl eField z1]] := by intro k2; induction k2 with | zero => intro x4 h; exact uE0 (table_by_l2.eq_1 ..) h | succ k2 ih2 => intro x4 h; exact b2 h (uU (table_by_l2.eq_2 ..) (uC (uL eValue fun e3 a46 => (uGr 12 1 [2,3] (uL eI fun e4 a48 => (uP (c_table_topLeaf _ _) fun r4 _ => (uP (c_value_Check _ _) fun r5 _ => (uC (uR .ret (xN (xN (xN (xN xF))))) (uJ (ih2 (IntKind.i64.wrap (x4 + (1 : Int))))))))))) (uR (.exit 3) (xM (uJ (hJ3 ()))))))
 uE (hL2 BIG (0 : Int))))))))) (uR (.exit 1) (xM (uJ (hJ5 ()))))))
 uE (hL1 BIG (0 : Int)))))))))))); (uN eI p2.ids (uC (uJ (hJ2 e1 true)) (uMc true [0] (c_slices_ContainsFunc_int_int_of_table_by_1 _ _) fun r2 _ => (uJ (hJ2 r2.2 r2.1)))))))); (uN (eL eField) p1.schemas (uP (c_table_within _ _ _) fun r1 _ => (uC (uJ (hJ1 true)) (uJ (hJ1 (decide (p2.seq < (1 : Int)))))))))

def table_older_1_s (p1 : GDataFile) (p2 : Int) (p3 : (List Int)) (p4 : (List (List GValue))) (p5 : Int) : Option Bool :=
    some (decide (p1.seq < p5))


theorem c_table_older_1_s (p1 : GDataFile) (p2 : Int) (p3 : (List Int)) (p4 : (List (List GValue))) (p5 : Int) : CT Tryz.prog 133 [.ag [cst p1.name, ci p1.schema, ci p1.spec, cl eValue p1.part, ci p1.rows, ci p1.seq, cl eStats p1.stats], .one (.pv (.rp [[pi p2, .ro (eI.els p3), .ro ((eL eValue).els p4), pi p5]] 0 0))] (table_older_1_s p1 p2 p3 p4 p5) vb :=
  uFn 9 [] Tryz.f133 fun r => (uR .ret xF)

def slices_IndexFunc_api_DataFile_api_DataFile_of_table_older_1_j1 : Option Int :=
    some (-1 : Int)

def slices_IndexFunc_api_DataFile_api_DataFile_of_table_older_1_l1 (p1 : (List GDataFile)) (p2 : Int) (p3 : (List Int)) (p4 : (List (List GValue))) (p5 : Int) : Nat → Int → Option Int
  | 0, _ => none
  | k1 + 1, x1 =>
    ift (decide (x1 < (p1.length : Int)))
      (bnd (at? p1 x1) fun e1 =>
       bnd (table_older_1_s e1 p2 p3 p4 p5) fun r1 =>
       ift r1
         (some x1)
         ((slices_IndexFunc_api_DataFile_api_DataFile_of_table_older_1_l1 p1 p2 p3 p4 p5 k1) (IntKind.i64.wrap (x1 + (1 : Int)))))
      (slices_IndexFunc_api_DataFile_api_DataFile_of_table_older_1_j1)

def slices_IndexFunc_api_DataFile_api_DataFile_of_table_older_1 (p1 : (List GDataFile)) (p2 : Int) (p3 : (List Int)) (p4 : (List (List GValue))) (p5 : Int) : Option Int :=
    slices_IndexFunc_api_DataFile_api_DataFile_of_table_older_1_l1 p1 p2 p3 p4 p5 BIG (0 : Int)


theorem c_slices_IndexFunc_api_DataFile_api_DataFile_of_table_older_1 (p1 : (List GDataFile)) (p2 : Int) (p3 : (List Int)) (p4 : (List (List GValue))) (p5 : Int) : CT Tryz.prog 166 [vl eDataFile p1, .one (.fn 133 [.pv (.rp [[pi p2, .ro (eI.els p3), .ro ((eL eValue).els p4), pi p5]] 0 0)])] (slices_IndexFunc_api_DataFile_api_DataFile_of_table_older_1 p1 p2 p3 p4 p5) vi :=
  uFn 19 [] Tryz.f166 fun r => (uQ (kS Tryz.f166 [1,0] 1) fun K2 hK2 => have hJ1 : ∀ (_ : Unit), slices_IndexFunc_api_DataFile_api_DataFile_of_table_older_1_j1 = some r → K2.p [] [] := fun _ h => hK2 h (uR .ret xF); (uN eDataFile p1 (uO (cd Tryz.f166 [1,0,1,0,0]) (kS Tryz.f166 [1,0,1,0] 1) fun R1 b1 => have hL1 : ∀ (k1 : Nat) (x1 : Int), slices_IndexFunc_api_DataFile_api_DataFile_of_table_older_1_l1 p1 p2 p3 p4 p5 k1 x1 = some r → (R1 k1).p [(0, vl eDataFile p1), (1, .one (.fn 133 [.pv (.rp [[pi p2, .ro (eI.els p3), .ro ((eL eValue).els p4), pi p5]] 0 0)])), (7, vi (p1.length : Int)), (8, vi x1)] [] := by intro k1; induction k1 with | zero => intro x1 h; exact uE0 (slices_IndexFunc_api_DataFile_api_DataFile_of_table_older_1_l1.eq_1 ..) h | succ k1 ih1 => intro x1 h; exact b1 h (uU (slices_IndexFunc_api_DataFile_api_DataFile_of_table_older_1_l1.eq_2 ..) (uC (uL eDataFile fun e1 a10 => (uP (c_table_older_1_s _ _ _ _ _) fun r1 _ => (uC (uR .ret (xN (xN xF))) (uJ (ih1 (IntKind.i64.wrap (x1 + (1 : Int)))))))) (uR (.exit 0) (xM (uJ (hJ1 ()))))))
 uE (hL1 BIG (0 : Int)))))

def slices_ContainsFunc_api_DataFile_api_DataFile_of_table_older_1 (p1 : (List GDataFile)) (p2 : Int) (p3 : (List Int)) (p4 : (List (List GValue))) (p5 : Int) : Option Bool :=
    bnd (slices_IndexFunc_api_DataFile_api_DataFile_of_table_older_1 p1 p2 p3 p4 p5) fun r1 =>
    some (decide ((0 : Int) ≤ r1))


theorem c_slices_ContainsFunc_api_DataFile_api_DataFile_of_table_older_1 (p1 : (List GDataFile)) (p2 : Int) (p3 : (List Int)) (p4 : (List (List GValue))) (p5 : Int) : CT Tryz.prog 132 [vl eDataFile p1, .one (.fn 133 [.pv (.rp [[pi p2, .ro (eI.els p3), .ro ((eL eValue).els p4), pi p5]] 0 0)])] (slices_ContainsFunc_api_DataFile_api_DataFile_of_table_older_1 p1 p2 p3 p4 p5) vb :=
  uFn 9 [] Tryz.f132 fun r => (uP (c_slices_IndexFunc_api_DataFile_api_DataFile_of_table_older_1 _ _ _ _ _) fun r1 _ => (uR .ret xF))

def table_older (p1 : (List GDataFile)) (p2 : GDeleteBy) : Option Bool :=
    bnd (slices_ContainsFunc_api_DataFile_api_DataFile_of_table_older_1 p1 p2.schema p2.ids p2.keys p2.seq) fun r1 =>
    some r1


theorem c_table_older (p1 : (List GDataFile)) (p2 : GDeleteBy) : CT Tryz.prog 88 [vl eDataFile p1, .ag [ci p2.schema, cl eI p2.ids, cl (eL eValue) p2.keys, ci p2.seq]] (table_older p1 p2) vb :=
  uFn 8 [] Tryz.f88 fun r => (uP (c_slices_ContainsFunc_api_DataFile_api_DataFile_of_table_older_1 _ _ _ _ _) fun r1 _ => (uR .ret xF))

def table_deletes_j2 (rec1 : Int → Option Int) (x1 : Int) (x3 : Bool) : Option Int :=
    ift x3
      (some (3 : Int))
      (rec1 (IntKind.i64.wrap (x1 + (1 : Int))))

def table_deletes_j1 (rec1 : Int → Option Int) (x1 : Int) (e1 : GDeleteAt) (r1 : (GDataFile × Bool)) (x2 : Bool) : Option Int :=
    ift x2
      (some (1 : Int))
      (bnd (at? e1.rows (0 : Int)) fun e3 =>
       ift (decide (e3 < (0 : Int)))
         (table_deletes_j2 rec1 x1 true)
         (bnd (at? e1.rows (IntKind.i64.wrap ((e1.rows.length : Int) - (1 : Int)))) fun e4 =>
          table_deletes_j2 rec1 x1 (decide (r1.1.rows ≤ e4))))

def table_deletes_j4 (rec2 : Int → Option Int) (x4 : Int) (x5 : Bool) : Option Int :=
    ift x5
      (some (1 : Int))
      (rec2 (IntKind.i64.wrap (x4 + (1 : Int))))

def table_deletes_j5 : Option Int :=
    some (0 : Int)

def table_deletes_l2 (p1 : GMeta) (p2 : GSnapshot) : Nat → Int → Option Int
  | 0, _ => none
  | k2 + 1, x4 =>
    ift (decide (x4 < (p2.dby.length : Int)))
      (bnd (at? p2.dby x4) fun e5 =>
       bnd (table_by p1 e5 true) fun r4 =>
       ift (r4 != (0 : Int))
         (some r4)
         (ift (decide (p2.seq < e5.seq))
            (some (3 : Int))
            (ift (decide ((0 : Int) < x4))
               (bnd (at? p2.dby (IntKind.i64.wrap (x4 - (1 : Int)))) fun e6 =>
                ift (decide (e5.seq < e6.seq))
                  (table_deletes_j4 (table_deletes_l2 p1 p2 k2) x4 true)
                  (bnd (table_older p2.files e5) fun r5 =>
                   table_deletes_j4 (table_deletes_l2 p1 p2 k2) x4 (!r5)))
               (bnd (table_older p2.files e5) fun r6 =>
                table_deletes_j4 (table_deletes_l2 p1 p2 k2) x4 (!r6)))))
      (table_deletes_j5)

def table_deletes_j3 (p1 : GMeta) (p2 : GSnapshot) : Option Int :=
    table_deletes_l2 p1 p2 BIG (0 : Int)

def table_deletes_l1 (p1 : GMeta) (p2 : GSnapshot) : Nat → Int → Option Int
  | 0, _ => none
  | k1 + 1, x1 =>
    ift (decide (x1 < (p2.dat.length : Int)))
      (bnd (at? p2.dat x1) fun e1 =>
       bnd (table_find p2 e1.file) fun r1 =>
       ift (!r1.2)
         (some (9 : Int))
         (ift (decide ((0 : Int) < x1))
            (bnd (at? p2.dat (IntKind.i64.wrap (x1 - (1 : Int)))) fun e2 =>
             bnd (some (Op.bytesLess e1.file.toList e2.file.toList || e1.file.toList == e2.file.toList)) fun y1 =>
             ift y1
               (table_deletes_j1 (table_deletes_l1 p1 p2 k1) x1 e1 r1 true)
               (bnd (table_rising e1.rows) fun r2 =>
                table_deletes_j1 (table_deletes_l1 p1 p2 k1) x1 e1 r1 (!r2)))
            (bnd (table_rising e1.rows) fun r3 =>
             table_deletes_j1 (table_deletes_l1 p1 p2 k1) x1 e1 r1 (!r3))))
      (table_deletes_j3 p1 p2)

def table_deletes (p1 : GMeta) (p2 : GSnapshot) : Option Int :=
    table_deletes_l1 p1 p2 BIG (0 : Int)

abbrev qa1231 (p1 : GMeta) : List PV := [.ro ((eL eField).els p1.schemas), .ro (eSpec.els p1.specs), pi p1.nextField, pi p1.nextSeq, pi p1.nextSnap, pi p1.purges, .ro (eSnapshot.els p1.snapshots), .ro (eRef.els p1.refs), .ro (eProp.els p1.props)]
abbrev qa1232 (p2 : GSnapshot) : List PV := [pi p2.id, pi p2.parent, pi p2.seq, pi p2.schema, pi p2.time, pi p2.kind, .ro (eDataFile.els p2.files), .ro (eDeleteAt.els p2.dat), .ro (eDeleteBy.els p2.dby)]

theorem c_table_deletes (p1 : GMeta) (p2 : GSnapshot) : CT Tryz.prog 50 [.ag [cl (eL eField) p1.schemas, cl eSpec p1.specs, ci p1.nextField, ci p1.nextSeq, ci p1.nextSnap, ci p1.purges, cl eSnapshot p1.snapshots, cl eRef p1.refs, cl eProp p1.props], .ag [ci p2.id, ci p2.parent, ci p2.seq, ci p2.schema, ci p2.time, ci p2.kind, cl eDataFile p2.files, cl eDeleteAt p2.dat, cl eDeleteBy p2.dby]] (table_deletes p1 p2) vi :=
  uFn 114 [6, 7, 10] Tryz.f50 fun r => (uQ (kS Tryz.f50 [1,0] 1) fun K2 hK2 => have hJ3 : ∀ (_ : Unit), table_deletes_j3 p1 p2 = some r → K2.p [(2, .one (.pv (.rp [(qa1231 p1)] 0 0))), (3, .one (.pv (.rp [(qa1232 p2)] 0 0)))] [] := fun _ h => hK2 h (uQ (kS Tryz.f50 [1,1,0] 1) fun K30 hK30 => have hJ5 : ∀ (_ : Unit), table_deletes_j5 = some r → K30.p [] [] := fun _ h => hK30 h (uR .ret xF); (uN eDeleteBy p2.dby (uO (cd Tryz.f50 [1,1,0,1,0,0]) (kS Tryz.f50 [1,1,0,1,0] 1) fun R2 b2 => have hL2 : ∀ (k2 : Nat) (x4 : Int), table_deletes_l2 p1 p2 k2 x4 = some r → (R2 k2).p [(2, .one (.pv (.rp [(qa1231 p1)] 0 0))), (3, .one (.pv (.rp [(qa1232 p2)] 0 0))), (72, vl eDeleteBy p2.dby), (73, vi (p2.dby.length : Int)), (74, vi x4)] [] := by intro k2; induction k2 with | zero => intro x4 h; exact uE0 (table_deletes_l2.eq_1 ..) h | succ k2 ih2 => intro x4 h; exact b2 h (uU (table_deletes_l2.eq_2 ..) (uC (uL eDeleteBy fun e5 a37 => (uP (c_table_by _ _ _) fun r4 _ => (uC (uR .ret (xN (xN xF))) (uC (uR .ret (xN (xN xF))) (uQ (kS Tryz.f50 [1,1,0,1,0,0,1,1,0,0,1,1,0,1,1,0] 4) fun K47 hK47 => have hJ4 : ∀ (x5 : Bool), table_deletes_j4 (table_deletes_l2 p1 p2 k2) x4 x5 = some r → K47.p [(2, .one (.pv (.rp [(qa1231 p1)] 0 0))), (3, .one (.pv (.rp [(qa1232 p2)] 0 0))), (72, vl eDeleteBy p2.dby), (73, vi (p2.dby.length : Int)), (74, vi x4), (91, vb x5)] [.dead] := fun x5 h => hK47 h (uC (uR .ret (xN (xN xF))) (uJ (ih2 (IntKind.i64.wrap (x4 + (1 : Int)))))); (uDr 18 (uC (uL eDeleteBy fun e6 a49 => (uC (uJ (hJ4 true)) (uP (c_table_older _ _) fun r5 _ => (uJ (hJ4 (!r5)))))) (uP (c_table_older _ _) fun r6 _ => (uJ (hJ4 (!r6))))))))))) (uR (.exit 3) (xM (uJ (hJ5 ()))))))
 uE (hL2 BIG (0 : Int))))); (uN eDeleteAt p2.dat (uO (cd Tryz.f50 [1,0,1,0,0]) (kS Tryz.f50 [1,0,1,0] 1) fun R1 b1 => have hL1 : ∀ (k1 : Nat) (x1 : Int), table_deletes_l1 p1 p2 k1 x1 = some r → (R1 k1).p [(2, .one (.pv (.rp [(qa1231 p1)] 0 0))), (3, .one (.pv (.rp [(qa1232 p2)] 0 0))), (13, vl eDeleteAt p2.dat), (14, vi (p2.dat.length : Int)), (15, vi x1)] [] := by intro k1; induction k1 with | zero => intro x1 h; exact uE0 (table_deletes_l1.eq_1 ..) h | succ k1 ih1 => intro x1 h; exact b1 h (uU (table_deletes_l1.eq_2 ..) (uC (uL eDeleteAt fun e1 a9 => (uP (c_table_find _ _) fun r1 _ => (uC (uR .ret (xN (xN xF))) (uQ (kS Tryz.f50 [1,0,1,0,0,1,1,0,0,1,1,0,1,1,0] 4) fun K15 hK15 => have hJ1 : ∀ (x2 : Bool), table_deletes_j1 (table_deletes_l1 p1 p2 k1) x1 e1 r1 x2 = some r → K15.p [(2, .one (.pv (.rp [(qa1231 p1)] 0 0))), (3, .one (.pv (.rp [(qa1232 p2)] 0 0))), (6, .one (.pt 0 0 0 0)), (7, .one (.pt 1 0 0 0)), (13, vl eDeleteAt p2.dat), (14, vi (p2.dat.length : Int)), (15, vi x1), (30, vb x2)] [.box [cst e1.file, cl eI e1.rows], .box [cst r1.1.name, ci r1.1.schema, ci r1.1.spec, cl eValue r1.1.part, ci r1.1.rows, ci r1.1.seq, cl eStats r1.1.stats]] := fun x2 h => hK15 h (uC (uR .ret (xN (xN xF))) (uQ (kS Tryz.f50 [1,0,1,0,0,1,1,0,0,1,1,0,1,1,1,1,0] 4) fun K24 hK24 => have hJ2 : ∀ (x3 : Bool), table_deletes_j2 (table_deletes_l1 p1 p2 k1) x1 x3 = some r → K24.p [(2, .one (.pv (.rp [(qa1231 p1)] 0 0))), (3, .one (.pv (.rp [(qa1232 p2)] 0 0))), (13, vl eDeleteAt p2.dat), (14, vi (p2.dat.length : Int)), (15, vi x1), (51, vb x3)] [.dead, .dead] := fun x3 h => hK24 h (uC (uR .ret (xN (xN xF))) (uJ (ih1 (IntKind.i64.wrap (x1 + (1 : Int)))))); (uDr 16 (uL eI fun e3 a25 => (uC (uJ (hJ2 true)) (uN eI e1.rows (uL eI fun e4 a27 => (uJ (hJ2 (decide (r1.1.rows ≤ e4))))))))))); (uDr 12 (uC (uL eDeleteAt fun e2 a17 => (uY 43 vb fun y1 => (uC (uJ (hJ1 true)) (uP (c_table_rising _) fun r2 _ => (uJ (hJ1 (!r2))))))) (uP (c_table_rising _) fun r3 _ => (uJ (hJ1 (!r3)))))))))) (uR (.exit 0) (xM (uJ (hJ3 ()))))))
 uE (hL1 BIG (0 : Int)))))

def table_snapshots_j4 (rec1 : Int → Option Int) (p1 : GMeta) (x1 : Int) (e1 : GSnapshot) (x5 : Bool) : Option Int :=
    ift x5
      (some (5 : Int))
      (bnd (table_files p1 e1) fun r7 =>
       ift (r7 != (0 : Int))
         (some r7)
         (bnd (table_deletes p1 e1) fun r8 =>
          ift (r8 != (0 : Int))
            (some r8)
            (rec1 (IntKind.i64.wrap (x1 + (1 : Int))))))

def table_snapshots_j3 (rec1 : Int → Option Int) (p1 : GMeta) (x1 : Int) (e1 : GSnapshot) (x4 : Bool) : Option Int :=
    ift x4
      (some (3 : Int))
      (ift (decide ((0 : Int) < x1))
         (bnd (at? p1.snapshots (IntKind.i64.wrap (x1 - (1 : Int)))) fun e2 =>
          ift (decide (e1.id ≤ e2.id))
            (table_snapshots_j4 rec1 p1 x1 e1 true)
            (table_snapshots_j4 rec1 p1 x1 e1 (decide (e1.seq ≤ e2.seq))))
         (table_snapshots_j4 rec1 p1 x1 e1 false))

def table_snapshots_j2 (rec1 : Int → Option Int) (p1 : GMeta) (x1 : Int) (e1 : GSnapshot) (x3 : Bool) : Option Int :=
    ift x3
      (table_snapshots_j3 rec1 p1 x1 e1 x3)
      (bnd (table_within e1.kind (1 : Int) (3 : Int)) fun r6 =>
       table_snapshots_j3 rec1 p1 x1 e1 (!r6))

def table_snapshots_j1 (rec1 : Int → Option Int) (p1 : GMeta) (x1 : Int) (e1 : GSnapshot) (x2 : Bool) : Option Int :=
    ift x2
      (table_snapshots_j3 rec1 p1 x1 e1 x2)
      (bnd (table_within e1.schema (0 : Int) (IntKind.i64.wrap ((p1.schemas.length : Int) - (1 : Int)))) fun r4 =>
       ift (!r4)
         (table_snapshots_j2 rec1 p1 x1 e1 true)
         (bnd (table_within e1.time (-62135596800 : Int) (253402300799 : Int)) fun r5 =>
          table_snapshots_j2 rec1 p1 x1 e1 (!r5)))

def table_snapshots_j5 : Option Int :=
    some (0 : Int)

def table_snapshots_l1 (p1 : GMeta) : Nat → Int → Option Int
  | 0, _ => none
  | k1 + 1, x1 =>
    ift (decide (x1 < (p1.snapshots.length : Int)))
      (bnd (at? p1.snapshots x1) fun e1 =>
       bnd (table_within e1.id (1 : Int) (IntKind.i64.wrap (p1.nextSnap - (1 : Int)))) fun r1 =>
       ift (!r1)
         (table_snapshots_j1 (table_snapshots_l1 p1 k1) p1 x1 e1 true)
         (bnd (table_within e1.parent (0 : Int) (IntKind.i64.wrap (e1.id - (1 : Int)))) fun r2 =>
          ift (!r2)
            (table_snapshots_j1 (table_snapshots_l1 p1 k1) p1 x1 e1 true)
            (bnd (table_within e1.seq (1 : Int) (IntKind.i64.wrap (p1.nextSeq - (1 : Int)))) fun r3 =>
             table_snapshots_j1 (table_snapshots_l1 p1 k1) p1 x1 e1 (!r3))))
      (table_snapshots_j5)

def table_snapshots (p1 : GMeta) : Option Int :=
    table_snapshots_l1 p1 BIG (0 : Int)

abbrev qa1245 (p1 : GMeta) : List PV := [.ro ((eL eField).els p1.schemas), .ro (eSpec.els p1.specs), pi p1.nextField, pi p1.nextSeq, pi p1.nextSnap, pi p1.purges, .ro (eSnapshot.els p1.snapshots), .ro (eRef.els p1.refs), .ro (eProp.els p1.props)]
abbrev qa1246 (e1 : GSnapshot) : List CV := [ci e1.id, ci e1.parent, ci e1.seq, ci e1.schema, ci e1.time, ci e1.kind, cl eDataFile e1.files, cl eDeleteAt e1.dat, cl eDeleteBy e1.dby]

theorem c_table_snapshots (p1 : GMeta) : CT Tryz.prog 15 [.ag [cl (eL eField) p1.schemas, cl eSpec p1.specs, ci p1.nextField, ci p1.nextSeq, ci p1.nextSnap, ci p1.purges, cl eSnapshot p1.snapshots, cl eRef p1.refs, cl eProp p1.props]] (table_snapshots p1) vi :=
  uFn 99 [4] Tryz.f15 fun r => (uQ (kS Tryz.f15 [1,0] 1) fun K2 hK2 => have hJ5 : ∀ (_ : Unit), table_snapshots_j5 = some r → K2.p [] [] := fun _ h => hK2 h (uR .ret xF); (uN eSnapshot p1.snapshots (uO (cd Tryz.f15 [1,0,1,0,0]) (kS Tryz.f15 [1,0,1,0] 1) fun R1 b1 => have hL1 : ∀ (k1 : Nat) (x1 : Int), table_snapshots_l1 p1 k1 x1 = some r → (R1 k1).p [(1, .one (.pv (.rp [(qa1245 p1)] 0 0))), (8, vl eSnapshot p1.snapshots), (9, vi (p1.snapshots.length : Int)), (10, vi x1)] [] := by intro k1; induction k1 with | zero => intro x1 h; exact uE0 (table_snapshots_l1.eq_1 ..) h | succ k1 ih1 => intro x1 h; exact b1 h (uU (table_snapshots_l1.eq_2 ..) (uC (uL eSnapshot fun e1 a9 => (uQ (kS Tryz.f15 [1,0,1,0,0,1,1,0,0,1,0,0,0] 5) fun K11 hK11 => have hJ3 : ∀ (x4 : Bool), table_snapshots_j3 (table_snapshots_l1 p1 k1) p1 x1 e1 x4 = some r → K11.p [(1, .one (.pv (.rp [(qa1245 p1)] 0 0))), (3, vi x1), (4, .one (.pt 0 0 0 0)), (8, vl eSnapshot p1.snapshots), (9, vi (p1.snapshots.length : Int)), (10, vi x1), (15, vb x4)] [.box (qa1246 e1)] := fun x4 h => hK11 h (uC (uR .ret (xN (xN xF))) (uQ (kS Tryz.f15 [1,0,1,0,0,1,1,0,0,1,0,0,1,1,0] 5) fun K27 hK27 => have hJ4 : ∀ (x5 : Bool), table_snapshots_j4 (table_snapshots_l1 p1 k1) p1 x1 e1 x5 = some r → K27.p [(1, .one (.pv (.rp [(qa1245 p1)] 0 0))), (4, .one (.pt 0 0 0 0)), (8, vl eSnapshot p1.snapshots), (9, vi (p1.snapshots.length : Int)), (10, vi x1), (59, vb x5)] [.box (qa1246 e1)] := fun x5 h => hK27 h (uC (uR .ret (xN (xN xF))) (uP (c_table_files _ _) fun r7 _ => (uC (uR .ret (xN (xN xF))) (uP (c_table_deletes _ _) fun r8 _ => (uC (uR .ret (xN (xN xF))) (uJ (ih1 (IntKind.i64.wrap (x1 + (1 : Int)))))))))); (uDr 23 (uC (uL eSnapshot fun e2 a29 => (uC (uJ (hJ4 true)) (uM eSnapshot a29 (uJ (hJ4 (decide (e1.seq ≤ e2.seq))))))) (uJ (hJ4 false)))))); (uQ (kS Tryz.f15 [1,0,1,0,0,1,1,0,0,1,0,0,0,0] 1) fun K12 hK12 => have hJ1 : ∀ (x2 : Bool), table_snapshots_j1 (table_snapshots_l1 p1 k1) p1 x1 e1 x2 = some r → K12.p [(1, .one (.pv (.rp [(qa1245 p1)] 0 0))), (3, vi x1), (4, .one (.pt 0 0 0 0)), (8, vl eSnapshot p1.snapshots), (9, vi (p1.snapshots.length : Int)), (10, vi x1), (15, vb x2)] [.box (qa1246 e1)] := fun x2 h => hK12 h (uC (uJ (hJ3 x2)) (uQ (kS Tryz.f15 [1,0,1,0,0,1,1,0,0,1,0,0,0,1,1,0] 1) fun K19 hK19 => have hJ2 : ∀ (x3 : Bool), table_snapshots_j2 (table_snapshots_l1 p1 k1) p1 x1 e1 x3 = some r → K19.p [(1, .one (.pv (.rp [(qa1245 p1)] 0 0))), (3, vi x1), (4, .one (.pt 0 0 0 0)), (8, vl eSnapshot p1.snapshots), (9, vi (p1.snapshots.length : Int)), (10, vi x1), (15, vb x3)] [.box (qa1246 e1)] := fun x3 h => hK19 h (uC (uJ (hJ3 x3)) (uP (c_table_within _ _ _) fun r6 _ => (uJ (hJ3 (!r6))))); (uN (eL eField) p1.schemas (uP (c_table_within _ _ _) fun r4 _ => (uC (uJ (hJ2 true)) (uP (c_table_within _ _ _) fun r5 _ => (uJ (hJ2 (!r5))))))))); (uP (c_table_within _ _ _) fun r1 _ => (uC (uJ (hJ1 true)) (uP (c_table_within _ _ _) fun r2 _ => (uC (uJ (hJ1 true)) (uP (c_table_within _ _ _) fun r3 _ => (uJ (hJ1 (!r3))))))))))) (uR (.exit 0) (xM (uJ (hJ5 ()))))))
 uE (hL1 BIG (0 : Int)))))

def table_sameFile_1 (p1 : GValue) (p2 : GValue) : Option Bool :=
    bnd (value_Compare BIG p1 p2) fun r1 =>
    some (r1 == (0 : Int))


theorem c_table_sameFile_1 (p1 : GValue) (p2 : GValue) : CT Tryz.prog 89 [.ag [ci p1.kind, ci p1.n, ci p1.scale, cst p1.s, cl eValue p1.items], .ag [ci p2.kind, ci p2.n, ci p2.scale, cst p2.s, cl eValue p2.items]] (table_sameFile_1 p1 p2) vb :=
  uFn 9 [] Tryz.f89 fun r => (uP (c_value_Compare BIG _ _) fun r1 _ => (uR .ret xF))

def slices_EqualFunc_api_Value_api_Value_api_Value_api_Value_of_table_sameFile_1_j1 : Option Bool :=
    some true

def slices_EqualFunc_api_Value_api_Value_api_Value_api_Value_of_table_sameFile_1_l1 (p1 : (List GValue)) (p2 : (List GValue)) : Nat → Int → Option Bool
  | 0, _ => none
  | k1 + 1, x1 =>
    ift (decide (x1 < (p1.length : Int)))
      (bnd (at? p1 x1) fun e1 =>
       bnd (at? p2 x1) fun e2 =>
       bnd (table_sameFile_1 e1 e2) fun r1 =>
       ift (!r1)
         (some false)
         ((slices_EqualFunc_api_Value_api_Value_api_Value_api_Value_of_table_sameFile_1_l1 p1 p2 k1) (IntKind.i64.wrap (x1 + (1 : Int)))))
      (slices_EqualFunc_api_Value_api_Value_api_Value_api_Value_of_table_sameFile_1_j1)

def slices_EqualFunc_api_Value_api_Value_api_Value_api_Value_of_table_sameFile_1 (p1 : (List GValue)) (p2 : (List GValue)) : Option Bool :=
    ift ((p1.length : Int) != (p2.length : Int))
      (some false)
      (slices_EqualFunc_api_Value_api_Value_api_Value_api_Value_of_table_sameFile_1_l1 p1 p2 BIG (0 : Int))


theorem c_slices_EqualFunc_api_Value_api_Value_api_Value_api_Value_of_table_sameFile_1 (p1 : (List GValue)) (p2 : (List GValue)) : CT Tryz.prog 91 [vl eValue p1, vl eValue p2, .one (.pv (.fn 89 []))] (slices_EqualFunc_api_Value_api_Value_api_Value_api_Value_of_table_sameFile_1 p1 p2) vb :=
  uFn 32 [8, 9] Tryz.f91 fun r => (uN eValue p1 (uN eValue p2 (uC (uR .ret xF) (uQ (kS Tryz.f91 [1,1,0] 1) fun K6 hK6 => have hJ1 : ∀ (_ : Unit), slices_EqualFunc_api_Value_api_Value_api_Value_api_Value_of_table_sameFile_1_j1 = some r → K6.p [] [] := fun _ h => hK6 h (uR .ret xF); (uN eValue p1 (uO (cd Tryz.f91 [1,1,0,1,0,0]) (kS Tryz.f91 [1,1,0,1,0] 1) fun R1 b1 => have hL1 : ∀ (k1 : Nat) (x1 : Int), slices_EqualFunc_api_Value_api_Value_api_Value_api_Value_of_table_sameFile_1_l1 p1 p2 k1 x1 = some r → (R1 k1).p [(1, vl eValue p2), (2, .one (.pv (.fn 89 []))), (15, vl eValue p1), (16, vi (p1.length : Int)), (17, vi x1)] [] := by intro k1; induction k1 with | zero => intro x1 h; exact uE0 (slices_EqualFunc_api_Value_api_Value_api_Value_api_Value_of_table_sameFile_1_l1.eq_1 ..) h | succ k1 ih1 => intro x1 h; exact b1 h (uU (slices_EqualFunc_api_Value_api_Value_api_Value_api_Value_of_table_sameFile_1_l1.eq_2 ..) (uC (uL eValue fun e1 a13 => (uL eValue fun e2 a15 => (uP (c_table_sameFile_1 _ _) fun r1 _ => (uC (uR .ret (xN (xN xF))) (uJ (ih1 (IntKind.i64.wrap (x1 + (1 : Int))))))))) (uR (.exit 0) (xM (uJ (hJ1 ()))))))
 uE (hL1 BIG (0 : Int))))))))

def table_sameFile_2_j1 (x1 : Bool) : Option (Bool × Unit) :=
    some (x1, ())

def table_sameFile_2 (p1 : GStats) (p2 : GStats) : Option (Bool × Unit) :=
    ift (p1.id == p2.id)
      (ift (p1.nulls == p2.nulls)
         (bnd (table_sameFile_1 p1.min p2.min) fun r1 =>
          ift r1
            (bnd (table_sameFile_1 p1.max p2.max) fun r2 =>
             table_sameFile_2_j1 r2)
            (table_sameFile_2_j1 false))
         (table_sameFile_2_j1 false))
      (table_sameFile_2_j1 false)


theorem c_table_sameFile_2 (p1 : GStats) (p2 : GStats) : CM Tryz.prog 93 [.ag [ci p1.id, ci p1.nulls, ci p1.min.kind, ci p1.min.n, ci p1.min.scale, cst p1.min.s, cl eValue p1.min.items, ci p1.max.kind, ci p1.max.n, ci p1.max.scale, cst p1.max.s, cl eValue p1.max.items], .ag [ci p2.id, ci p2.nulls, ci p2.min.kind, ci p2.min.n, ci p2.min.scale, cst p2.min.s, cl eValue p2.min.items, ci p2.max.kind, ci p2.max.n, ci p2.max.scale, cst p2.max.s, cl eValue p2.max.items], .one (.pt 0 0 0 0)] [.box [.pv (.fn 89 [])]] (table_sameFile_2 p1 p2) (fun r => vb r.1) (fun r => [.box [.pv (.fn 89 [])]]) :=
  uFnM 1 34 [] Tryz.f93 fun r => (uQ (kS Tryz.f93 [1,0] 1) fun K2 hK2 => have hJ1 : ∀ (x1 : Bool), table_sameFile_2_j1 x1 = some r → K2.p [(5, vb x1)] [.box [.pv (.fn 89 [])]] := fun x1 h => hK2 h (uR .ret xFM); (uC (uC (uP (c_table_sameFile_1 _ _) fun r1 _ => (uC (uP (c_table_sameFile_1 _ _) fun r2 _ => (uJ (hJ1 r2))) (uJ (hJ1 false)))) (uJ (hJ1 false))) (uJ (hJ1 false))))

def slices_EqualFunc_api_Stats_api_Stats_api_Stats_api_Stats_of_table_sameFile_2_of_table_sameFile_1_j1 : Option (Bool × Unit) :=
    some (true, ())

def slices_EqualFunc_api_Stats_api_Stats_api_Stats_api_Stats_of_table_sameFile_2_of_table_sameFile_1_l1 (p1 : (List GStats)) (p2 : (List GStats)) : Nat → Int → Option (Bool × Unit)
  | 0, _ => none
  | k1 + 1, x1 =>
    ift (decide (x1 < (p1.length : Int)))
      (bnd (at? p1 x1) fun e1 =>
       bnd (at? p2 x1) fun e2 =>
       bnd (table_sameFile_2 e1 e2) fun r1 =>
       ift (!r1.1)
         (some (false, ()))
         ((slices_EqualFunc_api_Stats_api_Stats_api_Stats_api_Stats_of_table_sameFile_2_of_table_sameFile_1_l1 p1 p2 k1) (IntKind.i64.wrap (x1 + (1 : Int)))))
      (slices_EqualFunc_api_Stats_api_Stats_api_Stats_api_Stats_of_table_sameFile_2_of_table_sameFile_1_j1)

def slices_EqualFunc_api_Stats_api_Stats_api_Stats_api_Stats_of_table_sameFile_2_of_table_sameFile_1 (p1 : (List GStats)) (p2 : (List GStats)) : Option (Bool × Unit) :=
    ift ((p1.length : Int) != (p2.length : Int))
      (some (false, ()))
      (slices_EqualFunc_api_Stats_api_Stats_api_Stats_api_Stats_of_table_sameFile_2_of_table_sameFile_1_l1 p1 p2 BIG (0 : Int))

abbrev qa1263 : St := [.box [.pv (.fn 89 [])]]

theorem c_slices_EqualFunc_api_Stats_api_Stats_api_Stats_api_Stats_of_table_sameFile_2_of_table_sameFile_1 (p1 : (List GStats)) (p2 : (List GStats)) : CM Tryz.prog 92 [vl eStats p1, vl eStats p2, .one (.fn 93 [.pt 0 0 0 0])] qa1263 (slices_EqualFunc_api_Stats_api_Stats_api_Stats_api_Stats_of_table_sameFile_2_of_table_sameFile_1 p1 p2) (fun r => vb r.1) (fun r => qa1263) :=
  uFnM 1 32 [8, 9] Tryz.f92 fun r => (uN eStats p1 (uN eStats p2 (uC (uR .ret xFM) (uQ (kS Tryz.f92 [1,1,0] 1) fun K6 hK6 => have hJ1 : ∀ (_ : Unit), slices_EqualFunc_api_Stats_api_Stats_api_Stats_api_Stats_of_table_sameFile_2_of_table_sameFile_1_j1 = some r → K6.p [] qa1263 := fun _ h => hK6 h (uR .ret xFM); (uN eStats p1 (uO (cd Tryz.f92 [1,1,0,1,0,0]) (kS Tryz.f92 [1,1,0,1,0] 1) fun R1 b1 => have hL1 : ∀ (k1 : Nat) (x1 : Int), slices_EqualFunc_api_Stats_api_Stats_api_Stats_api_Stats_of_table_sameFile_2_of_table_sameFile_1_l1 p1 p2 k1 x1 = some r → (R1 k1).p [(1, vl eStats p2), (2, .one (.fn 93 [.pt 0 0 0 0])), (15, vl eStats p1), (16, vi (p1.length : Int)), (17, vi x1)] qa1263 := by intro k1; induction k1 with | zero => intro x1 h; exact uE0 (slices_EqualFunc_api_Stats_api_Stats_api_Stats_api_Stats_of_table_sameFile_2_of_table_sameFile_1_l1.eq_1 ..) h | succ k1 ih1 => intro x1 h; exact b1 h (uU (slices_EqualFunc_api_Stats_api_Stats_api_Stats_api_Stats_of_table_sameFile_2_of_table_sameFile_1_l1.eq_2 ..) (uC (uL eStats fun e1 a13 => (uL eStats fun e2 a15 => (uMc true [0] (c_table_sameFile_2 _ _) fun r1 _ => (uC (uR .ret (xN (xN xFM))) (uJ (ih1 (IntKind.i64.wrap (x1 + (1 : Int))))))))) (uR (.exit 0) (xM (uJ (hJ1 ()))))))
 uE (hL1 BIG (0 : Int))))))))

def table_sameFile_j1 (x1 : Bool) : Option Bool :=
    some x1

def table_sameFile (p1 : GDataFile) (p2 : GDataFile) : Option Bool :=
    ift (p1.name.toList == p2.name.toList)
      (ift (p1.schema == p2.schema)
         (ift (p1.spec == p2.spec)
            (ift (p1.rows == p2.rows)
               (bnd (slices_EqualFunc_api_Value_api_Value_api_Value_api_Value_of_table_sameFile_1 p1.part p2.part) fun r1 =>
                ift r1
                  (bnd (slices_EqualFunc_api_Stats_api_Stats_api_Stats_api_Stats_of_table_sameFile_2_of_table_sameFile_1 p1.stats p2.stats) fun r2 =>
                   table_sameFile_j1 r2.1)
                  (table_sameFile_j1 false))
               (table_sameFile_j1 false))
            (table_sameFile_j1 false))
         (table_sameFile_j1 false))
      (table_sameFile_j1 false)


theorem c_table_sameFile (p1 : GDataFile) (p2 : GDataFile) : CT Tryz.prog 51 [.ag [cst p1.name, ci p1.schema, ci p1.spec, cl eValue p1.part, ci p1.rows, ci p1.seq, cl eStats p1.stats], .ag [cst p2.name, ci p2.schema, ci p2.spec, cl eValue p2.part, ci p2.rows, ci p2.seq, cl eStats p2.stats]] (table_sameFile p1 p2) vb :=
  uFn 48 [5] Tryz.f51 fun r => (uQ (kS Tryz.f51 [1,1,0] 1) fun K3 hK3 => have hJ1 : ∀ (x1 : Bool), table_sameFile_j1 x1 = some r → K3.p [(4, vb x1)] [.dead] := fun x1 h => hK3 h (uR .ret xF); (uC (uC (uC (uC (uP (c_slices_EqualFunc_api_Value_api_Value_api_Value_api_Value_of_table_sameFile_1 _ _) fun r1 _ => (uC (uMc true [0] (c_slices_EqualFunc_api_Stats_api_Stats_api_Stats_api_Stats_of_table_sameFile_2_of_table_sameFile_1 _ _) fun r2 _ => (uJ (hJ1 r2.1))) (uJ (hJ1 false)))) (uJ (hJ1 false))) (uJ (hJ1 false))) (uJ (hJ1 false))) (uJ (hJ1 false))))

def table_alike_j1 (rec2 : (List (ByteArray × GDataFile)) → Int → Option Int) (z2 : (List (ByteArray × GDataFile))) (x2 : Int) (e2 : GDataFile) (x4 : Bool) : Option Int :=
    ift x4
      (some (5 : Int))
      (rec2 (mset kStr z2 e2.name e2) (IntKind.i64.wrap (x2 + (1 : Int))))

def table_alike_j2 (rec1 : (List (ByteArray × GDataFile)) → Int → Option Int) (x1 : Int) (z3 : (List (ByteArray × GDataFile))) : Option Int :=
    rec1 z3 (IntKind.i64.wrap (x1 + (1 : Int)))

def table_alike_l2 (rec1 : (List (ByteArray × GDataFile)) → Int → Option Int) (x1 : Int) (e1 : GSnapshot) : Nat → (List (ByteArray × GDataFile)) → Int → Option Int
  | 0, _, _ => none
  | k2 + 1, z2, x2 =>
    ift (decide (x2 < (e1.files.length : Int)))
      (bnd (at? e1.files x2) fun e2 =>
       bnd (some ((mget kStr z2 e2.name).getD (GDataFile.mk ByteArray.empty (0 : Int) (0 : Int) [] (0 : Int) (0 : Int) []))) fun x3 =>
       ift ((mget kStr z2 e2.name).isSome)
         (bnd (table_sameFile x3 e2) fun r1 =>
          table_alike_j1 (table_alike_l2 rec1 x1 e1 k2) z2 x2 e2 (!r1))
         (table_alike_j1 (table_alike_l2 rec1 x1 e1 k2) z2 x2 e2 false))
      (table_alike_j2 rec1 x1 z2)

def table_alike_j3 : Option Int :=
    some (0 : Int)

def table_alike_l1 (p1 : GMeta) : Nat → (List (ByteArray × GDataFile)) → Int → Option Int
  | 0, _, _ => none
  | k1 + 1, z1, x1 =>
    ift (decide (x1 < (p1.snapshots.length : Int)))
      (bnd (at? p1.snapshots x1) fun e1 =>
       table_alike_l2 (table_alike_l1 p1 k1) x1 e1 BIG z1 (0 : Int))
      (table_alike_j3)

def table_alike (p1 : GMeta) : Option Int :=
    table_alike_l1 p1 BIG [] (0 : Int)

abbrev qa1270 (p1 : GMeta) (x1 : Int) : Fr := [(3, .one (.mp 0)), (12, vl eSnapshot p1.snapshots), (13, vi (p1.snapshots.length : Int)), (14, vi x1)]

theorem c_table_alike (p1 : GMeta) : CT Tryz.prog 16 [.ag [cl (eL eField) p1.schemas, cl eSpec p1.specs, ci p1.nextField, ci p1.nextSeq, ci p1.nextSnap, ci p1.purges, cl eSnapshot p1.snapshots, cl eRef p1.refs, cl eProp p1.props]] (table_alike p1) vi :=
  uFn 45 [5, 7, 8] Tryz.f16 fun r => (uMm kStr eDataFile true (uQ (kS Tryz.f16 [1,1,0] 1) fun K3 hK3 => have hJ3 : ∀ (_ : Unit), table_alike_j3 = some r → K3.p [] [.dead] := fun _ h => hK3 h (uR .ret xF); (uN eSnapshot p1.snapshots (uO (cd Tryz.f16 [1,1,0,1,0,0]) (kS Tryz.f16 [1,1,0,1,0] 1) fun R1 b1 => have hL1 : ∀ (k1 : Nat) (z1 : (List (ByteArray × GDataFile))) (x1 : Int), table_alike_l1 p1 k1 z1 x1 = some r → (R1 k1).p (qa1270 p1 x1) [mapB kStr eDataFile true z1] := by intro k1; induction k1 with | zero => intro z1 x1 h; exact uE0 (table_alike_l1.eq_1 ..) h | succ k1 ih1 => intro z1 x1 h; exact b1 h (uU (table_alike_l1.eq_2 ..) (uC (uQ (kS Tryz.f16 [1,1,0,1,0,0,1,1,0] 1) fun K8 hK8 => have hJ2 : ∀ (z3 : (List (ByteArray × GDataFile))), table_alike_j2 (table_alike_l1 p1 k1) x1 z3 = some r → K8.p (qa1270 p1 x1) [mapB kStr eDataFile true z3] := fun z3 h => hK8 h (uJ (ih1 z3 (IntKind.i64.wrap (x1 + (1 : Int))))); (uL eSnapshot fun e1 a10 => (uN eDataFile e1.files (uO (cd Tryz.f16 [1,1,0,1,0,0,1,1,0,0,1,1,0,0]) (kS Tryz.f16 [1,1,0,1,0,0,1,1,0,0,1,1,0] 2) fun R2 b2 => have hL2 : ∀ (k2 : Nat) (z2 : (List (ByteArray × GDataFile))) (x2 : Int), table_alike_l2 (table_alike_l1 p1 k1) x1 e1 k2 z2 x2 = some r → (R2 k2).p [(3, .one (.mp 0)), (12, vl eSnapshot p1.snapshots), (13, vi (p1.snapshots.length : Int)), (14, vi x1), (19, vl eDataFile e1.files), (20, vi (e1.files.length : Int)), (21, vi x2)] [mapB kStr eDataFile true z2, .dead] := by intro k2; induction k2 with | zero => intro z2 x2 h; exact uE0 (table_alike_l2.eq_1 ..) h | succ k2 ih2 => intro z2 x2 h; exact b2 h (uU (table_alike_l2.eq_2 ..) (uC (uL eDataFile fun e2 a17 => (uMl kStr eDataFile true 0 (GDataFile.mk ByteArray.empty (0 : Int) (0 : Int) [] (0 : Int) (0 : Int) []) 9 62 true fun x3 _ => (uQ (kS Tryz.f16 [1,1,0,1,0,0,1,1,0,0,1,1,0,0,1,1,0,0,1,1,0,0] 4) fun K21 hK21 => have hJ1 : ∀ (x4 : Bool), table_alike_j1 (table_alike_l2 (table_alike_l1 p1 k1) x1 e1 k2) z2 x2 e2 x4 = some r → K21.p [(3, .one (.mp 0)), (7, .one (.pt 2 0 0 0)), (12, vl eSnapshot p1.snapshots), (13, vi (p1.snapshots.length : Int)), (14, vi x1), (19, vl eDataFile e1.files), (20, vi (e1.files.length : Int)), (21, vi x2), (38, vb x4)] [mapB kStr eDataFile true z2, .dead, .box [cst e2.name, ci e2.schema, ci e2.spec, cl eValue e2.part, ci e2.rows, ci e2.seq, cl eStats e2.stats], .dead] := fun x4 h => hK21 h (uC (uR .ret (xN (xN (xN (xN xF))))) (uMu kStr eDataFile true 0 (m := z2) (k0 := e2.name) (u := e2) 9 (uJ (ih2 (mset kStr z2 e2.name e2) (IntKind.i64.wrap (x2 + (1 : Int))))))); (uC (uP (c_table_sameFile _ _) fun r1 _ => (uJ (hJ1 (!r1)))) (uJ (hJ1 false)))))) (uR (.exit 2) (xM (uJ (hJ2 z2))))))
 uE (hL2 BIG z1 (0 : Int)))))) (uR (.exit 0) (xM (uJ (hJ3 ()))))))
 uE (hL1 BIG [] (0 : Int))))))

def table_refs_1 (p1 : GRef) (p2 : GRef) : Option (Bool × GRef) :=
    some ((p1.name.toList == p2.name.toList), p2)


theorem c_table_refs_1 (p1 : GRef) (p2 : GRef) : CM Tryz.prog 54 [.ag [cst p1.name, cb p1.branch, ci p1.snapshot], .one (.pt 0 0 0 0)] [.box [cst p2.name, cb p2.branch, ci p2.snapshot]] (table_refs_1 p1 p2) (fun r => vb r.1) (fun r => [.box [cst r.2.name, cb r.2.branch, ci r.2.snapshot]]) :=
  uFnM 1 9 [] Tryz.f54 fun r => (uR .ret xFM)

def slices_IndexFunc_api_Ref_api_Ref_of_table_refs_1_j1 (z4 : ByteArray) (z5 : Bool) (z6 : Int) : Option (Int × GRef) :=
    some ((-1 : Int), (GRef.mk z4 z5 z6))

def slices_IndexFunc_api_Ref_api_Ref_of_table_refs_1_l1 (p1 : (List GRef)) : Nat → ByteArray → Bool → Int → Int → Option (Int × GRef)
  | 0, _, _, _, _ => none
  | k1 + 1, z1, z2, z3, x1 =>
    ift (decide (x1 < (p1.length : Int)))
      (bnd (at? p1 x1) fun e1 =>
       bnd (table_refs_1 e1 (GRef.mk z1 z2 z3)) fun r1 =>
       ift r1.1
         (some (x1, r1.2))
         ((slices_IndexFunc_api_Ref_api_Ref_of_table_refs_1_l1 p1 k1) r1.2.name r1.2.branch r1.2.snapshot (IntKind.i64.wrap (x1 + (1 : Int)))))
      (slices_IndexFunc_api_Ref_api_Ref_of_table_refs_1_j1 z1 z2 z3)

def slices_IndexFunc_api_Ref_api_Ref_of_table_refs_1 (p1 : (List GRef)) (p2 : GRef) : Option (Int × GRef) :=
    slices_IndexFunc_api_Ref_api_Ref_of_table_refs_1_l1 p1 BIG p2.name p2.branch p2.snapshot (0 : Int)


theorem c_slices_IndexFunc_api_Ref_api_Ref_of_table_refs_1 (p1 : (List GRef)) (p2 : GRef) : CM Tryz.prog 96 [vl eRef p1, .one (.fn 54 [.pt 0 0 0 0])] [.box [cst p2.name, cb p2.branch, ci p2.snapshot]] (slices_IndexFunc_api_Ref_api_Ref_of_table_refs_1 p1 p2) (fun r => vi r.1) (fun r => [.box [cst r.2.name, cb r.2.branch, ci r.2.snapshot]]) :=
  uFnM 1 19 [] Tryz.f96 fun r => (uQ (kS Tryz.f96 [1,0] 1) fun K2 hK2 => have hJ1 : ∀ (z4 : ByteArray) (z5 : Bool) (z6 : Int), slices_IndexFunc_api_Ref_api_Ref_of_table_refs_1_j1 z4 z5 z6 = some r → K2.p [] [.box [cst z4, cb z5, ci z6]] := fun z4 z5 z6 h => hK2 h (uR .ret xFM); (uN eRef p1 (uO (cd Tryz.f96 [1,0,1,0,0]) (kS Tryz.f96 [1,0,1,0] 1) fun R1 b1 => have hL1 : ∀ (k1 : Nat) (z1 : ByteArray) (z2 : Bool) (z3 : Int) (x1 : Int), slices_IndexFunc_api_Ref_api_Ref_of_table_refs_1_l1 p1 k1 z1 z2 z3 x1 = some r → (R1 k1).p [(0, vl eRef p1), (1, .one (.fn 54 [.pt 0 0 0 0])), (7, vi (p1.length : Int)), (8, vi x1)] [.box [cst z1, cb z2, ci z3]] := by intro k1; induction k1 with | zero => intro z1 z2 z3 x1 h; exact uE0 (slices_IndexFunc_api_Ref_api_Ref_of_table_refs_1_l1.eq_1 ..) h | succ k1 ih1 => intro z1 z2 z3 x1 h; exact b1 h (uU (slices_IndexFunc_api_Ref_api_Ref_of_table_refs_1_l1.eq_2 ..) (uC (uL eRef fun e1 a10 => (uMc true [0] (c_table_refs_1 _ _) fun r1 _ => (uC (uR .ret (xN (xN xFM))) (uJ (ih1 r1.2.name r1.2.branch r1.2.snapshot (IntKind.i64.wrap (x1 + (1 : Int)))))))) (uR (.exit 0) (xM (uJ (hJ1 z1 z2 z3))))))
 uE (hL1 BIG p2.name p2.branch p2.snapshot (0 : Int)))))

def slices_ContainsFunc_api_Ref_api_Ref_of_table_refs_1 (p1 : (List GRef)) (p2 : GRef) : Option (Bool × GRef) :=
    bnd (slices_IndexFunc_api_Ref_api_Ref_of_table_refs_1 p1 p2) fun r1 =>
    some ((decide ((0 : Int) ≤ r1.1)), r1.2)


theorem c_slices_ContainsFunc_api_Ref_api_Ref_of_table_refs_1 (p1 : (List GRef)) (p2 : GRef) : CM Tryz.prog 53 [vl eRef p1, .one (.fn 54 [.pt 0 0 0 0])] [.box [cst p2.name, cb p2.branch, ci p2.snapshot]] (slices_ContainsFunc_api_Ref_api_Ref_of_table_refs_1 p1 p2) (fun r => vb r.1) (fun r => [.box [cst r.2.name, cb r.2.branch, ci r.2.snapshot]]) :=
  uFnM 1 9 [] Tryz.f53 fun r => (uMc true [0] (c_slices_IndexFunc_api_Ref_api_Ref_of_table_refs_1 _ _) fun r1 _ => (uR .ret xFM))

def table_snapshot_1_s (p1 : GSnapshot) (p2 : Int) : Option Bool :=
    some (p1.id == p2)


theorem c_table_snapshot_1_s (p1 : GSnapshot) (p2 : Int) : CT Tryz.prog 98 [.ag [ci p1.id, ci p1.parent, ci p1.seq, ci p1.schema, ci p1.time, ci p1.kind, cl eDataFile p1.files, cl eDeleteAt p1.dat, cl eDeleteBy p1.dby], .one (.pv (.rp [[pi p2]] 0 0))] (table_snapshot_1_s p1 p2) vb :=
  uFn 8 [] Tryz.f98 fun r => (uR .ret xF)

def slices_IndexFunc_api_Snapshot_api_Snapshot_of_table_snapshot_1_j1 : Option Int :=
    some (-1 : Int)

def slices_IndexFunc_api_Snapshot_api_Snapshot_of_table_snapshot_1_l1 (p1 : (List GSnapshot)) (p2 : Int) : Nat → Int → Option Int
  | 0, _ => none
  | k1 + 1, x1 =>
    ift (decide (x1 < (p1.length : Int)))
      (bnd (at? p1 x1) fun e1 =>
       bnd (table_snapshot_1_s e1 p2) fun r1 =>
       ift r1
         (some x1)
         ((slices_IndexFunc_api_Snapshot_api_Snapshot_of_table_snapshot_1_l1 p1 p2 k1) (IntKind.i64.wrap (x1 + (1 : Int)))))
      (slices_IndexFunc_api_Snapshot_api_Snapshot_of_table_snapshot_1_j1)

def slices_IndexFunc_api_Snapshot_api_Snapshot_of_table_snapshot_1 (p1 : (List GSnapshot)) (p2 : Int) : Option Int :=
    slices_IndexFunc_api_Snapshot_api_Snapshot_of_table_snapshot_1_l1 p1 p2 BIG (0 : Int)


theorem c_slices_IndexFunc_api_Snapshot_api_Snapshot_of_table_snapshot_1 (p1 : (List GSnapshot)) (p2 : Int) : CT Tryz.prog 97 [vl eSnapshot p1, .one (.fn 98 [.pv (.rp [[pi p2]] 0 0)])] (slices_IndexFunc_api_Snapshot_api_Snapshot_of_table_snapshot_1 p1 p2) vi :=
  uFn 19 [] Tryz.f97 fun r => (uQ (kS Tryz.f97 [1,0] 1) fun K2 hK2 => have hJ1 : ∀ (_ : Unit), slices_IndexFunc_api_Snapshot_api_Snapshot_of_table_snapshot_1_j1 = some r → K2.p [] [] := fun _ h => hK2 h (uR .ret xF); (uN eSnapshot p1 (uO (cd Tryz.f97 [1,0,1,0,0]) (kS Tryz.f97 [1,0,1,0] 1) fun R1 b1 => have hL1 : ∀ (k1 : Nat) (x1 : Int), slices_IndexFunc_api_Snapshot_api_Snapshot_of_table_snapshot_1_l1 p1 p2 k1 x1 = some r → (R1 k1).p [(0, vl eSnapshot p1), (1, .one (.fn 98 [.pv (.rp [[pi p2]] 0 0)])), (7, vi (p1.length : Int)), (8, vi x1)] [] := by intro k1; induction k1 with | zero => intro x1 h; exact uE0 (slices_IndexFunc_api_Snapshot_api_Snapshot_of_table_snapshot_1_l1.eq_1 ..) h | succ k1 ih1 => intro x1 h; exact b1 h (uU (slices_IndexFunc_api_Snapshot_api_Snapshot_of_table_snapshot_1_l1.eq_2 ..) (uC (uL eSnapshot fun e1 a10 => (uP (c_table_snapshot_1_s _ _) fun r1 _ => (uC (uR .ret (xN (xN xF))) (uJ (ih1 (IntKind.i64.wrap (x1 + (1 : Int)))))))) (uR (.exit 0) (xM (uJ (hJ1 ()))))))
 uE (hL1 BIG (0 : Int)))))


end Go.Proofs.YtikbfjpcmalmlaaGreatDoor
