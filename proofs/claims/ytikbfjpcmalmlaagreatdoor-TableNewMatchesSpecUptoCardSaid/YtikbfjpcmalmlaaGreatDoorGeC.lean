/- Printed by a program: what the functions compute, and the proofs of their contracts. -/
import Derived.Test.YtikbfjpcmalmlaaGreatDoorGeB
set_option linter.unusedVariables false
set_option linter.unusedSimpArgs false
set_option linter.unnecessarySimpa false
namespace Go.Proofs.YtikbfjpcmalmlaaGreatDoor
open Go.SX Go
set_option linter.unusedVariables false
set_option linter.unusedSimpArgs false
set_option maxRecDepth 100000
set_option maxHeartbeats 8000000

def table_snapshot (p1 : GMeta) (p2 : Int) : Option (GSnapshot × Bool) :=
    bnd (slices_IndexFunc_api_Snapshot_api_Snapshot_of_table_snapshot_1 p1.snapshots p2) fun r1 =>
    ift (decide (r1 < (0 : Int)))
      (some ((GSnapshot.mk (0 : Int) (0 : Int) (0 : Int) (0 : Int) (0 : Int) (0 : Int) [] [] []), false))
      (bnd (at? p1.snapshots r1) fun e1 =>
       some (e1, true))


theorem c_table_snapshot (p1 : GMeta) (p2 : Int) : CT Tryz.prog 55 [.ag [cl (eL eField) p1.schemas, cl eSpec p1.specs, ci p1.nextField, ci p1.nextSeq, ci p1.nextSnap, ci p1.purges, cl eSnapshot p1.snapshots, cl eRef p1.refs, cl eProp p1.props], vi p2] (table_snapshot p1 p2) (fun r => .tp [.ag [ci r.1.id, ci r.1.parent, ci r.1.seq, ci r.1.schema, ci r.1.time, ci r.1.kind, cl eDataFile r.1.files, cl eDeleteAt r.1.dat, cl eDeleteBy r.1.dby], vb r.2]) :=
  uFn 19 [4] Tryz.f55 fun r => (uP (c_slices_IndexFunc_api_Snapshot_api_Snapshot_of_table_snapshot_1 _ _) fun r1 _ => (uC (uR .ret xF) (uL eSnapshot fun e1 a9 => (uR .ret xF))))

def table_textValue (p1 : ByteArray) : Option Bool :=
    bnd (value_Sound (GValue.mk (4 : Int) (0 : Int) (0 : Int) p1 [])) fun r1 =>
    some r1


theorem c_table_textValue (p1 : ByteArray) : CT Tryz.prog 56 [vs p1] (table_textValue p1) vb :=
  uFn 6 [] Tryz.f56 fun r => (uP (c_value_Sound _) fun r1 _ => (uR .ret xF))

def table_refs_j1 (rec1 : Int → Option Int) (x1 : Int) (x2 : Bool) : Option Int :=
    ift x2
      (some (9 : Int))
      (rec1 (IntKind.i64.wrap (x1 + (1 : Int))))

def table_refs_j3 (rec2 : Int → Option Int) (x3 : Int) (x4 : Bool) : Option Int :=
    ift x4
      (some (1 : Int))
      (rec2 (IntKind.i64.wrap (x3 + (1 : Int))))

def table_refs_j4 : Option Int :=
    some (0 : Int)

def table_refs_l2 (p1 : GMeta) : Nat → Int → Option Int
  | 0, _ => none
  | k2 + 1, x3 =>
    ift (decide (x3 < (p1.props.length : Int)))
      (bnd (at? p1.props x3) fun e2 =>
       bnd (value_Name e2.name) fun r4 =>
       ift (!r4)
         (some (4 : Int))
         (ift (decide ((0 : Int) < x3))
            (bnd (at? p1.props (IntKind.i64.wrap (x3 - (1 : Int)))) fun e3 =>
             bnd (some (Op.bytesLess e2.name.toList e3.name.toList || e2.name.toList == e3.name.toList)) fun y1 =>
             ift y1
               (table_refs_j3 (table_refs_l2 p1 k2) x3 true)
               (bnd (table_textValue e2.value) fun r5 =>
                table_refs_j3 (table_refs_l2 p1 k2) x3 (!r5)))
            (bnd (table_textValue e2.value) fun r6 =>
             table_refs_j3 (table_refs_l2 p1 k2) x3 (!r6))))
      (table_refs_j4)

def table_refs_j2 (p1 : GMeta) : Option Int :=
    table_refs_l2 p1 BIG (0 : Int)

def table_refs_l1 (p1 : GMeta) : Nat → Int → Option Int
  | 0, _ => none
  | k1 + 1, x1 =>
    ift (decide (x1 < (p1.refs.length : Int)))
      (bnd (at? p1.refs x1) fun e1 =>
       bnd (value_Name e1.name) fun r1 =>
       ift (!r1)
         (some (4 : Int))
         (grd (0 ≤ (0 : Int) ∧ (0 : Int) ≤ x1 ∧ x1 ≤ (p1.refs.length : Int)) <|
          bnd (slices_ContainsFunc_api_Ref_api_Ref_of_table_refs_1 ((p1.refs.drop (0 : Int).toNat).take (x1.toNat - (0 : Int).toNat)) e1) fun r2 =>
          ift r2.1
            (some (5 : Int))
            (bnd (table_snapshot p1 r2.2.snapshot) fun r3 =>
             ift (!r3.2)
               (ift r2.2.branch
                  (table_refs_j1 (table_refs_l1 p1 k1) x1 (!(r2.2.snapshot == (0 : Int))))
                  (table_refs_j1 (table_refs_l1 p1 k1) x1 true))
               (table_refs_j1 (table_refs_l1 p1 k1) x1 false))))
      (table_refs_j2 p1)

def table_refs (p1 : GMeta) : Option Int :=
    table_refs_l1 p1 BIG (0 : Int)

abbrev qa1303 (p1 : GMeta) : List PV := [.ro ((eL eField).els p1.schemas), .ro (eSpec.els p1.specs), pi p1.nextField, pi p1.nextSeq, pi p1.nextSnap, pi p1.purges, .ro (eSnapshot.els p1.snapshots), .ro (eRef.els p1.refs), .ro (eProp.els p1.props)]

theorem c_table_refs (p1 : GMeta) : CT Tryz.prog 17 [.ag [cl (eL eField) p1.schemas, cl eSpec p1.specs, ci p1.nextField, ci p1.nextSeq, ci p1.nextSnap, ci p1.purges, cl eSnapshot p1.snapshots, cl eRef p1.refs, cl eProp p1.props]] (table_refs p1) vi :=
  uFn 80 [4, 5, 8] Tryz.f17 fun r => (uQ (kS Tryz.f17 [1,0] 1) fun K2 hK2 => have hJ2 : ∀ (_ : Unit), table_refs_j2 p1 = some r → K2.p [(1, .one (.pv (.rp [(qa1303 p1)] 0 0)))] [] := fun _ h => hK2 h (uQ (kS Tryz.f17 [1,1,0] 1) fun K28 hK28 => have hJ4 : ∀ (_ : Unit), table_refs_j4 = some r → K28.p [] [] := fun _ h => hK28 h (uR .ret xF); (uN eProp p1.props (uO (cd Tryz.f17 [1,1,0,1,0,0]) (kS Tryz.f17 [1,1,0,1,0] 1) fun R2 b2 => have hL2 : ∀ (k2 : Nat) (x3 : Int), table_refs_l2 p1 k2 x3 = some r → (R2 k2).p [(1, .one (.pv (.rp [(qa1303 p1)] 0 0))), (48, vl eProp p1.props), (49, vi (p1.props.length : Int)), (50, vi x3)] [] := by intro k2; induction k2 with | zero => intro x3 h; exact uE0 (table_refs_l2.eq_1 ..) h | succ k2 ih2 => intro x3 h; exact b2 h (uU (table_refs_l2.eq_2 ..) (uC (uL eProp fun e2 a35 => (uP (c_value_Name _) fun r4 _ => (uC (uR .ret (xN (xN xF))) (uQ (kS Tryz.f17 [1,1,0,1,0,0,1,1,0,0,1,1,0] 3) fun K41 hK41 => have hJ3 : ∀ (x4 : Bool), table_refs_j3 (table_refs_l2 p1 k2) x3 x4 = some r → K41.p [(1, .one (.pv (.rp [(qa1303 p1)] 0 0))), (48, vl eProp p1.props), (49, vi (p1.props.length : Int)), (50, vi x3), (78, vb x4)] [.dead] := fun x4 h => hK41 h (uC (uR .ret (xN (xN xF))) (uJ (ih2 (IntKind.i64.wrap (x3 + (1 : Int)))))); (uDr 12 (uC (uL eProp fun e3 a43 => (uY 71 vb fun y1 => (uC (uJ (hJ3 true)) (uP (c_table_textValue _) fun r5 _ => (uJ (hJ3 (!r5))))))) (uP (c_table_textValue _) fun r6 _ => (uJ (hJ3 (!r6)))))))))) (uR (.exit 2) (xM (uJ (hJ4 ()))))))
 uE (hL2 BIG (0 : Int))))); (uN eRef p1.refs (uO (cd Tryz.f17 [1,0,1,0,0]) (kS Tryz.f17 [1,0,1,0] 1) fun R1 b1 => have hL1 : ∀ (k1 : Nat) (x1 : Int), table_refs_l1 p1 k1 x1 = some r → (R1 k1).p [(1, .one (.pv (.rp [(qa1303 p1)] 0 0))), (10, vl eRef p1.refs), (11, vi (p1.refs.length : Int)), (12, vi x1)] [] := by intro k1; induction k1 with | zero => intro x1 h; exact uE0 (table_refs_l1.eq_1 ..) h | succ k1 ih1 => intro x1 h; exact b1 h (uU (table_refs_l1.eq_2 ..) (uC (uL eRef fun e1 a9 => (uP (c_value_Name _) fun r1 _ => (uC (uR .ret (xN (xN xF))) (uX eRef (uMc true [0] (c_slices_ContainsFunc_api_Ref_api_Ref_of_table_refs_1 _ _) fun r2 _ => (uC (uR .ret (xN (xN xF))) (uP (c_table_snapshot _ _) fun r3 _ => (uQ (kS Tryz.f17 [1,0,1,0,0,1,1,0,0,1,1,1,1,0] 3) fun K23 hK23 => have hJ1 : ∀ (x2 : Bool), table_refs_j1 (table_refs_l1 p1 k1) x1 x2 = some r → K23.p [(1, .one (.pv (.rp [(qa1303 p1)] 0 0))), (10, vl eRef p1.refs), (11, vi (p1.refs.length : Int)), (12, vi x1), (45, vb x2)] [.dead, .dead] := fun x2 h => hK23 h (uC (uR .ret (xN (xN xF))) (uJ (ih1 (IntKind.i64.wrap (x1 + (1 : Int)))))); (uC (uC (uJ (hJ1 (!(r2.2.snapshot == (0 : Int))))) (uJ (hJ1 true))) (uJ (hJ1 false))))))))))) (uR (.exit 0) (xM (uJ (hJ2 ()))))))
 uE (hL1 BIG (0 : Int)))))

def table_Check_j2 (p1 : GMeta) (x2 : Bool) : Option Int :=
    ift x2
      (some (3 : Int))
      (bnd (table_schemas p1) fun r6 =>
       ift (r6 != (0 : Int))
         (some r6)
         (bnd (table_specs p1) fun r7 =>
          ift (r7 != (0 : Int))
            (some r7)
            (bnd (table_snapshots p1) fun r8 =>
             ift (r8 != (0 : Int))
               (some r8)
               (bnd (table_alike p1) fun r9 =>
                ift (r9 != (0 : Int))
                  (some r9)
                  (bnd (table_refs p1) fun r10 =>
                   ift (r10 != (0 : Int))
                     (some r10)
                     (some (0 : Int)))))))

def table_Check_j1 (p1 : GMeta) (x1 : Bool) : Option Int :=
    ift x1
      (some (9 : Int))
      (bnd (table_within p1.nextField (1 : Int) (1099511627776 : Int)) fun r2 =>
       ift (!r2)
         (table_Check_j2 p1 true)
         (bnd (table_within p1.nextSeq (1 : Int) (1099511627776 : Int)) fun r3 =>
          ift (!r3)
            (table_Check_j2 p1 true)
            (bnd (table_within p1.nextSnap (1 : Int) (1099511627776 : Int)) fun r4 =>
             ift (!r4)
               (table_Check_j2 p1 true)
               (bnd (table_within p1.purges (0 : Int) (1099511627776 : Int)) fun r5 =>
                table_Check_j2 p1 (!r5)))))

def table_Check (p1 : GMeta) : Option Int :=
    bnd (table_limits p1) fun r1 =>
    ift (r1 != (0 : Int))
      (some r1)
      (ift ((p1.schemas.length : Int) == (0 : Int))
         (table_Check_j1 p1 true)
         (table_Check_j1 p1 ((p1.specs.length : Int) == (0 : Int))))

abbrev qa1312 (p1 : GMeta) : List PV := [.ro ((eL eField).els p1.schemas), .ro (eSpec.els p1.specs), pi p1.nextField, pi p1.nextSeq, pi p1.nextSnap, pi p1.purges, .ro (eSnapshot.els p1.snapshots), .ro (eRef.els p1.refs), .ro (eProp.els p1.props)]

theorem c_table_Check (p1 : GMeta) : CT Tryz.prog 6 [.ag [cl (eL eField) p1.schemas, cl eSpec p1.specs, ci p1.nextField, ci p1.nextSeq, ci p1.nextSnap, ci p1.purges, cl eSnapshot p1.snapshots, cl eRef p1.refs, cl eProp p1.props]] (table_Check p1) vi :=
  uFn 57 [] Tryz.f6 fun r => (uP (c_table_limits _) fun r1 _ => (uC (uR .ret xF) (uQ (kS Tryz.f6 [1,1,0,0] 2) fun K9 hK9 => have hJ1 : ∀ (x1 : Bool), table_Check_j1 p1 x1 = some r → K9.p [(1, .one (.pv (.rp [(qa1312 p1)] 0 0))), (21, vb x1)] [] := fun x1 h => hK9 h (uC (uR .ret xF) (uQ (kS Tryz.f6 [1,1,1,0,0] 2) fun K14 hK14 => have hJ2 : ∀ (x2 : Bool), table_Check_j2 p1 x2 = some r → K14.p [(1, .one (.pv (.rp [(qa1312 p1)] 0 0))), (43, vb x2)] [] := fun x2 h => hK14 h (uC (uR .ret xF) (uA (vi (5 : Int)) (uOk 5 (uT (uM eFn (show at? [(PV.fn 13 []), (PV.fn 14 []), (PV.fn 15 []), (PV.fn 16 []), (PV.fn 17 [])] (0 : Int) = some (PV.fn 13 []) from rfl) (uP (c_table_schemas _) fun r6 _ => (uC (uR .ret xF) (uT (uM eFn (show at? [(PV.fn 13 []), (PV.fn 14 []), (PV.fn 15 []), (PV.fn 16 []), (PV.fn 17 [])] (1 : Int) = some (PV.fn 14 []) from rfl) (uP (c_table_specs _) fun r7 _ => (uC (uR .ret xF) (uT (uM eFn (show at? [(PV.fn 13 []), (PV.fn 14 []), (PV.fn 15 []), (PV.fn 16 []), (PV.fn 17 [])] (2 : Int) = some (PV.fn 15 []) from rfl) (uP (c_table_snapshots _) fun r8 _ => (uC (uR .ret xF) (uT (uM eFn (show at? [(PV.fn 13 []), (PV.fn 14 []), (PV.fn 15 []), (PV.fn 16 []), (PV.fn 17 [])] (3 : Int) = some (PV.fn 16 []) from rfl) (uP (c_table_alike _) fun r9 _ => (uC (uR .ret xF) (uT (uM eFn (show at? [(PV.fn 13 []), (PV.fn 14 []), (PV.fn 15 []), (PV.fn 16 []), (PV.fn 17 [])] (4 : Int) = some (PV.fn 17 []) from rfl) (uP (c_table_refs _) fun r10 _ => (uC (uR .ret xF) (uF (uR .ret xF))))))))))))))))))))))))); (uP (c_table_within _ _ _) fun r2 _ => (uC (uJ (hJ2 true)) (uP (c_table_within _ _ _) fun r3 _ => (uC (uJ (hJ2 true)) (uP (c_table_within _ _ _) fun r4 _ => (uC (uJ (hJ2 true)) (uP (c_table_within _ _ _) fun r5 _ => (uJ (hJ2 (!r5)))))))))))); (uN (eL eField) p1.schemas (uC (uJ (hJ1 true)) (uN eSpec p1.specs (uJ (hJ1 ((p1.specs.length : Int) == (0 : Int))))))))))

def ref3_large_j2 (rec1 : Int → Int → Option Bool) (x2 : Int) (x3 : Int) (e1 : GSnapshot) (x4 : Bool) : Option Bool :=
    ift x4
      (some true)
      (bnd (some (IntKind.i64.wrap (x2 + (IntKind.i64.wrap ((e1.files.length : Int) + (e1.dby.length : Int)))))) fun y1 =>
       rec1 y1 (IntKind.i64.wrap (x3 + (1 : Int))))

def ref3_large_j3 (x5 : Int) : Option Bool :=
    some (decide ((4000 : Int) < x5))

def ref3_large_l1 (p1 : GMeta) : Nat → Int → Int → Option Bool
  | 0, _, _ => none
  | k1 + 1, x2, x3 =>
    ift (decide (x3 < (p1.snapshots.length : Int)))
      (bnd (at? p1.snapshots x3) fun e1 =>
       ift (decide ((400 : Int) < (e1.files.length : Int)))
         (ref3_large_j2 (ref3_large_l1 p1 k1) x2 x3 e1 true)
         (ref3_large_j2 (ref3_large_l1 p1 k1) x2 x3 e1 (decide ((400 : Int) < (e1.dby.length : Int)))))
      (ref3_large_j3 x2)

def ref3_within_j1 (x1 : Bool) : Option Bool :=
    some x1

def ref3_within (p1 : Int) (p2 : Int) (p3 : Int) : Option Bool :=
    ift (decide (p2 ≤ p1))
      (ref3_within_j1 (decide (p1 ≤ p3)))
      (ref3_within_j1 false)


theorem c_ref3_within (p1 : Int) (p2 : Int) (p3 : Int) : CT Tryz.prog 19 [vi p1, vi p2, vi p3] (ref3_within p1 p2 p3) vb :=
  uFn 15 [] Tryz.f19 fun r => (uQ (kS Tryz.f19 [1,0] 1) fun K2 hK2 => have hJ1 : ∀ (x1 : Bool), ref3_within_j1 x1 = some r → K2.p [(6, vb x1)] [] := fun x1 h => hK2 h (uR .ret xF); (uC (uJ (hJ1 (decide (p1 ≤ p3)))) (uJ (hJ1 false))))

def ref1_Leaf_j1 (x1 : Bool) : Option Bool :=
    some x1

def ref1_Leaf (p1 : Int) : Option Bool :=
    ift (p1 != (6 : Int))
      (ref1_Leaf_j1 (p1 != (7 : Int)))
      (ref1_Leaf_j1 false)


theorem c_ref1_Leaf (p1 : Int) : CT Tryz.prog 102 [vi p1] (ref1_Leaf p1) vb :=
  uFn 9 [] Tryz.f102 fun r => (uQ (kS Tryz.f102 [1,0] 1) fun K2 hK2 => have hJ1 : ∀ (x1 : Bool), ref1_Leaf_j1 x1 = some r → K2.p [(2, vb x1)] [] := fun x1 h => hK2 h (uR .ret xF); (uC (uJ (hJ1 (p1 != (7 : Int)))) (uJ (hJ1 false))))

def ref1_within_j1 (x1 : Bool) : Option Bool :=
    some x1

def ref1_within (p1 : Int) (p2 : Int) (p3 : Int) : Option Bool :=
    ift (decide (p2 ≤ p1))
      (ref1_within_j1 (decide (p1 ≤ p3)))
      (ref1_within_j1 false)


theorem c_ref1_within (p1 : Int) (p2 : Int) (p3 : Int) : CT Tryz.prog 153 [vi p1, vi p2, vi p3] (ref1_within p1 p2 p3) vb :=
  uFn 15 [] Tryz.f153 fun r => (uQ (kS Tryz.f153 [1,0] 1) fun K2 hK2 => have hJ1 : ∀ (x1 : Bool), ref1_within_j1 x1 = some r → K2.p [(6, vb x1)] [] := fun x1 h => hK2 h (uR .ret xF); (uC (uJ (hJ1 (decide (p1 ≤ p3)))) (uJ (hJ1 false))))

def ref1_Name_j4 (rec1 : Int → Option Bool) (x2 : Int) (x5 : Bool) : Option Bool :=
    ift x5
      (some false)
      (rec1 (IntKind.i64.wrap (x2 + (1 : Int))))

def ref1_Name_j3 (rec1 : Int → Option Bool) (x2 : Int) (x3 : Bool) (x4 : Bool) : Option Bool :=
    ift (!x3)
      (ift (x2 == (0 : Int))
         (ref1_Name_j4 rec1 x2 true)
         (ref1_Name_j4 rec1 x2 (!x4)))
      (ref1_Name_j4 rec1 x2 false)

def ref1_Name_j2 (rec1 : Int → Option Bool) (p1 : ByteArray) (x2 : Int) (x3 : Bool) : Option Bool :=
    grd (0 ≤ x2 ∧ x2 < (p1.size : Int)) <|
    ift (((p1.data.toList.getD x2.toNat 0).toNat : Int) == (95 : Int))
      (ref1_Name_j3 rec1 x2 x3 true)
      (grd (0 ≤ x2 ∧ x2 < (p1.size : Int)) <|
       bnd (some (decide ((48 : Int) ≤ ((p1.data.toList.getD x2.toNat 0).toNat : Int)))) fun y3 =>
       ift y3
         (grd (0 ≤ x2 ∧ x2 < (p1.size : Int)) <|
          bnd (some (decide (((p1.data.toList.getD x2.toNat 0).toNat : Int) ≤ (57 : Int)))) fun y4 =>
          ref1_Name_j3 rec1 x2 x3 y4)
         (ref1_Name_j3 rec1 x2 x3 false))

def ref1_Name_j5 : Option Bool :=
    some true

def ref1_Name_l1 (p1 : ByteArray) : Nat → Int → Option Bool
  | 0, _ => none
  | k1 + 1, x2 =>
    ift (decide (x2 < (p1.size : Int)))
      (grd (0 ≤ x2 ∧ x2 < (p1.size : Int)) <|
       bnd (some (decide ((97 : Int) ≤ ((p1.data.toList.getD x2.toNat 0).toNat : Int)))) fun y1 =>
       ift y1
         (grd (0 ≤ x2 ∧ x2 < (p1.size : Int)) <|
          bnd (some (decide (((p1.data.toList.getD x2.toNat 0).toNat : Int) ≤ (122 : Int)))) fun y2 =>
          ref1_Name_j2 (ref1_Name_l1 p1 k1) p1 x2 y2)
         (ref1_Name_j2 (ref1_Name_l1 p1 k1) p1 x2 false))
      (ref1_Name_j5)

def ref1_Name_j1 (p1 : ByteArray) (x1 : Bool) : Option Bool :=
    ift x1
      (some false)
      (ref1_Name_l1 p1 BIG (0 : Int))

def ref1_Name (p1 : ByteArray) : Option Bool :=
    ift (decide ((p1.size : Int) < (1 : Int)))
      (ref1_Name_j1 p1 true)
      (ref1_Name_j1 p1 (decide ((24 : Int) < (p1.size : Int))))


theorem c_ref1_Name (p1 : ByteArray) : CT Tryz.prog 27 [vs p1] (ref1_Name p1) vb :=
  uFn 56 [] Tryz.f27 fun r => (uQ (kS Tryz.f27 [1,0,0] 2) fun K3 hK3 => have hJ1 : ∀ (x1 : Bool), ref1_Name_j1 p1 x1 = some r → K3.p [(0, vs p1), (13, vb x1)] [] := fun x1 h => hK3 h (uC (uR .ret xF) (uQ (kS Tryz.f27 [1,1,0] 1) fun K7 hK7 => have hJ5 : ∀ (_ : Unit), ref1_Name_j5 = some r → K7.p [] [] := fun _ h => hK7 h (uR .ret xF); (uO (cd Tryz.f27 [1,1,0,1,0,0]) (kS Tryz.f27 [1,1,0,1,0] 1) fun R1 b1 => have hL1 : ∀ (k1 : Nat) (x2 : Int), ref1_Name_l1 p1 k1 x2 = some r → (R1 k1).p [(0, vs p1), (3, vi x2)] [] := by intro k1; induction k1 with | zero => intro x2 h; exact uE0 (ref1_Name_l1.eq_1 ..) h | succ k1 ih1 => intro x2 h; exact b1 h (uU (ref1_Name_l1.eq_2 ..) (uC (uQ (kS Tryz.f27 [1,1,0,1,0,0,1,0,0,0] 3) fun K13 hK13 => have hJ2 : ∀ (x3 : Bool), ref1_Name_j2 (ref1_Name_l1 p1 k1) p1 x2 x3 = some r → K13.p [(0, vs p1), (3, vi x2), (4, vb x3)] [] := fun x3 h => hK13 h (uQ (kS Tryz.f27 [1,1,0,1,0,0,1,0,0,1,0] 3) fun K19 hK19 => have hJ3 : ∀ (x4 : Bool), ref1_Name_j3 (ref1_Name_l1 p1 k1) x2 x3 x4 = some r → K19.p [(0, vs p1), (3, vi x2), (4, vb x3), (5, vb x4)] [] := fun x4 h => hK19 h (uQ (kS Tryz.f27 [1,1,0,1,0,0,1,0,0,1,1,0] 3) fun K27 hK27 => have hJ4 : ∀ (x5 : Bool), ref1_Name_j4 (ref1_Name_l1 p1 k1) x2 x5 = some r → K27.p [(0, vs p1), (3, vi x2), (55, vb x5)] [] := fun x5 h => hK27 h (uC (uR .ret (xN (xN xF))) (uJ (ih1 (IntKind.i64.wrap (x2 + (1 : Int)))))); (uC (uC (uJ (hJ4 true)) (uJ (hJ4 (!x4)))) (uJ (hJ4 false)))); (uG (uC (uJ (hJ3 true)) (uG (uY 38 vb fun y3 => (uC (uG (uY 43 vb fun y4 => (uJ (hJ3 y4)))) (uJ (hJ3 false)))))))); (uG (uY 23 vb fun y1 => (uC (uG (uY 28 vb fun y2 => (uJ (hJ2 y2)))) (uJ (hJ2 false)))))) (uR (.exit 0) (xM (uJ (hJ5 ()))))))
 uE (hL1 BIG (0 : Int))))); (uC (uJ (hJ1 true)) (uJ (hJ1 (decide ((24 : Int) < (p1.size : Int)))))))

def ref1_shape_j5 (rec2 : Int → Option Int) (x5 : Int) : Option Int :=
    rec2 (IntKind.i64.wrap (x5 + (1 : Int)))

def ref1_shape_l3 (rec2 : Int → Option Int) (p1 : GType) (x5 : Int) : Nat → Int → Option Int
  | 0, _ => none
  | k3 + 1, x6 =>
    ift (decide (x6 < x5))
      (bnd (at? p1.fields x6) fun e3 =>
       bnd (at? p1.fields x5) fun e4 =>
       ift (e3.name.toList == e4.name.toList)
         (some (5 : Int))
         ((ref1_shape_l3 rec2 p1 x5 k3) (IntKind.i64.wrap (x6 + (1 : Int)))))
      (ref1_shape_j5 rec2 x5)

def ref1_shape_j6 : Option Int :=
    some (0 : Int)

def ref1_shape_l2 (p1 : GType) : Nat → Int → Option Int
  | 0, _ => none
  | k2 + 1, x5 =>
    ift (decide (x5 < (p1.fields.length : Int)))
      (ref1_shape_l3 (ref1_shape_l2 p1 k2) p1 x5 BIG (0 : Int))
      (ref1_shape_j6)

def ref1_shape_j4 (p1 : GType) : Option Int :=
    ref1_shape_l2 p1 BIG (0 : Int)

def ref1_shape_l1 (p1 : GType) : Nat → Int → Option Int
  | 0, _ => none
  | k1 + 1, x4 =>
    ift (decide (x4 < (p1.fields.length : Int)))
      (bnd (at? p1.fields x4) fun e2 =>
       bnd (ref1_Name e2.name) fun r5 =>
       ift (!r5)
         (some (4 : Int))
         ((ref1_shape_l1 p1 k1) (IntKind.i64.wrap (x4 + (1 : Int)))))
      (ref1_shape_j4 p1)

def ref1_shape_j3 (p1 : GType) (x3 : Bool) : Option Int :=
    ift x3
      (some (1 : Int))
      (ift (p1.kind != (7 : Int))
         (some (0 : Int))
         (ref1_shape_l1 p1 BIG (0 : Int)))

def ref1_shape_j2 (p1 : GType) (x2 : Bool) : Option Int :=
    ift x2
      (some (1 : Int))
      (ift (p1.kind == (7 : Int))
         (ift ((p1.fields.length : Int) == (0 : Int))
            (ref1_shape_j3 p1 true)
            (bnd (ref1_Leaf p1.kind) fun r3 =>
             ift r3
               (ref1_shape_j3 p1 (decide ((0 : Int) < (p1.fields.length : Int))))
               (ref1_shape_j3 p1 false)))
         (bnd (ref1_Leaf p1.kind) fun r4 =>
          ift r4
            (ref1_shape_j3 p1 (decide ((0 : Int) < (p1.fields.length : Int))))
            (ref1_shape_j3 p1 false)))

def ref1_shape_j1 (p1 : GType) (x1 : Bool) : Option Int :=
    ift x1
      (some (1 : Int))
      (ift (p1.kind == (6 : Int))
         (ift ((p1.fields.length : Int) != (1 : Int))
            (ref1_shape_j2 p1 true)
            (bnd (at? p1.fields (0 : Int)) fun e1 =>
             ref1_shape_j2 p1 (!(e1.name.toList == (ByteArray.mk #[]).toList))))
         (ref1_shape_j2 p1 false))

def ref1_shape (p1 : GType) : Option Int :=
    bnd (ref1_within p1.kind (1 : Int) (7 : Int)) fun r1 =>
    ift (!r1)
      (some (3 : Int))
      (ift (p1.kind == (3 : Int))
         (bnd (ref1_within p1.scale (0 : Int) (12 : Int)) fun r2 =>
          ift (!r2)
            (ref1_shape_j1 p1 true)
            (ift (p1.kind != (3 : Int))
               (ref1_shape_j1 p1 (p1.scale != (0 : Int)))
               (ref1_shape_j1 p1 false)))
         (ift (p1.kind != (3 : Int))
            (ref1_shape_j1 p1 (p1.scale != (0 : Int)))
            (ref1_shape_j1 p1 false)))

abbrev qa1332 (p1 : GType) : List PV := [pi p1.kind, pi p1.scale, .ro (eField.els p1.fields)]

theorem c_ref1_shape (p1 : GType) : CT Tryz.prog 114 [.ag [ci p1.kind, ci p1.scale, cl eField p1.fields]] (ref1_shape p1) vi :=
  uFn 109 [] Tryz.f114 fun r => (uP (c_ref1_within _ _ _) fun r1 _ => (uC (uR .ret xF) (uQ (kS Tryz.f114 [1,1,0,0] 2) fun K8 hK8 => have hJ1 : ∀ (x1 : Bool), ref1_shape_j1 p1 x1 = some r → K8.p [(1, .one (.pv (.rp [(qa1332 p1)] 0 0))), (28, vb x1)] [] := fun x1 h => hK8 h (uC (uR .ret xF) (uQ (kS Tryz.f114 [1,1,1,0,0] 2) fun K17 hK17 => have hJ2 : ∀ (x2 : Bool), ref1_shape_j2 p1 x2 = some r → K17.p [(1, .one (.pv (.rp [(qa1332 p1)] 0 0))), (45, vb x2)] [] := fun x2 h => hK17 h (uC (uR .ret xF) (uQ (kS Tryz.f114 [1,1,1,1,0,0] 2) fun K24 hK24 => have hJ3 : ∀ (x3 : Bool), ref1_shape_j3 p1 x3 = some r → K24.p [(1, .one (.pv (.rp [(qa1332 p1)] 0 0))), (65, vb x3)] [] := fun x3 h => hK24 h (uC (uR .ret xF) (uC (uR .ret xF) (uQ (kS Tryz.f114 [1,1,1,1,1,1,0] 1) fun K37 hK37 => have hJ4 : ∀ (_ : Unit), ref1_shape_j4 p1 = some r → K37.p [(1, .one (.pv (.rp [(qa1332 p1)] 0 0)))] [] := fun _ h => hK37 h (uQ (kS Tryz.f114 [1,1,1,1,1,1,1,0] 1) fun K49 hK49 => have hJ6 : ∀ (_ : Unit), ref1_shape_j6 = some r → K49.p [] [] := fun _ h => hK49 h (uR .ret xF); (uN eField p1.fields (uO (cd Tryz.f114 [1,1,1,1,1,1,1,0,1,0,0]) (kS Tryz.f114 [1,1,1,1,1,1,1,0,1,0] 1) fun R2 b2 => have hL2 : ∀ (k2 : Nat) (x5 : Int), ref1_shape_l2 p1 k2 x5 = some r → (R2 k2).p [(1, .one (.pv (.rp [(qa1332 p1)] 0 0))), (86, vi (p1.fields.length : Int)), (87, vi x5)] [] := by intro k2; induction k2 with | zero => intro x5 h; exact uE0 (ref1_shape_l2.eq_1 ..) h | succ k2 ih2 => intro x5 h; exact b2 h (uU (ref1_shape_l2.eq_2 ..) (uC (uQ (kS Tryz.f114 [1,1,1,1,1,1,1,0,1,0,0,1,1,0] 1) fun K54 hK54 => have hJ5 : ∀ (_ : Unit), ref1_shape_j5 (ref1_shape_l2 p1 k2) x5 = some r → K54.p [(1, .one (.pv (.rp [(qa1332 p1)] 0 0))), (86, vi (p1.fields.length : Int)), (87, vi x5)] [] := fun _ h => hK54 h (uJ (ih2 (IntKind.i64.wrap (x5 + (1 : Int))))); (uO (cd Tryz.f114 [1,1,1,1,1,1,1,0,1,0,0,1,1,0,0,1,1,0,0]) (kS Tryz.f114 [1,1,1,1,1,1,1,0,1,0,0,1,1,0,0,1,1,0] 2) fun R3 b3 => have hL3 : ∀ (k3 : Nat) (x6 : Int), ref1_shape_l3 (ref1_shape_l2 p1 k2) p1 x5 k3 x6 = some r → (R3 k3).p [(1, .one (.pv (.rp [(qa1332 p1)] 0 0))), (4, vi x5), (5, vi x6), (86, vi (p1.fields.length : Int)), (87, vi x5)] [] := by intro k3; induction k3 with | zero => intro x6 h; exact uE0 (ref1_shape_l3.eq_1 ..) h | succ k3 ih3 => intro x6 h; exact b3 h (uU (ref1_shape_l3.eq_2 ..) (uC (uDr 12 (uL eField fun e3 a62 => (uL eField fun e4 a63 => (uC (uR .ret (xN (xN (xN (xN xF))))) (uJ (ih3 (IntKind.i64.wrap (x6 + (1 : Int))))))))) (uR (.exit 4) (xM (uJ (hJ5 ()))))))
 uE (hL3 BIG (0 : Int)))) (uR (.exit 2) (xM (uJ (hJ6 ()))))))
 uE (hL2 BIG (0 : Int))))); (uN eField p1.fields (uO (cd Tryz.f114 [1,1,1,1,1,1,0,1,0,0]) (kS Tryz.f114 [1,1,1,1,1,1,0,1,0] 1) fun R1 b1 => have hL1 : ∀ (k1 : Nat) (x4 : Int), ref1_shape_l1 p1 k1 x4 = some r → (R1 k1).p [(1, .one (.pv (.rp [(qa1332 p1)] 0 0))), (71, vi (p1.fields.length : Int)), (72, vi x4)] [] := by intro k1; induction k1 with | zero => intro x4 h; exact uE0 (ref1_shape_l1.eq_1 ..) h | succ k1 ih1 => intro x4 h; exact b1 h (uU (ref1_shape_l1.eq_2 ..) (uC (uL eField fun e2 a45 => (uP (c_ref1_Name _) fun r5 _ => (uC (uR .ret (xN (xN xF))) (uJ (ih1 (IntKind.i64.wrap (x4 + (1 : Int)))))))) (uR (.exit 0) (xM (uJ (hJ4 ()))))))
 uE (hL1 BIG (0 : Int))))))); (uC (uN eField p1.fields (uC (uJ (hJ3 true)) (uP (c_ref1_Leaf _) fun r3 _ => (uC (uN eField p1.fields (uJ (hJ3 (decide ((0 : Int) < (p1.fields.length : Int)))))) (uJ (hJ3 false)))))) (uP (c_ref1_Leaf _) fun r4 _ => (uC (uN eField p1.fields (uJ (hJ3 (decide ((0 : Int) < (p1.fields.length : Int)))))) (uJ (hJ3 false))))))); (uC (uN eField p1.fields (uC (uJ (hJ2 true)) (uL eField fun e1 a20 => (uJ (hJ2 (!(e1.name.toList == (ByteArray.mk #[]).toList))))))) (uJ (hJ2 false))))); (uC (uP (c_ref1_within _ _ _) fun r2 _ => (uC (uJ (hJ1 true)) (uC (uJ (hJ1 (p1.scale != (0 : Int)))) (uJ (hJ1 false))))) (uC (uJ (hJ1 (p1.scale != (0 : Int)))) (uJ (hJ1 false)))))))

def ref1_checkType_j2 (z3 : Int) : Option (Int × Int) :=
    some ((0 : Int), z3)

def ref1_checkType_l1 (q_ref1_checkType : GType → Int → Int → Option (Int × Int)) (p1 : GType) (p2 : Int) : Nat → Int → Int → Option (Int × Int)
  | 0, _, _ => none
  | k1 + 1, z2, x1 =>
    ift (decide (x1 < (p1.fields.length : Int)))
      (bnd (at? p1.fields x1) fun e1 =>
       bnd (q_ref1_checkType e1.type (IntKind.i64.wrap (p2 + (1 : Int))) z2) fun r3 =>
       ift (r3.1 != (0 : Int))
         (some (r3.1, r3.2))
         ((ref1_checkType_l1 q_ref1_checkType p1 p2 k1) r3.2 (IntKind.i64.wrap (x1 + (1 : Int)))))
      (ref1_checkType_j2 z2)

def ref1_checkType_j1 (q_ref1_checkType : GType → Int → Int → Option (Int × Int)) (p1 : GType) (p2 : Int) (z1 : Int) : Option (Int × Int) :=
    bnd (ref1_shape p1) fun r2 =>
    ift (r2 != (0 : Int))
      (some (r2, z1))
      (ref1_checkType_l1 q_ref1_checkType p1 p2 BIG z1 (0 : Int))

def ref1_checkType : Nat → GType → Int → Int → Option (Int × Int)
  | 0, _, _, _ => none
  | k0 + 1, p1, p2, p3 =>
    ift (decide ((4 : Int) < p2))
      (some ((7 : Int), p3))
      (bnd (ref1_Leaf p1.kind) fun r1 =>
       ift r1
         (ift (p3 == (40 : Int))
            (some ((7 : Int), p3))
            (ref1_checkType_j1 (ref1_checkType k0) p1 p2 (IntKind.i64.wrap (p3 + (1 : Int)))))
         (ref1_checkType_j1 (ref1_checkType k0) p1 p2 p3))


theorem c_ref1_checkType : ∀ (k0 : Nat) (p1 : GType) (p2 : Int) (p3 : Int), CM Tryz.prog 72 [.ag [ci p1.kind, ci p1.scale, cl eField p1.fields], vi p2, .one (.pt 0 0 0 0)] [.box [ci p3]] (ref1_checkType k0 p1 p2 p3) (fun r => vi r.1) (fun r => [.box [ci r.2]])
  | 0, _, _, _ => uM0 (ref1_checkType.eq_1 ..)
  | k0 + 1, p1, p2, p3 => uFnM 1 49 [] Tryz.f72 fun r => (uU (ref1_checkType.eq_2 ..) (uC (uR .ret xFM) (uQ (kS Tryz.f72 [1,1,0] 1) fun K6 hK6 => have hJ1 : ∀ (z1 : Int), ref1_checkType_j1 (ref1_checkType k0) p1 p2 z1 = some r → K6.p [(1, vi p2), (2, .one (.pt 0 0 0 0)), (3, .one (.pv (.rp [[pi p1.kind, pi p1.scale, .ro (eField.els p1.fields)]] 0 0)))] [.box [ci z1]] := fun z1 h => hK6 h (uP (c_ref1_shape _) fun r2 _ => (uC (uR .ret xFM) (uQ (kS Tryz.f72 [1,1,1,1,0] 1) fun K20 hK20 => have hJ2 : ∀ (z3 : Int), ref1_checkType_j2 z3 = some r → K20.p [] [.box [ci z3]] := fun z3 h => hK20 h (uR .ret xFM); (uN eField p1.fields (uO (cd Tryz.f72 [1,1,1,1,0,1,0,0]) (kS Tryz.f72 [1,1,1,1,0,1,0] 1) fun R1 b1 => have hL1 : ∀ (k1 : Nat) (z2 : Int) (x1 : Int), ref1_checkType_l1 (ref1_checkType k0) p1 p2 k1 z2 x1 = some r → (R1 k1).p [(1, vi p2), (2, .one (.pt 0 0 0 0)), (3, .one (.pv (.rp [[pi p1.kind, pi p1.scale, .ro (eField.els p1.fields)]] 0 0))), (31, vi (p1.fields.length : Int)), (32, vi x1)] [.box [ci z2]] := by intro k1; induction k1 with | zero => intro z2 x1 h; exact uE0 (ref1_checkType_l1.eq_1 ..) h | succ k1 ih1 => intro z2 x1 h; exact b1 h (uU (ref1_checkType_l1.eq_2 ..) (uC (uL eField fun e1 a28 => (uMc true [0] (c_ref1_checkType k0 _ _ _) fun r3 _ => (uC (uR .ret (xN (xN xFM))) (uJ (ih1 r3.2 (IntKind.i64.wrap (x1 + (1 : Int)))))))) (uR (.exit 0) (xM (uJ (hJ2 z2))))))
 uE (hL1 BIG z1 (0 : Int))))))); (uP (c_ref1_Leaf _) fun r1 _ => (uC (uC (uR .ret (xN xFM)) (uJ (hJ1 (IntKind.i64.wrap (p3 + (1 : Int)))))) (uJ (hJ1 p3)))))))

def ref1_CheckType (p1 : GType) : Option Int :=
    bnd (ref1_checkType BIG p1 (1 : Int) (0 : Int)) fun r1 =>
    some r1.1


theorem c_ref1_CheckType (p1 : GType) : CT Tryz.prog 36 [.ag [ci p1.kind, ci p1.scale, cl eField p1.fields]] (ref1_CheckType p1) vi :=
  uFn 6 [3] Tryz.f36 fun r => (uMc true [0] (c_ref1_checkType BIG _ _ _) fun r1 _ => (uR .ret xF))

def ref1_Ids_j1 (l2 : List Int) : Option (List Int) :=
    some l2

def ref1_Ids_l1 (q_ref1_Ids : (List GField) → Option (List Int)) (p1 : (List GField)) : Nat → List Int → Int → Option (List Int)
  | 0, _, _ => none
  | k1 + 1, l1, x1 =>
    ift (decide (x1 < (p1.length : Int)))
      (bnd (at? p1 x1) fun e1 =>
       grd (l1.length + 1 ≤ 4294967296) <|
       bnd (q_ref1_Ids e1.type.fields) fun r1 =>
       grd ((l1 ++ [e1.id]).length + r1.length ≤ 4294967296) <|
       (ref1_Ids_l1 q_ref1_Ids p1 k1) ((l1 ++ [e1.id]) ++ r1) (IntKind.i64.wrap (x1 + (1 : Int))))
      (ref1_Ids_j1 l1)

def ref1_Ids : Nat → (List GField) → Option (List Int)
  | 0, _ => none
  | k0 + 1, p1 =>
    ref1_Ids_l1 (ref1_Ids k0) p1 BIG [] (0 : Int)


def ref1_CheckSchema_j1 (rec1 : Int → Option Int) (x1 : Int) : Option Int :=
    rec1 (IntKind.i64.wrap (x1 + (1 : Int)))

def ref1_CheckSchema_l2 (rec1 : Int → Option Int) (r2 : (List Int)) (x1 : Int) (e1 : Int) : Nat → Int → Option Int
  | 0, _ => none
  | k2 + 1, x2 =>
    ift (decide (x2 < x1))
      (bnd (at? r2 x2) fun e2 =>
       ift (e2 == e1)
         (some (5 : Int))
         ((ref1_CheckSchema_l2 rec1 r2 x1 e1 k2) (IntKind.i64.wrap (x2 + (1 : Int)))))
      (ref1_CheckSchema_j1 rec1 x1)

def ref1_CheckSchema_j2 : Option Int :=
    some (0 : Int)

def ref1_CheckSchema_l1 (r2 : (List Int)) : Nat → Int → Option Int
  | 0, _ => none
  | k1 + 1, x1 =>
    ift (decide (x1 < (r2.length : Int)))
      (bnd (at? r2 x1) fun e1 =>
       ift (decide (e1 < (1 : Int)))
         (some (3 : Int))
         (ref1_CheckSchema_l2 (ref1_CheckSchema_l1 r2 k1) r2 x1 e1 BIG (0 : Int)))
      (ref1_CheckSchema_j2)

def ref1_CheckSchema (p1 : (List GField)) : Option Int :=
    bnd (ref1_CheckType (GType.mk (7 : Int) (0 : Int) p1)) fun r1 =>
    ift (r1 != (0 : Int))
      (some r1)
      (bnd (ref1_Ids BIG p1) fun r2 =>
       ref1_CheckSchema_l1 r2 BIG (0 : Int))


def ref2_CheckRows_of_k (p1 : (List GField)) : Option Int :=
    bnd (ref1_CheckSchema p1) fun r1 =>
    ift (r1 != (0 : Int))
      (some r1)
      (some (0 : Int))


def ref2_find_j1 : Option Int :=
    some (-1 : Int)

def ref2_find_l1 (p1 : (List GField)) (p2 : Int) : Nat → Int → Option Int
  | 0, _ => none
  | k1 + 1, x1 =>
    ift (decide (x1 < (p1.length : Int)))
      (bnd (at? p1 x1) fun e1 =>
       ift (e1.id == p2)
         (some x1)
         ((ref2_find_l1 p1 p2 k1) (IntKind.i64.wrap (x1 + (1 : Int)))))
      (ref2_find_j1)

def ref2_find (p1 : (List GField)) (p2 : Int) : Option Int :=
    ref2_find_l1 p1 p2 BIG (0 : Int)


def ref2_Widens_j4 (x4 : Bool) : Option Bool :=
    some x4

def ref2_Widens_j3 (p1 : GType) (p2 : GType) (x3 : Bool) : Option Bool :=
    ift (p1.kind == (1 : Int))
      (ift (p2.kind == (2 : Int))
         (ref2_Widens_j4 true)
         (ift x3
            (ref2_Widens_j4 true)
            (ref2_Widens_j4 false)))
      (ift x3
         (ref2_Widens_j4 (p1.kind == (2 : Int)))
         (ref2_Widens_j4 false))

def ref2_Widens_j2 (p1 : GType) (p2 : GType) (x2 : Bool) : Option Bool :=
    ift x2
      (some true)
      (ift (p2.kind == (3 : Int))
         (ref2_Widens_j3 p1 p2 (p2.scale == (0 : Int)))
         (ref2_Widens_j3 p1 p2 false))

def ref2_Widens_j1 (p1 : GType) (p2 : GType) (x1 : Bool) : Option Bool :=
    ift x1
      (some false)
      (ift (p1.kind == p2.kind)
         (ref2_Widens_j2 p1 p2 (p1.scale == p2.scale))
         (ref2_Widens_j2 p1 p2 false))

def ref2_Widens (p1 : GType) (p2 : GType) : Option Bool :=
    bnd (ref1_CheckType p1) fun r1 =>
    ift (r1 != (0 : Int))
      (ref2_Widens_j1 p1 p2 true)
      (bnd (ref1_CheckType p2) fun r2 =>
       ift (r2 != (0 : Int))
         (ref2_Widens_j1 p1 p2 true)
         (bnd (ref1_Leaf p1.kind) fun r3 =>
          ift (!r3)
            (ref2_Widens_j1 p1 p2 true)
            (bnd (ref1_Leaf p2.kind) fun r4 =>
             ref2_Widens_j1 p1 p2 (!r4))))

def ref2_adaptable_j3 (rec1 : Int → Option Int) (x1 : Int) : Option Int :=
    rec1 (IntKind.i64.wrap (x1 + (1 : Int)))

def ref2_adaptable_j2 (rec1 : Int → Option Int) (q_ref2_adaptable : (List GField) → (List GField) → Option Int) (x1 : Int) (e1 : GField) (e2 : GField) (x3 : Bool) : Option Int :=
    ift x3
      (some (2 : Int))
      (bnd (q_ref2_adaptable e2.type.fields e1.type.fields) fun r7 =>
       ift (r7 != (0 : Int))
         (some r7)
         (ref2_adaptable_j3 rec1 x1))

def ref2_adaptable_j1 (rec1 : Int → Option Int) (q_ref2_adaptable : (List GField) → (List GField) → Option Int) (x1 : Int) (e1 : GField) (e2 : GField) (x2 : Bool) : Option Int :=
    ift x2
      (some (9 : Int))
      (bnd (ref1_Leaf e2.type.kind) fun r2 =>
       ift (!r2)
         (ift (e2.type.kind != e1.type.kind)
            (ref2_adaptable_j2 rec1 q_ref2_adaptable x1 e1 e2 true)
            (bnd (ref1_Leaf e2.type.kind) fun r3 =>
             ift r3
               (bnd (ref2_Widens e2.type e1.type) fun r4 =>
                ref2_adaptable_j2 rec1 q_ref2_adaptable x1 e1 e2 (!r4))
               (ref2_adaptable_j2 rec1 q_ref2_adaptable x1 e1 e2 false)))
         (bnd (ref1_Leaf e2.type.kind) fun r5 =>
          ift r5
            (bnd (ref2_Widens e2.type e1.type) fun r6 =>
             ref2_adaptable_j2 rec1 q_ref2_adaptable x1 e1 e2 (!r6))
            (ref2_adaptable_j2 rec1 q_ref2_adaptable x1 e1 e2 false)))

def ref2_adaptable_j4 : Option Int :=
    some (0 : Int)

def ref2_adaptable_l1 (q_ref2_adaptable : (List GField) → (List GField) → Option Int) (p1 : (List GField)) (p2 : (List GField)) : Nat → Int → Option Int
  | 0, _ => none
  | k1 + 1, x1 =>
    ift (decide (x1 < (p2.length : Int)))
      (bnd (at? p2 x1) fun e1 =>
       bnd (ref2_find p1 e1.id) fun r1 =>
       ift (decide (r1 < (0 : Int)))
         (ift e1.need
            (some (9 : Int))
            (ref2_adaptable_j3 (ref2_adaptable_l1 q_ref2_adaptable p1 p2 k1) x1))
         (bnd (at? p1 r1) fun e2 =>
          ift e1.need
            (ref2_adaptable_j1 (ref2_adaptable_l1 q_ref2_adaptable p1 p2 k1) q_ref2_adaptable x1 e1 e2 (!e2.need))
            (ref2_adaptable_j1 (ref2_adaptable_l1 q_ref2_adaptable p1 p2 k1) q_ref2_adaptable x1 e1 e2 false)))
      (ref2_adaptable_j4)

def ref2_adaptable : Nat → (List GField) → (List GField) → Option Int
  | 0, _, _ => none
  | k0 + 1, p1, p2 =>
    ref2_adaptable_l1 (ref2_adaptable k0) p1 p2 BIG (0 : Int)

def ref2_Adapt_of_k (p1 : (List GField)) (p2 : (List GField)) : Option ((List (List GValue)) × Int) :=
    bnd (ref2_CheckRows_of_k p1) fun r1 =>
    ift (r1 != (0 : Int))
      (some ([], r1))
      (bnd (ref1_CheckSchema p2) fun r2 =>
       ift (r2 != (0 : Int))
         (some ([], r2))
         (bnd (ref2_adaptable BIG p1 p2) fun r3 =>
          ift (r3 != (0 : Int))
            (some ([], r3))
            (some ([], (0 : Int)))))


def ref3_Top_j1 : Option (GField × Bool) :=
    some ((FieldP.mk (0 : Int) ByteArray.empty false (GType.mk (0 : Int) (0 : Int) [])), false)

def ref3_Top_l1 (p1 : (List GField)) (p2 : Int) : Nat → Int → Option (GField × Bool)
  | 0, _ => none
  | k1 + 1, x1 =>
    ift (decide (x1 < (p1.length : Int)))
      (bnd (at? p1 x1) fun e1 =>
       ift (e1.id == p2)
         (some (e1, true))
         ((ref3_Top_l1 p1 p2 k1) (IntKind.i64.wrap (x1 + (1 : Int)))))
      (ref3_Top_j1)

def ref3_Top (p1 : (List GField)) (p2 : Int) : Option (GField × Bool) :=
    ref3_Top_l1 p1 p2 BIG (0 : Int)

abbrev qa1378 : List CV := [ci (0 : Int), cst ByteArray.empty, cb false, ci (0 : Int), ci (0 : Int), .pv (.s (.slice none 0 0))]

theorem c_ref3_Top (p1 : (List GField)) (p2 : Int) : CT Tryz.prog 60 [vl eField p1, vi p2] (ref3_Top p1 p2) (fun r => .tp [.ag [ci r.1.id, cst r.1.name, cb r.1.need, ci r.1.type.kind, ci r.1.type.scale, cl eField r.1.type.fields], vb r.2]) :=
  uFn 25 [4] Tryz.f60 fun r => (uQ (kS Tryz.f60 [1,0] 1) fun K2 hK2 => have hJ1 : ∀ (_ : Unit), ref3_Top_j1 = some r → K2.p [(4, .one (.pt 0 0 0 0))] [.box qa1378] := fun _ h => hK2 h (uR .ret xF); (uN eField p1 (uO (cd Tryz.f60 [1,0,1,0,0]) (kS Tryz.f60 [1,0,1,0] 1) fun R1 b1 => have hL1 : ∀ (k1 : Nat) (x1 : Int), ref3_Top_l1 p1 p2 k1 x1 = some r → (R1 k1).p [(0, vl eField p1), (1, vi p2), (4, .one (.pt 0 0 0 0)), (8, vi (p1.length : Int)), (9, vi x1)] [.box qa1378] := by intro k1; induction k1 with | zero => intro x1 h; exact uE0 (ref3_Top_l1.eq_1 ..) h | succ k1 ih1 => intro x1 h; exact b1 h (uU (ref3_Top_l1.eq_2 ..) (uC (uL eField fun e1 a10 => (uC (uM eField a10 (uR .ret (xN (xN xF)))) (uJ (ih1 (IntKind.i64.wrap (x1 + (1 : Int))))))) (uR (.exit 0) (xM (uJ (hJ1 ()))))))
 uE (hL1 BIG (0 : Int)))))

def ref3_TransformType_j5 (p2 : GType) (x5 : Bool) : Option (GType × Int) :=
    ift x5
      (some ((GType.mk (2 : Int) (0 : Int) []), (0 : Int)))
      (some (p2, (0 : Int)))

def ref3_TransformType_j4 (p1 : GTransform) (p2 : GType) (x4 : Bool) : Option (GType × Int) :=
    ift x4
      (some ((GType.mk (0 : Int) (0 : Int) []), (2 : Int)))
      (ift (p1.kind == (2 : Int))
         (ref3_TransformType_j5 p2 true)
         (ref3_TransformType_j5 p2 (decide ((4 : Int) ≤ p1.kind))))

def ref3_TransformType_j3 (p1 : GTransform) (p2 : GType) (x3 : Bool) : Option (GType × Int) :=
    ift x3
      (some ((GType.mk (0 : Int) (0 : Int) []), (2 : Int)))
      (ift (decide ((4 : Int) ≤ p1.kind))
         (ref3_TransformType_j4 p1 p2 (p2.kind != (5 : Int)))
         (ref3_TransformType_j4 p1 p2 false))

def ref3_TransformType_j2 (p1 : GTransform) (p2 : GType) (x2 : Bool) : Option (GType × Int) :=
    ift x2
      (some ((GType.mk (0 : Int) (0 : Int) []), (3 : Int)))
      (bnd (ref1_Leaf p2.kind) fun r4 =>
       ift (!r4)
         (some ((GType.mk (0 : Int) (0 : Int) []), (2 : Int)))
         (ift (p1.kind == (3 : Int))
            (ift (p2.kind != (2 : Int))
               (ift (p2.kind != (3 : Int))
                  (ref3_TransformType_j3 p1 p2 (p2.kind != (4 : Int)))
                  (ref3_TransformType_j3 p1 p2 false))
               (ref3_TransformType_j3 p1 p2 false))
            (ref3_TransformType_j3 p1 p2 false)))

def ref3_TransformType_j1 (p1 : GTransform) (p2 : GType) (x1 : Bool) : Option (GType × Int) :=
    ift x1
      (bnd (ref3_within p1.param (1 : Int) (1000000 : Int)) fun r3 =>
       ift (!r3)
         (ref3_TransformType_j2 p1 p2 true)
         (ift (!x1)
            (ref3_TransformType_j2 p1 p2 (p1.param != (0 : Int)))
            (ref3_TransformType_j2 p1 p2 false)))
      (ift (!x1)
         (ref3_TransformType_j2 p1 p2 (p1.param != (0 : Int)))
         (ref3_TransformType_j2 p1 p2 false))

def ref3_TransformType (p1 : GTransform) (p2 : GType) : Option (GType × Int) :=
    bnd (ref1_CheckType p2) fun r1 =>
    ift (r1 != (0 : Int))
      (some ((GType.mk (0 : Int) (0 : Int) []), r1))
      (bnd (ref3_within p1.kind (0 : Int) (7 : Int)) fun r2 =>
       ift (!r2)
         (some ((GType.mk (0 : Int) (0 : Int) []), (3 : Int)))
         (ift (p1.kind == (2 : Int))
            (ref3_TransformType_j1 p1 p2 true)
            (ref3_TransformType_j1 p1 p2 (p1.kind == (3 : Int)))))

abbrev qa1385 (p2 : GType) : List PV := [pi p2.kind, pi p2.scale, .ro (eField.els p2.fields)]
abbrev qa1386 : List CV := [ci (0 : Int), ci (0 : Int), .pv (.s (.slice none 0 0))]

theorem c_ref3_TransformType (p1 : GTransform) (p2 : GType) : CT Tryz.prog 73 [.ag [ci p1.kind, ci p1.param], .ag [ci p2.kind, ci p2.scale, cl eField p2.fields]] (ref3_TransformType p1 p2) (fun r => .tp [.ag [ci r.1.kind, ci r.1.scale, cl eField r.1.fields], vi r.2]) :=
  uFn 87 [4] Tryz.f73 fun r => (uP (c_ref1_CheckType _) fun r1 _ => (uC (uR .ret xF) (uP (c_ref3_within _ _ _) fun r2 _ => (uC (uR .ret xF) (uQ (kS Tryz.f73 [1,1,1,0] 1) fun K13 hK13 => have hJ1 : ∀ (x1 : Bool), ref3_TransformType_j1 p1 p2 x1 = some r → K13.p [(2, .one (.pv (.rp [[pi p1.kind, pi p1.param]] 0 0))), (3, .one (.pv (.rp [(qa1385 p2)] 0 0))), (4, .one (.pt 0 0 0 0)), (7, vb x1)] [.box qa1386] := fun x1 h => hK13 h (uQ (kS Tryz.f73 [1,1,1,1,0,0] 2) fun K16 hK16 => have hJ2 : ∀ (x2 : Bool), ref3_TransformType_j2 p1 p2 x2 = some r → K16.p [(2, .one (.pv (.rp [[pi p1.kind, pi p1.param]] 0 0))), (3, .one (.pv (.rp [(qa1385 p2)] 0 0))), (4, .one (.pt 0 0 0 0)), (42, vb x2)] [.box qa1386] := fun x2 h => hK16 h (uC (uR .ret xF) (uP (c_ref1_Leaf _) fun r4 _ => (uC (uR .ret xF) (uQ (kS Tryz.f73 [1,1,1,1,1,1,0,0] 2) fun K30 hK30 => have hJ3 : ∀ (x3 : Bool), ref3_TransformType_j3 p1 p2 x3 = some r → K30.p [(2, .one (.pv (.rp [[pi p1.kind, pi p1.param]] 0 0))), (3, .one (.pv (.rp [(qa1385 p2)] 0 0))), (4, .one (.pt 0 0 0 0)), (66, vb x3)] [.box qa1386] := fun x3 h => hK30 h (uC (uR .ret xF) (uQ (kS Tryz.f73 [1,1,1,1,1,1,1,0,0] 2) fun K37 hK37 => have hJ4 : ∀ (x4 : Bool), ref3_TransformType_j4 p1 p2 x4 = some r → K37.p [(2, .one (.pv (.rp [[pi p1.kind, pi p1.param]] 0 0))), (3, .one (.pv (.rp [(qa1385 p2)] 0 0))), (4, .one (.pt 0 0 0 0)), (75, vb x4)] [.box qa1386] := fun x4 h => hK37 h (uC (uR .ret xF) (uQ (kS Tryz.f73 [1,1,1,1,1,1,1,1,0,0] 2) fun K42 hK42 => have hJ5 : ∀ (x5 : Bool), ref3_TransformType_j5 p2 x5 = some r → K42.p [(3, .one (.pv (.rp [(qa1385 p2)] 0 0))), (4, .one (.pt 0 0 0 0)), (84, vb x5)] [.box qa1386] := fun x5 h => hK42 h (uC (uR .ret xF) (uR .ret xF)); (uC (uJ (hJ5 true)) (uJ (hJ5 (decide ((4 : Int) ≤ p1.kind))))))); (uC (uJ (hJ4 (p2.kind != (5 : Int)))) (uJ (hJ4 false))))); (uC (uC (uC (uJ (hJ3 (p2.kind != (4 : Int)))) (uJ (hJ3 false))) (uJ (hJ3 false))) (uJ (hJ3 false))))))); (uC (uP (c_ref3_within _ _ _) fun r3 _ => (uC (uJ (hJ2 true)) (uC (uJ (hJ2 (p1.param != (0 : Int)))) (uJ (hJ2 false))))) (uC (uJ (hJ2 (p1.param != (0 : Int)))) (uJ (hJ2 false))))); (uC (uJ (hJ1 true)) (uJ (hJ1 (p1.kind == (3 : Int))))))))))

def ref3_suits_j1 (rec1 : Int → Option Int) (x1 : Int) : Option Int :=
    rec1 (IntKind.i64.wrap (x1 + (1 : Int)))

def ref3_suits_l2 (rec1 : Int → Option Int) (p1 : GSpec) (x1 : Int) (e1 : GSpecField) : Nat → Int → Option Int
  | 0, _ => none
  | k2 + 1, x2 =>
    ift (decide (x2 < x1))
      (bnd (at? p1.fields x2) fun e2 =>
       bnd (some ((e2.source == e1.source) && (((e2.transform.kind == e1.transform.kind) && ((e2.transform.param == e1.transform.param) && true)) && true))) fun y1 =>
       ift y1
         (some (5 : Int))
         ((ref3_suits_l2 rec1 p1 x1 e1 k2) (IntKind.i64.wrap (x2 + (1 : Int)))))
      (ref3_suits_j1 rec1 x1)

def ref3_suits_j2 : Option Int :=
    some (0 : Int)

def ref3_suits_l1 (p1 : GSpec) (p2 : (List GField)) : Nat → Int → Option Int
  | 0, _ => none
  | k1 + 1, x1 =>
    ift (decide (x1 < (p1.fields.length : Int)))
      (bnd (at? p1.fields x1) fun e1 =>
       bnd (ref3_Top p2 e1.source) fun r1 =>
       ift (!r1.2)
         (some (9 : Int))
         (bnd (ref3_TransformType e1.transform r1.1.type) fun r2 =>
          ift (r2.2 != (0 : Int))
            (some r2.2)
            (ref3_suits_l2 (ref3_suits_l1 p1 p2 k1) p1 x1 e1 BIG (0 : Int))))
      (ref3_suits_j2)

def ref3_suits (p1 : GSpec) (p2 : (List GField)) : Option Int :=
    ift (decide ((4 : Int) < (p1.fields.length : Int)))
      (some (7 : Int))
      (ref3_suits_l1 p1 p2 BIG (0 : Int))

abbrev qa1396 (p1 : GSpec) (p2 : (List GField)) (x1 : Int) : Fr := [(1, vl eField p2), (2, .one (.pv (.rp [[.ro (eSpecField.els p1.fields)]] 0 0))), (17, vl eSpecField p1.fields), (18, vi (p1.fields.length : Int)), (19, vi x1)]

theorem c_ref3_suits (p1 : GSpec) (p2 : (List GField)) : CT Tryz.prog 39 [.ag [cl eSpecField p1.fields], vl eField p2] (ref3_suits p1 p2) vi :=
  uFn 57 [6, 7, 9] Tryz.f39 fun r => (uN eSpecField p1.fields (uC (uR .ret xF) (uQ (kS Tryz.f39 [1,1,0] 1) fun K6 hK6 => have hJ2 : ∀ (_ : Unit), ref3_suits_j2 = some r → K6.p [] [] := fun _ h => hK6 h (uR .ret xF); (uN eSpecField p1.fields (uO (cd Tryz.f39 [1,1,0,1,0,0]) (kS Tryz.f39 [1,1,0,1,0] 1) fun R1 b1 => have hL1 : ∀ (k1 : Nat) (x1 : Int), ref3_suits_l1 p1 p2 k1 x1 = some r → (R1 k1).p (qa1396 p1 p2 x1) [] := by intro k1; induction k1 with | zero => intro x1 h; exact uE0 (ref3_suits_l1.eq_1 ..) h | succ k1 ih1 => intro x1 h; exact b1 h (uU (ref3_suits_l1.eq_2 ..) (uC (uQ (kS Tryz.f39 [1,1,0,1,0,0,1,1,0] 1) fun K11 hK11 => have hJ1 : ∀ (_ : Unit), ref3_suits_j1 (ref3_suits_l1 p1 p2 k1) x1 = some r → K11.p (qa1396 p1 p2 x1) [] := fun _ h => hK11 h (uJ (ih1 (IntKind.i64.wrap (x1 + (1 : Int))))); (uL eSpecField fun e1 a13 => (uP (c_ref3_Top _ _) fun r1 _ => (uC (uR .ret (xN (xN (xN xF)))) (uP (c_ref3_TransformType _ _) fun r2 _ => (uC (uR .ret (xN (xN (xN xF)))) (uO (cd Tryz.f39 [1,1,0,1,0,0,1,1,0,0,1,1,1,1,1,0,0]) (kS Tryz.f39 [1,1,0,1,0,0,1,1,0,0,1,1,1,1,1,0] 2) fun R2 b2 => have hL2 : ∀ (k2 : Nat) (x2 : Int), ref3_suits_l2 (ref3_suits_l1 p1 p2 k1) p1 x1 e1 k2 x2 = some r → (R2 k2).p [(1, vl eField p2), (2, .one (.pv (.rp [[.ro (eSpecField.els p1.fields)]] 0 0))), (5, vi x1), (6, .one (.pt 0 0 0 0)), (11, vi x2), (17, vl eSpecField p1.fields), (18, vi (p1.fields.length : Int)), (19, vi x1)] [.box [ci e1.source, ci e1.transform.kind, ci e1.transform.param], .dead, .dead] := by intro k2; induction k2 with | zero => intro x2 h; exact uE0 (ref3_suits_l2.eq_1 ..) h | succ k2 ih2 => intro x2 h; exact b2 h (uU (ref3_suits_l2.eq_2 ..) (uC (uDr 6 (uL eSpecField fun e2 a32 => (uY 55 vb fun y1 => (uC (uR .ret (xN (xN (xN (xN xF))))) (uJ (ih2 (IntKind.i64.wrap (x2 + (1 : Int))))))))) (uR (.exit 2) (xM (uJ (hJ1 ()))))))
 uE (hL2 BIG (0 : Int))))))))) (uR (.exit 0) (xM (uJ (hJ2 ()))))))
 uE (hL1 BIG (0 : Int)))))))

def ref1_order (p1 : Int) (p2 : Int) : Option Int :=
    ift (decide (p1 < p2))
      (some (-1 : Int))
      (ift (decide (p2 < p1))
         (some (1 : Int))
         (some (0 : Int)))


theorem c_ref1_order (p1 : Int) (p2 : Int) : CT Tryz.prog 145 [vi p1, vi p2] (ref1_order p1 p2) vi :=
  uFn 11 [] Tryz.f145 fun r => (uC (uR .ret xF) (uC (uR .ret xF) (uR .ret xF)))

def ref1_wideOf_j1 (rec1 : List Int → Int → Option RWide) (l1 : List Int) (x1 : Int) (x2 : Int) : Option RWide :=
    grd (l1.length + 1 ≤ 4294967296) <|
    rec1 (l1 ++ [x2]) (IntKind.i64.wrap (x1.tdiv (10 : Int)))

def ref1_wideOf_j2 (p1 : Int) (l2 : List Int) : Option RWide :=
    some (RWide.mk (decide (p1 < (0 : Int))) l2)

def ref1_wideOf_l1 (p1 : Int) : Nat → List Int → Int → Option RWide
  | 0, _, _ => none
  | k1 + 1, l1, x1 =>
    ift (x1 != (0 : Int))
      (ift (decide ((x1.tmod (10 : Int)) < (0 : Int)))
         (ref1_wideOf_j1 (ref1_wideOf_l1 p1 k1) l1 x1 (IntKind.i64.wrap (0 - (x1.tmod (10 : Int)))))
         (ref1_wideOf_j1 (ref1_wideOf_l1 p1 k1) l1 x1 (x1.tmod (10 : Int))))
      (ref1_wideOf_j2 p1 l1)

def ref1_wideOf (p1 : Int) : Option RWide :=
    ref1_wideOf_l1 p1 BIG [] p1

abbrev qa1464 : List CV := [cb false, .pv (.s (.slice none 0 0))]

theorem c_ref1_wideOf (p1 : Int) : CT Tryz.prog 200 [vi p1] (ref1_wideOf p1) (fun r => .ag [cb r.below, cl eI r.d]) :=
  uFn 25 [2] Tryz.f200 fun r => (uQ (kS Tryz.f200 [1,1,0] 1) fun K3 hK3 => have hJ2 : ∀ (l2 : List Int), ref1_wideOf_j2 p1 l2 = some r → K3.p [(0, vi p1), (2, .one (.pt 0 0 0 0)), (3, .one (.sl 1 1 0 l2.length))] [.box qa1464, .arr 1 (eI.els l2)] := fun l2 h => hK3 h (uKl eI l2 1 [] (uR .ret xF)); (uCv (.li 3 1) (uO (cd Tryz.f200 [1,1,0,1,0,0]) (kS Tryz.f200 [1,1,0,1,0] 1) fun R1 b1 => have hL1 : ∀ (k1 : Nat) (l1 : List Int) (x1 : Int), ref1_wideOf_l1 p1 k1 l1 x1 = some r → (R1 k1).p [(0, vi p1), (2, .one (.pt 0 0 0 0)), (3, .one (.sl 1 1 0 l1.length)), (4, vi x1)] [.box qa1464, .arr 1 (eI.els l1)] := by intro k1; induction k1 with | zero => intro l1 x1 h; exact uE0 (ref1_wideOf_l1.eq_1 ..) h | succ k1 ih1 => intro l1 x1 h; exact b1 h (uU (ref1_wideOf_l1.eq_2 ..) (uC (uQ (kS Tryz.f200 [1,1,0,1,0,0,1,0,0,1,0] 3) fun K10 hK10 => have hJ1 : ∀ (x2 : Int), ref1_wideOf_j1 (ref1_wideOf_l1 p1 k1) l1 x1 x2 = some r → K10.p [(0, vi p1), (2, .one (.pt 0 0 0 0)), (3, .one (.sl 1 1 0 l1.length)), (4, vi x1), (5, vi x2)] [.box qa1464, .arr 1 (eI.els l1)] := fun x2 h => hK10 h (uAp eI 1 [x2] (uJ (ih1 (l1 ++ [x2]) (IntKind.i64.wrap (x1.tdiv (10 : Int)))))); (uC (uJ (hJ1 (IntKind.i64.wrap (0 - (x1.tmod (10 : Int)))))) (uJ (hJ1 (x1.tmod (10 : Int)))))) (uR (.exit 0) (xM (uJ (hJ2 l1))))))
 uE (hL1 BIG [] p1))))

def ref1_tens (p1 : RWide) (p2 : Int) : Option RWide :=
    ift ((p1.d.length : Int) == (0 : Int))
      (some p1)
      (grd (0 ≤ p2 ∧ p2 ≤ p2 ∧ p2 ≤ 4294967296) <|
       grd ((List.replicate p2.toNat (0 : Int)).length + p1.d.length ≤ 4294967296) <|
       some (RWide.mk p1.below ((List.replicate p2.toNat (0 : Int)) ++ p1.d)))


theorem c_ref1_tens (p1 : RWide) (p2 : Int) : CT Tryz.prog 199 [.ag [cb p1.below, cl eI p1.d], vi p2] (ref1_tens p1 p2) (fun r => .ag [cb r.below, cl eI r.d]) :=
  uFn 18 [4] Tryz.f199 fun r => (uN eI p1.d (uC (uR .ret xF) (uGr 7 1 [1,2] (uMk eI (0 : Int) (uAp (L := p2.toNat) (hL := by simp) eI 1 p1.d (uKl eI ((List.replicate p2.toNat (0 : Int)) ++ p1.d) 1 [] (uR .ret xF)))))))

def ref1_twelve (p1 : GValue) : Option RWide :=
    bnd (ref1_wideOf p1.n) fun r1 =>
    bnd (ref1_tens r1 (IntKind.i64.wrap ((12 : Int) - p1.scale))) fun r2 =>
    some r2


theorem c_ref1_twelve (p1 : GValue) : CT Tryz.prog 178 [.ag [ci p1.kind, ci p1.n, ci p1.scale, cst p1.s, cl eValue p1.items]] (ref1_twelve p1) (fun r => .ag [cb r.below, cl eI r.d]) :=
  uFn 10 [2] Tryz.f178 fun r => (uDr 6 (uP (c_ref1_wideOf _) fun r1 _ => (uP (c_ref1_tens _ _) fun r2 _ => (uR .ret xF))))

def ref1_most_j1 : Option Int :=
    some (0 : Int)

def ref1_most_l1 (p1 : (List Int)) (p2 : (List Int)) : Nat → Int → Option Int
  | 0, _ => none
  | k1 + 1, x1 =>
    ift (decide ((0 : Int) ≤ x1))
      (bnd (at? p1 x1) fun e1 =>
       bnd (at? p2 x1) fun e2 =>
       ift (e1 != e2)
         (some (IntKind.i64.wrap (e1 - e2)))
         ((ref1_most_l1 p1 p2 k1) (IntKind.i64.wrap (x1 - (1 : Int)))))
      (ref1_most_j1)

def ref1_most (p1 : (List Int)) (p2 : (List Int)) : Option Int :=
    ift ((p1.length : Int) != (p2.length : Int))
      (some (IntKind.i64.wrap ((p1.length : Int) - (p2.length : Int))))
      (ref1_most_l1 p1 p2 BIG (IntKind.i64.wrap ((p1.length : Int) - (1 : Int))))


theorem c_ref1_most (p1 : (List Int)) (p2 : (List Int)) : CT Tryz.prog 198 [vl eI p1, vl eI p2] (ref1_most p1 p2) vi :=
  uFn 41 [] Tryz.f198 fun r => (uN eI p1 (uN eI p2 (uC (uN eI p1 (uN eI p2 (uR .ret xF))) (uQ (kS Tryz.f198 [1,1,0] 1) fun K6 hK6 => have hJ1 : ∀ (_ : Unit), ref1_most_j1 = some r → K6.p [] [] := fun _ h => hK6 h (uR .ret xF); (uN eI p1 (uO (cd Tryz.f198 [1,1,0,1,0,0]) (kS Tryz.f198 [1,1,0,1,0] 1) fun R1 b1 => have hL1 : ∀ (k1 : Nat) (x1 : Int), ref1_most_l1 p1 p2 k1 x1 = some r → (R1 k1).p [(0, vl eI p1), (1, vl eI p2), (5, vi x1)] [] := by intro k1; induction k1 with | zero => intro x1 h; exact uE0 (ref1_most_l1.eq_1 ..) h | succ k1 ih1 => intro x1 h; exact b1 h (uU (ref1_most_l1.eq_2 ..) (uC (uDr 8 (uL eI fun e1 a13 => (uL eI fun e2 a14 => (uC (uDr 8 (uM eI a13 (uM eI a14 (uR .ret (xN (xN xF)))))) (uJ (ih1 (IntKind.i64.wrap (x1 - (1 : Int))))))))) (uR (.exit 0) (xM (uJ (hJ1 ()))))))
 uE (hL1 BIG (IntKind.i64.wrap ((p1.length : Int) - (1 : Int))))))))))

def ref1_compareWide_j1 (x1 : Int) : Option Int :=
    ift (decide (x1 < (0 : Int)))
      (some (-1 : Int))
      (ift (decide ((0 : Int) < x1))
         (some (1 : Int))
         (some (0 : Int)))

def ref1_compareWide (p1 : RWide) (p2 : RWide) : Option Int :=
    ift (!(p1.below == p2.below))
      (ift p1.below
         (some (-1 : Int))
         (some (1 : Int)))
      (bnd (ref1_most p1.d p2.d) fun r1 =>
       ift p1.below
         (ref1_compareWide_j1 (IntKind.i64.wrap (0 - r1)))
         (ref1_compareWide_j1 r1))


theorem c_ref1_compareWide (p1 : RWide) (p2 : RWide) : CT Tryz.prog 177 [.ag [cb p1.below, cl eI p1.d], .ag [cb p2.below, cl eI p2.d]] (ref1_compareWide p1 p2) vi :=
  uFn 26 [] Tryz.f177 fun r => (uC (uC (uR .ret xF) (uR .ret xF)) (uP (c_ref1_most _ _) fun r1 _ => (uQ (kS Tryz.f177 [1,1,1,0] 1) fun K12 hK12 => have hJ1 : ∀ (x1 : Int), ref1_compareWide_j1 x1 = some r → K12.p [(5, vi x1)] [] := fun x1 h => hK12 h (uC (uR .ret xF) (uC (uR .ret xF) (uR .ret xF))); (uC (uJ (hJ1 (IntKind.i64.wrap (0 - r1)))) (uJ (hJ1 r1))))))

def ref1_decimals (p1 : GValue) (p2 : GValue) : Option Int :=
    bnd (ref1_within p1.scale (0 : Int) (12 : Int)) fun r1 =>
    bnd (ref1_within p2.scale (0 : Int) (12 : Int)) fun r2 =>
    ift (!(r1 == r2))
      (ift r1
         (some (-1 : Int))
         (some (1 : Int)))
      (ift r1
         (bnd (ref1_twelve p1) fun r3 =>
          bnd (ref1_twelve p2) fun r4 =>
          bnd (ref1_compareWide r3 r4) fun r5 =>
          ift (r5 != (0 : Int))
            (some r5)
            (bnd (ref1_order p1.scale p2.scale) fun r6 =>
             some r6))
         (ift (p1.n != p2.n)
            (bnd (ref1_order p1.n p2.n) fun r7 =>
             some r7)
            (bnd (ref1_order p1.scale p2.scale) fun r8 =>
             some r8)))


theorem c_ref1_decimals (p1 : GValue) (p2 : GValue) : CT Tryz.prog 146 [.ag [ci p1.kind, ci p1.n, ci p1.scale, cst p1.s, cl eValue p1.items], .ag [ci p2.kind, ci p2.n, ci p2.scale, cst p2.s, cl eValue p2.items]] (ref1_decimals p1 p2) vi :=
  uFn 47 [] Tryz.f146 fun r => (uDr 5 (uP (c_ref1_within _ _ _) fun r1 _ => (uP (c_ref1_within _ _ _) fun r2 _ => (uC (uC (uR .ret xF) (uR .ret xF)) (uC (uDr 3 (uP (c_ref1_twelve _) fun r3 _ => (uP (c_ref1_twelve _) fun r4 _ => (uP (c_ref1_compareWide _ _) fun r5 _ => (uC (uR .ret xF) (uP (c_ref1_order _ _) fun r6 _ => (uR .ret xF))))))) (uC (uP (c_ref1_order _ _) fun r7 _ => (uR .ret xF)) (uP (c_ref1_order _ _) fun r8 _ => (uR .ret xF))))))))

def ref1_texts_j2 (p1 : ByteArray) (p2 : ByteArray) : Option Int :=
    bnd (ref1_order (p1.size : Int) (p2.size : Int)) fun r2 =>
    some r2

def ref1_texts_j1 (rec1 : Int → Option Int) (p1 : ByteArray) (p2 : ByteArray) (x1 : Int) (x2 : Bool) : Option Int :=
    ift x2
      (grd (0 ≤ x1 ∧ x1 < (p1.size : Int)) <|
       grd (0 ≤ x1 ∧ x1 < (p2.size : Int)) <|
       bnd (some (((p1.data.toList.getD x1.toNat 0).toNat : Int) != ((p2.data.toList.getD x1.toNat 0).toNat : Int))) fun y1 =>
       ift y1
         (grd (0 ≤ x1 ∧ x1 < (p1.size : Int)) <|
          grd (0 ≤ x1 ∧ x1 < (p2.size : Int)) <|
          bnd (ref1_order (IntKind.i64.wrap ((p1.data.toList.getD x1.toNat 0).toNat : Int)) (IntKind.i64.wrap ((p2.data.toList.getD x1.toNat 0).toNat : Int))) fun r1 =>
          some r1)
         (rec1 (IntKind.i64.wrap (x1 + (1 : Int)))))
      (ref1_texts_j2 p1 p2)

def ref1_texts_l1 (p1 : ByteArray) (p2 : ByteArray) : Nat → Int → Option Int
  | 0, _ => none
  | k1 + 1, x1 =>
    ift (decide (x1 < (p1.size : Int)))
      (ref1_texts_j1 (ref1_texts_l1 p1 p2 k1) p1 p2 x1 (decide (x1 < (p2.size : Int))))
      (ref1_texts_j1 (ref1_texts_l1 p1 p2 k1) p1 p2 x1 false)

def ref1_texts (p1 : ByteArray) (p2 : ByteArray) : Option Int :=
    ref1_texts_l1 p1 p2 BIG (0 : Int)


theorem c_ref1_texts (p1 : ByteArray) (p2 : ByteArray) : CT Tryz.prog 147 [vs p1, vs p2] (ref1_texts p1 p2) vi :=
  uFn 39 [] Tryz.f147 fun r => (uQ (kS Tryz.f147 [1,0] 1) fun K2 hK2 => have hJ2 : ∀ (_ : Unit), ref1_texts_j2 p1 p2 = some r → K2.p [(0, vs p1), (1, vs p2)] [] := fun _ h => hK2 h (uP (c_ref1_order _ _) fun r2 _ => (uR .ret xF)); (uO (cd Tryz.f147 [1,0,1,0,0]) (kS Tryz.f147 [1,0,1,0] 1) fun R1 b1 => have hL1 : ∀ (k1 : Nat) (x1 : Int), ref1_texts_l1 p1 p2 k1 x1 = some r → (R1 k1).p [(0, vs p1), (1, vs p2), (5, vi x1)] [] := by intro k1; induction k1 with | zero => intro x1 h; exact uE0 (ref1_texts_l1.eq_1 ..) h | succ k1 ih1 => intro x1 h; exact b1 h (uU (ref1_texts_l1.eq_2 ..) (uQ (kS Tryz.f147 [1,0,1,0,0,0,0] 2) fun K5 hK5 => have hJ1 : ∀ (x2 : Bool), ref1_texts_j1 (ref1_texts_l1 p1 p2 k1) p1 p2 x1 x2 = some r → K5.p [(0, vs p1), (1, vs p2), (5, vi x1), (15, vb x2)] [] := fun x2 h => hK5 h (uC (uDr 6 (uG (uG (uY 24 vb fun y1 => (uC (uDr 8 (uG (uG (uP (c_ref1_order _ _) fun r1 _ => (uR .ret (xN (xN xF))))))) (uJ (ih1 (IntKind.i64.wrap (x1 + (1 : Int)))))))))) (uR (.exit 0) (xM (uJ (hJ2 ()))))); (uC (uJ (hJ1 (decide (x1 < (p2.size : Int))))) (uJ (hJ1 false)))))
 uE (hL1 BIG (0 : Int))))

def ref1_Compare_j4 (p1 : GValue) (p2 : GValue) : Option Int :=
    bnd (ref1_order (p1.items.length : Int) (p2.items.length : Int)) fun r7 =>
    some r7

def ref1_Compare_j3 (rec1 : Int → Option Int) (q_ref1_Compare : GValue → GValue → Option Int) (p1 : GValue) (p2 : GValue) (x2 : Int) (x3 : Bool) : Option Int :=
    ift x3
      (bnd (at? p1.items x2) fun e1 =>
       bnd (at? p2.items x2) fun e2 =>
       bnd (q_ref1_Compare e1 e2) fun r6 =>
       ift (r6 != (0 : Int))
         (some r6)
         (rec1 (IntKind.i64.wrap (x2 + (1 : Int)))))
      (ref1_Compare_j4 p1 p2)

def ref1_Compare_l1 (q_ref1_Compare : GValue → GValue → Option Int) (p1 : GValue) (p2 : GValue) : Nat → Int → Option Int
  | 0, _ => none
  | k1 + 1, x2 =>
    ift (decide (x2 < (p1.items.length : Int)))
      (ref1_Compare_j3 (ref1_Compare_l1 q_ref1_Compare p1 p2 k1) q_ref1_Compare p1 p2 x2 (decide (x2 < (p2.items.length : Int))))
      (ref1_Compare_j3 (ref1_Compare_l1 q_ref1_Compare p1 p2 k1) q_ref1_Compare p1 p2 x2 false)

def ref1_Compare_j2 (q_ref1_Compare : GValue → GValue → Option Int) (p1 : GValue) (p2 : GValue) (x1 : Bool) : Option Int :=
    ift x1
      (bnd (ref1_order p1.n p2.n) fun r3 =>
       some r3)
      (ift (p1.scale != p2.scale)
         (bnd (ref1_order p1.scale p2.scale) fun r4 =>
          some r4)
         (bnd (ref1_texts p1.s p2.s) fun r5 =>
          ift (r5 != (0 : Int))
            (some r5)
            (ref1_Compare_l1 q_ref1_Compare p1 p2 BIG (0 : Int))))

def ref1_Compare_j1 (q_ref1_Compare : GValue → GValue → Option Int) (p1 : GValue) (p2 : GValue) : Option Int :=
    ift (p1.n != p2.n)
      (ref1_Compare_j2 q_ref1_Compare p1 p2 (p1.kind != (3 : Int)))
      (ref1_Compare_j2 q_ref1_Compare p1 p2 false)

def ref1_Compare : Nat → GValue → GValue → Option Int
  | 0, _, _ => none
  | k0 + 1, p1, p2 =>
    ift (!((p1.kind == (0 : Int)) == (p2.kind == (0 : Int))))
      (ift (p1.kind == (0 : Int))
         (some (1 : Int))
         (some (-1 : Int)))
      (ift (p1.kind == (0 : Int))
         (some (0 : Int))
         (ift (p1.kind != p2.kind)
            (bnd (ref1_order p1.kind p2.kind) fun r1 =>
             some r1)
            (ift (p1.kind == (3 : Int))
               (bnd (ref1_decimals p1 p2) fun r2 =>
                ift (r2 != (0 : Int))
                  (some r2)
                  (ref1_Compare_j1 (ref1_Compare k0) p1 p2))
               (ref1_Compare_j1 (ref1_Compare k0) p1 p2))))

abbrev qa1484 (p1 : GValue) : List PV := [pi p1.kind, pi p1.n, pi p1.scale, .s (.string p1.s), .ro (eValue.els p1.items)]
abbrev qa1485 (p2 : GValue) : List PV := [pi p2.kind, pi p2.n, pi p2.scale, .s (.string p2.s), .ro (eValue.els p2.items)]

theorem c_ref1_Compare : ∀ (k0 : Nat) (p1 : GValue) (p2 : GValue), CT Tryz.prog 107 [.ag [ci p1.kind, ci p1.n, ci p1.scale, cst p1.s, cl eValue p1.items], .ag [ci p2.kind, ci p2.n, ci p2.scale, cst p2.s, cl eValue p2.items]] (ref1_Compare k0 p1 p2) vi
  | 0, _, _ => uF0 (ref1_Compare.eq_1 ..)
  | k0 + 1, p1, p2 => uFn 109 [] Tryz.f107 fun r => (uU (ref1_Compare.eq_2 ..) (uC (uC (uR .ret xF) (uR .ret xF)) (uC (uR .ret xF) (uC (uP (c_ref1_order _ _) fun r1 _ => (uR .ret xF)) (uQ (kS Tryz.f107 [1,1,1,1,0] 1) fun K19 hK19 => have hJ1 : ∀ (_ : Unit), ref1_Compare_j1 (ref1_Compare k0) p1 p2 = some r → K19.p [(2, .one (.pv (.rp [(qa1484 p1)] 0 0))), (3, .one (.pv (.rp [(qa1485 p2)] 0 0)))] [] := fun _ h => hK19 h (uQ (kS Tryz.f107 [1,1,1,1,1,0,0] 2) fun K28 hK28 => have hJ2 : ∀ (x1 : Bool), ref1_Compare_j2 (ref1_Compare k0) p1 p2 x1 = some r → K28.p [(2, .one (.pv (.rp [(qa1484 p1)] 0 0))), (3, .one (.pv (.rp [(qa1485 p2)] 0 0))), (50, vb x1)] [] := fun x1 h => hK28 h (uC (uP (c_ref1_order _ _) fun r3 _ => (uR .ret xF)) (uC (uP (c_ref1_order _ _) fun r4 _ => (uR .ret xF)) (uP (c_ref1_texts _ _) fun r5 _ => (uC (uR .ret xF) (uQ (kS Tryz.f107 [1,1,1,1,1,1,1,1,0] 1) fun K44 hK44 => have hJ4 : ∀ (_ : Unit), ref1_Compare_j4 p1 p2 = some r → K44.p [(2, .one (.pv (.rp [(qa1484 p1)] 0 0))), (3, .one (.pv (.rp [(qa1485 p2)] 0 0)))] [] := fun _ h => hK44 h (uN eValue p1.items (uN eValue p2.items (uP (c_ref1_order _ _) fun r7 _ => (uR .ret xF)))); (uO (cd Tryz.f107 [1,1,1,1,1,1,1,1,0,1,0,0]) (kS Tryz.f107 [1,1,1,1,1,1,1,1,0,1,0] 1) fun R1 b1 => have hL1 : ∀ (k1 : Nat) (x2 : Int), ref1_Compare_l1 (ref1_Compare k0) p1 p2 k1 x2 = some r → (R1 k1).p [(2, .one (.pv (.rp [(qa1484 p1)] 0 0))), (3, .one (.pv (.rp [(qa1485 p2)] 0 0))), (7, vi x2)] [] := by intro k1; induction k1 with | zero => intro x2 h; exact uE0 (ref1_Compare_l1.eq_1 ..) h | succ k1 ih1 => intro x2 h; exact b1 h (uU (ref1_Compare_l1.eq_2 ..) (uQ (kS Tryz.f107 [1,1,1,1,1,1,1,1,0,1,0,0,0,0] 2) fun K47 hK47 => have hJ3 : ∀ (x3 : Bool), ref1_Compare_j3 (ref1_Compare_l1 (ref1_Compare k0) p1 p2 k1) (ref1_Compare k0) p1 p2 x2 x3 = some r → K47.p [(2, .one (.pv (.rp [(qa1484 p1)] 0 0))), (3, .one (.pv (.rp [(qa1485 p2)] 0 0))), (7, vi x2), (85, vb x3)] [] := fun x3 h => hK47 h (uC (uDr 10 (uL eValue fun e1 a52 => (uL eValue fun e2 a53 => (uP (c_ref1_Compare k0 _ _) fun r6 _ => (uC (uR .ret (xN (xN xF))) (uJ (ih1 (IntKind.i64.wrap (x2 + (1 : Int)))))))))) (uR (.exit 0) (xM (uJ (hJ4 ()))))); (uN eValue p1.items (uC (uN eValue p2.items (uJ (hJ3 (decide (x2 < (p2.items.length : Int)))))) (uJ (hJ3 false))))))
 uE (hL1 BIG (0 : Int)))))))); (uC (uJ (hJ2 (p1.kind != (3 : Int)))) (uJ (hJ2 false)))); (uC (uP (c_ref1_decimals _ _) fun r2 _ => (uC (uR .ret (xN xF)) (uJ (hJ1 ())))) (uJ (hJ1 ()))))))))

def ref1_CompareRows (p1 : (List GValue)) (p2 : (List GValue)) : Option Int :=
    bnd (ref1_Compare BIG (GValue.mk (6 : Int) (0 : Int) (0 : Int) ByteArray.empty p1) (GValue.mk (6 : Int) (0 : Int) (0 : Int) ByteArray.empty p2)) fun r1 =>
    some r1


theorem c_ref1_CompareRows (p1 : (List GValue)) (p2 : (List GValue)) : CT Tryz.prog 115 [vl eValue p1, vl eValue p2] (ref1_CompareRows p1 p2) vi :=
  uFn 10 [] Tryz.f115 fun r => (uP (c_ref1_Compare BIG _ _) fun r1 _ => (uR .ret xF))

def ref3_exactly_j2 : Option Bool :=
    some true

def ref3_exactly_l1 (q_ref3_exactly : GValue → GValue → Option Bool) (p1 : GValue) (p2 : GValue) : Nat → Int → Option Bool
  | 0, _ => none
  | k1 + 1, x2 =>
    ift (decide (x2 < (p1.items.length : Int)))
      (bnd (at? p1.items x2) fun e1 =>
       bnd (at? p2.items x2) fun e2 =>
       bnd (q_ref3_exactly e1 e2) fun r1 =>
       ift (!r1)
         (some false)
         ((ref3_exactly_l1 q_ref3_exactly p1 p2 k1) (IntKind.i64.wrap (x2 + (1 : Int)))))
      (ref3_exactly_j2)

def ref3_exactly_j1 (q_ref3_exactly : GValue → GValue → Option Bool) (p1 : GValue) (p2 : GValue) (x1 : Bool) : Option Bool :=
    ift x1
      (some false)
      (ref3_exactly_l1 q_ref3_exactly p1 p2 BIG (0 : Int))

def ref3_exactly : Nat → GValue → GValue → Option Bool
  | 0, _, _ => none
  | k0 + 1, p1, p2 =>
    ift (p1.kind != p2.kind)
      (ref3_exactly_j1 (ref3_exactly k0) p1 p2 true)
      (ift (p1.n != p2.n)
         (ref3_exactly_j1 (ref3_exactly k0) p1 p2 true)
         (ift (p1.scale != p2.scale)
            (ref3_exactly_j1 (ref3_exactly k0) p1 p2 true)
            (ift (!(p1.s.toList == p2.s.toList))
               (ref3_exactly_j1 (ref3_exactly k0) p1 p2 true)
               (ref3_exactly_j1 (ref3_exactly k0) p1 p2 ((p1.items.length : Int) != (p2.items.length : Int))))))


theorem c_ref3_exactly : ∀ (k0 : Nat) (p1 : GValue) (p2 : GValue), CT Tryz.prog 66 [.ag [ci p1.kind, ci p1.n, ci p1.scale, cst p1.s, cl eValue p1.items], .ag [ci p2.kind, ci p2.n, ci p2.scale, cst p2.s, cl eValue p2.items]] (ref3_exactly k0 p1 p2) vb
  | 0, _, _ => uF0 (ref3_exactly.eq_1 ..)
  | k0 + 1, p1, p2 => uFn 60 [] Tryz.f66 fun r => (uU (ref3_exactly.eq_2 ..) (uQ (kS Tryz.f66 [1,0,0] 2) fun K3 hK3 => have hJ1 : ∀ (x1 : Bool), ref3_exactly_j1 (ref3_exactly k0) p1 p2 x1 = some r → K3.p [(2, .one (.pv (.rp [[pi p1.kind, pi p1.n, pi p1.scale, .s (.string p1.s), .ro (eValue.els p1.items)]] 0 0))), (3, .one (.pv (.rp [[pi p2.kind, pi p2.n, pi p2.scale, .s (.string p2.s), .ro (eValue.els p2.items)]] 0 0))), (40, vb x1)] [] := fun x1 h => hK3 h (uC (uR .ret xF) (uQ (kS Tryz.f66 [1,1,0] 1) fun K10 hK10 => have hJ2 : ∀ (_ : Unit), ref3_exactly_j2 = some r → K10.p [] [] := fun _ h => hK10 h (uR .ret xF); (uN eValue p1.items (uO (cd Tryz.f66 [1,1,0,1,0,0]) (kS Tryz.f66 [1,1,0,1,0] 1) fun R1 b1 => have hL1 : ∀ (k1 : Nat) (x2 : Int), ref3_exactly_l1 (ref3_exactly k0) p1 p2 k1 x2 = some r → (R1 k1).p [(2, .one (.pv (.rp [[pi p1.kind, pi p1.n, pi p1.scale, .s (.string p1.s), .ro (eValue.els p1.items)]] 0 0))), (3, .one (.pv (.rp [[pi p2.kind, pi p2.n, pi p2.scale, .s (.string p2.s), .ro (eValue.els p2.items)]] 0 0))), (43, vi (p1.items.length : Int)), (44, vi x2)] [] := by intro k1; induction k1 with | zero => intro x2 h; exact uE0 (ref3_exactly_l1.eq_1 ..) h | succ k1 ih1 => intro x2 h; exact b1 h (uU (ref3_exactly_l1.eq_2 ..) (uC (uDr 10 (uL eValue fun e1 a18 => (uL eValue fun e2 a19 => (uP (c_ref3_exactly k0 _ _) fun r1 _ => (uC (uR .ret (xN (xN xF))) (uJ (ih1 (IntKind.i64.wrap (x2 + (1 : Int)))))))))) (uR (.exit 0) (xM (uJ (hJ2 ()))))))
 uE (hL1 BIG (0 : Int)))))); (uC (uJ (hJ1 true)) (uC (uJ (hJ1 true)) (uC (uJ (hJ1 true)) (uC (uJ (hJ1 true)) (uN eValue p1.items (uN eValue p2.items (uJ (hJ1 ((p1.items.length : Int) != (p2.items.length : Int))))))))))))

def ref3_sameFile_j3 (rec2 : Int → Option Bool) (x3 : Int) (x4 : Bool) : Option Bool :=
    ift x4
      (some false)
      (rec2 (IntKind.i64.wrap (x3 + (1 : Int))))

def ref3_sameFile_j4 : Option Bool :=
    some true

def ref3_sameFile_l2 (p1 : GDataFile) (p2 : GDataFile) : Nat → Int → Option Bool
  | 0, _ => none
  | k2 + 1, x3 =>
    ift (decide (x3 < (p1.stats.length : Int)))
      (bnd (at? p1.stats x3) fun e3 =>
       bnd (at? p2.stats x3) fun e4 =>
       ift (e3.id != e4.id)
         (ref3_sameFile_j3 (ref3_sameFile_l2 p1 p2 k2) x3 true)
         (ift (e3.nulls != e4.nulls)
            (ref3_sameFile_j3 (ref3_sameFile_l2 p1 p2 k2) x3 true)
            (bnd (ref3_exactly BIG e3.min e4.min) fun r2 =>
             ift (!r2)
               (ref3_sameFile_j3 (ref3_sameFile_l2 p1 p2 k2) x3 true)
               (bnd (ref3_exactly BIG e3.max e4.max) fun r3 =>
                ref3_sameFile_j3 (ref3_sameFile_l2 p1 p2 k2) x3 (!r3)))))
      (ref3_sameFile_j4)

def ref3_sameFile_j2 (p1 : GDataFile) (p2 : GDataFile) : Option Bool :=
    ref3_sameFile_l2 p1 p2 BIG (0 : Int)

def ref3_sameFile_l1 (p1 : GDataFile) (p2 : GDataFile) : Nat → Int → Option Bool
  | 0, _ => none
  | k1 + 1, x2 =>
    ift (decide (x2 < (p1.part.length : Int)))
      (bnd (at? p1.part x2) fun e1 =>
       bnd (at? p2.part x2) fun e2 =>
       bnd (ref3_exactly BIG e1 e2) fun r1 =>
       ift (!r1)
         (some false)
         ((ref3_sameFile_l1 p1 p2 k1) (IntKind.i64.wrap (x2 + (1 : Int)))))
      (ref3_sameFile_j2 p1 p2)

def ref3_sameFile_j1 (p1 : GDataFile) (p2 : GDataFile) (x1 : Bool) : Option Bool :=
    ift x1
      (some false)
      (ref3_sameFile_l1 p1 p2 BIG (0 : Int))

def ref3_sameFile (p1 : GDataFile) (p2 : GDataFile) : Option Bool :=
    ift (!(p1.name.toList == p2.name.toList))
      (ref3_sameFile_j1 p1 p2 true)
      (ift (p1.schema != p2.schema)
         (ref3_sameFile_j1 p1 p2 true)
         (ift (p1.spec != p2.spec)
            (ref3_sameFile_j1 p1 p2 true)
            (ift (p1.rows != p2.rows)
               (ref3_sameFile_j1 p1 p2 true)
               (ift ((p1.part.length : Int) != (p2.part.length : Int))
                  (ref3_sameFile_j1 p1 p2 true)
                  (ref3_sameFile_j1 p1 p2 ((p1.stats.length : Int) != (p2.stats.length : Int)))))))

abbrev qa1570 (p1 : GDataFile) : List PV := [.s (.string p1.name), pi p1.schema, pi p1.spec, .ro (eValue.els p1.part), pi p1.rows, pi p1.seq, .ro (eStats.els p1.stats)]
abbrev qa1571 (p2 : GDataFile) : List PV := [.s (.string p2.name), pi p2.schema, pi p2.spec, .ro (eValue.els p2.part), pi p2.rows, pi p2.seq, .ro (eStats.els p2.stats)]

theorem c_ref3_sameFile (p1 : GDataFile) (p2 : GDataFile) : CT Tryz.prog 26 [.ag [cst p1.name, ci p1.schema, ci p1.spec, cl eValue p1.part, ci p1.rows, ci p1.seq, cl eStats p1.stats], .ag [cst p2.name, ci p2.schema, ci p2.spec, cl eValue p2.part, ci p2.rows, ci p2.seq, cl eStats p2.stats]] (ref3_sameFile p1 p2) vb :=
  uFn 117 [7, 8] Tryz.f26 fun r => (uQ (kS Tryz.f26 [1,0,0] 2) fun K3 hK3 => have hJ1 : ∀ (x1 : Bool), ref3_sameFile_j1 p1 p2 x1 = some r → K3.p [(2, .one (.pv (.rp [(qa1570 p1)] 0 0))), (3, .one (.pv (.rp [(qa1571 p2)] 0 0))), (52, vb x1)] [] := fun x1 h => hK3 h (uC (uR .ret xF) (uQ (kS Tryz.f26 [1,1,0] 1) fun K11 hK11 => have hJ2 : ∀ (_ : Unit), ref3_sameFile_j2 p1 p2 = some r → K11.p [(2, .one (.pv (.rp [(qa1570 p1)] 0 0))), (3, .one (.pv (.rp [(qa1571 p2)] 0 0)))] [] := fun _ h => hK11 h (uQ (kS Tryz.f26 [1,1,1,0] 1) fun K24 hK24 => have hJ4 : ∀ (_ : Unit), ref3_sameFile_j4 = some r → K24.p [] [] := fun _ h => hK24 h (uR .ret xF); (uN eStats p1.stats (uO (cd Tryz.f26 [1,1,1,0,1,0,0]) (kS Tryz.f26 [1,1,1,0,1,0] 1) fun R2 b2 => have hL2 : ∀ (k2 : Nat) (x3 : Int), ref3_sameFile_l2 p1 p2 k2 x3 = some r → (R2 k2).p [(2, .one (.pv (.rp [(qa1570 p1)] 0 0))), (3, .one (.pv (.rp [(qa1571 p2)] 0 0))), (74, vi (p1.stats.length : Int)), (75, vi x3)] [] := by intro k2; induction k2 with | zero => intro x3 h; exact uE0 (ref3_sameFile_l2.eq_1 ..) h | succ k2 ih2 => intro x3 h; exact b2 h (uU (ref3_sameFile_l2.eq_2 ..) (uC (uGr 13 2 [0,1,2] (uL eStats fun e3 a32 => (uL eStats fun e4 a33 => (uQ (kS Tryz.f26 [1,1,1,0,1,0,0,1,1,0,0,1,1,0] 3) fun K34 hK34 => have hJ3 : ∀ (x4 : Bool), ref3_sameFile_j3 (ref3_sameFile_l2 p1 p2 k2) x3 x4 = some r → K34.p [(2, .one (.pv (.rp [(qa1570 p1)] 0 0))), (3, .one (.pv (.rp [(qa1571 p2)] 0 0))), (74, vi (p1.stats.length : Int)), (75, vi x3), (115, vb x4)] [.dead, .dead] := fun x4 h => hK34 h (uC (uR .ret (xN (xN xF))) (uJ (ih2 (IntKind.i64.wrap (x3 + (1 : Int)))))); (uC (uJ (hJ3 true)) (uC (uJ (hJ3 true)) (uP (c_ref3_exactly BIG _ _) fun r2 _ => (uC (uJ (hJ3 true)) (uP (c_ref3_exactly BIG _ _) fun r3 _ => (uJ (hJ3 (!r3)))))))))))) (uR (.exit 2) (xM (uJ (hJ4 ()))))))
 uE (hL2 BIG (0 : Int))))); (uN eValue p1.part (uO (cd Tryz.f26 [1,1,0,1,0,0]) (kS Tryz.f26 [1,1,0,1,0] 1) fun R1 b1 => have hL1 : ∀ (k1 : Nat) (x2 : Int), ref3_sameFile_l1 p1 p2 k1 x2 = some r → (R1 k1).p [(2, .one (.pv (.rp [(qa1570 p1)] 0 0))), (3, .one (.pv (.rp [(qa1571 p2)] 0 0))), (55, vi (p1.part.length : Int)), (56, vi x2)] [] := by intro k1; induction k1 with | zero => intro x2 h; exact uE0 (ref3_sameFile_l1.eq_1 ..) h | succ k1 ih1 => intro x2 h; exact b1 h (uU (ref3_sameFile_l1.eq_2 ..) (uC (uDr 10 (uL eValue fun e1 a19 => (uL eValue fun e2 a20 => (uP (c_ref3_exactly BIG _ _) fun r1 _ => (uC (uR .ret (xN (xN xF))) (uJ (ih1 (IntKind.i64.wrap (x2 + (1 : Int)))))))))) (uR (.exit 0) (xM (uJ (hJ2 ()))))))
 uE (hL1 BIG (0 : Int)))))); (uC (uJ (hJ1 true)) (uC (uJ (hJ1 true)) (uC (uJ (hJ1 true)) (uC (uJ (hJ1 true)) (uN eValue p1.part (uN eValue p2.part (uC (uJ (hJ1 true)) (uN eStats p1.stats (uN eStats p2.stats (uJ (hJ1 ((p1.stats.length : Int) != (p2.stats.length : Int))))))))))))))

def ref3_New_t (p1 : (List GField)) (p2 : GSpec) : Option (GMeta × Int) :=
       bnd (table_newList p1) fun r2 =>
       bnd (table_newNext p1) fun r3 =>
       bnd (ref3_suits p2 r2) fun r4 =>
       ift (r4 != (0 : Int))
         (some ((GMeta.mk [] [] (0 : Int) (0 : Int) (0 : Int) (0 : Int) [] [] []), r4))
         (some ((GMeta.mk [r2] [p2] r3 (1 : Int) (1 : Int) (0 : Int) [] ([(GRef.mk (ByteArray.mk #[109, 97, 105, 110]) true (0 : Int))]) []), (0 : Int)))

def ref3_New (p1 : (List GField)) (p2 : GSpec) : Option (GMeta × Int) :=
    bnd (ref1_CheckType (GType.mk (7 : Int) (0 : Int) p1)) fun r1 =>
    ift (r1 != (0 : Int))
      (some ((GMeta.mk [] [] (0 : Int) (0 : Int) (0 : Int) (0 : Int) [] [] []), r1))
      (ref3_New_t p1 p2)


theorem c_ref3_New (p1 : (List GField)) (p2 : GSpec) : CT Tryz.prog 9 [vl eField p1, .ag [cl eSpecField p2.fields]] (ref3_New p1 p2) (fun r => .tp [.ag [cl (eL eField) r.1.schemas, cl eSpec r.1.specs, ci r.1.nextField, ci r.1.nextSeq, ci r.1.nextSnap, ci r.1.purges, cl eSnapshot r.1.snapshots, cl eRef r.1.refs, cl eProp r.1.props], vi r.2]) :=
  uFn 36 [4, 8] Tryz.f9 fun r => (uQ (kS Tryz.f9 [1,0] 1) fun K1 hK1 => have hJ1 : ref3_New_t p1 p2 = some r → K1.p (Rr.B (eSpecField.els p2.fields) [(0, vl eField p1)]) Rr.S2 := fun h => hK1 h (uPair9 (let r2 := (numL p1 1).1; let r3 := (numL p1 1).2; (uP (c_ref3_suits _ _) fun r4 _ => (uC (uR .ret xF) (uR .ret xF))))); (uP (c_ref1_CheckType _) fun r1 _ => (uC (uR .ret (xN xF)) (uJ hJ1))))

def ref3_sameFields_j1 (rec1 : Int → Option Bool) (x1 : Int) (x2 : Bool) : Option Bool :=
    ift x2
      (some false)
      (rec1 (IntKind.i64.wrap (x1 + (1 : Int))))

def ref3_sameFields_j2 : Option Bool :=
    some true

def ref3_sameFields_l1 (q_ref3_sameFields : (List GField) → (List GField) → Option Bool) (p1 : (List GField)) (p2 : (List GField)) : Nat → Int → Option Bool
  | 0, _ => none
  | k1 + 1, x1 =>
    ift (decide (x1 < (p1.length : Int)))
      (bnd (at? p1 x1) fun e1 =>
       bnd (at? p2 x1) fun e2 =>
       ift (e1.id != e2.id)
         (ref3_sameFields_j1 (ref3_sameFields_l1 q_ref3_sameFields p1 p2 k1) x1 true)
         (ift (!(e1.name.toList == e2.name.toList))
            (ref3_sameFields_j1 (ref3_sameFields_l1 q_ref3_sameFields p1 p2 k1) x1 true)
            (ift (!(e1.need == e2.need))
               (ref3_sameFields_j1 (ref3_sameFields_l1 q_ref3_sameFields p1 p2 k1) x1 true)
               (ift (e1.type.kind != e2.type.kind)
                  (ref3_sameFields_j1 (ref3_sameFields_l1 q_ref3_sameFields p1 p2 k1) x1 true)
                  (ift (e1.type.scale != e2.type.scale)
                     (ref3_sameFields_j1 (ref3_sameFields_l1 q_ref3_sameFields p1 p2 k1) x1 true)
                     (bnd (q_ref3_sameFields e1.type.fields e2.type.fields) fun r1 =>
                      ref3_sameFields_j1 (ref3_sameFields_l1 q_ref3_sameFields p1 p2 k1) x1 (!r1)))))))
      (ref3_sameFields_j2)

def ref3_sameFields : Nat → (List GField) → (List GField) → Option Bool
  | 0, _, _ => none
  | k0 + 1, p1, p2 =>
    ift ((p1.length : Int) != (p2.length : Int))
      (some false)
      (ref3_sameFields_l1 (ref3_sameFields k0) p1 p2 BIG (0 : Int))


theorem c_ref3_sameFields : ∀ (k0 : Nat) (p1 : (List GField)) (p2 : (List GField)), CT Tryz.prog 40 [vl eField p1, vl eField p2] (ref3_sameFields k0 p1 p2) vb
  | 0, _, _ => uF0 (ref3_sameFields.eq_1 ..)
  | k0 + 1, p1, p2 => uFn 74 [6, 7] Tryz.f40 fun r => (uU (ref3_sameFields.eq_2 ..) (uN eField p1 (uN eField p2 (uC (uR .ret xF) (uQ (kS Tryz.f40 [1,1,0] 1) fun K6 hK6 => have hJ2 : ∀ (_ : Unit), ref3_sameFields_j2 = some r → K6.p [] [] := fun _ h => hK6 h (uR .ret xF); (uN eField p1 (uO (cd Tryz.f40 [1,1,0,1,0,0]) (kS Tryz.f40 [1,1,0,1,0] 1) fun R1 b1 => have hL1 : ∀ (k1 : Nat) (x1 : Int), ref3_sameFields_l1 (ref3_sameFields k0) p1 p2 k1 x1 = some r → (R1 k1).p [(0, vl eField p1), (1, vl eField p2), (14, vi (p1.length : Int)), (15, vi x1)] [] := by intro k1; induction k1 with | zero => intro x1 h; exact uE0 (ref3_sameFields_l1.eq_1 ..) h | succ k1 ih1 => intro x1 h; exact b1 h (uU (ref3_sameFields_l1.eq_2 ..) (uC (uGr 11 2 [0,1,2] (uL eField fun e1 a14 => (uL eField fun e2 a15 => (uQ (kS Tryz.f40 [1,1,0,1,0,0,1,1,0,0,1,1,0] 3) fun K16 hK16 => have hJ1 : ∀ (x2 : Bool), ref3_sameFields_j1 (ref3_sameFields_l1 (ref3_sameFields k0) p1 p2 k1) x1 x2 = some r → K16.p [(0, vl eField p1), (1, vl eField p2), (14, vi (p1.length : Int)), (15, vi x1), (72, vb x2)] [.dead, .dead] := fun x2 h => hK16 h (uC (uR .ret (xN (xN xF))) (uJ (ih1 (IntKind.i64.wrap (x1 + (1 : Int)))))); (uC (uJ (hJ1 true)) (uC (uJ (hJ1 true)) (uC (uJ (hJ1 true)) (uC (uJ (hJ1 true)) (uC (uJ (hJ1 true)) (uP (c_ref3_sameFields k0 _ _) fun r1 _ => (uJ (hJ1 (!r1))))))))))))) (uR (.exit 0) (xM (uJ (hJ2 ()))))))
 uE (hL1 BIG (0 : Int)))))))))

def ref3_sameRows_j1 : Option Bool :=
    some true

def ref3_sameRows_l1 (p1 : (List Int)) (p2 : (List Int)) : Nat → Int → Option Bool
  | 0, _ => none
  | k1 + 1, x1 =>
    ift (decide (x1 < (p1.length : Int)))
      (bnd (at? p1 x1) fun e1 =>
       bnd (at? p2 x1) fun e2 =>
       ift (e1 != e2)
         (some false)
         ((ref3_sameRows_l1 p1 p2 k1) (IntKind.i64.wrap (x1 + (1 : Int)))))
      (ref3_sameRows_j1)

def ref3_sameRows (p1 : (List Int)) (p2 : (List Int)) : Option Bool :=
    ift ((p1.length : Int) != (p2.length : Int))
      (some false)
      (ref3_sameRows_l1 p1 p2 BIG (0 : Int))


theorem c_ref3_sameRows (p1 : (List Int)) (p2 : (List Int)) : CT Tryz.prog 74 [vl eI p1, vl eI p2] (ref3_sameRows p1 p2) vb :=
  uFn 26 [] Tryz.f74 fun r => (uN eI p1 (uN eI p2 (uC (uR .ret xF) (uQ (kS Tryz.f74 [1,1,0] 1) fun K6 hK6 => have hJ1 : ∀ (_ : Unit), ref3_sameRows_j1 = some r → K6.p [] [] := fun _ h => hK6 h (uR .ret xF); (uN eI p1 (uO (cd Tryz.f74 [1,1,0,1,0,0]) (kS Tryz.f74 [1,1,0,1,0] 1) fun R1 b1 => have hL1 : ∀ (k1 : Nat) (x1 : Int), ref3_sameRows_l1 p1 p2 k1 x1 = some r → (R1 k1).p [(0, vl eI p1), (1, vl eI p2), (12, vi (p1.length : Int)), (13, vi x1)] [] := by intro k1; induction k1 with | zero => intro x1 h; exact uE0 (ref3_sameRows_l1.eq_1 ..) h | succ k1 ih1 => intro x1 h; exact b1 h (uU (ref3_sameRows_l1.eq_2 ..) (uC (uDr 8 (uL eI fun e1 a14 => (uL eI fun e2 a15 => (uC (uR .ret (xN (xN xF))) (uJ (ih1 (IntKind.i64.wrap (x1 + (1 : Int))))))))) (uR (.exit 0) (xM (uJ (hJ1 ()))))))
 uE (hL1 BIG (0 : Int))))))))

def ref3_sameBy_j2 : Option Bool :=
    some true

def ref3_sameBy_l1 (p1 : GDeleteBy) (p2 : GDeleteBy) : Nat → Int → Option Bool
  | 0, _ => none
  | k1 + 1, x2 =>
    ift (decide (x2 < (p1.keys.length : Int)))
      (bnd (at? p1.keys x2) fun e1 =>
       bnd (at? p2.keys x2) fun e2 =>
       bnd (ref1_CompareRows e1 e2) fun r2 =>
       ift (r2 != (0 : Int))
         (some false)
         ((ref3_sameBy_l1 p1 p2 k1) (IntKind.i64.wrap (x2 + (1 : Int)))))
      (ref3_sameBy_j2)

def ref3_sameBy_j1 (p1 : GDeleteBy) (p2 : GDeleteBy) (x1 : Bool) : Option Bool :=
    ift x1
      (some false)
      (ref3_sameBy_l1 p1 p2 BIG (0 : Int))

def ref3_sameBy (p1 : GDeleteBy) (p2 : GDeleteBy) : Option Bool :=
    ift (p1.schema != p2.schema)
      (ref3_sameBy_j1 p1 p2 true)
      (ift (p1.seq != p2.seq)
         (ref3_sameBy_j1 p1 p2 true)
         (bnd (ref3_sameRows p1.ids p2.ids) fun r1 =>
          ift (!r1)
            (ref3_sameBy_j1 p1 p2 true)
            (ref3_sameBy_j1 p1 p2 ((p1.keys.length : Int) != (p2.keys.length : Int)))))


theorem c_ref3_sameBy (p1 : GDeleteBy) (p2 : GDeleteBy) : CT Tryz.prog 75 [.ag [ci p1.schema, cl eI p1.ids, cl (eL eValue) p1.keys, ci p1.seq], .ag [ci p2.schema, cl eI p2.ids, cl (eL eValue) p2.keys, ci p2.seq]] (ref3_sameBy p1 p2) vb :=
  uFn 54 [] Tryz.f75 fun r => (uQ (kS Tryz.f75 [1,0,0] 2) fun K3 hK3 => have hJ1 : ∀ (x1 : Bool), ref3_sameBy_j1 p1 p2 x1 = some r → K3.p [(2, .one (.pv (.rp [[pi p1.schema, .ro (eI.els p1.ids), .ro ((eL eValue).els p1.keys), pi p1.seq]] 0 0))), (3, .one (.pv (.rp [[pi p2.schema, .ro (eI.els p2.ids), .ro ((eL eValue).els p2.keys), pi p2.seq]] 0 0))), (34, vb x1)] [] := fun x1 h => hK3 h (uC (uR .ret xF) (uQ (kS Tryz.f75 [1,1,0] 1) fun K10 hK10 => have hJ2 : ∀ (_ : Unit), ref3_sameBy_j2 = some r → K10.p [] [] := fun _ h => hK10 h (uR .ret xF); (uN (eL eValue) p1.keys (uO (cd Tryz.f75 [1,1,0,1,0,0]) (kS Tryz.f75 [1,1,0,1,0] 1) fun R1 b1 => have hL1 : ∀ (k1 : Nat) (x2 : Int), ref3_sameBy_l1 p1 p2 k1 x2 = some r → (R1 k1).p [(2, .one (.pv (.rp [[pi p1.schema, .ro (eI.els p1.ids), .ro ((eL eValue).els p1.keys), pi p1.seq]] 0 0))), (3, .one (.pv (.rp [[pi p2.schema, .ro (eI.els p2.ids), .ro ((eL eValue).els p2.keys), pi p2.seq]] 0 0))), (37, vi (p1.keys.length : Int)), (38, vi x2)] [] := by intro k1; induction k1 with | zero => intro x2 h; exact uE0 (ref3_sameBy_l1.eq_1 ..) h | succ k1 ih1 => intro x2 h; exact b1 h (uU (ref3_sameBy_l1.eq_2 ..) (uC (uDr 10 (uL (eL eValue) fun e1 a18 => (uL (eL eValue) fun e2 a19 => (uP (c_ref1_CompareRows _ _) fun r2 _ => (uC (uR .ret (xN (xN xF))) (uJ (ih1 (IntKind.i64.wrap (x2 + (1 : Int)))))))))) (uR (.exit 0) (xM (uJ (hJ2 ()))))))
 uE (hL1 BIG (0 : Int)))))); (uC (uJ (hJ1 true)) (uC (uJ (hJ1 true)) (uP (c_ref3_sameRows _ _) fun r1 _ => (uC (uJ (hJ1 true)) (uN (eL eValue) p1.keys (uN (eL eValue) p2.keys (uJ (hJ1 ((p1.keys.length : Int) != (p2.keys.length : Int)))))))))))

def ref3_SameSnapshot_j2 (rec1 : Int → Option Bool) (x2 : Int) (x3 : Bool) : Option Bool :=
    ift x3
      (some false)
      (rec1 (IntKind.i64.wrap (x2 + (1 : Int))))

def ref3_SameSnapshot_j4 (rec2 : Int → Option Bool) (x4 : Int) (x5 : Bool) : Option Bool :=
    ift x5
      (some false)
      (rec2 (IntKind.i64.wrap (x4 + (1 : Int))))

def ref3_SameSnapshot_j6 : Option Bool :=
    some true

def ref3_SameSnapshot_l3 (p1 : GSnapshot) (p2 : GSnapshot) : Nat → Int → Option Bool
  | 0, _ => none
  | k3 + 1, x6 =>
    ift (decide (x6 < (p1.dby.length : Int)))
      (bnd (at? p1.dby x6) fun e5 =>
       bnd (at? p2.dby x6) fun e6 =>
       bnd (ref3_sameBy e5 e6) fun r3 =>
       ift (!r3)
         (some false)
         ((ref3_SameSnapshot_l3 p1 p2 k3) (IntKind.i64.wrap (x6 + (1 : Int)))))
      (ref3_SameSnapshot_j6)

def ref3_SameSnapshot_j5 (p1 : GSnapshot) (p2 : GSnapshot) : Option Bool :=
    ref3_SameSnapshot_l3 p1 p2 BIG (0 : Int)

def ref3_SameSnapshot_l2 (p1 : GSnapshot) (p2 : GSnapshot) : Nat → Int → Option Bool
  | 0, _ => none
  | k2 + 1, x4 =>
    ift (decide (x4 < (p1.dat.length : Int)))
      (bnd (at? p1.dat x4) fun e3 =>
       bnd (at? p2.dat x4) fun e4 =>
       ift (!(e3.file.toList == e4.file.toList))
         (ref3_SameSnapshot_j4 (ref3_SameSnapshot_l2 p1 p2 k2) x4 true)
         (bnd (ref3_sameRows e3.rows e4.rows) fun r2 =>
          ref3_SameSnapshot_j4 (ref3_SameSnapshot_l2 p1 p2 k2) x4 (!r2)))
      (ref3_SameSnapshot_j5 p1 p2)

def ref3_SameSnapshot_j3 (p1 : GSnapshot) (p2 : GSnapshot) : Option Bool :=
    ref3_SameSnapshot_l2 p1 p2 BIG (0 : Int)

def ref3_SameSnapshot_l1 (p1 : GSnapshot) (p2 : GSnapshot) : Nat → Int → Option Bool
  | 0, _ => none
  | k1 + 1, x2 =>
    ift (decide (x2 < (p1.files.length : Int)))
      (bnd (at? p1.files x2) fun e1 =>
       bnd (at? p2.files x2) fun e2 =>
       bnd (ref3_sameFile e1 e2) fun r1 =>
       ift (!r1)
         (ref3_SameSnapshot_j2 (ref3_SameSnapshot_l1 p1 p2 k1) x2 true)
         (ref3_SameSnapshot_j2 (ref3_SameSnapshot_l1 p1 p2 k1) x2 (e1.seq != e2.seq)))
      (ref3_SameSnapshot_j3 p1 p2)

def ref3_SameSnapshot_j1 (p1 : GSnapshot) (p2 : GSnapshot) (x1 : Bool) : Option Bool :=
    ift x1
      (some false)
      (ref3_SameSnapshot_l1 p1 p2 BIG (0 : Int))

def ref3_SameSnapshot (p1 : GSnapshot) (p2 : GSnapshot) : Option Bool :=
    ift (p1.id != p2.id)
      (ref3_SameSnapshot_j1 p1 p2 true)
      (ift (p1.parent != p2.parent)
         (ref3_SameSnapshot_j1 p1 p2 true)
         (ift (p1.seq != p2.seq)
            (ref3_SameSnapshot_j1 p1 p2 true)
            (ift (p1.schema != p2.schema)
               (ref3_SameSnapshot_j1 p1 p2 true)
               (ift (p1.time != p2.time)
                  (ref3_SameSnapshot_j1 p1 p2 true)
                  (ift (p1.kind != p2.kind)
                     (ref3_SameSnapshot_j1 p1 p2 true)
                     (ift ((p1.files.length : Int) != (p2.files.length : Int))
                        (ref3_SameSnapshot_j1 p1 p2 true)
                        (ift ((p1.dat.length : Int) != (p2.dat.length : Int))
                           (ref3_SameSnapshot_j1 p1 p2 true)
                           (ref3_SameSnapshot_j1 p1 p2 ((p1.dby.length : Int) != (p2.dby.length : Int))))))))))

abbrev qa1635 (p1 : GSnapshot) : List PV := [pi p1.id, pi p1.parent, pi p1.seq, pi p1.schema, pi p1.time, pi p1.kind, .ro (eDataFile.els p1.files), .ro (eDeleteAt.els p1.dat), .ro (eDeleteBy.els p1.dby)]
abbrev qa1636 (p2 : GSnapshot) : List PV := [pi p2.id, pi p2.parent, pi p2.seq, pi p2.schema, pi p2.time, pi p2.kind, .ro (eDataFile.els p2.files), .ro (eDeleteAt.els p2.dat), .ro (eDeleteBy.els p2.dby)]

theorem c_ref3_SameSnapshot (p1 : GSnapshot) (p2 : GSnapshot) : CT Tryz.prog 41 [.ag [ci p1.id, ci p1.parent, ci p1.seq, ci p1.schema, ci p1.time, ci p1.kind, cl eDataFile p1.files, cl eDeleteAt p1.dat, cl eDeleteBy p1.dby], .ag [ci p2.id, ci p2.parent, ci p2.seq, ci p2.schema, ci p2.time, ci p2.kind, cl eDataFile p2.files, cl eDeleteAt p2.dat, cl eDeleteBy p2.dby]] (ref3_SameSnapshot p1 p2) vb :=
  uFn 164 [] Tryz.f41 fun r => (uQ (kS Tryz.f41 [1,0,0] 2) fun K3 hK3 => have hJ1 : ∀ (x1 : Bool), ref3_SameSnapshot_j1 p1 p2 x1 = some r → K3.p [(2, .one (.pv (.rp [(qa1635 p1)] 0 0))), (3, .one (.pv (.rp [(qa1636 p2)] 0 0))), (74, vb x1)] [] := fun x1 h => hK3 h (uC (uR .ret xF) (uQ (kS Tryz.f41 [1,1,0] 1) fun K14 hK14 => have hJ3 : ∀ (_ : Unit), ref3_SameSnapshot_j3 p1 p2 = some r → K14.p [(2, .one (.pv (.rp [(qa1635 p1)] 0 0))), (3, .one (.pv (.rp [(qa1636 p2)] 0 0)))] [] := fun _ h => hK14 h (uQ (kS Tryz.f41 [1,1,1,0] 1) fun K28 hK28 => have hJ5 : ∀ (_ : Unit), ref3_SameSnapshot_j5 p1 p2 = some r → K28.p [(2, .one (.pv (.rp [(qa1635 p1)] 0 0))), (3, .one (.pv (.rp [(qa1636 p2)] 0 0)))] [] := fun _ h => hK28 h (uQ (kS Tryz.f41 [1,1,1,1,0] 1) fun K42 hK42 => have hJ6 : ∀ (_ : Unit), ref3_SameSnapshot_j6 = some r → K42.p [] [] := fun _ h => hK42 h (uR .ret xF); (uN eDeleteBy p1.dby (uO (cd Tryz.f41 [1,1,1,1,0,1,0,0]) (kS Tryz.f41 [1,1,1,1,0,1,0] 1) fun R3 b3 => have hL3 : ∀ (k3 : Nat) (x6 : Int), ref3_SameSnapshot_l3 p1 p2 k3 x6 = some r → (R3 k3).p [(2, .one (.pv (.rp [(qa1635 p1)] 0 0))), (3, .one (.pv (.rp [(qa1636 p2)] 0 0))), (147, vi (p1.dby.length : Int)), (148, vi x6)] [] := by intro k3; induction k3 with | zero => intro x6 h; exact uE0 (ref3_SameSnapshot_l3.eq_1 ..) h | succ k3 ih3 => intro x6 h; exact b3 h (uU (ref3_SameSnapshot_l3.eq_2 ..) (uC (uDr 10 (uL eDeleteBy fun e5 a50 => (uL eDeleteBy fun e6 a51 => (uP (c_ref3_sameBy _ _) fun r3 _ => (uC (uR .ret (xN (xN xF))) (uJ (ih3 (IntKind.i64.wrap (x6 + (1 : Int)))))))))) (uR (.exit 4) (xM (uJ (hJ6 ()))))))
 uE (hL3 BIG (0 : Int))))); (uN eDeleteAt p1.dat (uO (cd Tryz.f41 [1,1,1,0,1,0,0]) (kS Tryz.f41 [1,1,1,0,1,0] 1) fun R2 b2 => have hL2 : ∀ (k2 : Nat) (x4 : Int), ref3_SameSnapshot_l2 p1 p2 k2 x4 = some r → (R2 k2).p [(2, .one (.pv (.rp [(qa1635 p1)] 0 0))), (3, .one (.pv (.rp [(qa1636 p2)] 0 0))), (111, vi (p1.dat.length : Int)), (112, vi x4)] [] := by intro k2; induction k2 with | zero => intro x4 h; exact uE0 (ref3_SameSnapshot_l2.eq_1 ..) h | succ k2 ih2 => intro x4 h; exact b2 h (uU (ref3_SameSnapshot_l2.eq_2 ..) (uC (uQ (kS Tryz.f41 [1,1,1,0,1,0,0,1,1,0,0,1,0] 3) fun K35 hK35 => have hJ4 : ∀ (x5 : Bool), ref3_SameSnapshot_j4 (ref3_SameSnapshot_l2 p1 p2 k2) x4 x5 = some r → K35.p [(2, .one (.pv (.rp [(qa1635 p1)] 0 0))), (3, .one (.pv (.rp [(qa1636 p2)] 0 0))), (111, vi (p1.dat.length : Int)), (112, vi x4), (143, vb x5)] [] := fun x5 h => hK35 h (uC (uR .ret (xN (xN xF))) (uJ (ih2 (IntKind.i64.wrap (x4 + (1 : Int)))))); (uDr 26 (uL eDeleteAt fun e3 a36 => (uL eDeleteAt fun e4 a37 => (uC (uJ (hJ4 true)) (uM eDeleteAt a36 (uM eDeleteAt a37 (uP (c_ref3_sameRows _ _) fun r2 _ => (uJ (hJ4 (!r2))))))))))) (uR (.exit 2) (xM (uJ (hJ5 ()))))))
 uE (hL2 BIG (0 : Int))))); (uN eDataFile p1.files (uO (cd Tryz.f41 [1,1,0,1,0,0]) (kS Tryz.f41 [1,1,0,1,0] 1) fun R1 b1 => have hL1 : ∀ (k1 : Nat) (x2 : Int), ref3_SameSnapshot_l1 p1 p2 k1 x2 = some r → (R1 k1).p [(2, .one (.pv (.rp [(qa1635 p1)] 0 0))), (3, .one (.pv (.rp [(qa1636 p2)] 0 0))), (77, vi (p1.files.length : Int)), (78, vi x2)] [] := by intro k1; induction k1 with | zero => intro x2 h; exact uE0 (ref3_SameSnapshot_l1.eq_1 ..) h | succ k1 ih1 => intro x2 h; exact b1 h (uU (ref3_SameSnapshot_l1.eq_2 ..) (uC (uQ (kS Tryz.f41 [1,1,0,1,0,0,1,1,0,0,1,0] 3) fun K21 hK21 => have hJ2 : ∀ (x3 : Bool), ref3_SameSnapshot_j2 (ref3_SameSnapshot_l1 p1 p2 k1) x2 x3 = some r → K21.p [(2, .one (.pv (.rp [(qa1635 p1)] 0 0))), (3, .one (.pv (.rp [(qa1636 p2)] 0 0))), (77, vi (p1.files.length : Int)), (78, vi x2), (107, vb x3)] [] := fun x3 h => hK21 h (uC (uR .ret (xN (xN xF))) (uJ (ih1 (IntKind.i64.wrap (x2 + (1 : Int)))))); (uDr 25 (uL eDataFile fun e1 a22 => (uL eDataFile fun e2 a23 => (uP (c_ref3_sameFile _ _) fun r1 _ => (uC (uJ (hJ2 true)) (uM eDataFile a22 (uM eDataFile a23 (uJ (hJ2 (e1.seq != e2.seq))))))))))) (uR (.exit 0) (xM (uJ (hJ3 ()))))))
 uE (hL1 BIG (0 : Int)))))); (uC (uJ (hJ1 true)) (uC (uJ (hJ1 true)) (uC (uJ (hJ1 true)) (uC (uJ (hJ1 true)) (uC (uJ (hJ1 true)) (uC (uJ (hJ1 true)) (uN eDataFile p1.files (uN eDataFile p2.files (uC (uJ (hJ1 true)) (uN eDeleteAt p1.dat (uN eDeleteAt p2.dat (uC (uJ (hJ1 true)) (uN eDeleteBy p1.dby (uN eDeleteBy p2.dby (uJ (hJ1 ((p1.dby.length : Int) != (p2.dby.length : Int)))))))))))))))))))

def ref3_SameMeta_j3 (rec2 : Int → Option Bool) (x3 : Int) : Option Bool :=
    rec2 (IntKind.i64.wrap (x3 + (1 : Int)))

def ref3_SameMeta_l3 (rec2 : Int → Option Bool) (x3 : Int) (e3 : GSpec) (e4 : GSpec) : Nat → Int → Option Bool
  | 0, _ => none
  | k3 + 1, x4 =>
    ift (decide (x4 < (e3.fields.length : Int)))
      (bnd (at? e3.fields x4) fun e5 =>
       bnd (at? e4.fields x4) fun e6 =>
       bnd (some (!((e5.source == e6.source) && (((e5.transform.kind == e6.transform.kind) && ((e5.transform.param == e6.transform.param) && true)) && true)))) fun y1 =>
       ift y1
         (some false)
         ((ref3_SameMeta_l3 rec2 x3 e3 e4 k3) (IntKind.i64.wrap (x4 + (1 : Int)))))
      (ref3_SameMeta_j3 rec2 x3)

def ref3_SameMeta_j7 : Option Bool :=
    some true

def ref3_SameMeta_l6 (p1 : GMeta) (p2 : GMeta) : Nat → Int → Option Bool
  | 0, _ => none
  | k6 + 1, x7 =>
    ift (decide (x7 < (p1.snapshots.length : Int)))
      (bnd (at? p1.snapshots x7) fun e11 =>
       bnd (at? p2.snapshots x7) fun e12 =>
       bnd (ref3_SameSnapshot e11 e12) fun r2 =>
       ift (!r2)
         (some false)
         ((ref3_SameMeta_l6 p1 p2 k6) (IntKind.i64.wrap (x7 + (1 : Int)))))
      (ref3_SameMeta_j7)

def ref3_SameMeta_j6 (p1 : GMeta) (p2 : GMeta) : Option Bool :=
    ref3_SameMeta_l6 p1 p2 BIG (0 : Int)

def ref3_SameMeta_l5 (p1 : GMeta) (p2 : GMeta) : Nat → Int → Option Bool
  | 0, _ => none
  | k5 + 1, x6 =>
    ift (decide (x6 < (p1.props.length : Int)))
      (bnd (at? p1.props x6) fun e9 =>
       bnd (at? p2.props x6) fun e10 =>
       bnd (some (!((e9.name.toList == e10.name.toList) && ((e9.value.toList == e10.value.toList) && true)))) fun y3 =>
       ift y3
         (some false)
         ((ref3_SameMeta_l5 p1 p2 k5) (IntKind.i64.wrap (x6 + (1 : Int)))))
      (ref3_SameMeta_j6 p1 p2)

def ref3_SameMeta_j5 (p1 : GMeta) (p2 : GMeta) : Option Bool :=
    ref3_SameMeta_l5 p1 p2 BIG (0 : Int)

def ref3_SameMeta_l4 (p1 : GMeta) (p2 : GMeta) : Nat → Int → Option Bool
  | 0, _ => none
  | k4 + 1, x5 =>
    ift (decide (x5 < (p1.refs.length : Int)))
      (bnd (at? p1.refs x5) fun e7 =>
       bnd (at? p2.refs x5) fun e8 =>
       bnd (some (!((e7.name.toList == e8.name.toList) && ((e7.branch == e8.branch) && ((e7.snapshot == e8.snapshot) && true))))) fun y2 =>
       ift y2
         (some false)
         ((ref3_SameMeta_l4 p1 p2 k4) (IntKind.i64.wrap (x5 + (1 : Int)))))
      (ref3_SameMeta_j5 p1 p2)

def ref3_SameMeta_j4 (p1 : GMeta) (p2 : GMeta) : Option Bool :=
    ref3_SameMeta_l4 p1 p2 BIG (0 : Int)

def ref3_SameMeta_l2 (p1 : GMeta) (p2 : GMeta) : Nat → Int → Option Bool
  | 0, _ => none
  | k2 + 1, x3 =>
    ift (decide (x3 < (p1.specs.length : Int)))
      (bnd (at? p1.specs x3) fun e3 =>
       bnd (at? p2.specs x3) fun e4 =>
       ift ((e3.fields.length : Int) != (e4.fields.length : Int))
         (some false)
         (ref3_SameMeta_l3 (ref3_SameMeta_l2 p1 p2 k2) x3 e3 e4 BIG (0 : Int)))
      (ref3_SameMeta_j4 p1 p2)

def ref3_SameMeta_j2 (p1 : GMeta) (p2 : GMeta) : Option Bool :=
    ref3_SameMeta_l2 p1 p2 BIG (0 : Int)

def ref3_SameMeta_l1 (p1 : GMeta) (p2 : GMeta) : Nat → Int → Option Bool
  | 0, _ => none
  | k1 + 1, x2 =>
    ift (decide (x2 < (p1.schemas.length : Int)))
      (bnd (at? p1.schemas x2) fun e1 =>
       bnd (at? p2.schemas x2) fun e2 =>
       bnd (ref3_sameFields BIG e1 e2) fun r1 =>
       ift (!r1)
         (some false)
         ((ref3_SameMeta_l1 p1 p2 k1) (IntKind.i64.wrap (x2 + (1 : Int)))))
      (ref3_SameMeta_j2 p1 p2)

def ref3_SameMeta_j1 (p1 : GMeta) (p2 : GMeta) (x1 : Bool) : Option Bool :=
    ift x1
      (some false)
      (ref3_SameMeta_l1 p1 p2 BIG (0 : Int))

def ref3_SameMeta (p1 : GMeta) (p2 : GMeta) : Option Bool :=
    ift (p1.nextField != p2.nextField)
      (ref3_SameMeta_j1 p1 p2 true)
      (ift (p1.nextSeq != p2.nextSeq)
         (ref3_SameMeta_j1 p1 p2 true)
         (ift (p1.nextSnap != p2.nextSnap)
            (ref3_SameMeta_j1 p1 p2 true)
            (ift (p1.purges != p2.purges)
               (ref3_SameMeta_j1 p1 p2 true)
               (ift ((p1.schemas.length : Int) != (p2.schemas.length : Int))
                  (ref3_SameMeta_j1 p1 p2 true)
                  (ift ((p1.specs.length : Int) != (p2.specs.length : Int))
                     (ref3_SameMeta_j1 p1 p2 true)
                     (ift ((p1.snapshots.length : Int) != (p2.snapshots.length : Int))
                        (ref3_SameMeta_j1 p1 p2 true)
                        (ift ((p1.refs.length : Int) != (p2.refs.length : Int))
                           (ref3_SameMeta_j1 p1 p2 true)
                           (ref3_SameMeta_j1 p1 p2 ((p1.props.length : Int) != (p2.props.length : Int))))))))))

abbrev qa1646 (p1 : GMeta) : List PV := [.ro ((eL eField).els p1.schemas), .ro (eSpec.els p1.specs), pi p1.nextField, pi p1.nextSeq, pi p1.nextSnap, pi p1.purges, .ro (eSnapshot.els p1.snapshots), .ro (eRef.els p1.refs), .ro (eProp.els p1.props)]
abbrev qa1647 (p2 : GMeta) : List PV := [.ro ((eL eField).els p2.schemas), .ro (eSpec.els p2.specs), pi p2.nextField, pi p2.nextSeq, pi p2.nextSnap, pi p2.purges, .ro (eSnapshot.els p2.snapshots), .ro (eRef.els p2.refs), .ro (eProp.els p2.props)]
abbrev qa1649 (p1 : GMeta) (p2 : GMeta) : Fr := [(2, .one (.pv (.rp [(qa1646 p1)] 0 0))), (3, .one (.pv (.rp [(qa1647 p2)] 0 0)))]
abbrev qa1653 (p1 : GMeta) (p2 : GMeta) (x3 : Int) : Fr := [(2, .one (.pv (.rp [(qa1646 p1)] 0 0))), (3, .one (.pv (.rp [(qa1647 p2)] 0 0))), (103, vi (p1.specs.length : Int)), (104, vi x3)]

theorem c_ref3_SameMeta (p1 : GMeta) (p2 : GMeta) : CT Tryz.prog 10 [.ag [cl (eL eField) p1.schemas, cl eSpec p1.specs, ci p1.nextField, ci p1.nextSeq, ci p1.nextSnap, ci p1.purges, cl eSnapshot p1.snapshots, cl eRef p1.refs, cl eProp p1.props], .ag [cl (eL eField) p2.schemas, cl eSpec p2.specs, ci p2.nextField, ci p2.nextSeq, ci p2.nextSnap, ci p2.purges, cl eSnapshot p2.snapshots, cl eRef p2.refs, cl eProp p2.props]] (ref3_SameMeta p1 p2) vb :=
  uFn 208 [] Tryz.f10 fun r => (uQ (kS Tryz.f10 [1,0,0] 2) fun K3 hK3 => have hJ1 : ∀ (x1 : Bool), ref3_SameMeta_j1 p1 p2 x1 = some r → K3.p [(2, .one (.pv (.rp [(qa1646 p1)] 0 0))), (3, .one (.pv (.rp [(qa1647 p2)] 0 0))), (81, vb x1)] [] := fun x1 h => hK3 h (uC (uR .ret xF) (uQ (kS Tryz.f10 [1,1,0] 1) fun K14 hK14 => have hJ2 : ∀ (_ : Unit), ref3_SameMeta_j2 p1 p2 = some r → K14.p (qa1649 p1 p2) [] := fun _ h => hK14 h (uQ (kS Tryz.f10 [1,1,1,0] 1) fun K27 hK27 => have hJ4 : ∀ (_ : Unit), ref3_SameMeta_j4 p1 p2 = some r → K27.p (qa1649 p1 p2) [] := fun _ h => hK27 h (uQ (kS Tryz.f10 [1,1,1,1,0] 1) fun K52 hK52 => have hJ5 : ∀ (_ : Unit), ref3_SameMeta_j5 p1 p2 = some r → K52.p (qa1649 p1 p2) [] := fun _ h => hK52 h (uQ (kS Tryz.f10 [1,1,1,1,1,0] 1) fun K65 hK65 => have hJ6 : ∀ (_ : Unit), ref3_SameMeta_j6 p1 p2 = some r → K65.p (qa1649 p1 p2) [] := fun _ h => hK65 h (uQ (kS Tryz.f10 [1,1,1,1,1,1,0] 1) fun K78 hK78 => have hJ7 : ∀ (_ : Unit), ref3_SameMeta_j7 = some r → K78.p [] [] := fun _ h => hK78 h (uR .ret xF); (uN eSnapshot p1.snapshots (uO (cd Tryz.f10 [1,1,1,1,1,1,0,1,0,0]) (kS Tryz.f10 [1,1,1,1,1,1,0,1,0] 1) fun R6 b6 => have hL6 : ∀ (k6 : Nat) (x7 : Int), ref3_SameMeta_l6 p1 p2 k6 x7 = some r → (R6 k6).p [(2, .one (.pv (.rp [(qa1646 p1)] 0 0))), (3, .one (.pv (.rp [(qa1647 p2)] 0 0))), (191, vi (p1.snapshots.length : Int)), (192, vi x7)] [] := by intro k6; induction k6 with | zero => intro x7 h; exact uE0 (ref3_SameMeta_l6.eq_1 ..) h | succ k6 ih6 => intro x7 h; exact b6 h (uU (ref3_SameMeta_l6.eq_2 ..) (uC (uDr 10 (uL eSnapshot fun e11 a86 => (uL eSnapshot fun e12 a87 => (uP (c_ref3_SameSnapshot _ _) fun r2 _ => (uC (uR .ret (xN (xN xF))) (uJ (ih6 (IntKind.i64.wrap (x7 + (1 : Int)))))))))) (uR (.exit 10) (xM (uJ (hJ7 ()))))))
 uE (hL6 BIG (0 : Int))))); (uN eProp p1.props (uO (cd Tryz.f10 [1,1,1,1,1,0,1,0,0]) (kS Tryz.f10 [1,1,1,1,1,0,1,0] 1) fun R5 b5 => have hL5 : ∀ (k5 : Nat) (x6 : Int), ref3_SameMeta_l5 p1 p2 k5 x6 = some r → (R5 k5).p [(2, .one (.pv (.rp [(qa1646 p1)] 0 0))), (3, .one (.pv (.rp [(qa1647 p2)] 0 0))), (173, vi (p1.props.length : Int)), (174, vi x6)] [] := by intro k5; induction k5 with | zero => intro x6 h; exact uE0 (ref3_SameMeta_l5.eq_1 ..) h | succ k5 ih5 => intro x6 h; exact b5 h (uU (ref3_SameMeta_l5.eq_2 ..) (uC (uDr 10 (uL eProp fun e9 a73 => (uL eProp fun e10 a74 => (uY 187 vb fun y3 => (uC (uR .ret (xN (xN xF))) (uJ (ih5 (IntKind.i64.wrap (x6 + (1 : Int)))))))))) (uR (.exit 8) (xM (uJ (hJ6 ()))))))
 uE (hL5 BIG (0 : Int))))); (uN eRef p1.refs (uO (cd Tryz.f10 [1,1,1,1,0,1,0,0]) (kS Tryz.f10 [1,1,1,1,0,1,0] 1) fun R4 b4 => have hL4 : ∀ (k4 : Nat) (x5 : Int), ref3_SameMeta_l4 p1 p2 k4 x5 = some r → (R4 k4).p [(2, .one (.pv (.rp [(qa1646 p1)] 0 0))), (3, .one (.pv (.rp [(qa1647 p2)] 0 0))), (155, vi (p1.refs.length : Int)), (156, vi x5)] [] := by intro k4; induction k4 with | zero => intro x5 h; exact uE0 (ref3_SameMeta_l4.eq_1 ..) h | succ k4 ih4 => intro x5 h; exact b4 h (uU (ref3_SameMeta_l4.eq_2 ..) (uC (uDr 10 (uL eRef fun e7 a60 => (uL eRef fun e8 a61 => (uY 169 vb fun y2 => (uC (uR .ret (xN (xN xF))) (uJ (ih4 (IntKind.i64.wrap (x5 + (1 : Int)))))))))) (uR (.exit 6) (xM (uJ (hJ5 ()))))))
 uE (hL4 BIG (0 : Int))))); (uN eSpec p1.specs (uO (cd Tryz.f10 [1,1,1,0,1,0,0]) (kS Tryz.f10 [1,1,1,0,1,0] 1) fun R2 b2 => have hL2 : ∀ (k2 : Nat) (x3 : Int), ref3_SameMeta_l2 p1 p2 k2 x3 = some r → (R2 k2).p (qa1653 p1 p2 x3) [] := by intro k2; induction k2 with | zero => intro x3 h; exact uE0 (ref3_SameMeta_l2.eq_1 ..) h | succ k2 ih2 => intro x3 h; exact b2 h (uU (ref3_SameMeta_l2.eq_2 ..) (uC (uQ (kS Tryz.f10 [1,1,1,0,1,0,0,1,1,0] 1) fun K32 hK32 => have hJ3 : ∀ (_ : Unit), ref3_SameMeta_j3 (ref3_SameMeta_l2 p1 p2 k2) x3 = some r → K32.p (qa1653 p1 p2 x3) [] := fun _ h => hK32 h (uJ (ih2 (IntKind.i64.wrap (x3 + (1 : Int))))); (uDr 14 (uL eSpec fun e3 a36 => (uN eSpecField e3.fields (uL eSpec fun e4 a37 => (uN eSpecField e4.fields (uC (uR .ret (xN (xN (xN xF)))) (uM eSpec a36 (uN eSpecField e3.fields (uO (cd Tryz.f10 [1,1,1,0,1,0,0,1,1,0,0,1,1,1,0,0]) (kS Tryz.f10 [1,1,1,0,1,0,0,1,1,0,0,1,1,1,0] 2) fun R3 b3 => have hL3 : ∀ (k3 : Nat) (x4 : Int), ref3_SameMeta_l3 (ref3_SameMeta_l2 p1 p2 k2) x3 e3 e4 k3 x4 = some r → (R3 k3).p [(2, .one (.pv (.rp [(qa1646 p1)] 0 0))), (3, .one (.pv (.rp [(qa1647 p2)] 0 0))), (6, vi x3), (103, vi (p1.specs.length : Int)), (104, vi x3), (128, vi (e3.fields.length : Int)), (129, vi x4)] [] := by intro k3; induction k3 with | zero => intro x4 h; exact uE0 (ref3_SameMeta_l3.eq_1 ..) h | succ k3 ih3 => intro x4 h; exact b3 h (uU (ref3_SameMeta_l3.eq_2 ..) (uC (uDr 18 (uM eSpec a36 (uL eSpecField fun e5 a47 => (uM eSpec a37 (uL eSpecField fun e6 a48 => (uY 150 vb fun y1 => (uC (uR .ret (xN (xN (xN (xN xF))))) (uJ (ih3 (IntKind.i64.wrap (x4 + (1 : Int)))))))))))) (uR (.exit 4) (xM (uJ (hJ3 ()))))))
 uE (hL3 BIG (0 : Int)))))))))))) (uR (.exit 2) (xM (uJ (hJ4 ()))))))
 uE (hL2 BIG (0 : Int))))); (uN (eL eField) p1.schemas (uO (cd Tryz.f10 [1,1,0,1,0,0]) (kS Tryz.f10 [1,1,0,1,0] 1) fun R1 b1 => have hL1 : ∀ (k1 : Nat) (x2 : Int), ref3_SameMeta_l1 p1 p2 k1 x2 = some r → (R1 k1).p [(2, .one (.pv (.rp [(qa1646 p1)] 0 0))), (3, .one (.pv (.rp [(qa1647 p2)] 0 0))), (84, vi (p1.schemas.length : Int)), (85, vi x2)] [] := by intro k1; induction k1 with | zero => intro x2 h; exact uE0 (ref3_SameMeta_l1.eq_1 ..) h | succ k1 ih1 => intro x2 h; exact b1 h (uU (ref3_SameMeta_l1.eq_2 ..) (uC (uDr 10 (uL (eL eField) fun e1 a22 => (uL (eL eField) fun e2 a23 => (uP (c_ref3_sameFields BIG _ _) fun r1 _ => (uC (uR .ret (xN (xN xF))) (uJ (ih1 (IntKind.i64.wrap (x2 + (1 : Int)))))))))) (uR (.exit 0) (xM (uJ (hJ2 ()))))))
 uE (hL1 BIG (0 : Int)))))); (uC (uJ (hJ1 true)) (uC (uJ (hJ1 true)) (uC (uJ (hJ1 true)) (uC (uJ (hJ1 true)) (uN (eL eField) p1.schemas (uN (eL eField) p2.schemas (uC (uJ (hJ1 true)) (uN eSpec p1.specs (uN eSpec p2.specs (uC (uJ (hJ1 true)) (uN eSnapshot p1.snapshots (uN eSnapshot p2.snapshots (uC (uJ (hJ1 true)) (uN eRef p1.refs (uN eRef p2.refs (uC (uJ (hJ1 true)) (uN eProp p1.props (uN eProp p2.props (uJ (hJ1 ((p1.props.length : Int) != (p2.props.length : Int)))))))))))))))))))))))

def law3_TableNewMatchesSpec_j1 (x1 : Bool) : Option Bool :=
    some x1

def law3_TableNewMatchesSpec (p1 : (List GField)) (p2 : GSpec) : Option Bool :=
    bnd (table_New p1 p2) fun r1 =>
    bnd (ref3_New p1 p2) fun r2 =>
    bnd (law3_starts) fun r3 =>
    ift r3
      (ift (r1.2 == r2.2)
         (bnd (ref3_SameMeta r1.1 r2.1) fun r4 =>
          ift r4
            (ift (r1.2 != (0 : Int))
               (law3_TableNewMatchesSpec_j1 true)
               (bnd (table_Check r1.1) fun r5 =>
                law3_TableNewMatchesSpec_j1 (r5 == (0 : Int))))
            (law3_TableNewMatchesSpec_j1 false))
         (law3_TableNewMatchesSpec_j1 false))
      (law3_TableNewMatchesSpec_j1 false)


theorem c_law3_TableNewMatchesSpec (p1 : (List GField)) (p2 : GSpec) : CT Tryz.prog 4 [vl eField p1, .ag [cl eSpecField p2.fields]] (law3_TableNewMatchesSpec p1 p2) vb :=
  uFn 41 [5, 7] Tryz.f4 fun r => (uP (c_table_New _ _) fun r1 _ => (uP (c_ref3_New _ _) fun r2 _ => (uQ (kS Tryz.f4 [1,1,1,0] 1) fun K6 hK6 => have hJ1 : ∀ (x1 : Bool), law3_TableNewMatchesSpec_j1 x1 = some r → K6.p [(4, vb x1)] [.dead, .dead] := fun x1 h => hK6 h (uR .ret xF); (uP c_law3_starts fun r3 _ => (uC (uC (uP (c_ref3_SameMeta _ _) fun r4 _ => (uC (uC (uJ (hJ1 true)) (uP (c_table_Check _) fun r5 _ => (uJ (hJ1 (r5 == (0 : Int)))))) (uJ (hJ1 false)))) (uJ (hJ1 false))) (uJ (hJ1 false)))))))


end Go.Proofs.YtikbfjpcmalmlaaGreatDoor
