/- Printed by a program: what the functions compute, and the proofs of their contracts. -/
import Derived.Test.YtbmkkmbgoenllaaChecked
import Derived.Test.YtbmkkmbgoenllaaSxC
set_option linter.unusedVariables false
set_option linter.unusedSimpArgs false
set_option linter.unnecessarySimpa false
namespace Go.Proofs.Ytbmkkmbgoenllaa
open Go.SX Go
set_option linter.unusedVariables false
set_option linter.unusedSimpArgs false
set_option maxRecDepth 100000
set_option maxHeartbeats 8000000

def lake_Bins_1 (p1 : Int) : Option Bool :=
    some (decide (p1 < (0 : Int)))


theorem c_lake_Bins_1 (p1 : Int) (r : Bool) (h : lake_Bins_1 p1 = some r) : PC Try.prog 14 [vi p1] (vb r) := by
 unfold lake_Bins_1 at h
 refine zF 5 Try.f14 (zq fun K1 hK1 => zr (zg [] 1 [0] (zd (hK1 _ _ (zq fun K2 hK2 => zr ?_)))))
 refine zg [] 3 [2] (zd (hK2 _ _ (ze ?_)))
 obtain rfl := Option.some.inj h
 exact zf [vb (decide (p1 < (0 : Int)))] (.one (.rfl _ rfl))

def slices_IndexFunc_int_int_of_lake_Bins_1_j1 : Option Int :=
    some (-1 : Int)

def slices_IndexFunc_int_int_of_lake_Bins_1_l1 (p1 : (List Int)) : Nat → Int → Option Int
  | 0, _ => none
  | k1 + 1, x1 =>
    ift (decide (x1 < (p1.length : Int)))
      (bnd (at? p1 x1) fun e1 =>
       bnd (lake_Bins_1 e1) fun r1 =>
       ift r1
         (some x1)
         ((slices_IndexFunc_int_int_of_lake_Bins_1_l1 p1 k1) (IntKind.i64.wrap (x1 + (1 : Int)))))
      (slices_IndexFunc_int_int_of_lake_Bins_1_j1)

def slices_IndexFunc_int_int_of_lake_Bins_1 (p1 : (List Int)) : Option Int :=
    slices_IndexFunc_int_int_of_lake_Bins_1_l1 p1 BIG (0 : Int)


theorem c_slices_IndexFunc_int_int_of_lake_Bins_1 (p1 : (List Int)) (r : Int) (h : slices_IndexFunc_int_int_of_lake_Bins_1 p1 = some r) : PC Try.prog 26 [vl eI p1, .one (.pv (.fn 14 []))] (vi r) := by
 unfold slices_IndexFunc_int_int_of_lake_Bins_1 at h
 refine zF 19 Try.f26 (zq fun K1 hK1 => zr (zg [] 1 [0,1] (zd (hK1 _ _ (zq fun K2 hK2 => ?_)))))
 have hJ1 : ∀ (_ : Unit), slices_IndexFunc_int_int_of_lake_Bins_1_j1 = some r → ∀ fr1 st1, Sub 19 0 [] fr1 st1 [] [] → K2 fr1 st1 := by
  intro _ h fr1 st1 hS
  unfold slices_IndexFunc_int_int_of_lake_Bins_1_j1 at h
  refine hK2 _ _ (XW.sub hS ?_)
  refine zq fun K14 hK14 => zr (zg [] 1 [4] (zd (hK14 _ _ (ze ?_))))
  obtain rfl := Option.some.inj h
  exact zf [vi (-1 : Int)] (.one (.rfl _ rfl))
 refine zq fun K3 hK3 => zr (zv [] 2 [0,1,7] [] [(0, vl eI p1), (1, .one (.pv (.fn 14 []))), (7, vi ((eI.els p1).length : Int))] [] ?_)
 rw [eI.len p1]
 refine zg [] 1 [0,1,7,8] (zd (hK3 _ _ (zb 0 (XW.rounds' BIG (x := cd Try.f26 [1,0,1,0,0]) (by kernel_rfl) fun Q1 hQ1 => ?_))))
 have hL1 : ∀ (k1 : Nat) (x1 : Int), slices_IndexFunc_int_int_of_lake_Bins_1_l1 p1 k1 x1 = some r → XR Try.prog 19 0 [] (cd Try.f26 [1,0,1,0,0]) Q1 k1 [(0, vl eI p1), (1, .one (.pv (.fn 14 []))), (7, vi (p1.length : Int)), (8, vi x1)] [] := by
  intro k1
  induction k1 with
  | zero => intro x1 h; rw [slices_IndexFunc_int_int_of_lake_Bins_1_l1.eq_1] at h; cases h
  | succ k1 ih1 =>
   intro x1 h
   rw [slices_IndexFunc_int_int_of_lake_Bins_1_l1.eq_2] at h
   refine zq fun K4 hK4 => zr (zg [] 1 [0,1,7,8,9] (zd (hK4 _ _ (zq fun K5 hK5 => zC h (fun b6 h => ?_) (fun b6 h => ?_)))))
   ·refine zs (hK5 _ _ (zq fun K7 hK7 => zb 1 (zq fun K8 hK8 => zr (zg [] 2 [0,1,5,7,8] (zd ?_)))))
    refine hK8 _ _ (zq fun K9 hK9 => ?_)
    obtain ⟨e1, a10, h⟩ := zB h
    obtain ⟨r1, c11, h⟩ := zB h
    refine zr (zp [] 5 [0,1,5,7,8,11,15] [[pi e1]] [(0, vl eI p1), (1, .one (.pv (.fn 14 []))), (5, vi x1), (7, vi (p1.length : Int)), (8, vi x1), (11, .one (.pv (.fn 14 []))), (15, vi e1)] [] [0 ≤ x1 ∧ x1 < ((eI.els p1).length : Int) ∧ elemsOk 1 (eI.els p1), (eI.els p1)[x1.toNat]? = some [pi e1]] (⟨eI.inb a10, (eI.get a10), trivial⟩) (za (c_lake_Bins_1 _ _ c11) (zd (hK9 _ _ (zC h (fun b12 h => ?_) (fun b12 h => ?_))))))
    ·refine zq fun K13 hK13 => zr (zg [] 2 [4] (zd (hK13 _ _ (ze (hQ1 _ _ _ ?_)))))
     obtain rfl := Option.some.inj h
     exact zf [vi x1] (.one (.rfl _ rfl))
    ·exact zs (hK7 _ _ (zr (zv [] 2 [0,1,7,8] [] [(0, vl eI p1), (1, .one (.pv (.fn 14 []))), (7, vi (p1.length : Int)), (8, vi (IntKind.i64.wrap (x1 + (1 : Int))))] [] (zd (XR.sub (zk [0,1,7,8]) (ih1 (IntKind.i64.wrap (x1 + (1 : Int))) h))))))
   ·exact zx 0 (hQ1 _ _ _ (hJ1 () h _ _ (zk [])))
 exact XR.sub (zk [0,1,7,8]) (hL1 BIG (0 : Int) h)

def slices_ContainsFunc_int_int_of_lake_Bins_1 (p1 : (List Int)) : Option Bool :=
    bnd (slices_IndexFunc_int_int_of_lake_Bins_1 p1) fun r1 =>
    some (decide ((0 : Int) ≤ r1))


theorem c_slices_ContainsFunc_int_int_of_lake_Bins_1 (p1 : (List Int)) (r : Bool) (h : slices_ContainsFunc_int_int_of_lake_Bins_1 p1 = some r) : PC Try.prog 13 [vl eI p1, .one (.pv (.fn 14 []))] (vb r) := by
 unfold slices_ContainsFunc_int_int_of_lake_Bins_1 at h
 refine zF 9 Try.f13 (zq fun K1 hK1 => zr (zg [] 1 [0,1] (zd (hK1 _ _ (zq fun K2 hK2 => ?_)))))
 obtain ⟨r1, c3, h⟩ := zB h
 refine zr (zg [] 2 [5,6] (zl 26 [vl eI p1, .one (.pv (.fn 14 []))] (vi r1) [(7, vi r1), (5, vl eI p1), (6, .one (.pv (.fn 14 [])))] (c_slices_IndexFunc_int_int_of_lake_Bins_1 _ _ c3) (zg [] 2 [4] (zd (hK2 _ _ (ze ?_))))))
 obtain rfl := Option.some.inj h
 exact zf [vb (decide ((0 : Int) ≤ r1))] (.one (.rfl _ rfl))

def slices_Clip_int_int (p1 : (List Int)) : Option (List Int) :=
    grd (0 ≤ (0 : Int) ∧ (0 : Int) ≤ (p1.length : Int) ∧ (p1.length : Int) ≤ (p1.length : Int) ∧ (p1.length : Int) ≤ (p1.length : Int)) <|
    some ((p1.drop (0 : Int).toNat).take ((p1.length : Int).toNat - (0 : Int).toNat))


theorem c_slices_Clip_int_int (p1 : (List Int)) (r : (List Int)) (h : slices_Clip_int_int p1 = some r) : PC Try.prog 15 [vl eI p1] (vl eI r) := by
 unfold slices_Clip_int_int at h
 refine zF 9 Try.f15 (zq fun K1 hK1 => zr (zg [] 1 [0] (zd (hK1 _ _ (zq fun K2 hK2 => ?_)))))
 obtain ⟨g3, h⟩ := zG h
 refine zr (zv [] 3 [0,3,5] [] [(0, vl eI p1), (3, vl eI p1), (5, vi ((eI.els p1).length : Int))] [] ?_)
 rw [eI.len p1]
 refine zv [] 2 [3,5,7] [] [(3, vl eI p1), (5, vi (p1.length : Int)), (7, vi ((eI.els p1).length : Int))] [] ?_
 rw [eI.len p1]
 refine zp [] 1 [8] [] [(8, .one (.pv (.ro (((eI.els p1).drop (0 : Int).toNat).take ((p1.length : Int).toNat - (0 : Int).toNat)))))] [] [(0 ≤ (0 : Int) ∧ (0 : Int) ≤ (p1.length : Int) ∧ (p1.length : Int) ≤ (p1.length : Int) ∧ (p1.length : Int) ≤ ((eI.els p1).length : Int)) ∧ elemsOk 1 (eI.els p1)] (⟨eI.cutMOk g3, trivial⟩) ?_
 rw [show ((eI.els p1).drop (0 : Int).toNat).take ((p1.length : Int).toNat - (0 : Int).toNat) = eI.els ((p1.drop (0 : Int).toNat).take ((p1.length : Int).toNat - (0 : Int).toNat)) from eI.cut _ _ _]
 refine zg [] 1 [2] (zd (hK2 _ _ (ze ?_)))
 obtain rfl := Option.some.inj h
 exact zf [vl eI ((p1.drop (0 : Int).toNat).take ((p1.length : Int).toNat - (0 : Int).toNat))] (.one (.rfl _ rfl))

def slices_Clip_int_int_f16 (p1 : (List (List Int))) : Option (List (List Int)) :=
    grd (0 ≤ (0 : Int) ∧ (0 : Int) ≤ (p1.length : Int) ∧ (p1.length : Int) ≤ (p1.length : Int) ∧ (p1.length : Int) ≤ (p1.length : Int)) <|
    some ((p1.drop (0 : Int).toNat).take ((p1.length : Int).toNat - (0 : Int).toNat))


theorem c_slices_Clip_int_int_f16 (p1 : (List (List Int))) (r : (List (List Int))) (h : slices_Clip_int_int_f16 p1 = some r) : PC Try.prog 16 [vl (eL eI) p1] (vl (eL eI) r) := by
 unfold slices_Clip_int_int_f16 at h
 refine zF 9 Try.f16 (zq fun K1 hK1 => zr (zg [] 1 [0] (zd (hK1 _ _ (zq fun K2 hK2 => ?_)))))
 obtain ⟨g3, h⟩ := zG h
 refine zr (zv [] 3 [0,3,5] [] [(0, vl (eL eI) p1), (3, vl (eL eI) p1), (5, vi (((eL eI).els p1).length : Int))] [] ?_)
 rw [(eL eI).len p1]
 refine zv [] 2 [3,5,7] [] [(3, vl (eL eI) p1), (5, vi (p1.length : Int)), (7, vi (((eL eI).els p1).length : Int))] [] ?_
 rw [(eL eI).len p1]
 refine zp [] 1 [8] [] [(8, .one (.pv (.ro ((((eL eI).els p1).drop (0 : Int).toNat).take ((p1.length : Int).toNat - (0 : Int).toNat)))))] [] [(0 ≤ (0 : Int) ∧ (0 : Int) ≤ (p1.length : Int) ∧ (p1.length : Int) ≤ (p1.length : Int) ∧ (p1.length : Int) ≤ (((eL eI).els p1).length : Int)) ∧ elemsOk 1 ((eL eI).els p1)] (⟨(eL eI).cutMOk g3, trivial⟩) ?_
 rw [show (((eL eI).els p1).drop (0 : Int).toNat).take ((p1.length : Int).toNat - (0 : Int).toNat) = (eL eI).els ((p1.drop (0 : Int).toNat).take ((p1.length : Int).toNat - (0 : Int).toNat)) from (eL eI).cut _ _ _]
 refine zg [] 1 [2] (zd (hK2 _ _ (ze ?_)))
 obtain rfl := Option.some.inj h
 exact zf [vl (eL eI) ((p1.drop (0 : Int).toNat).take ((p1.length : Int).toNat - (0 : Int).toNat))] (.one (.rfl _ rfl))

def lake_Bins_j3 (rec1 : List (List Int) → Int → Int → Option ((List (List Int)) × Int)) (x3 : Int) (l2 : List (List Int)) (x5 : Int) : Option ((List (List Int)) × Int) :=
    rec1 l2 x5 (IntKind.i64.wrap (x3 + (1 : Int)))

def lake_Bins_j2 (rec1 : List (List Int) → Int → Int → Option ((List (List Int)) × Int)) (l1 : List (List Int)) (x2 : Int) (x3 : Int) (e1 : Int) (x4 : Bool) : Option ((List (List Int)) × Int) :=
    ift x4
      (bnd (at? l1 (IntKind.i64.wrap (((l1.length : Nat) : Int) - (1 : Int)))) fun e2 =>
       grd (e2.length + 1 ≤ 4294967296) <|
       lake_Bins_j3 rec1 x3 (l1.set (IntKind.i64.wrap (((l1.length : Nat) : Int) - (1 : Int))).toNat (e2 ++ [x3])) (IntKind.i64.wrap (x2 + e1)))
      (grd (l1.length + 1 ≤ 4294967296) <|
       lake_Bins_j3 rec1 x3 (l1 ++ [[x3]]) e1)

def lake_Bins_j5 (l5 : List (List Int)) : Option ((List (List Int)) × Int) :=
    bnd (slices_Clip_int_int_f16 l5) fun r3 =>
    some (r3, (0 : Int))

def lake_Bins_l2 (l3 : List (List Int)) : Nat → List (List Int) → Int → Option ((List (List Int)) × Int)
  | 0, _, _ => none
  | k2 + 1, l4, x6 =>
    ift (decide (x6 < ((l3.length : Nat) : Int)))
      (bnd (at? l4 x6) fun e3 =>
       bnd (slices_Clip_int_int e3) fun r2 =>
       (lake_Bins_l2 l3 k2) (l4.set x6.toNat r2) (IntKind.i64.wrap (x6 + (1 : Int))))
      (lake_Bins_j5 l4)

def lake_Bins_j4 (l3 : List (List Int)) : Option ((List (List Int)) × Int) :=
    lake_Bins_l2 l3 BIG l3 (0 : Int)

def lake_Bins_l1 (p1 : (List Int)) (p2 : Int) : Nat → List (List Int) → Int → Int → Option ((List (List Int)) × Int)
  | 0, _, _, _ => none
  | k1 + 1, l1, x2, x3 =>
    ift (decide (x3 < (p1.length : Int)))
      (bnd (at? p1 x3) fun e1 =>
       ift (decide (p2 ≤ e1))
         (lake_Bins_j3 (lake_Bins_l1 p1 p2 k1) x3 l1 x2)
         (bnd (some (decide ((0 : Int) ≤ (IntKind.i64.wrap (((l1.length : Nat) : Int) - (1 : Int)))))) fun y1 =>
          ift y1
            (lake_Bins_j2 (lake_Bins_l1 p1 p2 k1) l1 x2 x3 e1 (decide ((IntKind.i64.wrap (x2 + e1)) ≤ p2)))
            (lake_Bins_j2 (lake_Bins_l1 p1 p2 k1) l1 x2 x3 e1 false)))
      (lake_Bins_j4 l1)

def lake_Bins_j1 (p1 : (List Int)) (p2 : Int) (x1 : Bool) : Option ((List (List Int)) × Int) :=
    ift x1
      (some ([], (3 : Int)))
      (lake_Bins_l1 p1 p2 BIG [] (0 : Int) (0 : Int))

def lake_Bins (p1 : (List Int)) (p2 : Int) : Option ((List (List Int)) × Int) :=
    ift (decide (p2 < (1 : Int)))
      (lake_Bins_j1 p1 p2 true)
      (ift (decide ((2000 : Int) < p2))
         (lake_Bins_j1 p1 p2 true)
         (bnd (slices_ContainsFunc_int_int_of_lake_Bins_1 p1) fun r1 =>
          lake_Bins_j1 p1 p2 r1))


theorem c_lake_Bins (p1 : (List Int)) (p2 : Int) (r : ((List (List Int)) × Int)) (h : lake_Bins p1 p2 = some r) : PC Try.prog 6 [vl eI p1, vi p2] (.tp [vl (eL eI) r.1, vi r.2]) := by
 unfold lake_Bins at h
 refine zF 82 Try.f6 (zq fun K1 hK1 => zr (zg [] 2 [0,1] (zd (hK1 _ _ (zq fun K2 hK2 => zq fun K3 hK3 => ?_)))))
 have hJ1 : ∀ (x1 : Bool), lake_Bins_j1 p1 p2 x1 = some r → ∀ fr1 st1, Sub 82 0 [] fr1 st1 [(0, vl eI p1), (1, vi p2), (21, vb x1)] [] → K3 fr1 st1 := by
  intro x1 h fr1 st1 hS
  unfold lake_Bins_j1 at h
  refine hK3 _ _ (XW.sub hS ?_)
  refine zC h (fun b7 h => ?_) (fun b7 h => ?_)
  ·refine zq fun K8 hK8 => zr (zg [] 2 [4,5] (zd (hK8 _ _ (ze ?_))))
   obtain rfl := Option.some.inj h
   exact zf [.one (.pv (.s (.slice none 0 0))), vi (3 : Int)] (.tpc (.one (.nl)) (.tpc (.one (.rfl _ rfl)) (.tp0)))
  ·refine zs (hK2 _ _ (zq fun K9 hK9 => zr (zg [] 1 [0,1,6] (zd (hK9 _ _ (zq fun K10 hK10 => ?_))))))
   refine zr (zv [] 1 [0,1,6,7] [] [(0, vl eI p1), (1, vi p2), (6, .one (.pv (.s (.slice none 0 0)))), (7, vi (0 : Int))] [] (zd (hK10 _ _ (zq fun K11 hK11 => ?_))))
   have hJ4 : ∀ (l3 : List (List Int)), lake_Bins_j4 l3 = some r → ∀ fr1 st1, Sub 82 0 [] fr1 st1 [(6, .one (.sl 0 1 0 l3.length))] [.arr 1 ((eL eI).els l3)] → K11 fr1 st1 := by
    intro l3 h fr1 st1 hS
    unfold lake_Bins_j4 at h
    refine hK11 _ _ (XW.sub hS ?_)
    refine zq fun K29 hK29 => ?_
    have hJ5 : ∀ (l5 : List (List Int)), lake_Bins_j5 l5 = some r → ∀ fr1 st1, Sub 82 0 [] fr1 st1 [(6, .one (.sl 0 1 0 l5.length))] [.arr 1 ((eL eI).els l5)] → K29 fr1 st1 := by
     intro l5 h fr1 st1 hS
     unfold lake_Bins_j5 at h
     refine hK29 _ _ (XW.sub hS ?_)
     refine zq fun K38 hK38 => ?_
     obtain ⟨r3, c39, h⟩ := zB h
     refine zr (zv [] 1 [80] [] [(80, .one (.sl 0 1 0 l5.length))] [.arr 1 ((eL eI).els l5)] (XO.sub (Sub.kill (fr' := [(80, vl (eL eI) l5)]) 0 (Nat.zero_le _) (by kernel_rfl) ⟨.one (cf_sl (eL eI) l5 rfl rfl rfl), trivial⟩) (za (c_slices_Clip_int_int_f16 _ _ c39) (zg [] 2 [4,5] (zd (hK38 _ _ (ze ?_)))))))
     obtain rfl := Option.some.inj h
     exact zf [vl (eL eI) r3, vi (0 : Int)] (.tpc (.one (.rfl _ rfl)) (.tpc (.one (.rfl _ rfl)) (.tp0)))
    refine zq fun K30 hK30 => zr (zg [] 3 [6,67,68] (zd (hK30 _ _ (zb 3 (XW.rounds' BIG (x := cd Try.f6 [1,1,1,1,1,0,1,0,0]) (by kernel_rfl) fun Q2 hQ2 => ?_)))))
    have hL2 : ∀ (k2 : Nat) (l4 : List (List Int)) (x6 : Int), lake_Bins_l2 l3 k2 l4 x6 = some r → XR Try.prog 82 0 [] (cd Try.f6 [1,1,1,1,1,0,1,0,0]) Q2 k2 [(6, .one (.sl 0 1 0 l4.length)), (67, vi ((l3.length : Nat) : Int)), (68, vi x6)] [.arr 1 ((eL eI).els l4)] := by
     intro k2
     induction k2 with
     | zero => intro l4 x6 h; rw [lake_Bins_l2.eq_1] at h; cases h
     | succ k2 ih2 =>
      intro l4 x6 h
      rw [lake_Bins_l2.eq_2] at h
      refine zq fun K31 hK31 => zr (zg [] 1 [6,67,68,69] (zd (hK31 _ _ (zq fun K32 hK32 => zC h (fun b33 h => ?_) (fun b33 h => ?_)))))
      ·refine zs (hK32 _ _ (zq fun K34 hK34 => zb 4 (zq fun K35 hK35 => zr (zg [] 2 [6,11,67,68] (zd ?_)))))
       refine hK35 _ _ ?_
       obtain ⟨e3, a36, h⟩ := zB h
       obtain ⟨r2, c37, h⟩ := zB h
       refine zr (zp [] 6 [6,67,68,71,72,76] [[.ro (eI.els e3)]] [(6, .one (.sl 0 1 0 l4.length)), (67, vi ((l3.length : Nat) : Int)), (68, vi x6), (71, .one (.sl 0 1 0 l4.length)), (72, vi x6), (76, vl eI e3)] [.arr 1 ((eL eI).els l4)] [0 ≤ x6 ∧ x6 < ((l4.length : Nat) : Int), ((eL eI).els l4)[(0 + x6.toNat)]? = some [.ro (eI.els e3)]] (⟨Enc.inb' a36, ((eL eI).get0 a36), trivial⟩) (za (c_slices_Clip_int_int _ _ c37) ?_))
       refine zp [] 2 [6,67,68] [[.ro (eI.els e3)]] [(6, .one (.sl 0 1 0 l4.length)), (67, vi ((l3.length : Nat) : Int)), (68, vi x6)] [.arr 1 (((eL eI).els l4).set (0 + x6.toNat) [.ro (eI.els r2)])] [0 ≤ x6 ∧ x6 < ((l4.length : Nat) : Int), ((eL eI).els l4)[(0 + x6.toNat)]? = some [.ro (eI.els e3)]] (⟨Enc.inb' a36, ((eL eI).get0 a36), trivial⟩) ?_
       rw [show ((eL eI).els l4).set (0 + x6.toNat) [.ro (eI.els r2)] = (eL eI).els (l4.set x6.toNat r2) from (eL eI).set0 _ _ r2]
       exact zd (hK34 _ _ (zr (zg [] 2 [6,67,68] (zd (XR.sub (Sub.trans (Sub.pick (fr' := [(6, .one (.sl 0 1 0 l4.length)), (67, vi ((l3.length : Nat) : Int)), (68, vi (IntKind.i64.wrap (x6 + (1 : Int))))]) [6,67,68] (by kernel_rfl)) (Sub.frame (fr' := [(6, .one (.sl 0 1 0 (l4.set x6.toNat r2).length)), (67, vi ((l3.length : Nat) : Int)), (68, vi (IntKind.i64.wrap (x6 + (1 : Int))))]) ⟨ALe.of_eq (show (.one (.sl 0 1 0 l4.length) : AV) = .one (.sl 0 1 0 (l4.set x6.toNat r2).length) from by simp), .rfl _, .rfl _, trivial⟩)) (ih2 (l4.set x6.toNat r2) (IntKind.i64.wrap (x6 + (1 : Int))) h))))))
      ·exact zx 3 (hQ2 _ _ _ (hJ5 l4 h _ _ (zk [6])))
    exact XR.sub (zk [6,67,68]) (hL2 BIG l3 (0 : Int) h)
   refine zq fun K12 hK12 => zr (zv [] 2 [1,6,7,22,23] [] [(1, vi p2), (6, .one (.pv (.s (.slice none 0 0)))), (7, vi (0 : Int)), (22, vl eI p1), (23, vi ((eI.els p1).length : Int))] [] ?_)
   rw [eI.len p1]
   refine zv [] 1 [1,6,7,22,23,24] [] [(1, vi p2), (6, .one (.pv (.s (.slice none 0 0)))), (7, vi (0 : Int)), (22, vl eI p1), (23, vi (p1.length : Int)), (24, vi (0 : Int))] [] (zd (hK12 _ _ (zb 0 (XW.sub (Sub.nst0 eI) (XW.rounds' BIG (x := cd Try.f6 [1,1,1,1,0,1,0,0]) (by kernel_rfl) fun Q1 hQ1 => ?_)))))
   have hL1 : ∀ (k1 : Nat) (l1 : List (List Int)) (x2 : Int) (x3 : Int) (e0 : Nat), lake_Bins_l1 p1 p2 k1 l1 x2 x3 = some r → XR Try.prog 82 0 [] (cd Try.f6 [1,1,1,1,0,1,0,0]) Q1 k1 [(1, vi p2), (6, oav l1), (7, vi x2), (22, vl eI p1), (23, vi (p1.length : Int)), (24, vi x3)] (nst eI l1 e0) := by
    intro k1
    induction k1 with
    | zero => intro l1 x2 x3 e0 h; rw [lake_Bins_l1.eq_1] at h; cases h
    | succ k1 ih1 =>
     intro l1 x2 x3 e0 h
     rw [lake_Bins_l1.eq_2] at h
     refine zq fun K13 hK13 => zr (zg [] 1 [1,6,7,22,23,24,25] (zd (hK13 _ _ (zq fun K14 hK14 => zC h (fun b15 h => ?_) (fun b15 h => ?_)))))
     ·refine zs (hK14 _ _ (zq fun K16 hK16 => ?_))
      have hJ3 : ∀ (l2 : List (List Int)) (x5 : Int) (e2 : Nat), lake_Bins_j3 (lake_Bins_l1 p1 p2 k1) x3 l2 x5 = some r → ∀ fr1 st1, Sub 82 0 [] fr1 st1 [(1, vi p2), (6, oav l2), (7, vi x5), (22, vl eI p1), (23, vi (p1.length : Int)), (24, vi x3)] (nst eI l2 e2) → K16 fr1 st1 := by
       intro l2 x5 e2 h fr1 st1 hS
       unfold lake_Bins_j3 at h
       refine hK16 _ _ (XW.sub hS ?_)
       exact zr (zg [] 2 [1,6,7,22,23,24] (zd (XR.sub (zk [1,6,7,22,23,24]) (ih1 l2 x5 (IntKind.i64.wrap (x3 + (1 : Int))) e2 h))))
      refine zb 1 (zq fun K17 hK17 => ?_)
      obtain ⟨e1, a18, h⟩ := zB h
      refine zr (zo [] 5 [1,6,7,8,9,22,23,24] [[pi e1]] [0 ≤ x3 ∧ x3 < ((eI.els p1).length : Int) ∧ elemsOk 1 (eI.els p1), (eI.els p1)[x3.toNat]? = some [pi e1]] (⟨eI.inb a18, (eI.get a18), trivial⟩) (zd (hK17 _ _ (zq fun K19 hK19 => zr (zv [] 1 [1,6,7,8,9,22,23,24,29] [] [(1, vi p2), (6, oav l1), (7, vi x2), (8, vi x3), (9, vi e1), (22, vl eI p1), (23, vi (p1.length : Int)), (24, vi x3), (29, oav l1)] (nst eI l1 e0) (znn l1 [(30, vi ((l1.length : Nat) : Int)), (1, vi p2), (6, oav l1), (7, vi x2), (8, vi x3), (9, vi e1), (22, vl eI p1), (23, vi (p1.length : Int)), (24, vi x3), (29, oav l1)] (zv [] 2 [1,6,7,8,9,10,22,23,24] [] [(1, vi p2), (6, oav l1), (7, vi x2), (8, vi x3), (9, vi e1), (10, vi (IntKind.i64.wrap (((l1.length : Nat) : Int) - (1 : Int)))), (22, vl eI p1), (23, vi (p1.length : Int)), (24, vi x3)] (nst eI l1 e0) (zd ?_))))))))
      refine hK19 _ _ (zb 2 (zq fun K20 hK20 => zr (zg [] 4 [1,6,7,8,9,10,22,23,24,38] (zd (hK20 _ _ (zC h (fun b21 h => ?_) (fun b21 h => ?_)))))))
      ·exact zs (hJ3 l1 x2 e0 h _ _ (zk [1,6,7,22,23,24]))
      ·refine zq fun K22 hK22 => ?_
       have hJ2 : ∀ (x4 : Bool), lake_Bins_j2 (lake_Bins_l1 p1 p2 k1) l1 x2 x3 e1 x4 = some r → ∀ fr1 st1, Sub 82 0 [] fr1 st1 [(1, vi p2), (6, oav l1), (7, vi x2), (8, vi x3), (9, vi e1), (10, vi (IntKind.i64.wrap (((l1.length : Nat) : Int) - (1 : Int)))), (22, vl eI p1), (23, vi (p1.length : Int)), (24, vi x3), (42, vb x4)] (nst eI l1 e0) → K22 fr1 st1 := by
        intro x4 h fr1 st1 hS
        unfold lake_Bins_j2 at h
        refine hK22 _ _ (XW.sub hS ?_)
        refine zC h (fun b25 h => ?_) (fun b25 h => ?_)
        ·refine zq fun K26 hK26 => ?_
         obtain ⟨e2, a27, h⟩ := zB h
         obtain ⟨hg, h⟩ := zG h
         have hne : l1 ≠ [] := at_ne a27
         have hget : l1[(0 + (IntKind.i64.wrap (((l1.length : Nat) : Int) - (1 : Int))).toNat)]? = some e2 := by rw [Nat.zero_add]; exact (at?_some a27).2.2
         refine zr ?_
         rw [oav_ne hne]
         refine zp [] 5 [1,7,9,22,23,24,6,8,52,53,56] [] [(1, vi p2), (7, vi x2), (9, vi e1), (22, vl eI p1), (23, vi (p1.length : Int)), (24, vi x3), (6, .one (.sl 0 1 0 l1.length)), (8, vi x3), (52, .one (.sl 0 1 0 l1.length)), (53, vi (IntKind.i64.wrap (((l1.length : Nat) : Int) - (1 : Int)))), (56, .one (.pt 0 1 (0 + (IntKind.i64.wrap (((l1.length : Nat) : Int) - (1 : Int))).toNat) 0))] (nst eI l1 e0) [0 ≤ (IntKind.i64.wrap (((l1.length : Nat) : Int) - (1 : Int))) ∧ (IntKind.i64.wrap (((l1.length : Nat) : Int) - (1 : Int))) < ((l1.length : Nat) : Int)] ⟨Enc.inb' a27, trivial⟩ ?_
         refine znl eI l1 e0 (0 + (IntKind.i64.wrap (((l1.length : Nat) : Int) - (1 : Int))).toNat) e2 [(57, .one (.sl ((0 + (IntKind.i64.wrap (((l1.length : Nat) : Int) - (1 : Int))).toNat) + 1) eI.sz 0 e2.length)), (1, vi p2), (7, vi x2), (9, vi e1), (22, vl eI p1), (23, vi (p1.length : Int)), (24, vi x3), (6, .one (.sl 0 1 0 l1.length)), (8, vi x3), (52, .one (.sl 0 1 0 l1.length)), (53, vi (IntKind.i64.wrap (((l1.length : Nat) : Int) - (1 : Int)))), (56, .one (.pt 0 1 (0 + (IntKind.i64.wrap (((l1.length : Nat) : Int) - (1 : Int))).toNat) 0))] hne hget ?_
         refine zv [] 2 [1,7,9,22,23,24,6,52,53,57,59] [] [(1, vi p2), (7, vi x2), (9, vi e1), (22, vl eI p1), (23, vi (p1.length : Int)), (24, vi x3), (6, .one (.sl 0 1 0 l1.length)), (52, .one (.sl 0 1 0 l1.length)), (53, vi (IntKind.i64.wrap (((l1.length : Nat) : Int) - (1 : Int)))), (57, .one (.sl ((0 + (IntKind.i64.wrap (((l1.length : Nat) : Int) - (1 : Int))).toNat) + 1) eI.sz 0 e2.length)), (59, vl eI [x3])] (nst eI l1 e0) ?_
         refine zna eI l1 e0 (0 + (IntKind.i64.wrap (((l1.length : Nat) : Int) - (1 : Int))).toNat) e2 [x3] [(60, .one (.sl ((0 + (IntKind.i64.wrap (((l1.length : Nat) : Int) - (1 : Int))).toNat) + 1) eI.sz 0 (e2.length + (eI.els [x3]).length))), (1, vi p2), (7, vi x2), (9, vi e1), (22, vl eI p1), (23, vi (p1.length : Int)), (24, vi x3), (6, .one (.sl 0 1 0 l1.length)), (52, .one (.sl 0 1 0 l1.length)), (53, vi (IntKind.i64.wrap (((l1.length : Nat) : Int) - (1 : Int)))), (57, .j), (59, vl eI [x3])] [(1, vi p2), (7, vi x2), (9, vi e1), (22, vl eI p1), (23, vi (p1.length : Int)), (24, vi x3), (6, .one (.sl 0 1 0 l1.length)), (60, .one (.sl ((0 + (IntKind.i64.wrap (((l1.length : Nat) : Int) - (1 : Int))).toNat) + 1) eI.sz 0 (e2.length + (eI.els [x3]).length))), (61, .one (.pt 0 1 (0 + (IntKind.i64.wrap (((l1.length : Nat) : Int) - (1 : Int))).toNat) 0))] [(1, vi p2), (7, vi x2), (9, vi e1), (22, vl eI p1), (23, vi (p1.length : Int)), (24, vi x3), (6, .one (.sl 0 1 0 l1.length)), (60, .j), (61, .one (.pt 0 1 (0 + (IntKind.i64.wrap (((l1.length : Nat) : Int) - (1 : Int))).toNat) 0))] hne hget hg (fun st' hh => zp [] 1 [1,7,9,22,23,24,6,60,61] [] [(1, vi p2), (7, vi x2), (9, vi e1), (22, vl eI p1), (23, vi (p1.length : Int)), (24, vi x3), (6, .one (.sl 0 1 0 l1.length)), (60, .one (.sl ((0 + (IntKind.i64.wrap (((l1.length : Nat) : Int) - (1 : Int))).toNat) + 1) eI.sz 0 (e2.length + (eI.els [x3]).length))), (61, .one (.pt 0 1 (0 + (IntKind.i64.wrap (((l1.length : Nat) : Int) - (1 : Int))).toNat) 0))] st' [0 ≤ (IntKind.i64.wrap (((l1.length : Nat) : Int) - (1 : Int))) ∧ (IntKind.i64.wrap (((l1.length : Nat) : Int) - (1 : Int))) < ((l1.length : Nat) : Int)] ⟨Enc.inb' a27, trivial⟩ hh) ?_
         rw [Nat.zero_add]
         refine zd (hK26 _ _ (zr (zg [] 4 [1,6,7,22,23,24] (zd ?_))))
         have hne2 : (l1.set (IntKind.i64.wrap (((l1.length : Nat) : Int) - (1 : Int))).toNat (e2 ++ [x3])) ≠ [] := by intro hh; have := congrArg List.length hh; simp at this; exact hne this
         exact hJ3 (l1.set (IntKind.i64.wrap (((l1.length : Nat) : Int) - (1 : Int))).toNat (e2 ++ [x3])) (IntKind.i64.wrap (x2 + e1)) e0 h _ _ (Sub.trans (Sub.pick (fr' := [(1, vi p2), (6, .one (.sl 0 1 0 l1.length)), (7, vi (IntKind.i64.wrap (x2 + e1))), (22, vl eI p1), (23, vi (p1.length : Int)), (24, vi x3)]) [1,6,7,22,23,24] (by kernel_rfl)) (Sub.frame (fr' := [(1, vi p2), (6, oav (l1.set (IntKind.i64.wrap (((l1.length : Nat) : Int) - (1 : Int))).toNat (e2 ++ [x3]))), (7, vi (IntKind.i64.wrap (x2 + e1))), (22, vl eI p1), (23, vi (p1.length : Int)), (24, vi x3)]) ⟨.rfl _, ALe.of_eq (show (.one (.sl 0 1 0 l1.length) : AV) = oav (l1.set (IntKind.i64.wrap (((l1.length : Nat) : Int) - (1 : Int))).toNat (e2 ++ [x3])) from by rw [oav_ne hne2]; simp), .rfl _, .rfl _, .rfl _, .rfl _, trivial⟩))
        ·obtain ⟨g28, h⟩ := zG h
         refine zr (zv [] 2 [1,9,22,23,24,32,33] [] [(1, vi p2), (9, vi e1), (22, vl eI p1), (23, vi (p1.length : Int)), (24, vi x3), (32, oav l1), (33, vi x3)] (nst eI l1 e0) ?_)
         refine znb (pi x3) [(34, .one (.sl (l1.length + 1) 1 0 1)), (1, vi p2), (9, vi e1), (22, vl eI p1), (23, vi (p1.length : Int)), (24, vi x3), (32, oav l1), (33, vi x3)] ?_ (by kernel_rfl) (l1.length + 1) (nst_len eI e0)
         refine znp eI l1 e0 [x3] 35 (l1.length + 1) [1,9,22,23,24] [(36, .one (.sl 0 1 0 (l1.length + 1))), (1, vi p2), (9, vi e1), (22, vl eI p1), (23, vi (p1.length : Int)), (24, vi x3)] g28 rfl (fun e3 => ?_)
         refine zg [] 3 [1,6,7,22,23,24] (zd ?_)
         exact hJ3 (l1 ++ [[x3]]) e1 e3 h _ _ (Sub.trans (Sub.pick (fr' := [(1, vi p2), (6, .one (.sl 0 1 0 (l1.length + 1))), (7, vi e1), (22, vl eI p1), (23, vi (p1.length : Int)), (24, vi x3)]) [1,6,7,22,23,24] (by kernel_rfl)) (Sub.frame (fr' := [(1, vi p2), (6, oav (l1 ++ [[x3]])), (7, vi e1), (22, vl eI p1), (23, vi (p1.length : Int)), (24, vi x3)]) ⟨.rfl _, ALe.of_eq (show (.one (.sl 0 1 0 (l1.length + 1)) : AV) = oav (l1 ++ [[x3]]) from by rw [oav_ne (by simp)]; simp), .rfl _, .rfl _, .rfl _, .rfl _, trivial⟩))
       obtain ⟨y1, hy23, h⟩ := zB h
       rcases zW h with ⟨b24, h⟩ | ⟨b24, h⟩
       ·refine zr (zv [] 2 [1,6,7,8,9,10,22,23,24,44] [] [(1, vi p2), (6, oav l1), (7, vi x2), (8, vi x3), (9, vi e1), (10, vi (IntKind.i64.wrap (((l1.length : Nat) : Int) - (1 : Int)))), (22, vl eI p1), (23, vi (p1.length : Int)), (24, vi x3), (44, vb (decide ((0 : Int) ≤ (IntKind.i64.wrap (((l1.length : Nat) : Int) - (1 : Int))))))] (nst eI l1 e0) ?_)
        rw [show (decide ((0 : Int) ≤ (IntKind.i64.wrap (((l1.length : Nat) : Int) - (1 : Int))))) = y1 from Option.some.inj hy23]
        exact zg [] 1 [1,6,7,8,9,10,22,23,24,45] (zt 45 b24 (zg [] 7 [1,6,7,8,9,10,22,23,24,42] (zd (hJ2 (decide ((IntKind.i64.wrap (x2 + e1)) ≤ p2)) h _ _ (zk [1,6,7,8,9,10,22,23,24,42])))))
       ·refine zr (zv [] 2 [1,6,7,8,9,10,22,23,24,44] [] [(1, vi p2), (6, oav l1), (7, vi x2), (8, vi x3), (9, vi e1), (10, vi (IntKind.i64.wrap (((l1.length : Nat) : Int) - (1 : Int)))), (22, vl eI p1), (23, vi (p1.length : Int)), (24, vi x3), (44, vb (decide ((0 : Int) ≤ (IntKind.i64.wrap (((l1.length : Nat) : Int) - (1 : Int))))))] (nst eI l1 e0) ?_)
        rw [show (decide ((0 : Int) ≤ (IntKind.i64.wrap (((l1.length : Nat) : Int) - (1 : Int))))) = y1 from Option.some.inj hy23]
        exact zg [] 1 [1,6,7,8,9,10,22,23,24,45] (zt 45 b24 (zg [] 7 [1,6,7,8,9,10,22,23,24,42] (zd (hJ2 false h _ _ (zk [1,6,7,8,9,10,22,23,24,42])))))
     ·exact zx 0 (hQ1 _ _ _ (hJ4 l1 h _ _ (Sub.trans (zk (fr' := [(6, oav l1)]) [6]) (Sub.nfree eI l1 e0))))
   exact XR.sub (zk [1,6,7,22,23,24]) (hL1 BIG [] (0 : Int) (0 : Int) 0 h)
 rcases zW h with ⟨b4, h⟩ | ⟨b4, h⟩
 ·exact zr (zg [] 3 [0,1,14] (zt 14 b4 (zv [] 7 [0,1,21] [] [(0, vl eI p1), (1, vi p2), (21, vb true)] [] (zd (hJ1 true h _ _ (zk [0,1,21]))))))
 ·rcases zW h with ⟨b5, h⟩ | ⟨b5, h⟩
  ·exact zr (zg [] 3 [0,1,14] (zt 14 b4 (zg [] 4 [0,1,18] (zt 18 b5 (zv [] 3 [0,1,21] [] [(0, vl eI p1), (1, vi p2), (21, vb true)] [] (zd (hJ1 true h _ _ (zk [0,1,21]))))))))
  ·obtain ⟨r1, c6, h⟩ := zB h
   refine zr (zg [] 3 [0,1,14] (zt 14 b4 (zg [] 4 [0,1,18] (zt 18 b5 (zv [] 1 [0,1,18,19] [] [(0, vl eI p1), (1, vi p2), (18, vb false), (19, vl eI p1)] [] (za (c_slices_ContainsFunc_int_int_of_lake_Bins_1 _ _ c6) (zg [] 1 [0,1,21] ?_)))))))
   exact zd (hJ1 r1 h _ _ (zk [0,1,21]))

def ref4_Bins_j5 (rec2 : List (List Int) → Int → Int → Option ((List (List Int)) × Int)) (x4 : Int) (l3 : List (List Int)) (x7 : Int) : Option ((List (List Int)) × Int) :=
    rec2 l3 x7 (IntKind.i64.wrap (x4 + (1 : Int)))

def ref4_Bins_j4 (rec2 : List (List Int) → Int → Int → Option ((List (List Int)) × Int)) (x4 : Int) (e2 : Int) (l2 : List (List Int)) (x6 : Int) : Option ((List (List Int)) × Int) :=
    bnd (at? l2 (IntKind.i64.wrap (((l2.length : Nat) : Int) - (1 : Int)))) fun e3 =>
    grd (e3.length + 1 ≤ 4294967296) <|
    ref4_Bins_j5 rec2 x4 (l2.set (IntKind.i64.wrap (((l2.length : Nat) : Int) - (1 : Int))).toNat (e3 ++ [x4])) (IntKind.i64.wrap (x6 + e2))

def ref4_Bins_j3 (rec2 : List (List Int) → Int → Int → Option ((List (List Int)) × Int)) (l1 : List (List Int)) (x3 : Int) (x4 : Int) (e2 : Int) (x5 : Bool) : Option ((List (List Int)) × Int) :=
    ift x5
      (grd (l1.length + 1 ≤ 4294967296) <|
       ref4_Bins_j4 rec2 x4 e2 (l1 ++ [[]]) (0 : Int))
      (ref4_Bins_j4 rec2 x4 e2 l1 x3)

def ref4_Bins_j6 (l4 : List (List Int)) : Option ((List (List Int)) × Int) :=
    some (l4, (0 : Int))

def ref4_Bins_l2 (p1 : (List Int)) (p2 : Int) : Nat → List (List Int) → Int → Int → Option ((List (List Int)) × Int)
  | 0, _, _, _ => none
  | k2 + 1, l1, x3, x4 =>
    ift (decide (x4 < (p1.length : Int)))
      (bnd (at? p1 x4) fun e2 =>
       ift (decide (p2 ≤ e2))
         (ref4_Bins_j5 (ref4_Bins_l2 p1 p2 k2) x4 l1 x3)
         (ift (((l1.length : Nat) : Int) == (0 : Int))
            (ref4_Bins_j3 (ref4_Bins_l2 p1 p2 k2) l1 x3 x4 e2 true)
            (ref4_Bins_j3 (ref4_Bins_l2 p1 p2 k2) l1 x3 x4 e2 (decide (p2 < (IntKind.i64.wrap (x3 + e2)))))))
      (ref4_Bins_j6 l1)

def ref4_Bins_j2 (p1 : (List Int)) (p2 : Int) : Option ((List (List Int)) × Int) :=
    ref4_Bins_l2 p1 p2 BIG [] (0 : Int) (0 : Int)

def ref4_Bins_l1 (p1 : (List Int)) (p2 : Int) : Nat → Int → Option ((List (List Int)) × Int)
  | 0, _ => none
  | k1 + 1, x2 =>
    ift (decide (x2 < (p1.length : Int)))
      (bnd (at? p1 x2) fun e1 =>
       ift (decide (e1 < (0 : Int)))
         (some ([], (3 : Int)))
         ((ref4_Bins_l1 p1 p2 k1) (IntKind.i64.wrap (x2 + (1 : Int)))))
      (ref4_Bins_j2 p1 p2)

def ref4_Bins_j1 (p1 : (List Int)) (p2 : Int) (x1 : Bool) : Option ((List (List Int)) × Int) :=
    ift x1
      (some ([], (3 : Int)))
      (ref4_Bins_l1 p1 p2 BIG (0 : Int))

def ref4_Bins (p1 : (List Int)) (p2 : Int) : Option ((List (List Int)) × Int) :=
    ift (decide (p2 < (1 : Int)))
      (ref4_Bins_j1 p1 p2 true)
      (ref4_Bins_j1 p1 p2 (decide ((2000 : Int) < p2)))


theorem c_ref4_Bins (p1 : (List Int)) (p2 : Int) (r : ((List (List Int)) × Int)) (h : ref4_Bins p1 p2 = some r) : PC Try.prog 7 [vl eI p1, vi p2] (.tp [vl (eL eI) r.1, vi r.2]) := by
 unfold ref4_Bins at h
 refine zF 69 Try.f7 (zq fun K1 hK1 => zr (zg [] 2 [0,1] (zd (hK1 _ _ (zq fun K2 hK2 => zq fun K3 hK3 => ?_)))))
 have hJ1 : ∀ (x1 : Bool), ref4_Bins_j1 p1 p2 x1 = some r → ∀ fr1 st1, Sub 69 0 [] fr1 st1 [(0, vl eI p1), (1, vi p2), (18, vb x1)] [] → K3 fr1 st1 := by
  intro x1 h fr1 st1 hS
  unfold ref4_Bins_j1 at h
  refine hK3 _ _ (XW.sub hS ?_)
  refine zC h (fun b5 h => ?_) (fun b5 h => ?_)
  ·refine zq fun K6 hK6 => zr (zg [] 2 [4,5] (zd (hK6 _ _ (ze ?_))))
   obtain rfl := Option.some.inj h
   exact zf [.one (.pv (.s (.slice none 0 0))), vi (3 : Int)] (.tpc (.one (.nl)) (.tpc (.one (.rfl _ rfl)) (.tp0)))
  ·refine zs (hK2 _ _ (zq fun K7 hK7 => ?_))
   have hJ2 : ∀ (_ : Unit), ref4_Bins_j2 p1 p2 = some r → ∀ fr1 st1, Sub 69 0 [] fr1 st1 [(0, vl eI p1), (1, vi p2)] [] → K7 fr1 st1 := by
    intro _ h fr1 st1 hS
    unfold ref4_Bins_j2 at h
    refine hK7 _ _ (XW.sub hS ?_)
    refine zq fun K18 hK18 => zr (zg [] 1 [0,1,8] (zd (hK18 _ _ (zq fun K19 hK19 => zr (zg [] 1 [0,1,8,9] ?_)))))
    refine zd (hK19 _ _ (zq fun K20 hK20 => ?_))
    have hJ6 : ∀ (l4 : List (List Int)), ref4_Bins_j6 l4 = some r → ∀ fr1 st1, Sub 69 0 [] fr1 st1 [(8, .one (.sl 0 1 0 l4.length))] [.arr 1 ((eL eI).els l4)] → K20 fr1 st1 := by
     intro l4 h fr1 st1 hS
     unfold ref4_Bins_j6 at h
     refine hK20 _ _ (XW.sub hS ?_)
     refine zq fun K40 hK40 => zr (zg [] 3 [4,5] (zd (hK40 _ _ (ze ?_))))
     obtain rfl := Option.some.inj h
     exact zf [.one (.sl 0 1 0 l4.length), vi (0 : Int)] (.tpc (.one (cf_sl (eL eI) l4 rfl rfl rfl)) (.tpc (.one (.rfl _ rfl)) (.tp0)))
    refine zq fun K21 hK21 => zr (zv [] 2 [1,8,9,28,29] [] [(1, vi p2), (8, .one (.pv (.s (.slice none 0 0)))), (9, vi (0 : Int)), (28, vl eI p1), (29, vi ((eI.els p1).length : Int))] [] ?_)
    rw [eI.len p1]
    refine zv [] 1 [1,8,9,28,29,30] [] [(1, vi p2), (8, .one (.pv (.s (.slice none 0 0)))), (9, vi (0 : Int)), (28, vl eI p1), (29, vi (p1.length : Int)), (30, vi (0 : Int))] [] (zd (hK21 _ _ (zb 2 (XW.sub (Sub.nst0 eI) (XW.rounds' BIG (x := cd Try.f7 [1,1,1,1,1,0,1,0,0]) (by kernel_rfl) fun Q2 hQ2 => ?_)))))
    have hL2 : ∀ (k2 : Nat) (l1 : List (List Int)) (x3 : Int) (x4 : Int) (e0 : Nat), ref4_Bins_l2 p1 p2 k2 l1 x3 x4 = some r → XR Try.prog 69 0 [] (cd Try.f7 [1,1,1,1,1,0,1,0,0]) Q2 k2 [(1, vi p2), (8, oav l1), (9, vi x3), (28, vl eI p1), (29, vi (p1.length : Int)), (30, vi x4)] (nst eI l1 e0) := by
     intro k2
     induction k2 with
     | zero => intro l1 x3 x4 e0 h; rw [ref4_Bins_l2.eq_1] at h; cases h
     | succ k2 ih2 =>
      intro l1 x3 x4 e0 h
      rw [ref4_Bins_l2.eq_2] at h
      refine zq fun K22 hK22 => zr (zg [] 1 [1,8,9,28,29,30,31] (zd (hK22 _ _ (zq fun K23 hK23 => zC h (fun b24 h => ?_) (fun b24 h => ?_)))))
      ·refine zs (hK23 _ _ (zq fun K25 hK25 => ?_))
       have hJ5 : ∀ (l3 : List (List Int)) (x7 : Int) (e7 : Nat), ref4_Bins_j5 (ref4_Bins_l2 p1 p2 k2) x4 l3 x7 = some r → ∀ fr1 st1, Sub 69 0 [] fr1 st1 [(1, vi p2), (8, oav l3), (9, vi x7), (28, vl eI p1), (29, vi (p1.length : Int)), (30, vi x4)] (nst eI l3 e7) → K25 fr1 st1 := by
        intro l3 x7 e7 h fr1 st1 hS
        unfold ref4_Bins_j5 at h
        refine hK25 _ _ (XW.sub hS ?_)
        exact zr (zg [] 2 [1,8,9,28,29,30] (zd (XR.sub (zk [1,8,9,28,29,30]) (ih2 l3 x7 (IntKind.i64.wrap (x4 + (1 : Int))) e7 h))))
       refine zb 3 (zq fun K26 hK26 => ?_)
       obtain ⟨e2, a27, h⟩ := zB h
       refine zr (zo [] 5 [1,8,9,10,11,28,29,30] [[pi e2]] [0 ≤ x4 ∧ x4 < ((eI.els p1).length : Int) ∧ elemsOk 1 (eI.els p1), (eI.els p1)[x4.toNat]? = some [pi e2]] (⟨eI.inb a27, (eI.get a27), trivial⟩) (zd (hK26 _ _ (zq fun K28 hK28 => zq fun K29 hK29 => zr (zv [] 3 [1,8,9,10,11,28,29,30,37] [] [(1, vi p2), (8, oav l1), (9, vi x3), (10, vi x4), (11, vi e2), (28, vl eI p1), (29, vi (p1.length : Int)), (30, vi x4), (37, vb (decide (p2 ≤ e2)))] (nst eI l1 e0) ?_)))))
       refine zd (hK29 _ _ (zC h (fun b30 h => ?_) (fun b30 h => ?_)))
       ·exact zx 3 (hJ5 l1 x3 e0 h _ _ (zk [1,8,9,28,29,30]))
       ·refine zs (hK28 _ _ (zq fun K31 hK31 => ?_))
        have hJ4 : ∀ (l2 : List (List Int)) (x6 : Int) (e6 : Nat), ref4_Bins_j4 (ref4_Bins_l2 p1 p2 k2) x4 e2 l2 x6 = some r → ∀ fr1 st1, Sub 69 0 [] fr1 st1 [(1, vi p2), (8, oav l2), (9, vi x6), (10, vi x4), (11, vi e2), (28, vl eI p1), (29, vi (p1.length : Int)), (30, vi x4)] (nst eI l2 e6) → K31 fr1 st1 := by
         intro l2 x6 e6 h fr1 st1 hS
         unfold ref4_Bins_j4 at h
         refine hK31 _ _ (XW.sub hS ?_)
         refine zq fun K37 hK37 => zr (zv [] 1 [1,8,9,10,11,28,29,30,51] [] [(1, vi p2), (8, oav l2), (9, vi x6), (10, vi x4), (11, vi e2), (28, vl eI p1), (29, vi (p1.length : Int)), (30, vi x4), (51, oav l2)] (nst eI l2 e6) (znn l2 [(52, vi ((l2.length : Nat) : Int)), (1, vi p2), (8, oav l2), (9, vi x6), (10, vi x4), (11, vi e2), (28, vl eI p1), (29, vi (p1.length : Int)), (30, vi x4), (51, oav l2)] (zv [] 2 [1,8,9,10,11,12,28,29,30] [] [(1, vi p2), (8, oav l2), (9, vi x6), (10, vi x4), (11, vi e2), (12, vi (IntKind.i64.wrap (((l2.length : Nat) : Int) - (1 : Int)))), (28, vl eI p1), (29, vi (p1.length : Int)), (30, vi x4)] (nst eI l2 e6) (zd (hK37 _ _ (zq fun K38 hK38 => ?_))))))
         obtain ⟨e3, a39, h⟩ := zB h
         obtain ⟨hg, h⟩ := zG h
         have hne : l2 ≠ [] := at_ne a39
         have hget : l2[(0 + (IntKind.i64.wrap (((l2.length : Nat) : Int) - (1 : Int))).toNat)]? = some e3 := by rw [Nat.zero_add]; exact (at?_some a39).2.2
         refine zr ?_
         rw [oav_ne hne]
         refine zp [] 5 [1,9,11,28,29,30,8,10,54,55,58] [] [(1, vi p2), (9, vi x6), (11, vi e2), (28, vl eI p1), (29, vi (p1.length : Int)), (30, vi x4), (8, .one (.sl 0 1 0 l2.length)), (10, vi x4), (54, .one (.sl 0 1 0 l2.length)), (55, vi (IntKind.i64.wrap (((l2.length : Nat) : Int) - (1 : Int)))), (58, .one (.pt 0 1 (0 + (IntKind.i64.wrap (((l2.length : Nat) : Int) - (1 : Int))).toNat) 0))] (nst eI l2 e6) [0 ≤ (IntKind.i64.wrap (((l2.length : Nat) : Int) - (1 : Int))) ∧ (IntKind.i64.wrap (((l2.length : Nat) : Int) - (1 : Int))) < ((l2.length : Nat) : Int)] ⟨Enc.inb' a39, trivial⟩ ?_
         refine znl eI l2 e6 (0 + (IntKind.i64.wrap (((l2.length : Nat) : Int) - (1 : Int))).toNat) e3 [(59, .one (.sl ((0 + (IntKind.i64.wrap (((l2.length : Nat) : Int) - (1 : Int))).toNat) + 1) eI.sz 0 e3.length)), (1, vi p2), (9, vi x6), (11, vi e2), (28, vl eI p1), (29, vi (p1.length : Int)), (30, vi x4), (8, .one (.sl 0 1 0 l2.length)), (10, vi x4), (54, .one (.sl 0 1 0 l2.length)), (55, vi (IntKind.i64.wrap (((l2.length : Nat) : Int) - (1 : Int)))), (58, .one (.pt 0 1 (0 + (IntKind.i64.wrap (((l2.length : Nat) : Int) - (1 : Int))).toNat) 0))] hne hget ?_
         refine zv [] 2 [1,9,11,28,29,30,8,54,55,59,61] [] [(1, vi p2), (9, vi x6), (11, vi e2), (28, vl eI p1), (29, vi (p1.length : Int)), (30, vi x4), (8, .one (.sl 0 1 0 l2.length)), (54, .one (.sl 0 1 0 l2.length)), (55, vi (IntKind.i64.wrap (((l2.length : Nat) : Int) - (1 : Int)))), (59, .one (.sl ((0 + (IntKind.i64.wrap (((l2.length : Nat) : Int) - (1 : Int))).toNat) + 1) eI.sz 0 e3.length)), (61, vl eI [x4])] (nst eI l2 e6) ?_
         refine zna eI l2 e6 (0 + (IntKind.i64.wrap (((l2.length : Nat) : Int) - (1 : Int))).toNat) e3 [x4] [(62, .one (.sl ((0 + (IntKind.i64.wrap (((l2.length : Nat) : Int) - (1 : Int))).toNat) + 1) eI.sz 0 (e3.length + (eI.els [x4]).length))), (1, vi p2), (9, vi x6), (11, vi e2), (28, vl eI p1), (29, vi (p1.length : Int)), (30, vi x4), (8, .one (.sl 0 1 0 l2.length)), (54, .one (.sl 0 1 0 l2.length)), (55, vi (IntKind.i64.wrap (((l2.length : Nat) : Int) - (1 : Int)))), (59, .j), (61, vl eI [x4])] [(1, vi p2), (9, vi x6), (11, vi e2), (28, vl eI p1), (29, vi (p1.length : Int)), (30, vi x4), (8, .one (.sl 0 1 0 l2.length)), (62, .one (.sl ((0 + (IntKind.i64.wrap (((l2.length : Nat) : Int) - (1 : Int))).toNat) + 1) eI.sz 0 (e3.length + (eI.els [x4]).length))), (63, .one (.pt 0 1 (0 + (IntKind.i64.wrap (((l2.length : Nat) : Int) - (1 : Int))).toNat) 0))] [(1, vi p2), (9, vi x6), (11, vi e2), (28, vl eI p1), (29, vi (p1.length : Int)), (30, vi x4), (8, .one (.sl 0 1 0 l2.length)), (62, .j), (63, .one (.pt 0 1 (0 + (IntKind.i64.wrap (((l2.length : Nat) : Int) - (1 : Int))).toNat) 0))] hne hget hg (fun st' hh => zp [] 1 [1,9,11,28,29,30,8,62,63] [] [(1, vi p2), (9, vi x6), (11, vi e2), (28, vl eI p1), (29, vi (p1.length : Int)), (30, vi x4), (8, .one (.sl 0 1 0 l2.length)), (62, .one (.sl ((0 + (IntKind.i64.wrap (((l2.length : Nat) : Int) - (1 : Int))).toNat) + 1) eI.sz 0 (e3.length + (eI.els [x4]).length))), (63, .one (.pt 0 1 (0 + (IntKind.i64.wrap (((l2.length : Nat) : Int) - (1 : Int))).toNat) 0))] st' [0 ≤ (IntKind.i64.wrap (((l2.length : Nat) : Int) - (1 : Int))) ∧ (IntKind.i64.wrap (((l2.length : Nat) : Int) - (1 : Int))) < ((l2.length : Nat) : Int)] ⟨Enc.inb' a39, trivial⟩ hh) ?_
         rw [Nat.zero_add]
         refine zd (hK38 _ _ (zr (zg [] 4 [1,8,9,28,29,30] (zd ?_))))
         have hne2 : (l2.set (IntKind.i64.wrap (((l2.length : Nat) : Int) - (1 : Int))).toNat (e3 ++ [x4])) ≠ [] := by intro hh; have := congrArg List.length hh; simp at this; exact hne this
         exact hJ5 (l2.set (IntKind.i64.wrap (((l2.length : Nat) : Int) - (1 : Int))).toNat (e3 ++ [x4])) (IntKind.i64.wrap (x6 + e2)) e6 h _ _ (Sub.trans (Sub.pick (fr' := [(1, vi p2), (8, .one (.sl 0 1 0 l2.length)), (9, vi (IntKind.i64.wrap (x6 + e2))), (28, vl eI p1), (29, vi (p1.length : Int)), (30, vi x4)]) [1,8,9,28,29,30] (by kernel_rfl)) (Sub.frame (fr' := [(1, vi p2), (8, oav (l2.set (IntKind.i64.wrap (((l2.length : Nat) : Int) - (1 : Int))).toNat (e3 ++ [x4]))), (9, vi (IntKind.i64.wrap (x6 + e2))), (28, vl eI p1), (29, vi (p1.length : Int)), (30, vi x4)]) ⟨.rfl _, ALe.of_eq (show (.one (.sl 0 1 0 l2.length) : AV) = oav (l2.set (IntKind.i64.wrap (((l2.length : Nat) : Int) - (1 : Int))).toNat (e3 ++ [x4])) from by rw [oav_ne hne2]; simp), .rfl _, .rfl _, .rfl _, .rfl _, trivial⟩))
        refine zq fun K32 hK32 => ?_
        have hJ3 : ∀ (x5 : Bool), ref4_Bins_j3 (ref4_Bins_l2 p1 p2 k2) l1 x3 x4 e2 x5 = some r → ∀ fr1 st1, Sub 69 0 [] fr1 st1 [(1, vi p2), (8, oav l1), (9, vi x3), (10, vi x4), (11, vi e2), (28, vl eI p1), (29, vi (p1.length : Int)), (30, vi x4), (47, vb x5)] (nst eI l1 e0) → K32 fr1 st1 := by
         intro x5 h fr1 st1 hS
         unfold ref4_Bins_j3 at h
         refine hK32 _ _ (XW.sub hS ?_)
         refine zC h (fun b34 h => ?_) (fun b34 h => ?_)
         ·refine zq fun K35 hK35 => ?_
          obtain ⟨g36, h⟩ := zG h
          refine zr (zv [] 1 [1,10,11,28,29,30,48] [] [(1, vi p2), (10, vi x4), (11, vi e2), (28, vl eI p1), (29, vi (p1.length : Int)), (30, vi x4), (48, oav l1)] (nst eI l1 e0) ?_)
          refine znq eI l1 e0 49 [1,10,11,28,29,30] [(50, .one (.sl 0 1 0 (l1.length + 1))), (1, vi p2), (10, vi x4), (11, vi e2), (28, vl eI p1), (29, vi (p1.length : Int)), (30, vi x4)] g36 (fun e3 => ?_)
          refine zg [] 1 [1,8,10,11,28,29,30] (zd (hK35 _ _ (zr (zg [] 1 [1,8,9,10,11,28,29,30] (zd ?_)))))
          exact hJ4 (l1 ++ [[]]) (0 : Int) e3 h _ _ (Sub.trans (Sub.pick (fr' := [(1, vi p2), (8, .one (.sl 0 1 0 (l1.length + 1))), (9, vi (0 : Int)), (10, vi x4), (11, vi e2), (28, vl eI p1), (29, vi (p1.length : Int)), (30, vi x4)]) [1,8,9,10,11,28,29,30] (by kernel_rfl)) (Sub.frame (fr' := [(1, vi p2), (8, oav (l1 ++ [[]])), (9, vi (0 : Int)), (10, vi x4), (11, vi e2), (28, vl eI p1), (29, vi (p1.length : Int)), (30, vi x4)]) ⟨.rfl _, ALe.of_eq (show (.one (.sl 0 1 0 (l1.length + 1)) : AV) = oav (l1 ++ [[]]) from by rw [oav_ne (by simp)]; simp), .rfl _, .rfl _, .rfl _, .rfl _, .rfl _, .rfl _, trivial⟩))
         ·exact zs (hJ4 l1 x3 e0 h _ _ (zk [1,8,9,10,11,28,29,30]))
        rcases zW h with ⟨b33, h⟩ | ⟨b33, h⟩
        ·exact zr (zv [] 1 [1,8,9,10,11,28,29,30,38] [] [(1, vi p2), (8, oav l1), (9, vi x3), (10, vi x4), (11, vi e2), (28, vl eI p1), (29, vi (p1.length : Int)), (30, vi x4), (38, oav l1)] (nst eI l1 e0) (znn l1 [(39, vi ((l1.length : Nat) : Int)), (1, vi p2), (8, oav l1), (9, vi x3), (10, vi x4), (11, vi e2), (28, vl eI p1), (29, vi (p1.length : Int)), (30, vi x4), (38, oav l1)] (zv [] 2 [1,8,9,10,11,28,29,30,41] [] [(1, vi p2), (8, oav l1), (9, vi x3), (10, vi x4), (11, vi e2), (28, vl eI p1), (29, vi (p1.length : Int)), (30, vi x4), (41, vb (((l1.length : Nat) : Int) == (0 : Int)))] (nst eI l1 e0) (zt 41 b33 (zg [] 6 [1,8,9,10,11,28,29,30,47] (zd (hJ3 true h _ _ (zk [1,8,9,10,11,28,29,30,47]))))))))
        ·exact zr (zv [] 1 [1,8,9,10,11,28,29,30,38] [] [(1, vi p2), (8, oav l1), (9, vi x3), (10, vi x4), (11, vi e2), (28, vl eI p1), (29, vi (p1.length : Int)), (30, vi x4), (38, oav l1)] (nst eI l1 e0) (znn l1 [(39, vi ((l1.length : Nat) : Int)), (1, vi p2), (8, oav l1), (9, vi x3), (10, vi x4), (11, vi e2), (28, vl eI p1), (29, vi (p1.length : Int)), (30, vi x4), (38, oav l1)] (zv [] 2 [1,8,9,10,11,28,29,30,41] [] [(1, vi p2), (8, oav l1), (9, vi x3), (10, vi x4), (11, vi e2), (28, vl eI p1), (29, vi (p1.length : Int)), (30, vi x4), (41, vb (((l1.length : Nat) : Int) == (0 : Int)))] (nst eI l1 e0) (zt 41 b33 (zg [] 6 [1,8,9,10,11,28,29,30,47] (zd (hJ3 (decide (p2 < (IntKind.i64.wrap (x3 + e2)))) h _ _ (zk [1,8,9,10,11,28,29,30,47]))))))))
      ·exact zx 2 (hQ2 _ _ _ (hJ6 l1 h _ _ (Sub.trans (zk (fr' := [(8, oav l1)]) [8]) (Sub.nfree eI l1 e0))))
    exact XR.sub (zk [1,8,9,28,29,30]) (hL2 BIG [] (0 : Int) (0 : Int) 0 h)
   refine zq fun K8 hK8 => zr (zv [] 2 [0,1,19,20] [] [(0, vl eI p1), (1, vi p2), (19, vl eI p1), (20, vi ((eI.els p1).length : Int))] [] ?_)
   rw [eI.len p1]
   refine zg [] 1 [0,1,19,20,21] (zd (hK8 _ _ (zb 0 (XW.rounds' BIG (x := cd Try.f7 [1,1,0,1,0,0]) (by kernel_rfl) fun Q1 hQ1 => ?_))))
   have hL1 : ∀ (k1 : Nat) (x2 : Int), ref4_Bins_l1 p1 p2 k1 x2 = some r → XR Try.prog 69 0 [] (cd Try.f7 [1,1,0,1,0,0]) Q1 k1 [(0, vl eI p1), (1, vi p2), (19, vl eI p1), (20, vi (p1.length : Int)), (21, vi x2)] [] := by
    intro k1
    induction k1 with
    | zero => intro x2 h; rw [ref4_Bins_l1.eq_1] at h; cases h
    | succ k1 ih1 =>
     intro x2 h
     rw [ref4_Bins_l1.eq_2] at h
     refine zq fun K9 hK9 => zr (zg [] 1 [0,1,19,20,21,22] (zd (hK9 _ _ (zq fun K10 hK10 => zC h (fun b11 h => ?_) (fun b11 h => ?_)))))
     ·refine zs (hK10 _ _ (zq fun K12 hK12 => zb 1 (zq fun K13 hK13 => ?_)))
      obtain ⟨e1, a14, h⟩ := zB h
      refine zr (zo [] 3 [0,1,7,19,20,21] [[pi e1]] [0 ≤ x2 ∧ x2 < ((eI.els p1).length : Int) ∧ elemsOk 1 (eI.els p1), (eI.els p1)[x2.toNat]? = some [pi e1]] (⟨eI.inb a14, (eI.get a14), trivial⟩) (zd (hK13 _ _ (zq fun K15 hK15 => zr (zv [] 2 [0,1,19,20,21,26] [] [(0, vl eI p1), (1, vi p2), (19, vl eI p1), (20, vi (p1.length : Int)), (21, vi x2), (26, vb (decide (e1 < (0 : Int))))] [] (zd ?_))))))
      refine hK15 _ _ (zC h (fun b16 h => ?_) (fun b16 h => ?_))
      ·refine zq fun K17 hK17 => zr (zg [] 2 [4,5] (zd (hK17 _ _ (ze (hQ1 _ _ _ ?_)))))
       obtain rfl := Option.some.inj h
       exact zf [.one (.pv (.s (.slice none 0 0))), vi (3 : Int)] (.tpc (.one (.nl)) (.tpc (.one (.rfl _ rfl)) (.tp0)))
      ·exact zs (hK12 _ _ (zr (zg [] 2 [0,1,19,20,21] (zd (XR.sub (zk [0,1,19,20,21]) (ih1 (IntKind.i64.wrap (x2 + (1 : Int))) h))))))
     ·exact zx 0 (hQ1 _ _ _ (hJ2 () h _ _ (zk [0,1])))
   exact XR.sub (zk [0,1,19,20,21]) (hL1 BIG (0 : Int) h)
 rcases zW h with ⟨b4, h⟩ | ⟨b4, h⟩
 ·exact zr (zg [] 3 [0,1,15] (zt 15 b4 (zv [] 3 [0,1,18] [] [(0, vl eI p1), (1, vi p2), (18, vb true)] [] (zd (hJ1 true h _ _ (zk [0,1,18]))))))
 ·exact zr (zg [] 3 [0,1,15] (zt 15 b4 (zg [] 3 [0,1,18] (zd (hJ1 (decide ((2000 : Int) < p2)) h _ _ (zk [0,1,18]))))))

def law4_ints_j1 : Option Bool :=
    some true

def law4_ints_l1 (p1 : (List Int)) (p2 : (List Int)) : Nat → Int → Option Bool
  | 0, _ => none
  | k1 + 1, x1 =>
    ift (decide (x1 < (p1.length : Int)))
      (bnd (at? p1 x1) fun e1 =>
       bnd (at? p2 x1) fun e2 =>
       ift (e1 != e2)
         (some false)
         ((law4_ints_l1 p1 p2 k1) (IntKind.i64.wrap (x1 + (1 : Int)))))
      (law4_ints_j1)

def law4_ints (p1 : (List Int)) (p2 : (List Int)) : Option Bool :=
    ift ((p1.length : Int) != (p2.length : Int))
      (some false)
      (law4_ints_l1 p1 p2 BIG (0 : Int))

abbrev qa106 (p1 : (List Int)) (p2 : (List Int)) (x1 : Int) (e1 : Int) (e2 : Int) : Fr := [(23, vi e2), (22, .one (.pv (.rp (eI.els p2) x1.toNat 0))), (21, vi x1), (20, vl eI p2), (19, vi e1), (18, .one (.pv (.rp (eI.els p1) x1.toNat 0))), (17, vi x1), (16, vl eI p1), (0, vl eI p1), (1, vl eI p2), (5, vi x1), (12, vi (p1.length : Int)), (13, vi x1)]

theorem c_law4_ints (p1 : (List Int)) (p2 : (List Int)) (r : Bool) (h : law4_ints p1 p2 = some r) : PC Try.prog 8 [vl eI p1, vl eI p2] (vb r) := by
 unfold law4_ints at h
 refine zF 26 Try.f8 (zq fun K1 hK1 => zr (zg [] 1 [0,1] (zd (hK1 _ _ (zq fun K2 hK2 => zq fun K3 hK3 => ?_)))))
 refine zr (zv [] 2 [0,1,7] [] [(0, vl eI p1), (1, vl eI p2), (7, vi ((eI.els p1).length : Int))] [] ?_)
 rw [eI.len p1]
 refine zv [] 2 [0,1,7,9] [] [(0, vl eI p1), (1, vl eI p2), (7, vi (p1.length : Int)), (9, vi ((eI.els p2).length : Int))] [] ?_
 rw [eI.len p2]
 refine zg [] 1 [0,1,10] (zd (hK3 _ _ (zC h (fun b4 h => ?_) (fun b4 h => ?_))))
 ·refine zq fun K5 hK5 => zr (zg [] 1 [4] (zd (hK5 _ _ (ze ?_))))
  obtain rfl := Option.some.inj h
  exact zf [vb false] (.one (.rfl _ rfl))
 ·refine zs (hK2 _ _ (zq fun K6 hK6 => ?_))
  have hJ1 : ∀ (_ : Unit), law4_ints_j1 = some r → ∀ fr1 st1, Sub 26 0 [] fr1 st1 [] [] → K6 fr1 st1 := by
   intro _ h fr1 st1 hS
   unfold law4_ints_j1 at h
   refine hK6 _ _ (XW.sub hS ?_)
   refine zq fun K18 hK18 => zr (zg [] 1 [4] (zd (hK18 _ _ (ze ?_))))
   obtain rfl := Option.some.inj h
   exact zf [vb true] (.one (.rfl _ rfl))
  refine zq fun K7 hK7 => zr (zv [] 2 [0,1,12] [] [(0, vl eI p1), (1, vl eI p2), (12, vi ((eI.els p1).length : Int))] [] ?_)
  rw [eI.len p1]
  refine zg [] 1 [0,1,12,13] (zd (hK7 _ _ (zb 0 (XW.rounds' BIG (x := cd Try.f8 [1,1,0,1,0,0]) (by kernel_rfl) fun Q1 hQ1 => ?_))))
  have hL1 : ∀ (k1 : Nat) (x1 : Int), law4_ints_l1 p1 p2 k1 x1 = some r → XR Try.prog 26 0 [] (cd Try.f8 [1,1,0,1,0,0]) Q1 k1 [(0, vl eI p1), (1, vl eI p2), (12, vi (p1.length : Int)), (13, vi x1)] [] := by
   intro k1
   induction k1 with
   | zero => intro x1 h; rw [law4_ints_l1.eq_1] at h; cases h
   | succ k1 ih1 =>
    intro x1 h
    rw [law4_ints_l1.eq_2] at h
    refine zq fun K8 hK8 => zr (zg [] 1 [0,1,12,13,14] (zd (hK8 _ _ (zq fun K9 hK9 => zC h (fun b10 h => ?_) (fun b10 h => ?_)))))
    ·refine zs (hK9 _ _ (zq fun K11 hK11 => zb 1 (zq fun K12 hK12 => zr (zg [] 2 [0,1,5,12,13] (zd ?_)))))
     refine hK12 _ _ (zq fun K13 hK13 => ?_)
     obtain ⟨e1, a14, h⟩ := zB h
     obtain ⟨e2, a15, h⟩ := zB h
     refine zw 8 (qa106 p1 p2 x1 e1 e2) ?_ ?_
     ·exact zyp 8 [[pi e1], [pi e2]] (qa106 p1 p2 x1 e1 e2) [0 ≤ x1 ∧ x1 < ((eI.els p1).length : Int) ∧ elemsOk 1 (eI.els p1), (eI.els p1)[x1.toNat]? = some [pi e1], 0 ≤ x1 ∧ x1 < ((eI.els p2).length : Int) ∧ elemsOk 1 (eI.els p2), (eI.els p2)[x1.toNat]? = some [pi e2]] (⟨eI.inb a14, (eI.get a14), eI.inb a15, (eI.get a15), trivial⟩) zyd
     refine zv [] 1 [0,1,12,13,24] [] [(0, vl eI p1), (1, vl eI p2), (12, vi (p1.length : Int)), (13, vi x1), (24, vb (e1 != e2))] [] (zd (hK13 _ _ (zC h (fun b16 h => ?_) (fun b16 h => ?_))))
     ·refine zq fun K17 hK17 => zr (zg [] 1 [4] (zd (hK17 _ _ (ze (hQ1 _ _ _ ?_)))))
      obtain rfl := Option.some.inj h
      exact zf [vb false] (.one (.rfl _ rfl))
     ·exact zs (hK11 _ _ (zr (zg [] 2 [0,1,12,13] (zd (XR.sub (zk [0,1,12,13]) (ih1 (IntKind.i64.wrap (x1 + (1 : Int))) h))))))
    ·exact zx 0 (hQ1 _ _ _ (hJ1 () h _ _ (zk [])))
  exact XR.sub (zk [0,1,12,13]) (hL1 BIG (0 : Int) h)

def law4_LakeBinsMatchSpec_j2 : Option Bool :=
    some true

def law4_LakeBinsMatchSpec_l1 (r1 : ((List (List Int)) × Int)) (r2 : ((List (List Int)) × Int)) : Nat → Int → Option Bool
  | 0, _ => none
  | k1 + 1, x2 =>
    ift (decide (x2 < (r1.1.length : Int)))
      (bnd (at? r1.1 x2) fun e1 =>
       bnd (at? r2.1 x2) fun e2 =>
       bnd (law4_ints e1 e2) fun r4 =>
       ift (!r4)
         (some false)
         ((law4_LakeBinsMatchSpec_l1 r1 r2 k1) (IntKind.i64.wrap (x2 + (1 : Int)))))
      (law4_LakeBinsMatchSpec_j2)

def law4_LakeBinsMatchSpec_j1 (r1 : ((List (List Int)) × Int)) (r2 : ((List (List Int)) × Int)) (x1 : Bool) : Option Bool :=
    ift x1
      (some false)
      (law4_LakeBinsMatchSpec_l1 r1 r2 BIG (0 : Int))

def law4_LakeBinsMatchSpec (p1 : (List Int)) (p2 : Int) : Option Bool :=
    bnd (lake_Bins p1 p2) fun r1 =>
    bnd (ref4_Bins p1 p2) fun r2 =>
    bnd (lake_Bins [(1 : Int)] (2 : Int)) fun r3 =>
    ift (r3.2 != (0 : Int))
      (law4_LakeBinsMatchSpec_j1 r1 r2 true)
      (ift ((r3.1.length : Int) != (1 : Int))
         (law4_LakeBinsMatchSpec_j1 r1 r2 true)
         (ift (r1.2 != r2.2)
            (law4_LakeBinsMatchSpec_j1 r1 r2 true)
            (law4_LakeBinsMatchSpec_j1 r1 r2 ((r1.1.length : Int) != (r2.1.length : Int)))))

abbrev qa115 (r1 : ((List (List Int)) × Int)) (r2 : ((List (List Int)) × Int)) (x2 : Int) (e1 : (List Int)) (e2 : (List Int)) : Fr := [(60, vl eI e2), (59, .one (.pv (.rp ((eL eI).els r2.1) x2.toNat 0))), (58, vi x2), (57, vl (eL eI) r2.1), (56, vl eI e1), (55, .one (.pv (.rp ((eL eI).els r1.1) x2.toNat 0))), (54, vi x2), (53, vl (eL eI) r1.1), (5, vl (eL eI) r1.1), (7, vl (eL eI) r2.1), (11, vi x2), (49, vi (r1.1.length : Int)), (50, vi x2)]

theorem c_law4_LakeBinsMatchSpec (p1 : (List Int)) (p2 : Int) (r : Bool) (h : law4_LakeBinsMatchSpec p1 p2 = some r) : PC Try.prog 3 [vl eI p1, vi p2] (vb r) := by
 unfold law4_LakeBinsMatchSpec at h
 refine zF 64 Try.f3 (zq fun K1 hK1 => zr (zg [] 1 [0,1] (zd (hK1 _ _ (zq fun K2 hK2 => ?_)))))
 obtain ⟨r1, c3, h⟩ := zB h
 refine zr (zg [] 2 [0,1,13,14] (zl 6 [vl eI p1, vi p2] (.tp [vl (eL eI) r1.1, vi r1.2]) [(15, .tp [vl (eL eI) r1.1, vi r1.2]), (0, vl eI p1), (1, vi p2), (13, vl eI p1), (14, vi p2)] (c_lake_Bins _ _ _ c3) (zg [] 5 [0,1,5,6] (zd (hK2 _ _ (zq fun K4 hK4 => ?_))))))
 obtain ⟨r2, c5, h⟩ := zB h
 refine zr (zg [] 2 [5,6,19,20] (zl 7 [vl eI p1, vi p2] (.tp [vl (eL eI) r2.1, vi r2.2]) [(21, .tp [vl (eL eI) r2.1, vi r2.2]), (5, vl (eL eI) r1.1), (6, vi r1.2), (19, vl eI p1), (20, vi p2)] (c_ref4_Bins _ _ _ c5) (zg [] 5 [5,6,7,8] (zd (hK4 _ _ (zq fun K6 hK6 => zq fun K7 hK7 => ?_))))))
 obtain ⟨r3, c8, h⟩ := zB h
 refine zr (zg [] 1 [5,6,7,8,25] (zl 6 [vl eI [(1 : Int)], vi (2 : Int)] (.tp [vl (eL eI) r3.1, vi r3.2]) [(26, .tp [vl (eL eI) r3.1, vi r3.2]), (5, vl (eL eI) r1.1), (6, vi r1.2), (7, vl (eL eI) r2.1), (8, vi r2.2), (25, vl eI [(1 : Int)])] (c_lake_Bins _ _ _ c8) (zg [] 5 [5,6,7,8,9,10] (zd (hK7 _ _ (zq fun K9 hK9 => ?_))))))
 have hJ1 : ∀ (x1 : Bool), law4_LakeBinsMatchSpec_j1 r1 r2 x1 = some r → ∀ fr1 st1, Sub 64 0 [] fr1 st1 [(5, vl (eL eI) r1.1), (7, vl (eL eI) r2.1), (47, vb x1)] [] → K9 fr1 st1 := by
  intro x1 h fr1 st1 hS
  unfold law4_LakeBinsMatchSpec_j1 at h
  refine hK9 _ _ (XW.sub hS ?_)
  refine zC h (fun b13 h => ?_) (fun b13 h => ?_)
  ·refine zq fun K14 hK14 => zr (zg [] 1 [4] (zd (hK14 _ _ (ze ?_))))
   obtain rfl := Option.some.inj h
   exact zf [vb false] (.one (.rfl _ rfl))
  ·refine zs (hK6 _ _ (zq fun K15 hK15 => ?_))
   have hJ2 : ∀ (_ : Unit), law4_LakeBinsMatchSpec_j2 = some r → ∀ fr1 st1, Sub 64 0 [] fr1 st1 [] [] → K15 fr1 st1 := by
    intro _ h fr1 st1 hS
    unfold law4_LakeBinsMatchSpec_j2 at h
    refine hK15 _ _ (XW.sub hS ?_)
    refine zq fun K28 hK28 => zr (zg [] 1 [4] (zd (hK28 _ _ (ze ?_))))
    obtain rfl := Option.some.inj h
    exact zf [vb true] (.one (.rfl _ rfl))
   refine zq fun K16 hK16 => zr (zv [] 2 [5,7,49] [] [(5, vl (eL eI) r1.1), (7, vl (eL eI) r2.1), (49, vi (((eL eI).els r1.1).length : Int))] [] ?_)
   rw [(eL eI).len r1.1]
   refine zg [] 1 [5,7,49,50] (zd (hK16 _ _ (zb 0 (XW.rounds' BIG (x := cd Try.f3 [1,1,1,1,0,1,0,0]) (by kernel_rfl) fun Q1 hQ1 => ?_))))
   have hL1 : ∀ (k1 : Nat) (x2 : Int), law4_LakeBinsMatchSpec_l1 r1 r2 k1 x2 = some r → XR Try.prog 64 0 [] (cd Try.f3 [1,1,1,1,0,1,0,0]) Q1 k1 [(5, vl (eL eI) r1.1), (7, vl (eL eI) r2.1), (49, vi (r1.1.length : Int)), (50, vi x2)] [] := by
    intro k1
    induction k1 with
    | zero => intro x2 h; rw [law4_LakeBinsMatchSpec_l1.eq_1] at h; cases h
    | succ k1 ih1 =>
     intro x2 h
     rw [law4_LakeBinsMatchSpec_l1.eq_2] at h
     refine zq fun K17 hK17 => zr (zg [] 1 [5,7,49,50,51] (zd (hK17 _ _ (zq fun K18 hK18 => zC h (fun b19 h => ?_) (fun b19 h => ?_)))))
     ·refine zs (hK18 _ _ (zq fun K20 hK20 => zb 1 (zq fun K21 hK21 => zr (zg [] 2 [5,7,11,49,50] (zd ?_)))))
      refine hK21 _ _ (zq fun K22 hK22 => ?_)
      obtain ⟨e1, a23, h⟩ := zB h
      obtain ⟨e2, a24, h⟩ := zB h
      obtain ⟨r4, c25, h⟩ := zB h
      refine zw 8 (qa115 r1 r2 x2 e1 e2) ?_ ?_
      ·refine zyp 8 [[.ro (eI.els e1)], [.ro (eI.els e2)]] (qa115 r1 r2 x2 e1 e2) [0 ≤ x2 ∧ x2 < (((eL eI).els r1.1).length : Int) ∧ elemsOk 1 ((eL eI).els r1.1), ((eL eI).els r1.1)[x2.toNat]? = some [.ro (eI.els e1)], 0 ≤ x2 ∧ x2 < (((eL eI).els r2.1).length : Int) ∧ elemsOk 1 ((eL eI).els r2.1), ((eL eI).els r2.1)[x2.toNat]? = some [.ro (eI.els e2)]] (⟨(eL eI).inb a23, ((eL eI).get a23), (eL eI).inb a24, ((eL eI).get a24), trivial⟩) ?_
       exact zyd
      refine zl 8 [vl eI e1, vl eI e2] (vb r4) [(61, vb r4), (60, vl eI e2), (59, .one (.pv (.rp ((eL eI).els r2.1) x2.toNat 0))), (58, vi x2), (57, vl (eL eI) r2.1), (56, vl eI e1), (55, .one (.pv (.rp ((eL eI).els r1.1) x2.toNat 0))), (54, vi x2), (53, vl (eL eI) r1.1), (5, vl (eL eI) r1.1), (7, vl (eL eI) r2.1), (11, vi x2), (49, vi (r1.1.length : Int)), (50, vi x2)] (c_law4_ints _ _ _ c25) (zg [] 1 [5,7,49,50,62] (zd (hK22 _ _ (zC h (fun b26 h => ?_) (fun b26 h => ?_)))))
      ·refine zq fun K27 hK27 => zr (zg [] 1 [4] (zd (hK27 _ _ (ze (hQ1 _ _ _ ?_)))))
       obtain rfl := Option.some.inj h
       exact zf [vb false] (.one (.rfl _ rfl))
      ·exact zs (hK20 _ _ (zr (zv [] 2 [5,7,49,50] [] [(5, vl (eL eI) r1.1), (7, vl (eL eI) r2.1), (49, vi (r1.1.length : Int)), (50, vi (IntKind.i64.wrap (x2 + (1 : Int))))] [] (zd (XR.sub (zk [5,7,49,50]) (ih1 (IntKind.i64.wrap (x2 + (1 : Int))) h))))))
     ·exact zx 0 (hQ1 _ _ _ (hJ2 () h _ _ (zk [])))
   exact XR.sub (zk [5,7,49,50]) (hL1 BIG (0 : Int) h)
 rcases zW h with ⟨b10, h⟩ | ⟨b10, h⟩
 ·exact zr (zg [] 3 [5,6,7,8,9,31] (zt 31 b10 (zv [] 16 [5,7,47] [] [(5, vl (eL eI) r1.1), (7, vl (eL eI) r2.1), (47, vb true)] [] (zd (hJ1 true h _ _ (zk [5,7,47]))))))
 ·rcases zW h with ⟨b11, h⟩ | ⟨b11, h⟩
  ·refine zr (zg [] 3 [5,6,7,8,9,31] (zt 31 b10 (zv [] 2 [5,6,7,8,31,33] [] [(5, vl (eL eI) r1.1), (6, vi r1.2), (7, vl (eL eI) r2.1), (8, vi r2.2), (31, vb false), (33, vi (((eL eI).els r3.1).length : Int))] [] ?_)))
   rw [(eL eI).len r3.1]
   exact zg [] 3 [5,6,7,8,36] (zt 36 b11 (zg [] 11 [5,7,47] (zd (hJ1 true h _ _ (zk [5,7,47])))))
  ·rcases zW h with ⟨b12, h⟩ | ⟨b12, h⟩
   ·refine zr (zv [] 3 [5,6,7,8,9,31] [] [(5, vl (eL eI) r1.1), (6, vi r1.2), (7, vl (eL eI) r2.1), (8, vi r2.2), (9, vl (eL eI) r3.1), (31, vb (r3.2 != (0 : Int)))] [] (zt 31 b10 (zv [] 2 [5,6,7,8,31,33] [] [(5, vl (eL eI) r1.1), (6, vi r1.2), (7, vl (eL eI) r2.1), (8, vi r2.2), (31, vb false), (33, vi (((eL eI).els r3.1).length : Int))] [] ?_)))
    rw [(eL eI).len r3.1]
    exact zg [] 3 [5,6,7,8,36] (zt 36 b11 (zg [] 5 [5,7,41] (zt 41 b12 (zv [] 6 [5,7,47] [] [(5, vl (eL eI) r1.1), (7, vl (eL eI) r2.1), (47, vb true)] [] (zd (hJ1 true h _ _ (zk [5,7,47])))))))
   ·refine zr (zg [] 3 [5,6,7,8,9,31] (zt 31 b10 (zv [] 2 [5,6,7,8,31,33] [] [(5, vl (eL eI) r1.1), (6, vi r1.2), (7, vl (eL eI) r2.1), (8, vi r2.2), (31, vb false), (33, vi (((eL eI).els r3.1).length : Int))] [] ?_)))
    rw [(eL eI).len r3.1]
    refine zg [] 3 [5,6,7,8,36] (zt 36 b11 (zg [] 5 [5,7,41] (zt 41 b12 (zv [] 2 [5,7,41,43] [] [(5, vl (eL eI) r1.1), (7, vl (eL eI) r2.1), (41, vb false), (43, vi (((eL eI).els r1.1).length : Int))] [] ?_))))
    rw [(eL eI).len r1.1]
    refine zv [] 2 [5,7,41,43,45] [] [(5, vl (eL eI) r1.1), (7, vl (eL eI) r2.1), (41, vb false), (43, vi (r1.1.length : Int)), (45, vi (((eL eI).els r2.1).length : Int))] [] ?_
    rw [(eL eI).len r2.1]
    exact zg [] 2 [5,7,47] (zd (hJ1 ((r1.1.length : Int) != (r2.1.length : Int)) h _ _ (zk [5,7,47])))


end Go.Proofs.Ytbmkkmbgoenllaa
