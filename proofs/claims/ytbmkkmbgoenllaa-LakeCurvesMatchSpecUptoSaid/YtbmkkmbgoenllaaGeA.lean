/- Printed by a program: what the functions compute, and the proofs of their contracts. -/
import Derived.Test.YtbmkkmbgoenllaaChecked
import Derived.Test.YtbmkkmbgoenllaaSxB
namespace Go.Proofs.Ytbmkkmbgoenllaa
open Go.SX Go
set_option linter.unusedVariables false
set_option linter.unusedSimpArgs false
set_option maxRecDepth 100000
set_option maxHeartbeats 8000000

def lake_curve_j1 (p3 : Int) (x1 : Bool) : Option Int :=
    ift x1
      (some (3 : Int))
      (ift (decide ((4 : Int) < p3))
         (some (7 : Int))
         (ift (decide (p3 < (1 : Int)))
            (some (9 : Int))
            (some (0 : Int))))

def lake_curve (p1 : Int) (p2 : Int) (p3 : Int) : Option Int :=
    ift (p1 != (1 : Int))
      (ift (p1 != (2 : Int))
         (lake_curve_j1 p3 true)
         (ift (decide (p2 < (1 : Int)))
            (lake_curve_j1 p3 true)
            (lake_curve_j1 p3 (decide ((15 : Int) < p2)))))
      (ift (decide (p2 < (1 : Int)))
         (lake_curve_j1 p3 true)
         (lake_curve_j1 p3 (decide ((15 : Int) < p2))))


theorem c_lake_curve (p1 : Int) (p2 : Int) (p3 : Int) (r : Int) (h : lake_curve p1 p2 p3 = some r) : PC Try.prog 17 [vi p1, vi p2, vi p3] (vi r) := by
 unfold lake_curve at h
 refine zF 28 Try.f17 (zq fun K1 hK1 => zr (zg [] 1 [0,1,2] (zd (hK1 _ _ (zq fun K2 hK2 => zb 0 ?_)))))
 refine zq fun K3 hK3 => ?_
 have hJ1 : ∀ (x1 : Bool), lake_curve_j1 p3 x1 = some r → ∀ fr1 st1, Sub 28 0 [] fr1 st1 [(2, vi p3), (7, vb x1)] [] → K3 fr1 st1 := by
  intro x1 h fr1 st1 hS
  unfold lake_curve_j1 at h
  refine hK3 _ _ (XW.sub hS ?_)
  refine zC h (fun b8 h => ?_) (fun b8 h => ?_)
  ·refine zq fun K9 hK9 => zr (zg [] 1 [6] (zd (hK9 _ _ (ze ?_))))
   obtain rfl := Option.some.inj h
   exact zf [vi (3 : Int)] (.one (.rfl _ rfl))
  ·refine zq fun K10 hK10 => zr (zg [] 3 [2,22] (zd (hK10 _ _ (zC h (fun b11 h => ?_) (fun b11 h => ?_)))))
   ·refine zq fun K12 hK12 => zr (zv [] 1 [6] [] [(6, vi (7 : Int))] [] (zd (hK12 _ _ (ze ?_))))
    obtain rfl := Option.some.inj h
    exact zf [vi (7 : Int)] (.one (.rfl _ rfl))
   ·refine zq fun K13 hK13 => zr (zg [] 3 [25] (zd (hK13 _ _ (zC h (fun b14 h => ?_) (fun b14 h => ?_)))))
    ·refine zq fun K15 hK15 => zr (zg [] 1 [6] (zd (hK15 _ _ (ze ?_))))
     obtain rfl := Option.some.inj h
     exact zf [vi (9 : Int)] (.one (.rfl _ rfl))
    ·refine zs (hK2 _ _ (zq fun K16 hK16 => zr (zv [] 1 [6] [] [(6, vi (0 : Int))] [] (zd (hK16 _ _ (ze ?_))))))
     obtain rfl := Option.some.inj h
     exact zf [vi (0 : Int)] (.one (.rfl _ rfl))
 rcases zW h with ⟨b4, h⟩ | ⟨b4, h⟩
 ·rcases zW h with ⟨b5, h⟩ | ⟨b5, h⟩
  ·exact zr (zg [] 3 [0,1,2,10] (zt 10 b4 (zv [] 4 [1,2,14] [] [(1, vi p2), (2, vi p3), (14, vb (p1 != (2 : Int)))] [] (zt 14 b5 (zg [] 8 [2,7] (zd (hJ1 true h _ _ (zk [2,7]))))))))
  ·rcases zW h with ⟨b6, h⟩ | ⟨b6, h⟩
   ·refine zr (zg [] 3 [0,1,2,10] (zt 10 b4 (zv [] 4 [1,2,14] [] [(1, vi p2), (2, vi p3), (14, vb (p1 != (2 : Int)))] [] (zt 14 b5 (zg [] 4 [1,2,18] (zt 18 b6 (zg [] 4 [2,7] ?_)))))))
    exact zd (hJ1 true h _ _ (zk [2,7]))
   ·refine zr (zv [] 3 [0,1,2,10] [] [(0, vi p1), (1, vi p2), (2, vi p3), (10, vb (p1 != (1 : Int)))] [] (zt 10 b4 (zg [] 4 [1,2,14] (zt 14 b5 (zg [] 4 [1,2,18] (zt 18 b6 (zv [] 4 [2,7] [] [(2, vi p3), (7, vb (decide ((15 : Int) < p2)))] [] ?_)))))))
    exact zd (hJ1 (decide ((15 : Int) < p2)) h _ _ (zk [2,7]))
 ·rcases zW h with ⟨b7, h⟩ | ⟨b7, h⟩
  ·exact zr (zg [] 3 [0,1,2,10] (zt 10 b4 (zv [] 8 [1,2,18] [] [(1, vi p2), (2, vi p3), (18, vb (decide (p2 < (1 : Int))))] [] (zt 18 b7 (zg [] 4 [2,7] (zd (hJ1 true h _ _ (zk [2,7]))))))))
  ·exact zr (zg [] 3 [0,1,2,10] (zt 10 b4 (zv [] 8 [1,2,18] [] [(1, vi p2), (2, vi p3), (18, vb (decide (p2 < (1 : Int))))] [] (zt 18 b7 (zg [] 4 [2,7] (zd (hJ1 (decide ((15 : Int) < p2)) h _ _ (zk [2,7]))))))))

def lake_Curve_1_s_j1 (x1 : Bool) : Option Bool :=
    some x1

def lake_Curve_1_s (p1 : Int) (p2 : Int) : Option Bool :=
    ift (decide (p1 < (0 : Int)))
      (lake_Curve_1_s_j1 true)
      (grd (0 ≤ p2) <|
       bnd (some (IntKind.i64.wrap ((1 : Int) * 2 ^ (min p2.toNat (IntKind.i64).bits)))) fun y1 =>
       lake_Curve_1_s_j1 (decide (y1 ≤ p1)))


theorem c_lake_Curve_1_s (p1 : Int) (p2 : Int) (r : Bool) (h : lake_Curve_1_s p1 p2 = some r) : PC Try.prog 18 [vi p1, .one (.pv (.rp [[pi p2]] 0 0))] (vb r) := by
 unfold lake_Curve_1_s at h
 refine zF 12 Try.f18 (zq fun K1 hK1 => zr (zg [] 1 [0,1] (zd (hK1 _ _ (zq fun K2 hK2 => ?_)))))
 have hJ1 : ∀ (x1 : Bool), lake_Curve_1_s_j1 x1 = some r → ∀ fr1 st1, Sub 12 0 [] fr1 st1 [(3, vb x1)] [] → K2 fr1 st1 := by
  intro x1 h fr1 st1 hS
  unfold lake_Curve_1_s_j1 at h
  refine hK2 _ _ (XW.sub hS ?_)
  refine ze ?_
  obtain rfl := Option.some.inj h
  exact zf [vb x1] (.one (.rfl _ rfl))
 rcases zW h with ⟨b3, h⟩ | ⟨b3, h⟩
 ·exact zr (zg [] 3 [0,1,6] (zt 6 b3 (zv [] 6 [3] [] [(3, vb true)] [] (zd (hJ1 true h _ _ (zk [3]))))))
 ·obtain ⟨g4, h⟩ := zG h
  obtain ⟨y1, hy5, h⟩ := zB h
  refine zr (zg [] 3 [0,1,6] (zt 6 b3 (zp [] 3 [6,7,9] [[pi p2]] [(6, vb false), (7, vi p1), (9, vi (IntKind.i64.wrap ((1 : Int) * 2 ^ (min p2.toNat (IntKind.i64).bits))))] [] [([[pi p2]] : List (List PV))[0]? = some [pi p2], 0 ≤ p2] (⟨rfl, g4, trivial⟩) ?_)))
  rw [show (IntKind.i64.wrap ((1 : Int) * 2 ^ (min p2.toNat (IntKind.i64).bits))) = y1 from Option.some.inj hy5]
  exact zg [] 3 [3] (zd (hJ1 (decide (y1 ≤ p1)) h _ _ (zk [3])))

def slices_IndexFunc_int_int_of_lake_Curve_1_j1 : Option Int :=
    some (-1 : Int)

def slices_IndexFunc_int_int_of_lake_Curve_1_l1 (p1 : (List Int)) (p2 : Int) : Nat → Int → Option Int
  | 0, _ => none
  | k1 + 1, x1 =>
    ift (decide (x1 < (p1.length : Int)))
      (bnd (at? p1 x1) fun e1 =>
       bnd (lake_Curve_1_s e1 p2) fun r1 =>
       ift r1
         (some x1)
         ((slices_IndexFunc_int_int_of_lake_Curve_1_l1 p1 p2 k1) (IntKind.i64.wrap (x1 + (1 : Int)))))
      (slices_IndexFunc_int_int_of_lake_Curve_1_j1)

def slices_IndexFunc_int_int_of_lake_Curve_1 (p1 : (List Int)) (p2 : Int) : Option Int :=
    slices_IndexFunc_int_int_of_lake_Curve_1_l1 p1 p2 BIG (0 : Int)


theorem c_slices_IndexFunc_int_int_of_lake_Curve_1 (p1 : (List Int)) (p2 : Int) (r : Int) (h : slices_IndexFunc_int_int_of_lake_Curve_1 p1 p2 = some r) : PC Try.prog 26 [vl eI p1, .one (.fn 18 [.pv (.rp [[pi p2]] 0 0)])] (vi r) := by
 unfold slices_IndexFunc_int_int_of_lake_Curve_1 at h
 refine zF 19 Try.f26 (zq fun K1 hK1 => zr (zg [] 1 [0,1] (zd (hK1 _ _ (zq fun K2 hK2 => ?_)))))
 have hJ1 : ∀ (_ : Unit), slices_IndexFunc_int_int_of_lake_Curve_1_j1 = some r → ∀ fr1 st1, Sub 19 0 [] fr1 st1 [] [] → K2 fr1 st1 := by
  intro _ h fr1 st1 hS
  unfold slices_IndexFunc_int_int_of_lake_Curve_1_j1 at h
  refine hK2 _ _ (XW.sub hS ?_)
  refine zq fun K14 hK14 => zr (zg [] 1 [4] (zd (hK14 _ _ (ze ?_))))
  obtain rfl := Option.some.inj h
  exact zf [vi (-1 : Int)] (.one (.rfl _ rfl))
 refine zq fun K3 hK3 => zr (zv [] 2 [0,1,7] [] [(0, vl eI p1), (1, .one (.fn 18 [.pv (.rp [[pi p2]] 0 0)])), (7, vi ((eI.els p1).length : Int))] [] ?_)
 rw [eI.len p1]
 refine zg [] 1 [0,1,7,8] (zd (hK3 _ _ (zb 0 (XW.rounds' BIG (x := cd Try.f26 [1,0,1,0,0]) (by kernel_rfl) fun Q1 hQ1 => ?_))))
 have hL1 : ∀ (k1 : Nat) (x1 : Int), slices_IndexFunc_int_int_of_lake_Curve_1_l1 p1 p2 k1 x1 = some r → XR Try.prog 19 0 [] (cd Try.f26 [1,0,1,0,0]) Q1 k1 [(0, vl eI p1), (1, .one (.fn 18 [.pv (.rp [[pi p2]] 0 0)])), (7, vi (p1.length : Int)), (8, vi x1)] [] := by
  intro k1
  induction k1 with
  | zero => intro x1 h; rw [slices_IndexFunc_int_int_of_lake_Curve_1_l1.eq_1] at h; cases h
  | succ k1 ih1 =>
   intro x1 h
   rw [slices_IndexFunc_int_int_of_lake_Curve_1_l1.eq_2] at h
   refine zq fun K4 hK4 => zr (zg [] 1 [0,1,7,8,9] (zd (hK4 _ _ (zq fun K5 hK5 => zC h (fun b6 h => ?_) (fun b6 h => ?_)))))
   ·refine zs (hK5 _ _ (zq fun K7 hK7 => zb 1 (zq fun K8 hK8 => zr (zg [] 2 [0,1,5,7,8] (zd ?_)))))
    refine hK8 _ _ (zq fun K9 hK9 => ?_)
    obtain ⟨e1, a10, h⟩ := zB h
    obtain ⟨r1, c11, h⟩ := zB h
    refine zr (zp [] 5 [0,1,5,7,8,11,15] [[pi e1]] [(0, vl eI p1), (1, .one (.fn 18 [.pv (.rp [[pi p2]] 0 0)])), (5, vi x1), (7, vi (p1.length : Int)), (8, vi x1), (11, .one (.fn 18 [.pv (.rp [[pi p2]] 0 0)])), (15, vi e1)] [] [0 ≤ x1 ∧ x1 < ((eI.els p1).length : Int) ∧ elemsOk 1 (eI.els p1), (eI.els p1)[x1.toNat]? = some [pi e1]] (⟨eI.inb a10, (eI.get a10), trivial⟩) (za (c_lake_Curve_1_s _ _ _ c11) (zd (hK9 _ _ (zC h (fun b12 h => ?_) (fun b12 h => ?_))))))
    ·refine zq fun K13 hK13 => zr (zg [] 2 [4] (zd (hK13 _ _ (ze (hQ1 _ _ _ ?_)))))
     obtain rfl := Option.some.inj h
     exact zf [vi x1] (.one (.rfl _ rfl))
    ·exact zs (hK7 _ _ (zr (zv [] 2 [0,1,7,8] [] [(0, vl eI p1), (1, .one (.fn 18 [.pv (.rp [[pi p2]] 0 0)])), (7, vi (p1.length : Int)), (8, vi (IntKind.i64.wrap (x1 + (1 : Int))))] [] (zd (XR.sub (zk [0,1,7,8]) (ih1 (IntKind.i64.wrap (x1 + (1 : Int))) h))))))
   ·exact zx 0 (hQ1 _ _ _ (hJ1 () h _ _ (zk [])))
 exact XR.sub (zk [0,1,7,8]) (hL1 BIG (0 : Int) h)

def slices_ContainsFunc_int_int_of_lake_Curve_1 (p1 : (List Int)) (p2 : Int) : Option Bool :=
    bnd (slices_IndexFunc_int_int_of_lake_Curve_1 p1 p2) fun r1 =>
    some (decide ((0 : Int) ≤ r1))


theorem c_slices_ContainsFunc_int_int_of_lake_Curve_1 (p1 : (List Int)) (p2 : Int) (r : Bool) (h : slices_ContainsFunc_int_int_of_lake_Curve_1 p1 p2 = some r) : PC Try.prog 13 [vl eI p1, .one (.fn 18 [.pv (.rp [[pi p2]] 0 0)])] (vb r) := by
 unfold slices_ContainsFunc_int_int_of_lake_Curve_1 at h
 refine zF 9 Try.f13 (zq fun K1 hK1 => zr (zg [] 1 [0,1] (zd (hK1 _ _ (zq fun K2 hK2 => ?_)))))
 obtain ⟨r1, c3, h⟩ := zB h
 refine zr (zg [] 2 [5,6] (zl 26 [vl eI p1, .one (.fn 18 [.pv (.rp [[pi p2]] 0 0)])] (vi r1) [(7, vi r1), (5, vl eI p1), (6, .one (.fn 18 [.pv (.rp [[pi p2]] 0 0)]))] (c_slices_IndexFunc_int_int_of_lake_Curve_1 _ _ _ c3) (zg [] 2 [4] (zd (hK2 _ _ (ze ?_))))))
 obtain rfl := Option.some.inj h
 exact zf [vb (decide ((0 : Int) ≤ r1))] (.one (.rfl _ rfl))

def slices_Clone_int_int (p1 : (List Int)) : Option (List Int) :=
    grd (p1 ≠ []) <|
    grd (([] : List Int).length + p1.length ≤ 4294967296) <|
    some (([] : List Int) ++ p1)


theorem c_slices_Clone_int_int (p1 : (List Int)) (r : (List Int)) (h : slices_Clone_int_int p1 = some r) : MX Try.prog 27 [vl eI p1] [] [] (.one (.sl 0 1 0 r.length)) [.arr 1 (eI.els r)] := by
 unfold slices_Clone_int_int at h
 refine MX.of 0 1 rfl (n := 8) (fn := Try.f27) (c := cd Try.f27 []) (by kernel_rfl) (by kernel_rfl) (by kernel_rfl) (Nat.le_of_ble_eq_true rfl) rfl (zq fun K1 hK1 => zr (zg [5] 1 [0] (zd (hK1 _ _ (zq fun K2 hK2 => zq fun K3 hK3 => ?_)))))
 obtain ⟨g4, h⟩ := zG h
 refine zr (zo [5] 2 [0,4] [] [eI.els p1 ≠ []] (⟨eI.ne g4, trivial⟩) (zd (hK3 _ _ (zc false (fun hx => by cases hx) (fun _ => ?_)))))
 refine zs (hK2 _ _ (zq fun K5 hK5 => ?_))
 obtain ⟨g6, h⟩ := zG h
 refine zr (zp [5] 3 [7] [] [(7, .one (.sl 0 1 0 (0 + (eI.els p1).length)))] [.arr 1 (eI.els [] ++ eI.els p1)] [elemsOk 1 (eI.els p1), 0 = (eI.els []).length, 0 + (eI.els p1).length ≤ 4294967296] (⟨eI.ok _, (by simp [Enc.len]), (by simp [Enc.len] at * <;> omega), trivial⟩) ?_)
 rw [show 0 + (eI.els p1).length = (([] : List Int) ++ p1).length from (by simp [Enc.len] <;> omega)]
 rw [show eI.els [] ++ eI.els p1 = eI.els (([] : List Int) ++ p1) from eI.app2 _ _]
 refine zv [5] 1 [2] [] [(2, .one (.sl 0 1 0 ((([] : List Int) ++ p1).length)))] [.arr 1 (eI.els (([] : List Int) ++ p1))] (zd (hK5 _ _ (ze ?_)))
 obtain rfl := Option.some.inj h
 exact FinM.fin (.inr rfl) [] [.one (.sl 0 1 0 ((([] : List Int) ++ p1).length))] [] (by kernel_rfl) trivial (by kernel_rfl) (by kernel_rfl) (.one (.rfl _ rfl))

def lake_bend_s (p1 : Int) (p2 : Int) (p3 : (List Int)) : Option (Unit × (List Int)) :=
    bnd (at? p3 p1) fun e1 =>
    bnd (some (IntKind.i64.wrap (BitVec.ofInt (IntKind.i64).bits e1 &&& BitVec.ofInt (IntKind.i64).bits p2).toNat)) fun y1 =>
    ift (y1 != (0 : Int))
      (bnd (at? p3 (0 : Int)) fun e2 =>
       bnd (some (IntKind.i64.wrap (BitVec.ofInt (IntKind.i64).bits e2 ^^^ BitVec.ofInt (IntKind.i64).bits (IntKind.i64.wrap (p2 - (1 : Int)))).toNat)) fun y2 =>
       some ((), (p3.set (0 : Int).toNat y2)))
      (bnd (at? p3 (0 : Int)) fun e3 =>
       bnd (some (IntKind.i64.wrap (BitVec.ofInt (IntKind.i64).bits e3 ^^^ BitVec.ofInt (IntKind.i64).bits e1).toNat)) fun y3 =>
       bnd (some (IntKind.i64.wrap (BitVec.ofInt (IntKind.i64).bits y3 &&& BitVec.ofInt (IntKind.i64).bits (IntKind.i64.wrap (p2 - (1 : Int)))).toNat)) fun y4 =>
       bnd (some (IntKind.i64.wrap (BitVec.ofInt (IntKind.i64).bits e3 ^^^ BitVec.ofInt (IntKind.i64).bits y4).toNat)) fun y5 =>
       bnd (at? (p3.set (0 : Int).toNat y5) p1) fun e4 =>
       bnd (some (IntKind.i64.wrap (BitVec.ofInt (IntKind.i64).bits e4 ^^^ BitVec.ofInt (IntKind.i64).bits y4).toNat)) fun y6 =>
       some ((), ((p3.set (0 : Int).toNat y5).set p1.toNat y6)))


theorem c_lake_bend_s (p1 : Int) (p2 : Int) (p3 : (List Int)) (r : (Unit × (List Int))) (h : lake_bend_s p1 p2 p3 = some r) : MC Try.prog 28 [.one (.sl 0 1 0 p3.length), vi p1, vi p2] [.arr 1 (eI.els p3)] (.tp []) [.arr 1 (eI.els r.2)] := by
 unfold lake_bend_s at h
 refine MC.of 1 (n := 45) (fn := Try.f28) (c := cd Try.f28 []) (by kernel_rfl) (by kernel_rfl) (by kernel_rfl) (Nat.le_of_ble_eq_true rfl) rfl (zq fun K1 hK1 => zq fun K2 hK2 => ?_)
 obtain ⟨e1, a3, h⟩ := zB h
 obtain ⟨y1, hy4, h⟩ := zB h
 refine zr (zp [] 6 [0,1,2,12] [[pi e1]] [(0, .one (.sl 0 1 0 p3.length)), (1, vi p1), (2, vi p2), (12, vi (IntKind.i64.wrap (BitVec.ofInt (IntKind.i64).bits e1 &&& BitVec.ofInt (IntKind.i64).bits p2).toNat))] [.arr 1 (eI.els p3)] [0 ≤ p1 ∧ p1 < ((p3.length : Nat) : Int), (eI.els p3)[(0 + p1.toNat)]? = some [pi e1]] (⟨Enc.inb' a3, (eI.get0 a3), trivial⟩) ?_)
 rw [show (IntKind.i64.wrap (BitVec.ofInt (IntKind.i64).bits e1 &&& BitVec.ofInt (IntKind.i64).bits p2).toNat) = y1 from Option.some.inj hy4]
 refine zg [] 1 [0,1,2,13] (zd (hK2 _ _ (zC h (fun b5 h => ?_) (fun b5 h => ?_))))
 ·refine zq fun K6 hK6 => ?_
  obtain ⟨e2, a7, h⟩ := zB h
  obtain ⟨y2, hy8, h⟩ := zB h
  refine zr (zp [] 6 [14,19] [[pi e2]] [(14, .one (.sl 0 1 0 p3.length)), (19, vi (IntKind.i64.wrap (BitVec.ofInt (IntKind.i64).bits e2 ^^^ BitVec.ofInt (IntKind.i64).bits (IntKind.i64.wrap (p2 - (1 : Int)))).toNat))] [.arr 1 (eI.els p3)] [0 ≤ (0 : Int) ∧ (0 : Int) < ((p3.length : Nat) : Int), (eI.els p3)[(0 + (0 : Int).toNat)]? = some [pi e2]] (⟨Enc.inb' a7, (eI.get0 a7), trivial⟩) ?_)
  rw [show (IntKind.i64.wrap (BitVec.ofInt (IntKind.i64).bits e2 ^^^ BitVec.ofInt (IntKind.i64).bits (IntKind.i64.wrap (p2 - (1 : Int)))).toNat) = y2 from Option.some.inj hy8]
  refine zp [] 2 [] [[pi e2]] [] [.arr 1 ((eI.els p3).set (0 + (0 : Int).toNat) [pi y2])] [0 ≤ (0 : Int) ∧ (0 : Int) < ((p3.length : Nat) : Int), (eI.els p3)[(0 + (0 : Int).toNat)]? = some [pi e2]] (⟨Enc.inb' a7, (eI.get0 a7), trivial⟩) ?_
  rw [show (eI.els p3).set (0 + (0 : Int).toNat) [pi y2] = eI.els (p3.set (0 : Int).toNat y2) from eI.set0 _ _ y2]
  refine zd (hK6 _ _ (ze ?_))
  obtain rfl := Option.some.inj h
  exact FinM.fin (.inr rfl) [] [] [] (by kernel_rfl) trivial (by kernel_rfl) (by kernel_rfl) (.tp0)
 ·refine zs (hK1 _ _ (zq fun K9 hK9 => ?_))
  obtain ⟨e3, a10, h⟩ := zB h
  obtain ⟨y3, hy11, h⟩ := zB h
  obtain ⟨y4, hy12, h⟩ := zB h
  refine zw 10 [(30, vi (IntKind.i64.wrap (p2 - (1 : Int)))), (29, vi p2), (28, vi y3), (27, vi e1), (26, .one (.pt 0 1 (0 + p1.toNat) 0)), (25, vi p1), (24, .one (.sl 0 1 0 p3.length)), (23, vi e3), (22, .one (.pt 0 1 (0 + (0 : Int).toNat) 0)), (21, .one (.sl 0 1 0 p3.length)), (0, .one (.sl 0 1 0 p3.length)), (1, vi p1), (2, vi p2), (13, vb (y1 != (0 : Int)))] ?_ ?_
  ·refine zyp 8 [[pi e3], [pi e1]] [(28, vi (IntKind.i64.wrap (BitVec.ofInt (IntKind.i64).bits e3 ^^^ BitVec.ofInt (IntKind.i64).bits e1).toNat)), (27, vi e1), (26, .one (.pt 0 1 (0 + p1.toNat) 0)), (25, vi p1), (24, .one (.sl 0 1 0 p3.length)), (23, vi e3), (22, .one (.pt 0 1 (0 + (0 : Int).toNat) 0)), (21, .one (.sl 0 1 0 p3.length)), (0, .one (.sl 0 1 0 p3.length)), (1, vi p1), (2, vi p2), (13, vb (y1 != (0 : Int)))] [0 ≤ (0 : Int) ∧ (0 : Int) < ((p3.length : Nat) : Int), (eI.els p3)[(0 + (0 : Int).toNat)]? = some [pi e3], 0 ≤ p1 ∧ p1 < ((p3.length : Nat) : Int), (eI.els p3)[(0 + p1.toNat)]? = some [pi e1]] (⟨Enc.inb' a10, (eI.get0 a10), Enc.inb' a3, (eI.get0 a3), trivial⟩) ?_
   rw [show (IntKind.i64.wrap (BitVec.ofInt (IntKind.i64).bits e3 ^^^ BitVec.ofInt (IntKind.i64).bits e1).toNat) = y3 from Option.some.inj hy11]
   exact zyg 2 zyd
  refine zv [] 1 [0,1,31] [] [(0, .one (.sl 0 1 0 p3.length)), (1, vi p1), (31, vi (IntKind.i64.wrap (BitVec.ofInt (IntKind.i64).bits y3 &&& BitVec.ofInt (IntKind.i64).bits (IntKind.i64.wrap (p2 - (1 : Int)))).toNat))] [.arr 1 (eI.els p3)] ?_
  rw [show (IntKind.i64.wrap (BitVec.ofInt (IntKind.i64).bits y3 &&& BitVec.ofInt (IntKind.i64).bits (IntKind.i64.wrap (p2 - (1 : Int)))).toNat) = y4 from Option.some.inj hy12]
  refine zg [] 1 [0,1,6] (zd (hK9 _ _ (zq fun K13 hK13 => ?_)))
  obtain ⟨y5, hy14, h⟩ := zB h
  refine zr (zp [] 5 [0,1,6,32,36] [[pi e3]] [(0, .one (.sl 0 1 0 p3.length)), (1, vi p1), (6, vi y4), (32, .one (.sl 0 1 0 p3.length)), (36, vi (IntKind.i64.wrap (BitVec.ofInt (IntKind.i64).bits e3 ^^^ BitVec.ofInt (IntKind.i64).bits y4).toNat))] [.arr 1 (eI.els p3)] [0 ≤ (0 : Int) ∧ (0 : Int) < ((p3.length : Nat) : Int), (eI.els p3)[(0 + (0 : Int).toNat)]? = some [pi e3]] (⟨Enc.inb' a10, (eI.get0 a10), trivial⟩) ?_)
  rw [show (IntKind.i64.wrap (BitVec.ofInt (IntKind.i64).bits e3 ^^^ BitVec.ofInt (IntKind.i64).bits y4).toNat) = y5 from Option.some.inj hy14]
  refine zp [] 2 [0,1,6] [[pi e3]] [(0, .one (.sl 0 1 0 p3.length)), (1, vi p1), (6, vi y4)] [.arr 1 ((eI.els p3).set (0 + (0 : Int).toNat) [pi y5])] [0 ≤ (0 : Int) ∧ (0 : Int) < ((p3.length : Nat) : Int), (eI.els p3)[(0 + (0 : Int).toNat)]? = some [pi e3]] (⟨Enc.inb' a10, (eI.get0 a10), trivial⟩) ?_
  rw [show (eI.els p3).set (0 + (0 : Int).toNat) [pi y5] = eI.els (p3.set (0 : Int).toNat y5) from eI.set0 _ _ y5]
  refine zd (hK13 _ _ ?_)
  obtain ⟨e4, a15, h⟩ := zB h
  obtain ⟨y6, hy16, h⟩ := zB h
  refine zr (zp [] 6 [38,39,43] [[pi e4]] [(38, .one (.sl 0 1 0 p3.length)), (39, vi p1), (43, vi (IntKind.i64.wrap (BitVec.ofInt (IntKind.i64).bits e4 ^^^ BitVec.ofInt (IntKind.i64).bits y4).toNat))] [.arr 1 (eI.els (p3.set (0 : Int).toNat y5))] [0 ≤ p1 ∧ p1 < ((p3.length : Nat) : Int), (eI.els (p3.set (0 : Int).toNat y5))[(0 + p1.toNat)]? = some [pi e4]] (⟨(by have := Enc.inb' a15; simpa using this), (eI.get0 a15), trivial⟩) ?_)
  rw [show (IntKind.i64.wrap (BitVec.ofInt (IntKind.i64).bits e4 ^^^ BitVec.ofInt (IntKind.i64).bits y4).toNat) = y6 from Option.some.inj hy16]
  refine zp [] 2 [] [[pi e4]] [] [.arr 1 ((eI.els (p3.set (0 : Int).toNat y5)).set (0 + p1.toNat) [pi y6])] [0 ≤ p1 ∧ p1 < ((p3.length : Nat) : Int), (eI.els (p3.set (0 : Int).toNat y5))[(0 + p1.toNat)]? = some [pi e4]] (⟨(by have := Enc.inb' a15; simpa using this), (eI.get0 a15), trivial⟩) ?_
  rw [show (eI.els (p3.set (0 : Int).toNat y5)).set (0 + p1.toNat) [pi y6] = eI.els ((p3.set (0 : Int).toNat y5).set p1.toNat y6) from eI.set0 _ _ y6]
  refine zd ?_
  obtain rfl := Option.some.inj h
  exact FinM.fin (.inl rfl) [] [] [] (by kernel_rfl) trivial (by kernel_rfl) (by kernel_rfl) (.tp0)

def lake_turned_j1 (rec1 : Int → Int → Option Int) (x2 : Int) (x3 : Int) : Option Int :=
    rec1 x3 (x2.fdiv (2 ^ (min (1 : Int).toNat (IntKind.i64).bits)))

def lake_turned_j2 (x4 : Int) : Option Int :=
    some x4

def lake_turned_l1 (p1 : Int) : Nat → Int → Int → Option Int
  | 0, _, _ => none
  | k1 + 1, x1, x2 =>
    ift (decide ((1 : Int) < x2))
      (bnd (some (IntKind.i64.wrap (BitVec.ofInt (IntKind.i64).bits p1 &&& BitVec.ofInt (IntKind.i64).bits x2).toNat)) fun y1 =>
       ift (y1 != (0 : Int))
         (bnd (some (IntKind.i64.wrap (BitVec.ofInt (IntKind.i64).bits x1 ^^^ BitVec.ofInt (IntKind.i64).bits (IntKind.i64.wrap (x2 - (1 : Int)))).toNat)) fun y2 =>
          lake_turned_j1 (lake_turned_l1 p1 k1) x2 y2)
         (lake_turned_j1 (lake_turned_l1 p1 k1) x2 x1))
      (lake_turned_j2 x1)

def lake_turned (p1 : Int) (p2 : Int) : Option Int :=
    lake_turned_l1 p1 BIG (0 : Int) p2


theorem c_lake_turned (p1 : Int) (p2 : Int) (r : Int) (h : lake_turned p1 p2 = some r) : PC Try.prog 29 [vi p1, vi p2] (vi r) := by
 unfold lake_turned at h
 refine zF 21 Try.f29 (zq fun K1 hK1 => zr (zg [] 1 [0,1] (zd (hK1 _ _ (zq fun K2 hK2 => zr ?_)))))
 refine zg [] 1 [0,1,5] (zd (hK2 _ _ (zq fun K3 hK3 => ?_)))
 have hJ2 : ∀ (x4 : Int), lake_turned_j2 x4 = some r → ∀ fr1 st1, Sub 21 0 [] fr1 st1 [(5, vi x4)] [] → K3 fr1 st1 := by
  intro x4 h fr1 st1 hS
  unfold lake_turned_j2 at h
  refine hK3 _ _ (XW.sub hS ?_)
  refine zq fun K13 hK13 => zr (zg [] 2 [4] (zd (hK13 _ _ (ze ?_))))
  obtain rfl := Option.some.inj h
  exact zf [vi x4] (.one (.rfl _ rfl))
 refine zq fun K4 hK4 => zr (zv [] 2 [0,5,6] [] [(0, vi p1), (5, vi (0 : Int)), (6, vi p2)] [] (zd (hK4 _ _ (zb 0 (XW.rounds' BIG (x := cd Try.f29 [1,1,0,1,0,0]) (by kernel_rfl) fun Q1 hQ1 => ?_)))))
 have hL1 : ∀ (k1 : Nat) (x1 : Int) (x2 : Int), lake_turned_l1 p1 k1 x1 x2 = some r → XR Try.prog 21 0 [] (cd Try.f29 [1,1,0,1,0,0]) Q1 k1 [(0, vi p1), (5, vi x1), (6, vi x2)] [] := by
  intro k1
  induction k1 with
  | zero => intro x1 x2 h; rw [lake_turned_l1.eq_1] at h; cases h
  | succ k1 ih1 =>
   intro x1 x2 h
   rw [lake_turned_l1.eq_2] at h
   refine zq fun K5 hK5 => zq fun K6 hK6 => zr (zg [] 2 [0,5,6,9] (zd (hK6 _ _ (zC h (fun b7 h => ?_) (fun b7 h => ?_)))))
   ·refine zs (hK5 _ _ (zq fun K8 hK8 => ?_))
    have hJ1 : ∀ (x3 : Int), lake_turned_j1 (lake_turned_l1 p1 k1) x2 x3 = some r → ∀ fr1 st1, Sub 21 0 [] fr1 st1 [(0, vi p1), (5, vi x3), (6, vi x2)] [] → K8 fr1 st1 := by
     intro x3 h fr1 st1 hS
     unfold lake_turned_j1 at h
     refine hK8 _ _ (XW.sub hS ?_)
     exact zr (zo [] 3 [0,5,6] [] [0 ≤ (1 : Int)] (⟨by decide, trivial⟩) (zd (XR.sub (zk [0,5,6]) (ih1 x3 (x2.fdiv (2 ^ (min (1 : Int).toNat (IntKind.i64).bits))) h))))
    refine zb 1 (zq fun K9 hK9 => ?_)
    obtain ⟨y1, hy10, h⟩ := zB h
    refine zr (zv [] 3 [0,5,6,14] [] [(0, vi p1), (5, vi x1), (6, vi x2), (14, vi (IntKind.i64.wrap (BitVec.ofInt (IntKind.i64).bits p1 &&& BitVec.ofInt (IntKind.i64).bits x2).toNat))] [] ?_)
    rw [show (IntKind.i64.wrap (BitVec.ofInt (IntKind.i64).bits p1 &&& BitVec.ofInt (IntKind.i64).bits x2).toNat) = y1 from Option.some.inj hy10]
    refine zg [] 1 [0,5,6,15] (zd (hK9 _ _ (zC h (fun b11 h => ?_) (fun b11 h => ?_))))
    ·obtain ⟨y2, hy12, h⟩ := zB h
     refine zr (zv [] 4 [0,6,19] [] [(0, vi p1), (6, vi x2), (19, vi (IntKind.i64.wrap (BitVec.ofInt (IntKind.i64).bits x1 ^^^ BitVec.ofInt (IntKind.i64).bits (IntKind.i64.wrap (x2 - (1 : Int)))).toNat))] [] ?_)
     rw [show (IntKind.i64.wrap (BitVec.ofInt (IntKind.i64).bits x1 ^^^ BitVec.ofInt (IntKind.i64).bits (IntKind.i64.wrap (x2 - (1 : Int)))).toNat) = y2 from Option.some.inj hy12]
     exact zg [] 1 [0,5,6] (zd (hJ1 y2 h _ _ (zk [0,5,6])))
    ·exact zs (hJ1 x1 h _ _ (zk [0,5,6]))
   ·exact zx 0 (hQ1 _ _ _ (hJ2 x1 h _ _ (zk [5])))
 exact XR.sub (zk [0,5,6]) (hL1 BIG (0 : Int) p2 h)

def lake_hilbert_j1 (rec1 : List Int → Int → Option (List Int)) (x1 : Int) (l3 : List Int) : Option (List Int) :=
    rec1 l3 (x1.fdiv (2 ^ (min (1 : Int).toNat (IntKind.i64).bits)))

def lake_hilbert_l2 (rec1 : List Int → Int → Option (List Int)) (l1 : List Int) (x1 : Int) : Nat → List Int → Int → Option (List Int)
  | 0, _, _ => none
  | k2 + 1, l2, x2 =>
    ift (decide (x2 < ((l1.length : Nat) : Int)))
      (bnd (lake_bend_s x2 x1 l2) fun r2 =>
       grd (r2.2.length = l2.length) <|
       (lake_hilbert_l2 rec1 l1 x1 k2) r2.2 (IntKind.i64.wrap (x2 + (1 : Int))))
      (lake_hilbert_j1 rec1 x1 l2)

def lake_hilbert_j4 (l8 : List Int) : Option (List Int) :=
    some l8

def lake_hilbert_l4 (l6 : List Int) (r3 : Int) : Nat → List Int → Int → Option (List Int)
  | 0, _, _ => none
  | k4 + 1, l7, x4 =>
    ift (decide (x4 < ((l6.length : Nat) : Int)))
      (bnd (at? l7 x4) fun e4 =>
       bnd (some (IntKind.i64.wrap (BitVec.ofInt (IntKind.i64).bits e4 ^^^ BitVec.ofInt (IntKind.i64).bits r3).toNat)) fun y3 =>
       (lake_hilbert_l4 l6 r3 k4) (l7.set x4.toNat y3) (IntKind.i64.wrap (x4 + (1 : Int))))
      (lake_hilbert_j4 l7)

def lake_hilbert_j3 (y1 : Int) (l6 : List Int) : Option (List Int) :=
    bnd (at? l6 (IntKind.i64.wrap (((l6.length : Nat) : Int) - (1 : Int)))) fun e3 =>
    bnd (lake_turned e3 y1) fun r3 =>
    lake_hilbert_l4 l6 r3 BIG l6 (0 : Int)

def lake_hilbert_l3 (y1 : Int) : Nat → List Int → Int → Option (List Int)
  | 0, _, _ => none
  | k3 + 1, l5, x3 =>
    ift (decide (x3 < ((l5.length : Nat) : Int)))
      (bnd (at? l5 x3) fun e1 =>
       bnd (at? l5 (IntKind.i64.wrap (x3 - (1 : Int)))) fun e2 =>
       bnd (some (IntKind.i64.wrap (BitVec.ofInt (IntKind.i64).bits e1 ^^^ BitVec.ofInt (IntKind.i64).bits e2).toNat)) fun y2 =>
       (lake_hilbert_l3 y1 k3) (l5.set x3.toNat y2) (IntKind.i64.wrap (x3 + (1 : Int))))
      (lake_hilbert_j3 y1 l5)

def lake_hilbert_j2 (y1 : Int) (l4 : List Int) : Option (List Int) :=
    lake_hilbert_l3 y1 BIG l4 (1 : Int)

def lake_hilbert_l1 (y1 : Int) : Nat → List Int → Int → Option (List Int)
  | 0, _, _ => none
  | k1 + 1, l1, x1 =>
    ift (decide ((1 : Int) < x1))
      (lake_hilbert_l2 (lake_hilbert_l1 y1 k1) l1 x1 BIG l1 (0 : Int))
      (lake_hilbert_j2 y1 l1)

def lake_hilbert (p1 : Int) (p2 : (List Int)) : Option (List Int) :=
    bnd (slices_Clone_int_int p2) fun r1 =>
    grd (0 ≤ (IntKind.i64.wrap (p1 - (1 : Int)))) <|
    bnd (some (IntKind.i64.wrap ((1 : Int) * 2 ^ (min (IntKind.i64.wrap (p1 - (1 : Int))).toNat (IntKind.i64).bits)))) fun y1 =>
    lake_hilbert_l1 y1 BIG r1 y1


theorem c_lake_hilbert (p1 : Int) (p2 : (List Int)) (r : (List Int)) (h : lake_hilbert p1 p2 = some r) : PC Try.prog 19 [vi p1, vl eI p2] (vl eI r) := by
 unfold lake_hilbert at h
 refine zF 71 Try.f19 (zq fun K1 hK1 => zr (zg [] 1 [0,1] (zd (hK1 _ _ (zq fun K2 hK2 => ?_)))))
 obtain ⟨r1, c3, h⟩ := zB h
 refine zr (zv [] 1 [0,12] [] [(0, vi p1), (12, vl eI p2)] [] (XO.calx 27 [vl eI p2] [] [.arr 1 (eI.els r1)] [] (.one (.sl 0 1 0 r1.length)) [] [] [(13, .one (.sl 0 1 0 r1.length)), (0, vi p1), (12, vl eI p2)] [.arr 1 (eI.els r1)] (by kernel_rfl) (c_slices_Clone_int_int _ _ c3) (by kernel_rfl) (by kernel_rfl) (by kernel_rfl) (by kernel_rfl) (by kernel_rfl) (by kernel_rfl) (by kernel_rfl) (zg [] 1 [0,5] (zd (hK2 _ _ (zq fun K4 hK4 => ?_))))))
 obtain ⟨g5, h⟩ := zG h
 obtain ⟨y1, hy6, h⟩ := zB h
 refine zr (zp [] 3 [5,16] [] [(5, .one (.sl 0 1 0 r1.length)), (16, vi (IntKind.i64.wrap ((1 : Int) * 2 ^ (min (IntKind.i64.wrap (p1 - (1 : Int))).toNat (IntKind.i64).bits))))] [.arr 1 (eI.els r1)] [0 ≤ (IntKind.i64.wrap (p1 - (1 : Int)))] (⟨g5, trivial⟩) ?_)
 rw [show (IntKind.i64.wrap ((1 : Int) * 2 ^ (min (IntKind.i64.wrap (p1 - (1 : Int))).toNat (IntKind.i64).bits))) = y1 from Option.some.inj hy6]
 refine zg [] 1 [5,6] (zd (hK4 _ _ (zq fun K7 hK7 => ?_)))
 have hJ2 : ∀ (l4 : List Int), lake_hilbert_j2 y1 l4 = some r → ∀ fr1 st1, Sub 71 0 [] fr1 st1 [(5, .one (.sl 0 1 0 l4.length)), (6, vi y1)] [.arr 1 (eI.els l4)] → K7 fr1 st1 := by
  intro l4 h fr1 st1 hS
  unfold lake_hilbert_j2 at h
  refine hK7 _ _ (XW.sub hS ?_)
  refine zq fun K21 hK21 => ?_
  have hJ3 : ∀ (l6 : List Int), lake_hilbert_j3 y1 l6 = some r → ∀ fr1 st1, Sub 71 0 [] fr1 st1 [(5, .one (.sl 0 1 0 l6.length)), (6, vi y1)] [.arr 1 (eI.els l6)] → K21 fr1 st1 := by
   intro l6 h fr1 st1 hS
   unfold lake_hilbert_j3 at h
   refine hK21 _ _ (XW.sub hS ?_)
   refine zq fun K30 hK30 => ?_
   obtain ⟨e3, a31, h⟩ := zB h
   obtain ⟨r3, c32, h⟩ := zB h
   refine zr (zo [] 7 [5,54,55] [[pi e3]] [0 ≤ (IntKind.i64.wrap (((l6.length : Nat) : Int) - (1 : Int))) ∧ (IntKind.i64.wrap (((l6.length : Nat) : Int) - (1 : Int))) < ((l6.length : Nat) : Int), (eI.els l6)[(0 + (IntKind.i64.wrap (((l6.length : Nat) : Int) - (1 : Int))).toNat)]? = some [pi e3]] (⟨Enc.inb' a31, (eI.get0 a31), trivial⟩) (za (c_lake_turned _ _ _ c32) (zv [] 1 [5,10] [] [(5, .one (.sl 0 1 0 l6.length)), (10, vi r3)] [.arr 1 (eI.els l6)] (zd (hK30 _ _ (zq fun K33 hK33 => ?_))))))
   have hJ4 : ∀ (l8 : List Int), lake_hilbert_j4 l8 = some r → ∀ fr1 st1, Sub 71 0 [] fr1 st1 [(5, .one (.sl 0 1 0 l8.length))] [.arr 1 (eI.els l8)] → K33 fr1 st1 := by
    intro l8 h fr1 st1 hS
    unfold lake_hilbert_j4 at h
    refine hK33 _ _ (XW.sub hS ?_)
    refine zq fun K42 hK42 => zr (zg [] 2 [4] (zd (hK42 _ _ (ze ?_))))
    obtain rfl := Option.some.inj h
    exact zf [.one (.sl 0 1 0 l8.length)] (.one (cf_sl eI l8 rfl rfl rfl))
   refine zq fun K34 hK34 => zr (zg [] 3 [5,10,58,59] (zd (hK34 _ _ (zb 6 (XW.rounds' BIG (x := cd Try.f19 [1,1,1,1,1,1,0,1,0,0]) (by kernel_rfl) fun Q4 hQ4 => ?_)))))
   have hL4 : ∀ (k4 : Nat) (l7 : List Int) (x4 : Int), lake_hilbert_l4 l6 r3 k4 l7 x4 = some r → XR Try.prog 71 0 [] (cd Try.f19 [1,1,1,1,1,1,0,1,0,0]) Q4 k4 [(5, .one (.sl 0 1 0 l7.length)), (10, vi r3), (58, vi ((l6.length : Nat) : Int)), (59, vi x4)] [.arr 1 (eI.els l7)] := by
    intro k4
    induction k4 with
    | zero => intro l7 x4 h; rw [lake_hilbert_l4.eq_1] at h; cases h
    | succ k4 ih4 =>
     intro l7 x4 h
     rw [lake_hilbert_l4.eq_2] at h
     refine zq fun K35 hK35 => zr (zg [] 1 [5,10,58,59,60] (zd (hK35 _ _ (zq fun K36 hK36 => zC h (fun b37 h => ?_) (fun b37 h => ?_)))))
     ·refine zs (hK36 _ _ (zq fun K38 hK38 => zb 7 (zq fun K39 hK39 => zr (zg [] 2 [5,10,11,58,59] (zd ?_)))))
      refine hK39 _ _ ?_
      obtain ⟨e4, a40, h⟩ := zB h
      obtain ⟨y3, hy41, h⟩ := zB h
      refine zr (zp [] 6 [5,10,58,59,62,63,67] [[pi e4]] [(5, .one (.sl 0 1 0 l7.length)), (10, vi r3), (58, vi ((l6.length : Nat) : Int)), (59, vi x4), (62, .one (.sl 0 1 0 l7.length)), (63, vi x4), (67, vi (IntKind.i64.wrap (BitVec.ofInt (IntKind.i64).bits e4 ^^^ BitVec.ofInt (IntKind.i64).bits r3).toNat))] [.arr 1 (eI.els l7)] [0 ≤ x4 ∧ x4 < ((l7.length : Nat) : Int), (eI.els l7)[(0 + x4.toNat)]? = some [pi e4]] (⟨Enc.inb' a40, (eI.get0 a40), trivial⟩) ?_)
      rw [show (IntKind.i64.wrap (BitVec.ofInt (IntKind.i64).bits e4 ^^^ BitVec.ofInt (IntKind.i64).bits r3).toNat) = y3 from Option.some.inj hy41]
      refine zp [] 2 [5,10,58,59] [[pi e4]] [(5, .one (.sl 0 1 0 l7.length)), (10, vi r3), (58, vi ((l6.length : Nat) : Int)), (59, vi x4)] [.arr 1 ((eI.els l7).set (0 + x4.toNat) [pi y3])] [0 ≤ x4 ∧ x4 < ((l7.length : Nat) : Int), (eI.els l7)[(0 + x4.toNat)]? = some [pi e4]] (⟨Enc.inb' a40, (eI.get0 a40), trivial⟩) ?_
      rw [show (eI.els l7).set (0 + x4.toNat) [pi y3] = eI.els (l7.set x4.toNat y3) from eI.set0 _ _ y3]
      refine zd (hK38 _ _ (zr (zg [] 2 [5,10,58,59] (zd ?_))))
      exact XR.sub (Sub.trans (Sub.pick (fr' := [(5, .one (.sl 0 1 0 l7.length)), (10, vi r3), (58, vi ((l6.length : Nat) : Int)), (59, vi (IntKind.i64.wrap (x4 + (1 : Int))))]) [5,10,58,59] (by kernel_rfl)) (Sub.frame (fr' := [(5, .one (.sl 0 1 0 (l7.set x4.toNat y3).length)), (10, vi r3), (58, vi ((l6.length : Nat) : Int)), (59, vi (IntKind.i64.wrap (x4 + (1 : Int))))]) ⟨ALe.of_eq (show (.one (.sl 0 1 0 l7.length) : AV) = .one (.sl 0 1 0 (l7.set x4.toNat y3).length) from by simp), .rfl _, .rfl _, .rfl _, trivial⟩)) (ih4 (l7.set x4.toNat y3) (IntKind.i64.wrap (x4 + (1 : Int))) h)
     ·exact zx 6 (hQ4 _ _ _ (hJ4 l7 h _ _ (zk [5])))
   exact XR.sub (zk [5,10,58,59]) (hL4 BIG l6 (0 : Int) h)
  refine zq fun K22 hK22 => zr (zg [] 1 [5,6,9] (zd (hK22 _ _ (zb 4 (XW.rounds' BIG (x := cd Try.f19 [1,1,1,1,0,1,0,0]) (by kernel_rfl) fun Q3 hQ3 => ?_)))))
  have hL3 : ∀ (k3 : Nat) (l5 : List Int) (x3 : Int), lake_hilbert_l3 y1 k3 l5 x3 = some r → XR Try.prog 71 0 [] (cd Try.f19 [1,1,1,1,0,1,0,0]) Q3 k3 [(5, .one (.sl 0 1 0 l5.length)), (6, vi y1), (9, vi x3)] [.arr 1 (eI.els l5)] := by
   intro k3
   induction k3 with
   | zero => intro l5 x3 h; rw [lake_hilbert_l3.eq_1] at h; cases h
   | succ k3 ih3 =>
    intro l5 x3 h
    rw [lake_hilbert_l3.eq_2] at h
    refine zq fun K23 hK23 => zq fun K24 hK24 => zr (zg [] 4 [5,6,9,35] (zd (hK24 _ _ (zC h (fun b25 h => ?_) (fun b25 h => ?_)))))
    ·refine zs (hK23 _ _ (zq fun K26 hK26 => zb 5 ?_))
     obtain ⟨e1, a27, h⟩ := zB h
     obtain ⟨e2, a28, h⟩ := zB h
     obtain ⟨y2, hy29, h⟩ := zB h
     refine zw 9 [(46, vi e2), (45, .one (.pt 0 1 (0 + (IntKind.i64.wrap (x3 - (1 : Int))).toNat) 0)), (44, vi (IntKind.i64.wrap (x3 - (1 : Int)))), (43, vi x3), (42, .one (.sl 0 1 0 l5.length)), (41, vi e1), (40, .one (.pt 0 1 (0 + x3.toNat) 0)), (39, vi x3), (38, .one (.sl 0 1 0 l5.length)), (5, .one (.sl 0 1 0 l5.length)), (6, vi y1), (9, vi x3), (35, vb (decide (x3 < ((l5.length : Nat) : Int))))] ?_ ?_
     ·exact zyo 9 [[pi e1], [pi e2]] [0 ≤ x3 ∧ x3 < ((l5.length : Nat) : Int), (eI.els l5)[(0 + x3.toNat)]? = some [pi e1], 0 ≤ (IntKind.i64.wrap (x3 - (1 : Int))) ∧ (IntKind.i64.wrap (x3 - (1 : Int))) < ((l5.length : Nat) : Int), (eI.els l5)[(0 + (IntKind.i64.wrap (x3 - (1 : Int))).toNat)]? = some [pi e2]] (⟨Enc.inb' a27, (eI.get0 a27), Enc.inb' a28, (eI.get0 a28), trivial⟩) zyd
     refine zv [] 1 [5,6,9,38,39,47] [] [(5, .one (.sl 0 1 0 l5.length)), (6, vi y1), (9, vi x3), (38, .one (.sl 0 1 0 l5.length)), (39, vi x3), (47, vi (IntKind.i64.wrap (BitVec.ofInt (IntKind.i64).bits e1 ^^^ BitVec.ofInt (IntKind.i64).bits e2).toNat))] [.arr 1 (eI.els l5)] ?_
     rw [show (IntKind.i64.wrap (BitVec.ofInt (IntKind.i64).bits e1 ^^^ BitVec.ofInt (IntKind.i64).bits e2).toNat) = y2 from Option.some.inj hy29]
     refine zp [] 2 [5,6,9] [[pi e1]] [(5, .one (.sl 0 1 0 l5.length)), (6, vi y1), (9, vi x3)] [.arr 1 ((eI.els l5).set (0 + x3.toNat) [pi y2])] [0 ≤ x3 ∧ x3 < ((l5.length : Nat) : Int), (eI.els l5)[(0 + x3.toNat)]? = some [pi e1]] (⟨Enc.inb' a27, (eI.get0 a27), trivial⟩) ?_
     rw [show (eI.els l5).set (0 + x3.toNat) [pi y2] = eI.els (l5.set x3.toNat y2) from eI.set0 _ _ y2]
     exact zd (hK26 _ _ (zr (zg [] 3 [5,6,9] (zd (XR.sub (Sub.trans (Sub.pick (fr' := [(5, .one (.sl 0 1 0 l5.length)), (6, vi y1), (9, vi (IntKind.i64.wrap (x3 + (1 : Int))))]) [5,6,9] (by kernel_rfl)) (Sub.frame (fr' := [(5, .one (.sl 0 1 0 (l5.set x3.toNat y2).length)), (6, vi y1), (9, vi (IntKind.i64.wrap (x3 + (1 : Int))))]) ⟨ALe.of_eq (show (.one (.sl 0 1 0 l5.length) : AV) = .one (.sl 0 1 0 (l5.set x3.toNat y2).length) from by simp), .rfl _, .rfl _, trivial⟩)) (ih3 (l5.set x3.toNat y2) (IntKind.i64.wrap (x3 + (1 : Int))) h))))))
    ·exact zx 4 (hQ3 _ _ _ (hJ3 l5 h _ _ (zk [5,6])))
  exact XR.sub (zk [5,6,9]) (hL3 BIG l4 (1 : Int) h)
 refine zq fun K8 hK8 => zr (zg [] 2 [5,6,7] (zd (hK8 _ _ (zb 0 (XW.rounds' BIG (x := cd Try.f19 [1,1,1,0,1,0,0]) (by kernel_rfl) fun Q1 hQ1 => ?_)))))
 have hL1 : ∀ (k1 : Nat) (l1 : List Int) (x1 : Int), lake_hilbert_l1 y1 k1 l1 x1 = some r → XR Try.prog 71 0 [] (cd Try.f19 [1,1,1,0,1,0,0]) Q1 k1 [(5, .one (.sl 0 1 0 l1.length)), (6, vi y1), (7, vi x1)] [.arr 1 (eI.els l1)] := by
  intro k1
  induction k1 with
  | zero => intro l1 x1 h; rw [lake_hilbert_l1.eq_1] at h; cases h
  | succ k1 ih1 =>
   intro l1 x1 h
   rw [lake_hilbert_l1.eq_2] at h
   refine zq fun K9 hK9 => zq fun K10 hK10 => zr (zg [] 2 [5,6,7,19] (zd (hK10 _ _ (zC h (fun b11 h => ?_) (fun b11 h => ?_)))))
   ·refine zs (hK9 _ _ (zq fun K12 hK12 => ?_))
    have hJ1 : ∀ (l3 : List Int), lake_hilbert_j1 (lake_hilbert_l1 y1 k1) x1 l3 = some r → ∀ fr1 st1, Sub 71 0 [] fr1 st1 [(5, .one (.sl 0 1 0 l3.length)), (6, vi y1), (7, vi x1)] [.arr 1 (eI.els l3)] → K12 fr1 st1 := by
     intro l3 h fr1 st1 hS
     unfold lake_hilbert_j1 at h
     refine hK12 _ _ (XW.sub hS ?_)
     exact zr (zo [] 3 [5,6,7] [] [0 ≤ (1 : Int)] (⟨by decide, trivial⟩) (zd (XR.sub (zk [5,6,7]) (ih1 l3 (x1.fdiv (2 ^ (min (1 : Int).toNat (IntKind.i64).bits))) h))))
    refine zb 1 (zq fun K13 hK13 => zr (zg [] 3 [5,6,7,23,24] (zd (hK13 _ _ (zb 2 (XW.rounds' BIG (x := cd Try.f19 [1,1,1,0,1,0,0,1,0,0,1,0,0]) (by kernel_rfl) fun Q2 hQ2 => ?_))))))
    have hL2 : ∀ (k2 : Nat) (l2 : List Int) (x2 : Int), lake_hilbert_l2 (lake_hilbert_l1 y1 k1) l1 x1 k2 l2 x2 = some r → XR Try.prog 71 0 [] (cd Try.f19 [1,1,1,0,1,0,0,1,0,0,1,0,0]) Q2 k2 [(5, .one (.sl 0 1 0 l2.length)), (6, vi y1), (7, vi x1), (23, vi ((l1.length : Nat) : Int)), (24, vi x2)] [.arr 1 (eI.els l2)] := by
     intro k2
     induction k2 with
     | zero => intro l2 x2 h; rw [lake_hilbert_l2.eq_1] at h; cases h
     | succ k2 ih2 =>
      intro l2 x2 h
      rw [lake_hilbert_l2.eq_2] at h
      refine zq fun K14 hK14 => zr (zg [] 1 [5,6,7,23,24,25] (zd (hK14 _ _ (zq fun K15 hK15 => zC h (fun b16 h => ?_) (fun b16 h => ?_)))))
      ·refine zs (hK15 _ _ (zq fun K17 hK17 => zb 3 (zq fun K18 hK18 => zr (zg [] 2 [5,6,7,8,23,24] (zd ?_)))))
       refine hK18 _ _ ?_
       obtain ⟨r2, c19, h⟩ := zB h
       obtain ⟨g20, h⟩ := zG h
       refine zr (zv [] 3 [5,6,7,23,24,27,28,29] [] [(5, .one (.sl 0 1 0 l2.length)), (6, vi y1), (7, vi x1), (23, vi ((l1.length : Nat) : Int)), (24, vi x2), (27, .one (.sl 0 1 0 l2.length)), (28, vi x2), (29, vi x1)] [.arr 1 (eI.els l2)] ?_)
       refine XO.calm 28 [.one (.sl 0 1 0 l2.length), vi x2, vi x1] [.arr 1 (eI.els l2)] [.arr 1 (eI.els r2.2)] (.tp []) [0] [(30, .tp []), (5, .one (.sl 0 1 0 l2.length)), (6, vi y1), (7, vi x1), (23, vi ((l1.length : Nat) : Int)), (24, vi x2), (27, .one (.sl 0 1 0 l2.length)), (28, vi x2), (29, vi x1)] [.arr 1 (eI.els r2.2)] (by kernel_rfl) (c_lake_bend_s _ _ _ _ c19) (by kernel_rfl) (by kernel_rfl) (by kernel_rfl) (by kernel_rfl) ?_
       refine XO.sub (Sub.frame (fr' := [(30, .tp []), (5, .one (.sl 0 1 0 r2.2.length)), (6, vi y1), (7, vi x1), (23, vi ((l1.length : Nat) : Int)), (24, vi x2), (27, .one (.sl 0 1 0 r2.2.length)), (28, vi x2), (29, vi x1)]) ⟨.rfl _, ALe.of_eq (show (.one (.sl 0 1 0 l2.length) : AV) = .one (.sl 0 1 0 r2.2.length) from by rw [g20]), .rfl _, .rfl _, .rfl _, .rfl _, ALe.of_eq (show (.one (.sl 0 1 0 l2.length) : AV) = .one (.sl 0 1 0 r2.2.length) from by rw [g20]), .rfl _, .rfl _, trivial⟩) (zd (hK17 _ _ (zr (zg [] 2 [5,6,7,23,24] (zd ?_)))))
       exact XR.sub (zk [5,6,7,23,24]) (ih2 r2.2 (IntKind.i64.wrap (x2 + (1 : Int))) h)
      ·exact zx 2 (hQ2 _ _ _ (hJ1 l2 h _ _ (zk [5,6,7])))
    exact XR.sub (zk [5,6,7,23,24]) (hL2 BIG l1 (0 : Int) h)
   ·exact zx 0 (hQ1 _ _ _ (hJ2 l1 h _ _ (zk [5,6])))
 exact XR.sub (zk [5,6,7]) (hL1 BIG r1 y1 h)

def lake_woven_j1 (rec1 : Int → Int → Option Int) (x2 : Int) (x5 : Int) : Option Int :=
    rec1 x5 (IntKind.i64.wrap (x2 - (1 : Int)))

def lake_woven_l2 (rec1 : Int → Int → Option Int) (p2 : (List Int)) (x2 : Int) : Nat → Int → Int → Option Int
  | 0, _, _ => none
  | k2 + 1, x3, x4 =>
    ift (decide (x4 < (p2.length : Int)))
      (bnd (at? p2 x4) fun e1 =>
       bnd (some (IntKind.i64.wrap (x3 * 2 ^ (min (1 : Int).toNat (IntKind.i64).bits)))) fun y1 =>
       grd (0 ≤ x2) <|
       bnd (some (IntKind.i64.wrap (BitVec.ofInt (IntKind.i64).bits (e1.fdiv (2 ^ (min x2.toNat (IntKind.i64).bits))) &&& BitVec.ofInt (IntKind.i64).bits (1 : Int)).toNat)) fun y2 =>
       bnd (some (IntKind.i64.wrap (BitVec.ofInt (IntKind.i64).bits y1 ||| BitVec.ofInt (IntKind.i64).bits y2).toNat)) fun y3 =>
       (lake_woven_l2 rec1 p2 x2 k2) y3 (IntKind.i64.wrap (x4 + (1 : Int))))
      (lake_woven_j1 rec1 x2 x3)

def lake_woven_j2 (x6 : Int) : Option Int :=
    some x6

def lake_woven_l1 (p2 : (List Int)) : Nat → Int → Int → Option Int
  | 0, _, _ => none
  | k1 + 1, x1, x2 =>
    ift (decide ((0 : Int) ≤ x2))
      (lake_woven_l2 (lake_woven_l1 p2 k1) p2 x2 BIG x1 (0 : Int))
      (lake_woven_j2 x1)

def lake_woven (p1 : Int) (p2 : (List Int)) : Option Int :=
    lake_woven_l1 p2 BIG (0 : Int) (IntKind.i64.wrap (p1 - (1 : Int)))


theorem c_lake_woven (p1 : Int) (p2 : (List Int)) (r : Int) (h : lake_woven p1 p2 = some r) : PC Try.prog 20 [vi p1, vl eI p2] (vi r) := by
 unfold lake_woven at h
 refine zF 30 Try.f20 (zq fun K1 hK1 => zr (zg [] 1 [0,1] (zd (hK1 _ _ (zq fun K2 hK2 => zr ?_)))))
 refine zg [] 1 [0,1,5] (zd (hK2 _ _ (zq fun K3 hK3 => ?_)))
 have hJ2 : ∀ (x6 : Int), lake_woven_j2 x6 = some r → ∀ fr1 st1, Sub 30 0 [] fr1 st1 [(5, vi x6)] [] → K3 fr1 st1 := by
  intro x6 h fr1 st1 hS
  unfold lake_woven_j2 at h
  refine hK3 _ _ (XW.sub hS ?_)
  refine zq fun K20 hK20 => zr (zg [] 2 [4] (zd (hK20 _ _ (ze ?_))))
  obtain rfl := Option.some.inj h
  exact zf [vi x6] (.one (.rfl _ rfl))
 refine zq fun K4 hK4 => zr (zv [] 3 [1,5,6] [] [(1, vl eI p2), (5, vi (0 : Int)), (6, vi (IntKind.i64.wrap (p1 - (1 : Int))))] [] (zd (hK4 _ _ (zb 0 (XW.rounds' BIG (x := cd Try.f20 [1,1,0,1,0,0]) (by kernel_rfl) fun Q1 hQ1 => ?_)))))
 have hL1 : ∀ (k1 : Nat) (x1 : Int) (x2 : Int), lake_woven_l1 p2 k1 x1 x2 = some r → XR Try.prog 30 0 [] (cd Try.f20 [1,1,0,1,0,0]) Q1 k1 [(1, vl eI p2), (5, vi x1), (6, vi x2)] [] := by
  intro k1
  induction k1 with
  | zero => intro x1 x2 h; rw [lake_woven_l1.eq_1] at h; cases h
  | succ k1 ih1 =>
   intro x1 x2 h
   rw [lake_woven_l1.eq_2] at h
   refine zq fun K5 hK5 => zq fun K6 hK6 => zr (zg [] 2 [1,5,6,12] (zd (hK6 _ _ (zC h (fun b7 h => ?_) (fun b7 h => ?_)))))
   ·refine zs (hK5 _ _ (zq fun K8 hK8 => ?_))
    have hJ1 : ∀ (x5 : Int), lake_woven_j1 (lake_woven_l1 p2 k1) x2 x5 = some r → ∀ fr1 st1, Sub 30 0 [] fr1 st1 [(1, vl eI p2), (5, vi x5), (6, vi x2)] [] → K8 fr1 st1 := by
     intro x5 h fr1 st1 hS
     unfold lake_woven_j1 at h
     refine hK8 _ _ (XW.sub hS ?_)
     exact zr (zg [] 3 [1,5,6] (zd (XR.sub (zk [1,5,6]) (ih1 x5 (IntKind.i64.wrap (x2 - (1 : Int))) h))))
    refine zb 1 (zq fun K9 hK9 => zr (zv [] 2 [1,5,6,15,16] [] [(1, vl eI p2), (5, vi x1), (6, vi x2), (15, vl eI p2), (16, vi ((eI.els p2).length : Int))] [] ?_))
    rw [eI.len p2]
    refine zg [] 1 [1,5,6,15,16,17] (zd (hK9 _ _ (zb 2 (XW.rounds' BIG (x := cd Try.f20 [1,1,0,1,0,0,1,0,0,1,0,0]) (by kernel_rfl) fun Q2 hQ2 => ?_))))
    have hL2 : ∀ (k2 : Nat) (x3 : Int) (x4 : Int), lake_woven_l2 (lake_woven_l1 p2 k1) p2 x2 k2 x3 x4 = some r → XR Try.prog 30 0 [] (cd Try.f20 [1,1,0,1,0,0,1,0,0,1,0,0]) Q2 k2 [(1, vl eI p2), (5, vi x3), (6, vi x2), (15, vl eI p2), (16, vi (p2.length : Int)), (17, vi x4)] [] := by
     intro k2
     induction k2 with
     | zero => intro x3 x4 h; rw [lake_woven_l2.eq_1] at h; cases h
     | succ k2 ih2 =>
      intro x3 x4 h
      rw [lake_woven_l2.eq_2] at h
      refine zq fun K10 hK10 => zr (zg [] 1 [1,5,6,15,16,17,18] (zd (hK10 _ _ (zq fun K11 hK11 => zC h (fun b12 h => ?_) (fun b12 h => ?_)))))
      ·refine zs (hK11 _ _ (zq fun K13 hK13 => zb 3 (zq fun K14 hK14 => ?_)))
       obtain ⟨e1, a15, h⟩ := zB h
       refine zr (zo [] 3 [1,5,6,8,15,16,17] [[pi e1]] [0 ≤ x4 ∧ x4 < ((eI.els p2).length : Int) ∧ elemsOk 1 (eI.els p2), (eI.els p2)[x4.toNat]? = some [pi e1]] (⟨eI.inb a15, (eI.get a15), trivial⟩) (zd (hK14 _ _ ?_)))
       obtain ⟨y1, hy16, h⟩ := zB h
       obtain ⟨g17, h⟩ := zG h
       obtain ⟨y2, hy18, h⟩ := zB h
       obtain ⟨y3, hy19, h⟩ := zB h
       refine zr (zp [] 2 [1,6,8,15,16,17,22] [] [(1, vl eI p2), (6, vi x2), (8, vi e1), (15, vl eI p2), (16, vi (p2.length : Int)), (17, vi x4), (22, vi (IntKind.i64.wrap (x3 * 2 ^ (min (1 : Int).toNat (IntKind.i64).bits))))] [] [0 ≤ (1 : Int)] (⟨by decide, trivial⟩) ?_)
       rw [show (IntKind.i64.wrap (x3 * 2 ^ (min (1 : Int).toNat (IntKind.i64).bits))) = y1 from Option.some.inj hy16]
       refine zp [] 4 [1,6,15,16,17,22,26] [] [(1, vl eI p2), (6, vi x2), (15, vl eI p2), (16, vi (p2.length : Int)), (17, vi x4), (22, vi y1), (26, vi (IntKind.i64.wrap (BitVec.ofInt (IntKind.i64).bits (e1.fdiv (2 ^ (min x2.toNat (IntKind.i64).bits))) &&& BitVec.ofInt (IntKind.i64).bits (1 : Int)).toNat))] [] [0 ≤ x2] (⟨g17, trivial⟩) ?_
       rw [show (IntKind.i64.wrap (BitVec.ofInt (IntKind.i64).bits (e1.fdiv (2 ^ (min x2.toNat (IntKind.i64).bits))) &&& BitVec.ofInt (IntKind.i64).bits (1 : Int)).toNat) = y2 from Option.some.inj hy18]
       refine zv [] 1 [1,6,15,16,17,27] [] [(1, vl eI p2), (6, vi x2), (15, vl eI p2), (16, vi (p2.length : Int)), (17, vi x4), (27, vi (IntKind.i64.wrap (BitVec.ofInt (IntKind.i64).bits y1 ||| BitVec.ofInt (IntKind.i64).bits y2).toNat))] [] ?_
       rw [show (IntKind.i64.wrap (BitVec.ofInt (IntKind.i64).bits y1 ||| BitVec.ofInt (IntKind.i64).bits y2).toNat) = y3 from Option.some.inj hy19]
       exact zg [] 1 [1,5,6,15,16,17] (zd (hK13 _ _ (zr (zg [] 2 [1,5,6,15,16,17] (zd (XR.sub (zk [1,5,6,15,16,17]) (ih2 y3 (IntKind.i64.wrap (x4 + (1 : Int))) h)))))))
      ·exact zx 2 (hQ2 _ _ _ (hJ1 x3 h _ _ (zk [1,5,6])))
    exact XR.sub (zk [1,5,6,15,16,17]) (hL2 BIG x1 (0 : Int) h)
   ·exact zx 0 (hQ1 _ _ _ (hJ2 x1 h _ _ (zk [5])))
 exact XR.sub (zk [1,5,6]) (hL1 BIG (0 : Int) (IntKind.i64.wrap (p1 - (1 : Int))) h)

def lake_Curve_j1 (p2 : Int) (x1 : List Int) : Option (Int × Int) :=
    bnd (lake_woven p2 x1) fun r4 =>
    some (r4, (0 : Int))

def lake_Curve (p1 : Int) (p2 : Int) (p3 : (List Int)) : Option (Int × Int) :=
    bnd (lake_curve p1 p2 (p3.length : Int)) fun r1 =>
    ift (r1 != (0 : Int))
      (some ((0 : Int), r1))
      (bnd (slices_ContainsFunc_int_int_of_lake_Curve_1 p3 p2) fun r2 =>
       ift r2
         (some ((0 : Int), (3 : Int)))
         (ift (p1 == (2 : Int))
            (bnd (lake_hilbert p2 p3) fun r3 =>
             lake_Curve_j1 p2 r3)
            (lake_Curve_j1 p2 p3)))


theorem c_lake_Curve (p1 : Int) (p2 : Int) (p3 : (List Int)) (r : (Int × Int)) (h : lake_Curve p1 p2 p3 = some r) : PC Try.prog 9 [vi p1, vi p2, vl eI p3] (.tp [vi r.1, vi r.2]) := by
 unfold lake_Curve at h
 refine zF 28 Try.f9 (zq fun K1 hK1 => zr (zg [] 3 [0,2,4] (zd (hK1 _ _ (zq fun K2 hK2 => zq fun K3 hK3 => ?_)))))
 obtain ⟨r1, c4, h⟩ := zB h
 refine zr (zv [] 4 [0,2,4,9,10,12] [[pi p2]] [(0, vi p1), (2, vl eI p3), (4, .one (.pv (.rp [[pi p2]] 0 0))), (9, vi p1), (10, vi p2), (12, vi ((eI.els p3).length : Int))] [] ?_)
 rw [eI.len p3]
 refine za (c_lake_curve _ _ _ _ c4) (zg [] 1 [0,2,4,8] (zd (hK3 _ _ (zq fun K5 hK5 => zr (zv [] 2 [0,2,4,8,15] [] [(0, vi p1), (2, vl eI p3), (4, .one (.pv (.rp [[pi p2]] 0 0))), (8, vi r1), (15, vb (r1 != (0 : Int)))] [] (zd ?_))))))
 refine hK5 _ _ (zC h (fun b6 h => ?_) (fun b6 h => ?_))
 ·refine zq fun K7 hK7 => zr (zg [] 3 [6,7] (zd (hK7 _ _ (ze ?_))))
  obtain rfl := Option.some.inj h
  exact zf [vi (0 : Int), vi r1] (.tpc (.one (.rfl _ rfl)) (.tpc (.one (.rfl _ rfl)) (.tp0)))
 ·refine zs (hK2 _ _ (zq fun K8 hK8 => zq fun K9 hK9 => ?_))
  obtain ⟨r2, c10, h⟩ := zB h
  refine zr (zg [] 2 [0,2,4,17,18] (zl 13 [vl eI p3, .one (.fn 18 [.pv (.rp [[pi p2]] 0 0)])] (vb r2) [(19, vb r2), (0, vi p1), (2, vl eI p3), (4, .one (.pv (.rp [[pi p2]] 0 0))), (17, vl eI p3), (18, .one (.fn 18 [.pv (.rp [[pi p2]] 0 0)]))] (c_slices_ContainsFunc_int_int_of_lake_Curve_1 _ _ _ c10) (zd (hK9 _ _ (zC h (fun b11 h => ?_) (fun b11 h => ?_))))))
  ·refine zq fun K12 hK12 => zr (zg [] 2 [6,7] (zd (hK12 _ _ (ze ?_))))
   obtain rfl := Option.some.inj h
   exact zf [vi (0 : Int), vi (3 : Int)] (.tpc (.one (.rfl _ rfl)) (.tpc (.one (.rfl _ rfl)) (.tp0)))
  ·refine zs (hK8 _ _ (zq fun K13 hK13 => ?_))
   have hJ1 : ∀ (x1 : List Int), lake_Curve_j1 p2 x1 = some r → ∀ fr1 st1, Sub 28 0 [] fr1 st1 [(2, vl eI x1), (4, .one (.pv (.rp [[pi p2]] 0 0)))] [] → K13 fr1 st1 := by
    intro x1 h fr1 st1 hS
    unfold lake_Curve_j1 at h
    refine hK13 _ _ (XW.sub hS ?_)
    refine zq fun K17 hK17 => ?_
    obtain ⟨r4, c18, h⟩ := zB h
    refine zr (zu [] 2 [25,26] [[pi p2]] (za (c_lake_woven _ _ _ c18) (zv [] 2 [6,7] [] [(6, vi r4), (7, vi (0 : Int))] [] (zd (hK17 _ _ (ze ?_))))))
    obtain rfl := Option.some.inj h
    exact zf [vi r4, vi (0 : Int)] (.tpc (.one (.rfl _ rfl)) (.tpc (.one (.rfl _ rfl)) (.tp0)))
   refine zq fun K14 hK14 => zr (zg [] 2 [2,4,21] (zd (hK14 _ _ (zC h (fun b15 h => ?_) (fun b15 h => ?_)))))
   ·obtain ⟨r3, c16, h⟩ := zB h
    exact zr (zv [] 2 [4,22,23] [[pi p2]] [(4, .one (.pv (.rp [[pi p2]] 0 0))), (22, vi p2), (23, vl eI p3)] [] (za (c_lake_hilbert _ _ _ c16) (zg [] 1 [2,4] (zd (hJ1 r3 h _ _ (zk [2,4]))))))
   ·exact zs (hJ1 p3 h _ _ (zk [2,4]))

def ref4_curved_j1 (p3 : Int) (x1 : Bool) : Option Int :=
    ift x1
      (some (3 : Int))
      (ift (decide ((4 : Int) < p3))
         (some (7 : Int))
         (ift (decide (p3 ≤ (0 : Int)))
            (some (9 : Int))
            (some (0 : Int))))

def ref4_curved (p1 : Int) (p2 : Int) (p3 : Int) : Option Int :=
    ift (p1 != (1 : Int))
      (ift (p1 != (2 : Int))
         (ref4_curved_j1 p3 true)
         (ift (decide (p2 < (1 : Int)))
            (ref4_curved_j1 p3 true)
            (ref4_curved_j1 p3 (decide ((15 : Int) < p2)))))
      (ift (decide (p2 < (1 : Int)))
         (ref4_curved_j1 p3 true)
         (ref4_curved_j1 p3 (decide ((15 : Int) < p2))))


theorem c_ref4_curved (p1 : Int) (p2 : Int) (p3 : Int) (r : Int) (h : ref4_curved p1 p2 p3 = some r) : PC Try.prog 21 [vi p1, vi p2, vi p3] (vi r) := by
 unfold ref4_curved at h
 refine zF 28 Try.f21 (zq fun K1 hK1 => zr (zg [] 1 [0,1,2] (zd (hK1 _ _ (zq fun K2 hK2 => zb 0 ?_)))))
 refine zq fun K3 hK3 => ?_
 have hJ1 : ∀ (x1 : Bool), ref4_curved_j1 p3 x1 = some r → ∀ fr1 st1, Sub 28 0 [] fr1 st1 [(2, vi p3), (7, vb x1)] [] → K3 fr1 st1 := by
  intro x1 h fr1 st1 hS
  unfold ref4_curved_j1 at h
  refine hK3 _ _ (XW.sub hS ?_)
  refine zC h (fun b8 h => ?_) (fun b8 h => ?_)
  ·refine zq fun K9 hK9 => zr (zg [] 1 [6] (zd (hK9 _ _ (ze ?_))))
   obtain rfl := Option.some.inj h
   exact zf [vi (3 : Int)] (.one (.rfl _ rfl))
  ·refine zq fun K10 hK10 => zr (zg [] 3 [2,22] (zd (hK10 _ _ (zC h (fun b11 h => ?_) (fun b11 h => ?_)))))
   ·refine zq fun K12 hK12 => zr (zv [] 1 [6] [] [(6, vi (7 : Int))] [] (zd (hK12 _ _ (ze ?_))))
    obtain rfl := Option.some.inj h
    exact zf [vi (7 : Int)] (.one (.rfl _ rfl))
   ·refine zq fun K13 hK13 => zr (zg [] 3 [25] (zd (hK13 _ _ (zC h (fun b14 h => ?_) (fun b14 h => ?_)))))
    ·refine zq fun K15 hK15 => zr (zg [] 1 [6] (zd (hK15 _ _ (ze ?_))))
     obtain rfl := Option.some.inj h
     exact zf [vi (9 : Int)] (.one (.rfl _ rfl))
    ·refine zs (hK2 _ _ (zq fun K16 hK16 => zr (zv [] 1 [6] [] [(6, vi (0 : Int))] [] (zd (hK16 _ _ (ze ?_))))))
     obtain rfl := Option.some.inj h
     exact zf [vi (0 : Int)] (.one (.rfl _ rfl))
 rcases zW h with ⟨b4, h⟩ | ⟨b4, h⟩
 ·rcases zW h with ⟨b5, h⟩ | ⟨b5, h⟩
  ·exact zr (zg [] 3 [0,1,2,10] (zt 10 b4 (zv [] 4 [1,2,14] [] [(1, vi p2), (2, vi p3), (14, vb (p1 != (2 : Int)))] [] (zt 14 b5 (zg [] 8 [2,7] (zd (hJ1 true h _ _ (zk [2,7]))))))))
  ·rcases zW h with ⟨b6, h⟩ | ⟨b6, h⟩
   ·refine zr (zg [] 3 [0,1,2,10] (zt 10 b4 (zv [] 4 [1,2,14] [] [(1, vi p2), (2, vi p3), (14, vb (p1 != (2 : Int)))] [] (zt 14 b5 (zg [] 4 [1,2,18] (zt 18 b6 (zg [] 4 [2,7] ?_)))))))
    exact zd (hJ1 true h _ _ (zk [2,7]))
   ·refine zr (zv [] 3 [0,1,2,10] [] [(0, vi p1), (1, vi p2), (2, vi p3), (10, vb (p1 != (1 : Int)))] [] (zt 10 b4 (zg [] 4 [1,2,14] (zt 14 b5 (zg [] 4 [1,2,18] (zt 18 b6 (zv [] 4 [2,7] [] [(2, vi p3), (7, vb (decide ((15 : Int) < p2)))] [] ?_)))))))
    exact zd (hJ1 (decide ((15 : Int) < p2)) h _ _ (zk [2,7]))
 ·rcases zW h with ⟨b7, h⟩ | ⟨b7, h⟩
  ·exact zr (zg [] 3 [0,1,2,10] (zt 10 b4 (zv [] 8 [1,2,18] [] [(1, vi p2), (2, vi p3), (18, vb (decide (p2 < (1 : Int))))] [] (zt 18 b7 (zg [] 4 [2,7] (zd (hJ1 true h _ _ (zk [2,7]))))))))
  ·exact zr (zg [] 3 [0,1,2,10] (zt 10 b4 (zv [] 8 [1,2,18] [] [(1, vi p2), (2, vi p3), (18, vb (decide (p2 < (1 : Int))))] [] (zt 18 b7 (zg [] 4 [2,7] (zd (hJ1 (decide ((15 : Int) < p2)) h _ _ (zk [2,7]))))))))

def ref4_bent_j1 (rec2 : List Int → Int → Option (List Int)) (x2 : Int) (l3 : List Int) : Option (List Int) :=
    rec2 l3 (IntKind.i64.wrap (x2 + (1 : Int)))

def ref4_bent_j2 (rec1 : List Int → Int → Option (List Int)) (x1 : Int) (l4 : List Int) : Option (List Int) :=
    rec1 l4 (IntKind.i64.wrap (x1.tdiv (2 : Int)))

def ref4_bent_l2 (rec1 : List Int → Int → Option (List Int)) (p2 : (List Int)) (x1 : Int) : Nat → List Int → Int → Option (List Int)
  | 0, _, _ => none
  | k2 + 1, l2, x2 =>
    ift (decide (x2 < (((([] : List Int) ++ p2).length : Nat) : Int)))
      (bnd (at? l2 x2) fun e1 =>
       bnd (some (IntKind.i64.wrap (BitVec.ofInt (IntKind.i64).bits e1 &&& BitVec.ofInt (IntKind.i64).bits x1).toNat)) fun y2 =>
       ift (y2 != (0 : Int))
         (bnd (at? l2 (0 : Int)) fun e2 =>
          bnd (some (IntKind.i64.wrap (BitVec.ofInt (IntKind.i64).bits e2 ^^^ BitVec.ofInt (IntKind.i64).bits (IntKind.i64.wrap (x1 - (1 : Int)))).toNat)) fun y3 =>
          ref4_bent_j1 (ref4_bent_l2 rec1 p2 x1 k2) x2 (l2.set (0 : Int).toNat y3))
         (bnd (at? l2 (0 : Int)) fun e3 =>
          bnd (some (IntKind.i64.wrap (BitVec.ofInt (IntKind.i64).bits e3 ^^^ BitVec.ofInt (IntKind.i64).bits e1).toNat)) fun y4 =>
          bnd (some (IntKind.i64.wrap (BitVec.ofInt (IntKind.i64).bits y4 &&& BitVec.ofInt (IntKind.i64).bits (IntKind.i64.wrap (x1 - (1 : Int)))).toNat)) fun y5 =>
          bnd (some (IntKind.i64.wrap (BitVec.ofInt (IntKind.i64).bits e3 ^^^ BitVec.ofInt (IntKind.i64).bits y5).toNat)) fun y6 =>
          bnd (at? (l2.set (0 : Int).toNat y6) x2) fun e4 =>
          bnd (some (IntKind.i64.wrap (BitVec.ofInt (IntKind.i64).bits e4 ^^^ BitVec.ofInt (IntKind.i64).bits y5).toNat)) fun y7 =>
          ref4_bent_j1 (ref4_bent_l2 rec1 p2 x1 k2) x2 ((l2.set (0 : Int).toNat y6).set x2.toNat y7)))
      (ref4_bent_j2 rec1 x1 l2)

def ref4_bent_j5 (rec4 : Int → Int → Option (List Int)) (x5 : Int) (x6 : Int) : Option (List Int) :=
    rec4 x6 (IntKind.i64.wrap (x5.tdiv (2 : Int)))

def ref4_bent_j7 (l9 : List Int) : Option (List Int) :=
    some l9

def ref4_bent_l5 (l7 : List Int) (x7 : Int) : Nat → List Int → Int → Option (List Int)
  | 0, _, _ => none
  | k5 + 1, l8, x8 =>
    ift (decide (x8 < ((l7.length : Nat) : Int)))
      (bnd (at? l8 x8) fun e8 =>
       bnd (some (IntKind.i64.wrap (BitVec.ofInt (IntKind.i64).bits e8 ^^^ BitVec.ofInt (IntKind.i64).bits x7).toNat)) fun y13 =>
       (ref4_bent_l5 l7 x7 k5) (l8.set x8.toNat y13) (IntKind.i64.wrap (x8 + (1 : Int))))
      (ref4_bent_j7 l8)

def ref4_bent_j6 (l7 : List Int) (x7 : Int) : Option (List Int) :=
    ref4_bent_l5 l7 x7 BIG l7 (0 : Int)

def ref4_bent_l4 (p2 : (List Int)) (l7 : List Int) : Nat → Int → Int → Option (List Int)
  | 0, _, _ => none
  | k4 + 1, x4, x5 =>
    ift (decide ((1 : Int) < x5))
      (bnd (some (IntKind.i64.wrap ((((([] : List Int) ++ p2).length : Nat) : Int) - (1 : Int)))) fun y10 =>
       bnd (at? l7 y10) fun e7 =>
       bnd (some (IntKind.i64.wrap (BitVec.ofInt (IntKind.i64).bits e7 &&& BitVec.ofInt (IntKind.i64).bits x5).toNat)) fun y11 =>
       ift (y11 != (0 : Int))
         (bnd (some (IntKind.i64.wrap (BitVec.ofInt (IntKind.i64).bits x4 ^^^ BitVec.ofInt (IntKind.i64).bits (IntKind.i64.wrap (x5 - (1 : Int)))).toNat)) fun y12 =>
          ref4_bent_j5 (ref4_bent_l4 p2 l7 k4) x5 y12)
         (ref4_bent_j5 (ref4_bent_l4 p2 l7 k4) x5 x4))
      (ref4_bent_j6 l7 x4)

def ref4_bent_j4 (p1 : Int) (p2 : (List Int)) (l7 : List Int) : Option (List Int) :=
    grd (0 ≤ (IntKind.i64.wrap (p1 - (1 : Int)))) <|
    bnd (some (IntKind.i64.wrap ((1 : Int) * 2 ^ (min (IntKind.i64.wrap (p1 - (1 : Int))).toNat (IntKind.i64).bits)))) fun y9 =>
    ref4_bent_l4 p2 l7 BIG (0 : Int) y9

def ref4_bent_l3 (p1 : Int) (p2 : (List Int)) : Nat → List Int → Int → Option (List Int)
  | 0, _, _ => none
  | k3 + 1, l6, x3 =>
    ift (decide (x3 < (((([] : List Int) ++ p2).length : Nat) : Int)))
      (bnd (at? l6 x3) fun e5 =>
       bnd (at? l6 (IntKind.i64.wrap (x3 - (1 : Int)))) fun e6 =>
       bnd (some (IntKind.i64.wrap (BitVec.ofInt (IntKind.i64).bits e5 ^^^ BitVec.ofInt (IntKind.i64).bits e6).toNat)) fun y8 =>
       (ref4_bent_l3 p1 p2 k3) (l6.set x3.toNat y8) (IntKind.i64.wrap (x3 + (1 : Int))))
      (ref4_bent_j4 p1 p2 l6)

def ref4_bent_j3 (p1 : Int) (p2 : (List Int)) (l5 : List Int) : Option (List Int) :=
    ref4_bent_l3 p1 p2 BIG l5 (1 : Int)

def ref4_bent_l1 (p1 : Int) (p2 : (List Int)) : Nat → List Int → Int → Option (List Int)
  | 0, _, _ => none
  | k1 + 1, l1, x1 =>
    ift (decide ((1 : Int) < x1))
      (ref4_bent_l2 (ref4_bent_l1 p1 p2 k1) p2 x1 BIG l1 (0 : Int))
      (ref4_bent_j3 p1 p2 l1)

def ref4_bent (p1 : Int) (p2 : (List Int)) : Option (List Int) :=
    grd (([] : List Int).length + p2.length ≤ 4294967296) <|
    grd (0 ≤ (IntKind.i64.wrap (p1 - (1 : Int)))) <|
    bnd (some (IntKind.i64.wrap ((1 : Int) * 2 ^ (min (IntKind.i64.wrap (p1 - (1 : Int))).toNat (IntKind.i64).bits)))) fun y1 =>
    ref4_bent_l1 p1 p2 BIG (([] : List Int) ++ p2) y1


theorem c_ref4_bent (p1 : Int) (p2 : (List Int)) (r : (List Int)) (h : ref4_bent p1 p2 = some r) : PC Try.prog 22 [vi p1, vl eI p2] (vl eI r) := by
 unfold ref4_bent at h
 refine zF 118 Try.f22 (zq fun K1 hK1 => zr (zg [14] 1 [0,1] (zd (hK1 _ _ (zq fun K2 hK2 => ?_)))))
 obtain ⟨g3, h⟩ := zG h
 refine zr (zp [14] 3 [0,16] [] [(0, vi p1), (16, .one (.sl 0 1 0 (0 + (eI.els p2).length)))] [.arr 1 (eI.els [] ++ eI.els p2)] [elemsOk 1 (eI.els p2), 0 = (eI.els []).length, 0 + (eI.els p2).length ≤ 4294967296] (⟨eI.ok _, (by simp [Enc.len]), (by simp [Enc.len] at * <;> omega), trivial⟩) ?_)
 rw [show 0 + (eI.els p2).length = (([] : List Int) ++ p2).length from (by simp [Enc.len] <;> omega)]
 rw [show eI.els [] ++ eI.els p2 = eI.els (([] : List Int) ++ p2) from eI.app2 _ _]
 refine zg [14] 1 [0,5] (zd (hK2 _ _ (zq fun K4 hK4 => zr (zg [14] 3 [0,5,6] (zd (hK4 _ _ ?_))))))
 refine zq fun K5 hK5 => ?_
 have hJ3 : ∀ (l5 : List Int), ref4_bent_j3 p1 p2 l5 = some r → ∀ fr1 st1, Sub 118 0 [] fr1 st1 [(0, vi p1), (5, .one (.sl 0 1 0 l5.length)), (6, vi (((([] : List Int) ++ p2).length : Nat) : Int))] [.arr 1 (eI.els l5)] → K5 fr1 st1 := by
  intro l5 h fr1 st1 hS
  unfold ref4_bent_j3 at h
  refine hK5 _ _ (XW.sub hS ?_)
  refine zq fun K32 hK32 => ?_
  have hJ4 : ∀ (l7 : List Int), ref4_bent_j4 p1 p2 l7 = some r → ∀ fr1 st1, Sub 118 0 [] fr1 st1 [(0, vi p1), (5, .one (.sl 0 1 0 l7.length)), (6, vi (((([] : List Int) ++ p2).length : Nat) : Int))] [.arr 1 (eI.els l7)] → K32 fr1 st1 := by
   intro l7 h fr1 st1 hS
   unfold ref4_bent_j4 at h
   refine hK32 _ _ (XW.sub hS ?_)
   refine zq fun K41 hK41 => zr (zg [14] 1 [0,5,6,11] (zd (hK41 _ _ (zq fun K42 hK42 => ?_))))
   have hJ6 : ∀ (x7 : Int), ref4_bent_j6 l7 x7 = some r → ∀ fr1 st1, Sub 118 0 [] fr1 st1 [(5, .one (.sl 0 1 0 l7.length)), (11, vi x7)] [.arr 1 (eI.els l7)] → K42 fr1 st1 := by
    intro x7 h fr1 st1 hS
    unfold ref4_bent_j6 at h
    refine hK42 _ _ (XW.sub hS ?_)
    refine zq fun K56 hK56 => ?_
    have hJ7 : ∀ (l9 : List Int), ref4_bent_j7 l9 = some r → ∀ fr1 st1, Sub 118 0 [] fr1 st1 [(5, .one (.sl 0 1 0 l9.length))] [.arr 1 (eI.els l9)] → K56 fr1 st1 := by
     intro l9 h fr1 st1 hS
     unfold ref4_bent_j7 at h
     refine hK56 _ _ (XW.sub hS ?_)
     refine zq fun K65 hK65 => zr (zg [14] 2 [4] (zd (hK65 _ _ (ze ?_))))
     obtain rfl := Option.some.inj h
     exact zf [.one (.sl 0 1 0 l9.length)] (.one (cf_sl eI l9 rfl rfl rfl))
    refine zq fun K57 hK57 => zr (zg [14] 3 [5,11,105,106] (zd (hK57 _ _ (zb 8 (XW.rounds' BIG (x := cd Try.f22 [1,1,1,1,1,1,1,0,1,0,0]) (by kernel_rfl) fun Q5 hQ5 => ?_)))))
    have hL5 : ∀ (k5 : Nat) (l8 : List Int) (x8 : Int), ref4_bent_l5 l7 x7 k5 l8 x8 = some r → XR Try.prog 118 0 [] (cd Try.f22 [1,1,1,1,1,1,1,0,1,0,0]) Q5 k5 [(5, .one (.sl 0 1 0 l8.length)), (11, vi x7), (105, vi ((l7.length : Nat) : Int)), (106, vi x8)] [.arr 1 (eI.els l8)] := by
     intro k5
     induction k5 with
     | zero => intro l8 x8 h; rw [ref4_bent_l5.eq_1] at h; cases h
     | succ k5 ih5 =>
      intro l8 x8 h
      rw [ref4_bent_l5.eq_2] at h
      refine zq fun K58 hK58 => zr (zg [14] 1 [5,11,105,106,107] (zd (hK58 _ _ (zq fun K59 hK59 => zC h (fun b60 h => ?_) (fun b60 h => ?_)))))
      ·refine zs (hK59 _ _ (zq fun K61 hK61 => zb 9 (zq fun K62 hK62 => zr (zg [14] 2 [5,11,13,105,106] (zd ?_)))))
       refine hK62 _ _ ?_
       obtain ⟨e8, a63, h⟩ := zB h
       obtain ⟨y13, hy64, h⟩ := zB h
       refine zr (zp [14] 6 [5,11,105,106,109,110,114] [[pi e8]] [(5, .one (.sl 0 1 0 l8.length)), (11, vi x7), (105, vi ((l7.length : Nat) : Int)), (106, vi x8), (109, .one (.sl 0 1 0 l8.length)), (110, vi x8), (114, vi (IntKind.i64.wrap (BitVec.ofInt (IntKind.i64).bits e8 ^^^ BitVec.ofInt (IntKind.i64).bits x7).toNat))] [.arr 1 (eI.els l8)] [0 ≤ x8 ∧ x8 < ((l8.length : Nat) : Int), (eI.els l8)[(0 + x8.toNat)]? = some [pi e8]] (⟨Enc.inb' a63, (eI.get0 a63), trivial⟩) ?_)
       rw [show (IntKind.i64.wrap (BitVec.ofInt (IntKind.i64).bits e8 ^^^ BitVec.ofInt (IntKind.i64).bits x7).toNat) = y13 from Option.some.inj hy64]
       refine zp [14] 2 [5,11,105,106] [[pi e8]] [(5, .one (.sl 0 1 0 l8.length)), (11, vi x7), (105, vi ((l7.length : Nat) : Int)), (106, vi x8)] [.arr 1 ((eI.els l8).set (0 + x8.toNat) [pi y13])] [0 ≤ x8 ∧ x8 < ((l8.length : Nat) : Int), (eI.els l8)[(0 + x8.toNat)]? = some [pi e8]] (⟨Enc.inb' a63, (eI.get0 a63), trivial⟩) ?_
       rw [show (eI.els l8).set (0 + x8.toNat) [pi y13] = eI.els (l8.set x8.toNat y13) from eI.set0 _ _ y13]
       refine zd (hK61 _ _ (zr (zg [14] 2 [5,11,105,106] (zd ?_))))
       exact XR.sub (Sub.trans (Sub.pick (fr' := [(5, .one (.sl 0 1 0 l8.length)), (11, vi x7), (105, vi ((l7.length : Nat) : Int)), (106, vi (IntKind.i64.wrap (x8 + (1 : Int))))]) [5,11,105,106] (by kernel_rfl)) (Sub.frame (fr' := [(5, .one (.sl 0 1 0 (l8.set x8.toNat y13).length)), (11, vi x7), (105, vi ((l7.length : Nat) : Int)), (106, vi (IntKind.i64.wrap (x8 + (1 : Int))))]) ⟨ALe.of_eq (show (.one (.sl 0 1 0 l8.length) : AV) = .one (.sl 0 1 0 (l8.set x8.toNat y13).length) from by simp), .rfl _, .rfl _, .rfl _, trivial⟩)) (ih5 (l8.set x8.toNat y13) (IntKind.i64.wrap (x8 + (1 : Int))) h)
      ·exact zx 8 (hQ5 _ _ _ (hJ7 l8 h _ _ (zk [5])))
    exact XR.sub (zk [5,11,105,106]) (hL5 BIG l7 (0 : Int) h)
   refine zq fun K43 hK43 => ?_
   obtain ⟨g44, h⟩ := zG h
   obtain ⟨y9, hy45, h⟩ := zB h
   refine zr (zp [14] 3 [5,6,11,87] [] [(5, .one (.sl 0 1 0 l7.length)), (6, vi (((([] : List Int) ++ p2).length : Nat) : Int)), (11, vi (0 : Int)), (87, vi (IntKind.i64.wrap ((1 : Int) * 2 ^ (min (IntKind.i64.wrap (p1 - (1 : Int))).toNat (IntKind.i64).bits))))] [.arr 1 (eI.els l7)] [0 ≤ (IntKind.i64.wrap (p1 - (1 : Int)))] (⟨g44, trivial⟩) ?_)
   rw [show (IntKind.i64.wrap ((1 : Int) * 2 ^ (min (IntKind.i64.wrap (p1 - (1 : Int))).toNat (IntKind.i64).bits))) = y9 from Option.some.inj hy45]
   refine zg [14] 1 [5,6,11,12] (zd (hK43 _ _ (zb 6 (XW.rounds' BIG (x := cd Try.f22 [1,1,1,1,1,1,0,1,0,0]) (by kernel_rfl) fun Q4 hQ4 => ?_))))
   have hL4 : ∀ (k4 : Nat) (x4 : Int) (x5 : Int), ref4_bent_l4 p2 l7 k4 x4 x5 = some r → XR Try.prog 118 0 [] (cd Try.f22 [1,1,1,1,1,1,0,1,0,0]) Q4 k4 [(5, .one (.sl 0 1 0 l7.length)), (6, vi (((([] : List Int) ++ p2).length : Nat) : Int)), (11, vi x4), (12, vi x5)] [.arr 1 (eI.els l7)] := by
    intro k4
    induction k4 with
    | zero => intro x4 x5 h; rw [ref4_bent_l4.eq_1] at h; cases h
    | succ k4 ih4 =>
     intro x4 x5 h
     rw [ref4_bent_l4.eq_2] at h
     refine zq fun K46 hK46 => zq fun K47 hK47 => zr (zg [14] 2 [5,6,11,12,89] (zd (hK47 _ _ (zC h (fun b48 h => ?_) (fun b48 h => ?_)))))
     ·refine zs (hK46 _ _ (zq fun K49 hK49 => ?_))
      have hJ5 : ∀ (x6 : Int), ref4_bent_j5 (ref4_bent_l4 p2 l7 k4) x5 x6 = some r → ∀ fr1 st1, Sub 118 0 [] fr1 st1 [(5, .one (.sl 0 1 0 l7.length)), (6, vi (((([] : List Int) ++ p2).length : Nat) : Int)), (11, vi x6), (12, vi x5)] [.arr 1 (eI.els l7)] → K49 fr1 st1 := by
       intro x6 h fr1 st1 hS
       unfold ref4_bent_j5 at h
       refine hK49 _ _ (XW.sub hS ?_)
       exact zr (zo [14] 3 [5,6,11,12] [] [(2 : Int) ≠ 0] (⟨by decide, trivial⟩) (zd (XR.sub (zk [5,6,11,12]) (ih4 x6 (IntKind.i64.wrap (x5.tdiv (2 : Int))) h))))
      refine zb 7 (zq fun K50 hK50 => ?_)
      obtain ⟨y10, hy51, h⟩ := zB h
      obtain ⟨e7, a52, h⟩ := zB h
      obtain ⟨y11, hy53, h⟩ := zB h
      refine zr (zv [14] 3 [5,6,11,12,92,94] [] [(5, .one (.sl 0 1 0 l7.length)), (6, vi (((([] : List Int) ++ p2).length : Nat) : Int)), (11, vi x4), (12, vi x5), (92, .one (.sl 0 1 0 l7.length)), (94, vi (IntKind.i64.wrap ((((([] : List Int) ++ p2).length : Nat) : Int) - (1 : Int))))] [.arr 1 (eI.els l7)] ?_)
      rw [show (IntKind.i64.wrap ((((([] : List Int) ++ p2).length : Nat) : Int) - (1 : Int))) = y10 from Option.some.inj hy51]
      refine zp [14] 4 [5,6,11,12,98] [[pi e7]] [(5, .one (.sl 0 1 0 l7.length)), (6, vi (((([] : List Int) ++ p2).length : Nat) : Int)), (11, vi x4), (12, vi x5), (98, vi (IntKind.i64.wrap (BitVec.ofInt (IntKind.i64).bits e7 &&& BitVec.ofInt (IntKind.i64).bits x5).toNat))] [.arr 1 (eI.els l7)] [0 ≤ y10 ∧ y10 < ((l7.length : Nat) : Int), (eI.els l7)[(0 + y10.toNat)]? = some [pi e7]] (⟨Enc.inb' a52, (eI.get0 a52), trivial⟩) ?_
      rw [show (IntKind.i64.wrap (BitVec.ofInt (IntKind.i64).bits e7 &&& BitVec.ofInt (IntKind.i64).bits x5).toNat) = y11 from Option.some.inj hy53]
      refine zg [14] 1 [5,6,11,12,99] (zd (hK50 _ _ (zC h (fun b54 h => ?_) (fun b54 h => ?_))))
      ·obtain ⟨y12, hy55, h⟩ := zB h
       refine zr (zv [14] 4 [5,6,12,103] [] [(5, .one (.sl 0 1 0 l7.length)), (6, vi (((([] : List Int) ++ p2).length : Nat) : Int)), (12, vi x5), (103, vi (IntKind.i64.wrap (BitVec.ofInt (IntKind.i64).bits x4 ^^^ BitVec.ofInt (IntKind.i64).bits (IntKind.i64.wrap (x5 - (1 : Int)))).toNat))] [.arr 1 (eI.els l7)] ?_)
       rw [show (IntKind.i64.wrap (BitVec.ofInt (IntKind.i64).bits x4 ^^^ BitVec.ofInt (IntKind.i64).bits (IntKind.i64.wrap (x5 - (1 : Int)))).toNat) = y12 from Option.some.inj hy55]
       exact zg [14] 1 [5,6,11,12] (zd (hJ5 y12 h _ _ (zk [5,6,11,12])))
      ·exact zs (hJ5 x4 h _ _ (zk [5,6,11,12]))
     ·exact zx 6 (hQ4 _ _ _ (hJ6 x4 h _ _ (zk [5,11])))
   exact XR.sub (zk [5,6,11,12]) (hL4 BIG (0 : Int) y9 h)
  refine zq fun K33 hK33 => zr (zg [14] 1 [0,5,6,10] (zd (hK33 _ _ (zb 4 (XW.rounds' BIG (x := cd Try.f22 [1,1,1,1,0,1,0,0]) (by kernel_rfl) fun Q3 hQ3 => ?_)))))
  have hL3 : ∀ (k3 : Nat) (l6 : List Int) (x3 : Int), ref4_bent_l3 p1 p2 k3 l6 x3 = some r → XR Try.prog 118 0 [] (cd Try.f22 [1,1,1,1,0,1,0,0]) Q3 k3 [(0, vi p1), (5, .one (.sl 0 1 0 l6.length)), (6, vi (((([] : List Int) ++ p2).length : Nat) : Int)), (10, vi x3)] [.arr 1 (eI.els l6)] := by
   intro k3
   induction k3 with
   | zero => intro l6 x3 h; rw [ref4_bent_l3.eq_1] at h; cases h
   | succ k3 ih3 =>
    intro l6 x3 h
    rw [ref4_bent_l3.eq_2] at h
    refine zq fun K34 hK34 => zq fun K35 hK35 => zr (zg [14] 3 [0,5,6,10,71] (zd (hK35 _ _ (zC h (fun b36 h => ?_) (fun b36 h => ?_)))))
    ·refine zs (hK34 _ _ (zq fun K37 hK37 => zb 5 ?_))
     obtain ⟨e5, a38, h⟩ := zB h
     obtain ⟨e6, a39, h⟩ := zB h
     obtain ⟨y8, hy40, h⟩ := zB h
     refine zw 9 [(82, vi e6), (81, .one (.pt 0 1 (0 + (IntKind.i64.wrap (x3 - (1 : Int))).toNat) 0)), (80, vi (IntKind.i64.wrap (x3 - (1 : Int)))), (79, vi x3), (78, .one (.sl 0 1 0 l6.length)), (77, vi e5), (76, .one (.pt 0 1 (0 + x3.toNat) 0)), (75, vi x3), (74, .one (.sl 0 1 0 l6.length)), (0, vi p1), (5, .one (.sl 0 1 0 l6.length)), (6, vi (((([] : List Int) ++ p2).length : Nat) : Int)), (10, vi x3), (71, vb (decide (x3 < (((([] : List Int) ++ p2).length : Nat) : Int))))] ?_ ?_
     ·exact zyo 9 [[pi e5], [pi e6]] [0 ≤ x3 ∧ x3 < ((l6.length : Nat) : Int), (eI.els l6)[(0 + x3.toNat)]? = some [pi e5], 0 ≤ (IntKind.i64.wrap (x3 - (1 : Int))) ∧ (IntKind.i64.wrap (x3 - (1 : Int))) < ((l6.length : Nat) : Int), (eI.els l6)[(0 + (IntKind.i64.wrap (x3 - (1 : Int))).toNat)]? = some [pi e6]] (⟨Enc.inb' a38, (eI.get0 a38), Enc.inb' a39, (eI.get0 a39), trivial⟩) zyd
     refine zv [14] 1 [0,5,6,10,74,75,83] [] [(0, vi p1), (5, .one (.sl 0 1 0 l6.length)), (6, vi (((([] : List Int) ++ p2).length : Nat) : Int)), (10, vi x3), (74, .one (.sl 0 1 0 l6.length)), (75, vi x3), (83, vi (IntKind.i64.wrap (BitVec.ofInt (IntKind.i64).bits e5 ^^^ BitVec.ofInt (IntKind.i64).bits e6).toNat))] [.arr 1 (eI.els l6)] ?_
     rw [show (IntKind.i64.wrap (BitVec.ofInt (IntKind.i64).bits e5 ^^^ BitVec.ofInt (IntKind.i64).bits e6).toNat) = y8 from Option.some.inj hy40]
     refine zp [14] 2 [0,5,6,10] [[pi e5]] [(0, vi p1), (5, .one (.sl 0 1 0 l6.length)), (6, vi (((([] : List Int) ++ p2).length : Nat) : Int)), (10, vi x3)] [.arr 1 ((eI.els l6).set (0 + x3.toNat) [pi y8])] [0 ≤ x3 ∧ x3 < ((l6.length : Nat) : Int), (eI.els l6)[(0 + x3.toNat)]? = some [pi e5]] (⟨Enc.inb' a38, (eI.get0 a38), trivial⟩) ?_
     rw [show (eI.els l6).set (0 + x3.toNat) [pi y8] = eI.els (l6.set x3.toNat y8) from eI.set0 _ _ y8]
     refine zd (hK37 _ _ (zr (zg [14] 3 [0,5,6,10] (zd ?_))))
     exact XR.sub (Sub.trans (Sub.pick (fr' := [(0, vi p1), (5, .one (.sl 0 1 0 l6.length)), (6, vi (((([] : List Int) ++ p2).length : Nat) : Int)), (10, vi (IntKind.i64.wrap (x3 + (1 : Int))))]) [0,5,6,10] (by kernel_rfl)) (Sub.frame (fr' := [(0, vi p1), (5, .one (.sl 0 1 0 (l6.set x3.toNat y8).length)), (6, vi (((([] : List Int) ++ p2).length : Nat) : Int)), (10, vi (IntKind.i64.wrap (x3 + (1 : Int))))]) ⟨.rfl _, ALe.of_eq (show (.one (.sl 0 1 0 l6.length) : AV) = .one (.sl 0 1 0 (l6.set x3.toNat y8).length) from by simp), .rfl _, .rfl _, trivial⟩)) (ih3 (l6.set x3.toNat y8) (IntKind.i64.wrap (x3 + (1 : Int))) h)
    ·exact zx 4 (hQ3 _ _ _ (hJ4 l6 h _ _ (zk [0,5,6])))
  exact XR.sub (zk [0,5,6,10]) (hL3 BIG l5 (1 : Int) h)
 refine zq fun K6 hK6 => ?_
 obtain ⟨g7, h⟩ := zG h
 obtain ⟨y1, hy8, h⟩ := zB h
 refine zr (zp [14] 3 [0,5,6,21] [] [(0, vi p1), (5, .one (.sl 0 1 0 ((([] : List Int) ++ p2).length))), (6, vi (((([] : List Int) ++ p2).length : Nat) : Int)), (21, vi (IntKind.i64.wrap ((1 : Int) * 2 ^ (min (IntKind.i64.wrap (p1 - (1 : Int))).toNat (IntKind.i64).bits))))] [.arr 1 (eI.els (([] : List Int) ++ p2))] [0 ≤ (IntKind.i64.wrap (p1 - (1 : Int)))] (⟨g7, trivial⟩) ?_)
 rw [show (IntKind.i64.wrap ((1 : Int) * 2 ^ (min (IntKind.i64.wrap (p1 - (1 : Int))).toNat (IntKind.i64).bits))) = y1 from Option.some.inj hy8]
 refine zg [14] 1 [0,5,6,7] (zd (hK6 _ _ (zb 0 (XW.rounds' BIG (x := cd Try.f22 [1,1,1,0,1,0,0]) (by kernel_rfl) fun Q1 hQ1 => ?_))))
 have hL1 : ∀ (k1 : Nat) (l1 : List Int) (x1 : Int), ref4_bent_l1 p1 p2 k1 l1 x1 = some r → XR Try.prog 118 0 [] (cd Try.f22 [1,1,1,0,1,0,0]) Q1 k1 [(0, vi p1), (5, .one (.sl 0 1 0 l1.length)), (6, vi (((([] : List Int) ++ p2).length : Nat) : Int)), (7, vi x1)] [.arr 1 (eI.els l1)] := by
  intro k1
  induction k1 with
  | zero => intro l1 x1 h; rw [ref4_bent_l1.eq_1] at h; cases h
  | succ k1 ih1 =>
   intro l1 x1 h
   rw [ref4_bent_l1.eq_2] at h
   refine zq fun K9 hK9 => zq fun K10 hK10 => zr (zg [14] 2 [0,5,6,7,23] (zd (hK10 _ _ (zC h (fun b11 h => ?_) (fun b11 h => ?_)))))
   ·refine zs (hK9 _ _ (zq fun K12 hK12 => ?_))
    have hJ2 : ∀ (l4 : List Int), ref4_bent_j2 (ref4_bent_l1 p1 p2 k1) x1 l4 = some r → ∀ fr1 st1, Sub 118 0 [] fr1 st1 [(0, vi p1), (5, .one (.sl 0 1 0 l4.length)), (6, vi (((([] : List Int) ++ p2).length : Nat) : Int)), (7, vi x1)] [.arr 1 (eI.els l4)] → K12 fr1 st1 := by
     intro l4 h fr1 st1 hS
     unfold ref4_bent_j2 at h
     refine hK12 _ _ (XW.sub hS ?_)
     exact zr (zo [14] 3 [0,5,6,7] [] [(2 : Int) ≠ 0] (⟨by decide, trivial⟩) (zd (XR.sub (zk [0,5,6,7]) (ih1 l4 (IntKind.i64.wrap (x1.tdiv (2 : Int))) h))))
    refine zb 1 (zq fun K13 hK13 => zr (zg [14] 1 [0,5,6,7,8] (zd (hK13 _ _ (zb 2 (XW.rounds' BIG (x := cd Try.f22 [1,1,1,0,1,0,0,1,0,0,1,0,0]) (by kernel_rfl) fun Q2 hQ2 => ?_))))))
    have hL2 : ∀ (k2 : Nat) (l2 : List Int) (x2 : Int), ref4_bent_l2 (ref4_bent_l1 p1 p2 k1) p2 x1 k2 l2 x2 = some r → XR Try.prog 118 0 [] (cd Try.f22 [1,1,1,0,1,0,0,1,0,0,1,0,0]) Q2 k2 [(0, vi p1), (5, .one (.sl 0 1 0 l2.length)), (6, vi (((([] : List Int) ++ p2).length : Nat) : Int)), (7, vi x1), (8, vi x2)] [.arr 1 (eI.els l2)] := by
     intro k2
     induction k2 with
     | zero => intro l2 x2 h; rw [ref4_bent_l2.eq_1] at h; cases h
     | succ k2 ih2 =>
      intro l2 x2 h
      rw [ref4_bent_l2.eq_2] at h
      refine zq fun K14 hK14 => zq fun K15 hK15 => zr (zg [14] 3 [0,5,6,7,8,28] (zd (hK15 _ _ (zC h (fun b16 h => ?_) (fun b16 h => ?_)))))
      ·refine zs (hK14 _ _ (zq fun K17 hK17 => ?_))
       have hJ1 : ∀ (l3 : List Int), ref4_bent_j1 (ref4_bent_l2 (ref4_bent_l1 p1 p2 k1) p2 x1 k2) x2 l3 = some r → ∀ fr1 st1, Sub 118 0 [] fr1 st1 [(0, vi p1), (5, .one (.sl 0 1 0 l3.length)), (6, vi (((([] : List Int) ++ p2).length : Nat) : Int)), (7, vi x1), (8, vi x2)] [.arr 1 (eI.els l3)] → K17 fr1 st1 := by
        intro l3 h fr1 st1 hS
        unfold ref4_bent_j1 at h
        refine hK17 _ _ (XW.sub hS ?_)
        exact zr (zg [14] 3 [0,5,6,7,8] (zd (XR.sub (zk [0,5,6,7,8]) (ih2 l3 (IntKind.i64.wrap (x2 + (1 : Int))) h))))
       refine zb 3 (zq fun K18 hK18 => ?_)
       obtain ⟨e1, a19, h⟩ := zB h
       obtain ⟨y2, hy20, h⟩ := zB h
       refine zr (zp [14] 6 [0,5,6,7,8,36] [[pi e1]] [(0, vi p1), (5, .one (.sl 0 1 0 l2.length)), (6, vi (((([] : List Int) ++ p2).length : Nat) : Int)), (7, vi x1), (8, vi x2), (36, vi (IntKind.i64.wrap (BitVec.ofInt (IntKind.i64).bits e1 &&& BitVec.ofInt (IntKind.i64).bits x1).toNat))] [.arr 1 (eI.els l2)] [0 ≤ x2 ∧ x2 < ((l2.length : Nat) : Int), (eI.els l2)[(0 + x2.toNat)]? = some [pi e1]] (⟨Enc.inb' a19, (eI.get0 a19), trivial⟩) ?_)
       rw [show (IntKind.i64.wrap (BitVec.ofInt (IntKind.i64).bits e1 &&& BitVec.ofInt (IntKind.i64).bits x1).toNat) = y2 from Option.some.inj hy20]
       refine zg [14] 1 [0,5,6,7,8,37] (zd (hK18 _ _ (zC h (fun b21 h => ?_) (fun b21 h => ?_))))
       ·obtain ⟨e2, a22, h⟩ := zB h
        obtain ⟨y3, hy23, h⟩ := zB h
        refine zr (zp [14] 6 [0,5,6,7,8,38,43] [[pi e2]] [(0, vi p1), (5, .one (.sl 0 1 0 l2.length)), (6, vi (((([] : List Int) ++ p2).length : Nat) : Int)), (7, vi x1), (8, vi x2), (38, .one (.sl 0 1 0 l2.length)), (43, vi (IntKind.i64.wrap (BitVec.ofInt (IntKind.i64).bits e2 ^^^ BitVec.ofInt (IntKind.i64).bits (IntKind.i64.wrap (x1 - (1 : Int)))).toNat))] [.arr 1 (eI.els l2)] [0 ≤ (0 : Int) ∧ (0 : Int) < ((l2.length : Nat) : Int), (eI.els l2)[(0 + (0 : Int).toNat)]? = some [pi e2]] (⟨Enc.inb' a22, (eI.get0 a22), trivial⟩) ?_)
        rw [show (IntKind.i64.wrap (BitVec.ofInt (IntKind.i64).bits e2 ^^^ BitVec.ofInt (IntKind.i64).bits (IntKind.i64.wrap (x1 - (1 : Int)))).toNat) = y3 from Option.some.inj hy23]
        refine zp [14] 2 [0,5,6,7,8] [[pi e2]] [(0, vi p1), (5, .one (.sl 0 1 0 l2.length)), (6, vi (((([] : List Int) ++ p2).length : Nat) : Int)), (7, vi x1), (8, vi x2)] [.arr 1 ((eI.els l2).set (0 + (0 : Int).toNat) [pi y3])] [0 ≤ (0 : Int) ∧ (0 : Int) < ((l2.length : Nat) : Int), (eI.els l2)[(0 + (0 : Int).toNat)]? = some [pi e2]] (⟨Enc.inb' a22, (eI.get0 a22), trivial⟩) ?_
        rw [show (eI.els l2).set (0 + (0 : Int).toNat) [pi y3] = eI.els (l2.set (0 : Int).toNat y3) from eI.set0 _ _ y3]
        exact zd (hJ1 (l2.set (0 : Int).toNat y3) h _ _ (Sub.trans (Sub.pick (fr' := [(0, vi p1), (5, .one (.sl 0 1 0 l2.length)), (6, vi (((([] : List Int) ++ p2).length : Nat) : Int)), (7, vi x1), (8, vi x2)]) [0,5,6,7,8] (by kernel_rfl)) (Sub.frame (fr' := [(0, vi p1), (5, .one (.sl 0 1 0 (l2.set (0 : Int).toNat y3).length)), (6, vi (((([] : List Int) ++ p2).length : Nat) : Int)), (7, vi x1), (8, vi x2)]) ⟨.rfl _, ALe.of_eq (show (.one (.sl 0 1 0 l2.length) : AV) = .one (.sl 0 1 0 (l2.set (0 : Int).toNat y3).length) from by simp), .rfl _, .rfl _, .rfl _, trivial⟩)))
       ·refine zq fun K24 hK24 => ?_
        obtain ⟨e3, a25, h⟩ := zB h
        obtain ⟨y4, hy26, h⟩ := zB h
        obtain ⟨y5, hy27, h⟩ := zB h
        refine zw 10 [(54, vi (IntKind.i64.wrap (x1 - (1 : Int)))), (53, vi x1), (52, vi y4), (51, vi e1), (50, .one (.pt 0 1 (0 + x2.toNat) 0)), (49, vi x2), (48, .one (.sl 0 1 0 l2.length)), (47, vi e3), (46, .one (.pt 0 1 (0 + (0 : Int).toNat) 0)), (45, .one (.sl 0 1 0 l2.length)), (0, vi p1), (5, .one (.sl 0 1 0 l2.length)), (6, vi (((([] : List Int) ++ p2).length : Nat) : Int)), (7, vi x1), (8, vi x2), (37, vb (y2 != (0 : Int)))] ?_ ?_
        ·refine zyp 8 [[pi e3], [pi e1]] [(52, vi (IntKind.i64.wrap (BitVec.ofInt (IntKind.i64).bits e3 ^^^ BitVec.ofInt (IntKind.i64).bits e1).toNat)), (51, vi e1), (50, .one (.pt 0 1 (0 + x2.toNat) 0)), (49, vi x2), (48, .one (.sl 0 1 0 l2.length)), (47, vi e3), (46, .one (.pt 0 1 (0 + (0 : Int).toNat) 0)), (45, .one (.sl 0 1 0 l2.length)), (0, vi p1), (5, .one (.sl 0 1 0 l2.length)), (6, vi (((([] : List Int) ++ p2).length : Nat) : Int)), (7, vi x1), (8, vi x2), (37, vb (y2 != (0 : Int)))] [0 ≤ (0 : Int) ∧ (0 : Int) < ((l2.length : Nat) : Int), (eI.els l2)[(0 + (0 : Int).toNat)]? = some [pi e3], 0 ≤ x2 ∧ x2 < ((l2.length : Nat) : Int), (eI.els l2)[(0 + x2.toNat)]? = some [pi e1]] (⟨Enc.inb' a25, (eI.get0 a25), Enc.inb' a19, (eI.get0 a19), trivial⟩) ?_
         rw [show (IntKind.i64.wrap (BitVec.ofInt (IntKind.i64).bits e3 ^^^ BitVec.ofInt (IntKind.i64).bits e1).toNat) = y4 from Option.some.inj hy26]
         exact zyg 2 zyd
        refine zv [14] 1 [0,5,6,7,8,55] [] [(0, vi p1), (5, .one (.sl 0 1 0 l2.length)), (6, vi (((([] : List Int) ++ p2).length : Nat) : Int)), (7, vi x1), (8, vi x2), (55, vi (IntKind.i64.wrap (BitVec.ofInt (IntKind.i64).bits y4 &&& BitVec.ofInt (IntKind.i64).bits (IntKind.i64.wrap (x1 - (1 : Int)))).toNat))] [.arr 1 (eI.els l2)] ?_
        rw [show (IntKind.i64.wrap (BitVec.ofInt (IntKind.i64).bits y4 &&& BitVec.ofInt (IntKind.i64).bits (IntKind.i64.wrap (x1 - (1 : Int)))).toNat) = y5 from Option.some.inj hy27]
        refine zg [14] 1 [0,5,6,7,8,9] (zd (hK24 _ _ (zq fun K28 hK28 => ?_)))
        obtain ⟨y6, hy29, h⟩ := zB h
        refine zr (zp [14] 5 [0,5,6,7,8,9,56,60] [[pi e3]] [(0, vi p1), (5, .one (.sl 0 1 0 l2.length)), (6, vi (((([] : List Int) ++ p2).length : Nat) : Int)), (7, vi x1), (8, vi x2), (9, vi y5), (56, .one (.sl 0 1 0 l2.length)), (60, vi (IntKind.i64.wrap (BitVec.ofInt (IntKind.i64).bits e3 ^^^ BitVec.ofInt (IntKind.i64).bits y5).toNat))] [.arr 1 (eI.els l2)] [0 ≤ (0 : Int) ∧ (0 : Int) < ((l2.length : Nat) : Int), (eI.els l2)[(0 + (0 : Int).toNat)]? = some [pi e3]] (⟨Enc.inb' a25, (eI.get0 a25), trivial⟩) ?_)
        rw [show (IntKind.i64.wrap (BitVec.ofInt (IntKind.i64).bits e3 ^^^ BitVec.ofInt (IntKind.i64).bits y5).toNat) = y6 from Option.some.inj hy29]
        refine zp [14] 2 [0,5,6,7,8,9] [[pi e3]] [(0, vi p1), (5, .one (.sl 0 1 0 l2.length)), (6, vi (((([] : List Int) ++ p2).length : Nat) : Int)), (7, vi x1), (8, vi x2), (9, vi y5)] [.arr 1 ((eI.els l2).set (0 + (0 : Int).toNat) [pi y6])] [0 ≤ (0 : Int) ∧ (0 : Int) < ((l2.length : Nat) : Int), (eI.els l2)[(0 + (0 : Int).toNat)]? = some [pi e3]] (⟨Enc.inb' a25, (eI.get0 a25), trivial⟩) ?_
        rw [show (eI.els l2).set (0 + (0 : Int).toNat) [pi y6] = eI.els (l2.set (0 : Int).toNat y6) from eI.set0 _ _ y6]
        refine zd (hK28 _ _ ?_)
        obtain ⟨e4, a30, h⟩ := zB h
        obtain ⟨y7, hy31, h⟩ := zB h
        refine zr (zp [14] 6 [0,5,6,7,8,62,63,67] [[pi e4]] [(0, vi p1), (5, .one (.sl 0 1 0 l2.length)), (6, vi (((([] : List Int) ++ p2).length : Nat) : Int)), (7, vi x1), (8, vi x2), (62, .one (.sl 0 1 0 l2.length)), (63, vi x2), (67, vi (IntKind.i64.wrap (BitVec.ofInt (IntKind.i64).bits e4 ^^^ BitVec.ofInt (IntKind.i64).bits y5).toNat))] [.arr 1 (eI.els (l2.set (0 : Int).toNat y6))] [0 ≤ x2 ∧ x2 < ((l2.length : Nat) : Int), (eI.els (l2.set (0 : Int).toNat y6))[(0 + x2.toNat)]? = some [pi e4]] (⟨(by have := Enc.inb' a30; simpa using this), (eI.get0 a30), trivial⟩) ?_)
        rw [show (IntKind.i64.wrap (BitVec.ofInt (IntKind.i64).bits e4 ^^^ BitVec.ofInt (IntKind.i64).bits y5).toNat) = y7 from Option.some.inj hy31]
        refine zp [14] 2 [0,5,6,7,8] [[pi e4]] [(0, vi p1), (5, .one (.sl 0 1 0 l2.length)), (6, vi (((([] : List Int) ++ p2).length : Nat) : Int)), (7, vi x1), (8, vi x2)] [.arr 1 ((eI.els (l2.set (0 : Int).toNat y6)).set (0 + x2.toNat) [pi y7])] [0 ≤ x2 ∧ x2 < ((l2.length : Nat) : Int), (eI.els (l2.set (0 : Int).toNat y6))[(0 + x2.toNat)]? = some [pi e4]] (⟨(by have := Enc.inb' a30; simpa using this), (eI.get0 a30), trivial⟩) ?_
        rw [show (eI.els (l2.set (0 : Int).toNat y6)).set (0 + x2.toNat) [pi y7] = eI.els ((l2.set (0 : Int).toNat y6).set x2.toNat y7) from eI.set0 _ _ y7]
        refine zd ?_
        exact hJ1 ((l2.set (0 : Int).toNat y6).set x2.toNat y7) h _ _ (Sub.trans (Sub.pick (fr' := [(0, vi p1), (5, .one (.sl 0 1 0 l2.length)), (6, vi (((([] : List Int) ++ p2).length : Nat) : Int)), (7, vi x1), (8, vi x2)]) [0,5,6,7,8] (by kernel_rfl)) (Sub.frame (fr' := [(0, vi p1), (5, .one (.sl 0 1 0 ((l2.set (0 : Int).toNat y6).set x2.toNat y7).length)), (6, vi (((([] : List Int) ++ p2).length : Nat) : Int)), (7, vi x1), (8, vi x2)]) ⟨.rfl _, ALe.of_eq (show (.one (.sl 0 1 0 l2.length) : AV) = .one (.sl 0 1 0 ((l2.set (0 : Int).toNat y6).set x2.toNat y7).length) from by simp), .rfl _, .rfl _, .rfl _, trivial⟩))
      ·exact zx 2 (hQ2 _ _ _ (hJ2 l2 h _ _ (zk [0,5,6,7])))
    exact XR.sub (zk [0,5,6,7,8]) (hL2 BIG l1 (0 : Int) h)
   ·exact zx 0 (hQ1 _ _ _ (hJ3 l1 h _ _ (zk [0,5,6])))
 exact XR.sub (zk [0,5,6,7]) (hL1 BIG (([] : List Int) ++ p2) y1 h)

def ref4_bitsOf_j1 (rec1 : Int → Int → Option Int) (x2 : Int) (x5 : Int) : Option Int :=
    rec1 x5 (IntKind.i64.wrap (x2 - (1 : Int)))

def ref4_bitsOf_l2 (rec1 : Int → Int → Option Int) (p2 : (List Int)) (x2 : Int) : Nat → Int → Int → Option Int
  | 0, _, _ => none
  | k2 + 1, x3, x4 =>
    ift (decide (x4 < (p2.length : Int)))
      (bnd (at? p2 x4) fun e1 =>
       grd (0 ≤ x2) <|
       bnd (some (IntKind.i64.wrap ((IntKind.i64.wrap ((2 : Int) * x3)) + ((e1.fdiv (2 ^ (min x2.toNat (IntKind.i64).bits))).tmod (2 : Int))))) fun y1 =>
       (ref4_bitsOf_l2 rec1 p2 x2 k2) y1 (IntKind.i64.wrap (x4 + (1 : Int))))
      (ref4_bitsOf_j1 rec1 x2 x3)

def ref4_bitsOf_j2 (x6 : Int) : Option Int :=
    some x6

def ref4_bitsOf_l1 (p2 : (List Int)) : Nat → Int → Int → Option Int
  | 0, _, _ => none
  | k1 + 1, x1, x2 =>
    ift (decide ((0 : Int) ≤ x2))
      (ref4_bitsOf_l2 (ref4_bitsOf_l1 p2 k1) p2 x2 BIG x1 (0 : Int))
      (ref4_bitsOf_j2 x1)

def ref4_bitsOf (p1 : Int) (p2 : (List Int)) : Option Int :=
    ref4_bitsOf_l1 p2 BIG (0 : Int) (IntKind.i64.wrap (p1 - (1 : Int)))


theorem c_ref4_bitsOf (p1 : Int) (p2 : (List Int)) (r : Int) (h : ref4_bitsOf p1 p2 = some r) : PC Try.prog 23 [vi p1, vl eI p2] (vi r) := by
 unfold ref4_bitsOf at h
 refine zF 30 Try.f23 (zq fun K1 hK1 => zr (zg [] 1 [0,1] (zd (hK1 _ _ (zq fun K2 hK2 => zr ?_)))))
 refine zg [] 1 [0,1,5] (zd (hK2 _ _ (zq fun K3 hK3 => ?_)))
 have hJ2 : ∀ (x6 : Int), ref4_bitsOf_j2 x6 = some r → ∀ fr1 st1, Sub 30 0 [] fr1 st1 [(5, vi x6)] [] → K3 fr1 st1 := by
  intro x6 h fr1 st1 hS
  unfold ref4_bitsOf_j2 at h
  refine hK3 _ _ (XW.sub hS ?_)
  refine zq fun K18 hK18 => zr (zg [] 2 [4] (zd (hK18 _ _ (ze ?_))))
  obtain rfl := Option.some.inj h
  exact zf [vi x6] (.one (.rfl _ rfl))
 refine zq fun K4 hK4 => zr (zv [] 3 [1,5,6] [] [(1, vl eI p2), (5, vi (0 : Int)), (6, vi (IntKind.i64.wrap (p1 - (1 : Int))))] [] (zd (hK4 _ _ (zb 0 (XW.rounds' BIG (x := cd Try.f23 [1,1,0,1,0,0]) (by kernel_rfl) fun Q1 hQ1 => ?_)))))
 have hL1 : ∀ (k1 : Nat) (x1 : Int) (x2 : Int), ref4_bitsOf_l1 p2 k1 x1 x2 = some r → XR Try.prog 30 0 [] (cd Try.f23 [1,1,0,1,0,0]) Q1 k1 [(1, vl eI p2), (5, vi x1), (6, vi x2)] [] := by
  intro k1
  induction k1 with
  | zero => intro x1 x2 h; rw [ref4_bitsOf_l1.eq_1] at h; cases h
  | succ k1 ih1 =>
   intro x1 x2 h
   rw [ref4_bitsOf_l1.eq_2] at h
   refine zq fun K5 hK5 => zq fun K6 hK6 => zr (zg [] 2 [1,5,6,12] (zd (hK6 _ _ (zC h (fun b7 h => ?_) (fun b7 h => ?_)))))
   ·refine zs (hK5 _ _ (zq fun K8 hK8 => ?_))
    have hJ1 : ∀ (x5 : Int), ref4_bitsOf_j1 (ref4_bitsOf_l1 p2 k1) x2 x5 = some r → ∀ fr1 st1, Sub 30 0 [] fr1 st1 [(1, vl eI p2), (5, vi x5), (6, vi x2)] [] → K8 fr1 st1 := by
     intro x5 h fr1 st1 hS
     unfold ref4_bitsOf_j1 at h
     refine hK8 _ _ (XW.sub hS ?_)
     exact zr (zg [] 3 [1,5,6] (zd (XR.sub (zk [1,5,6]) (ih1 x5 (IntKind.i64.wrap (x2 - (1 : Int))) h))))
    refine zb 1 (zq fun K9 hK9 => zr (zv [] 2 [1,5,6,15,16] [] [(1, vl eI p2), (5, vi x1), (6, vi x2), (15, vl eI p2), (16, vi ((eI.els p2).length : Int))] [] ?_))
    rw [eI.len p2]
    refine zg [] 1 [1,5,6,15,16,17] (zd (hK9 _ _ (zb 2 (XW.rounds' BIG (x := cd Try.f23 [1,1,0,1,0,0,1,0,0,1,0,0]) (by kernel_rfl) fun Q2 hQ2 => ?_))))
    have hL2 : ∀ (k2 : Nat) (x3 : Int) (x4 : Int), ref4_bitsOf_l2 (ref4_bitsOf_l1 p2 k1) p2 x2 k2 x3 x4 = some r → XR Try.prog 30 0 [] (cd Try.f23 [1,1,0,1,0,0,1,0,0,1,0,0]) Q2 k2 [(1, vl eI p2), (5, vi x3), (6, vi x2), (15, vl eI p2), (16, vi (p2.length : Int)), (17, vi x4)] [] := by
     intro k2
     induction k2 with
     | zero => intro x3 x4 h; rw [ref4_bitsOf_l2.eq_1] at h; cases h
     | succ k2 ih2 =>
      intro x3 x4 h
      rw [ref4_bitsOf_l2.eq_2] at h
      refine zq fun K10 hK10 => zr (zg [] 1 [1,5,6,15,16,17,18] (zd (hK10 _ _ (zq fun K11 hK11 => zC h (fun b12 h => ?_) (fun b12 h => ?_)))))
      ·refine zs (hK11 _ _ (zq fun K13 hK13 => zb 3 (zq fun K14 hK14 => ?_)))
       obtain ⟨e1, a15, h⟩ := zB h
       refine zr (zo [] 3 [1,5,6,8,15,16,17] [[pi e1]] [0 ≤ x4 ∧ x4 < ((eI.els p2).length : Int) ∧ elemsOk 1 (eI.els p2), (eI.els p2)[x4.toNat]? = some [pi e1]] (⟨eI.inb a15, (eI.get a15), trivial⟩) (zd (hK14 _ _ ?_)))
       obtain ⟨g16, h⟩ := zG h
       obtain ⟨y1, hy17, h⟩ := zB h
       refine zr (zp [] 7 [1,6,15,16,17,27] [] [(1, vl eI p2), (6, vi x2), (15, vl eI p2), (16, vi (p2.length : Int)), (17, vi x4), (27, vi (IntKind.i64.wrap ((IntKind.i64.wrap ((2 : Int) * x3)) + ((e1.fdiv (2 ^ (min x2.toNat (IntKind.i64).bits))).tmod (2 : Int)))))] [] [0 ≤ x2, (2 : Int) ≠ 0] (⟨g16, by decide, trivial⟩) ?_)
       rw [show (IntKind.i64.wrap ((IntKind.i64.wrap ((2 : Int) * x3)) + ((e1.fdiv (2 ^ (min x2.toNat (IntKind.i64).bits))).tmod (2 : Int)))) = y1 from Option.some.inj hy17]
       exact zg [] 1 [1,5,6,15,16,17] (zd (hK13 _ _ (zr (zg [] 2 [1,5,6,15,16,17] (zd (XR.sub (zk [1,5,6,15,16,17]) (ih2 y1 (IntKind.i64.wrap (x4 + (1 : Int))) h)))))))
      ·exact zx 2 (hQ2 _ _ _ (hJ1 x3 h _ _ (zk [1,5,6])))
    exact XR.sub (zk [1,5,6,15,16,17]) (hL2 BIG x1 (0 : Int) h)
   ·exact zx 0 (hQ1 _ _ _ (hJ2 x1 h _ _ (zk [5])))
 exact XR.sub (zk [1,5,6]) (hL1 BIG (0 : Int) (IntKind.i64.wrap (p1 - (1 : Int))) h)

def ref4_Curve_j1 (rec1 : Int → Option (Int × Int)) (x1 : Int) (x2 : Bool) : Option (Int × Int) :=
    ift x2
      (some ((0 : Int), (3 : Int)))
      (rec1 (IntKind.i64.wrap (x1 + (1 : Int))))

def ref4_Curve_j3 (p2 : Int) (x3 : List Int) : Option (Int × Int) :=
    bnd (ref4_bitsOf p2 x3) fun r3 =>
    some (r3, (0 : Int))

def ref4_Curve_j2 (p1 : Int) (p2 : Int) (p3 : (List Int)) : Option (Int × Int) :=
    ift (p1 == (2 : Int))
      (bnd (ref4_bent p2 p3) fun r2 =>
       ref4_Curve_j3 p2 r2)
      (ref4_Curve_j3 p2 p3)

def ref4_Curve_l1 (p1 : Int) (p2 : Int) (p3 : (List Int)) : Nat → Int → Option (Int × Int)
  | 0, _ => none
  | k1 + 1, x1 =>
    ift (decide (x1 < (p3.length : Int)))
      (bnd (at? p3 x1) fun e1 =>
       ift (decide (e1 < (0 : Int)))
         (ref4_Curve_j1 (ref4_Curve_l1 p1 p2 p3 k1) x1 true)
         (grd (0 ≤ p2) <|
          bnd (some (IntKind.i64.wrap ((1 : Int) * 2 ^ (min p2.toNat (IntKind.i64).bits)))) fun y1 =>
          ref4_Curve_j1 (ref4_Curve_l1 p1 p2 p3 k1) x1 (decide (y1 ≤ e1))))
      (ref4_Curve_j2 p1 p2 p3)

def ref4_Curve (p1 : Int) (p2 : Int) (p3 : (List Int)) : Option (Int × Int) :=
    bnd (ref4_curved p1 p2 (p3.length : Int)) fun r1 =>
    ift (r1 != (0 : Int))
      (some ((0 : Int), r1))
      (ref4_Curve_l1 p1 p2 p3 BIG (0 : Int))


theorem c_ref4_Curve (p1 : Int) (p2 : Int) (p3 : (List Int)) (r : (Int × Int)) (h : ref4_Curve p1 p2 p3 = some r) : PC Try.prog 10 [vi p1, vi p2, vl eI p3] (.tp [vi r.1, vi r.2]) := by
 unfold ref4_Curve at h
 refine zF 42 Try.f10 (zq fun K1 hK1 => zr (zg [] 2 [0,1,2] (zd (hK1 _ _ (zq fun K2 hK2 => zq fun K3 hK3 => ?_)))))
 obtain ⟨r1, c4, h⟩ := zB h
 refine zr (zv [] 4 [0,1,2,11,12,14] [] [(0, vi p1), (1, vi p2), (2, vl eI p3), (11, vi p1), (12, vi p2), (14, vi ((eI.els p3).length : Int))] [] ?_)
 rw [eI.len p3]
 refine za (c_ref4_curved _ _ _ _ c4) (zg [] 1 [0,1,2,8] (zd (hK3 _ _ (zq fun K5 hK5 => zr (zv [] 2 [0,1,2,8,17] [] [(0, vi p1), (1, vi p2), (2, vl eI p3), (8, vi r1), (17, vb (r1 != (0 : Int)))] [] (zd ?_))))))
 refine hK5 _ _ (zC h (fun b6 h => ?_) (fun b6 h => ?_))
 ·refine zq fun K7 hK7 => zr (zg [] 3 [6,7] (zd (hK7 _ _ (ze ?_))))
  obtain rfl := Option.some.inj h
  exact zf [vi (0 : Int), vi r1] (.tpc (.one (.rfl _ rfl)) (.tpc (.one (.rfl _ rfl)) (.tp0)))
 ·refine zs (hK2 _ _ (zq fun K8 hK8 => ?_))
  have hJ2 : ∀ (_ : Unit), ref4_Curve_j2 p1 p2 p3 = some r → ∀ fr1 st1, Sub 42 0 [] fr1 st1 [(0, vi p1), (1, vi p2), (2, vl eI p3)] [] → K8 fr1 st1 := by
   intro _ h fr1 st1 hS
   unfold ref4_Curve_j2 at h
   refine hK8 _ _ (XW.sub hS ?_)
   refine zq fun K22 hK22 => ?_
   have hJ3 : ∀ (x3 : List Int), ref4_Curve_j3 p2 x3 = some r → ∀ fr1 st1, Sub 42 0 [] fr1 st1 [(1, vi p2), (2, vl eI x3)] [] → K22 fr1 st1 := by
    intro x3 h fr1 st1 hS
    unfold ref4_Curve_j3 at h
    refine hK22 _ _ (XW.sub hS ?_)
    refine zq fun K26 hK26 => ?_
    obtain ⟨r3, c27, h⟩ := zB h
    refine zr (zg [] 2 [39,40] (za (c_ref4_bitsOf _ _ _ c27) (zv [] 2 [6,7] [] [(6, vi r3), (7, vi (0 : Int))] [] (zd (hK26 _ _ (ze ?_))))))
    obtain rfl := Option.some.inj h
    exact zf [vi r3, vi (0 : Int)] (.tpc (.one (.rfl _ rfl)) (.tpc (.one (.rfl _ rfl)) (.tp0)))
   refine zq fun K23 hK23 => zr (zg [] 2 [1,2,35] (zd (hK23 _ _ (zC h (fun b24 h => ?_) (fun b24 h => ?_)))))
   ·obtain ⟨r2, c25, h⟩ := zB h
    exact zr (zg [] 2 [1,36,37] (zl 22 [vi p2, vl eI p3] (vl eI r2) [(38, vl eI r2), (1, vi p2), (36, vi p2), (37, vl eI p3)] (c_ref4_bent _ _ _ c25) (zg [] 1 [1,2] (zd (hJ3 r2 h _ _ (zk [1,2]))))))
   ·exact zs (hJ3 p3 h _ _ (zk [1,2]))
  refine zq fun K9 hK9 => zr (zv [] 2 [0,1,2,19,20] [] [(0, vi p1), (1, vi p2), (2, vl eI p3), (19, vl eI p3), (20, vi ((eI.els p3).length : Int))] [] ?_)
  rw [eI.len p3]
  refine zg [] 1 [0,1,2,19,20,21] (zd (hK9 _ _ (zb 0 (XW.rounds' BIG (x := cd Try.f10 [1,1,0,1,0,0]) (by kernel_rfl) fun Q1 hQ1 => ?_))))
  have hL1 : ∀ (k1 : Nat) (x1 : Int), ref4_Curve_l1 p1 p2 p3 k1 x1 = some r → XR Try.prog 42 0 [] (cd Try.f10 [1,1,0,1,0,0]) Q1 k1 [(0, vi p1), (1, vi p2), (2, vl eI p3), (19, vl eI p3), (20, vi (p3.length : Int)), (21, vi x1)] [] := by
   intro k1
   induction k1 with
   | zero => intro x1 h; rw [ref4_Curve_l1.eq_1] at h; cases h
   | succ k1 ih1 =>
    intro x1 h
    rw [ref4_Curve_l1.eq_2] at h
    refine zq fun K10 hK10 => zr (zg [] 1 [0,1,2,19,20,21,22] (zd (hK10 _ _ (zq fun K11 hK11 => zC h (fun b12 h => ?_) (fun b12 h => ?_)))))
    ·refine zs (hK11 _ _ (zq fun K13 hK13 => zb 1 (zq fun K14 hK14 => ?_)))
     obtain ⟨e1, a15, h⟩ := zB h
     refine zr (zo [] 3 [0,1,2,10,19,20,21] [[pi e1]] [0 ≤ x1 ∧ x1 < ((eI.els p3).length : Int) ∧ elemsOk 1 (eI.els p3), (eI.els p3)[x1.toNat]? = some [pi e1]] (⟨eI.inb a15, (eI.get a15), trivial⟩) (zd (hK14 _ _ (zq fun K16 hK16 => ?_))))
     have hJ1 : ∀ (x2 : Bool), ref4_Curve_j1 (ref4_Curve_l1 p1 p2 p3 k1) x1 x2 = some r → ∀ fr1 st1, Sub 42 0 [] fr1 st1 [(0, vi p1), (1, vi p2), (2, vl eI p3), (19, vl eI p3), (20, vi (p3.length : Int)), (21, vi x1), (32, vb x2)] [] → K16 fr1 st1 := by
      intro x2 h fr1 st1 hS
      unfold ref4_Curve_j1 at h
      refine hK16 _ _ (XW.sub hS ?_)
      refine zC h (fun b20 h => ?_) (fun b20 h => ?_)
      ·refine zq fun K21 hK21 => zr (zg [] 2 [6,7] (zd (hK21 _ _ (ze (hQ1 _ _ _ ?_)))))
       obtain rfl := Option.some.inj h
       exact zf [vi (0 : Int), vi (3 : Int)] (.tpc (.one (.rfl _ rfl)) (.tpc (.one (.rfl _ rfl)) (.tp0)))
      ·exact zs (hK13 _ _ (zr (zg [] 2 [0,1,2,19,20,21] (zd (XR.sub (zk [0,1,2,19,20,21]) (ih1 (IntKind.i64.wrap (x1 + (1 : Int))) h))))))
     rcases zW h with ⟨b17, h⟩ | ⟨b17, h⟩
     ·exact zr (zv [] 3 [0,1,2,10,19,20,21,27] [] [(0, vi p1), (1, vi p2), (2, vl eI p3), (10, vi e1), (19, vl eI p3), (20, vi (p3.length : Int)), (21, vi x1), (27, vb (decide (e1 < (0 : Int))))] [] (zt 27 b17 (zg [] 5 [0,1,2,19,20,21,32] (zd (hJ1 true h _ _ (zk [0,1,2,19,20,21,32]))))))
     ·obtain ⟨g18, h⟩ := zG h
      obtain ⟨y1, hy19, h⟩ := zB h
      refine zr (zg [] 3 [0,1,2,10,19,20,21,27] (zt 27 b17 (zp [] 3 [0,1,2,19,20,21,27,28,30] [] [(0, vi p1), (1, vi p2), (2, vl eI p3), (19, vl eI p3), (20, vi (p3.length : Int)), (21, vi x1), (27, vb false), (28, vi e1), (30, vi (IntKind.i64.wrap ((1 : Int) * 2 ^ (min p2.toNat (IntKind.i64).bits))))] [] [0 ≤ p2] (⟨g18, trivial⟩) ?_)))
      rw [show (IntKind.i64.wrap ((1 : Int) * 2 ^ (min p2.toNat (IntKind.i64).bits))) = y1 from Option.some.inj hy19]
      exact zg [] 2 [0,1,2,19,20,21,32] (zd (hJ1 (decide (y1 ≤ e1)) h _ _ (zk [0,1,2,19,20,21,32])))
    ·exact zx 0 (hQ1 _ _ _ (hJ2 () h _ _ (zk [0,1,2])))
  exact XR.sub (zk [0,1,2,19,20,21]) (hL1 BIG (0 : Int) h)

def lake_unwoven_j1 (l2 : List Int) : Option (List Int) :=
    some l2

def lake_unwoven_l1 (p1 : Int) (p2 : Int) (p3 : Int) : Nat → List Int → Int → Option (List Int)
  | 0, _, _ => none
  | k1 + 1, l1, x1 =>
    ift (decide (x1 < (IntKind.i64.wrap (p1 * p2))))
      (grd (p2 ≠ 0) <|
       bnd (some (IntKind.i64.wrap ((IntKind.i64.wrap (p2 - (1 : Int))) - (x1.tmod p2)))) fun y1 =>
       bnd (at? l1 y1) fun e1 =>
       grd (0 ≤ x1) <|
       bnd (some (IntKind.i64.wrap (BitVec.ofInt (IntKind.i64).bits (p3.fdiv (2 ^ (min x1.toNat (IntKind.i64).bits))) &&& BitVec.ofInt (IntKind.i64).bits (1 : Int)).toNat)) fun y2 =>
       grd (p2 ≠ 0) <|
       grd (0 ≤ (IntKind.i64.wrap (x1.tdiv p2))) <|
       bnd (some (IntKind.i64.wrap (y2 * 2 ^ (min (IntKind.i64.wrap (x1.tdiv p2)).toNat (IntKind.i64).bits)))) fun y3 =>
       bnd (some (IntKind.i64.wrap (BitVec.ofInt (IntKind.i64).bits e1 ||| BitVec.ofInt (IntKind.i64).bits y3).toNat)) fun y4 =>
       (lake_unwoven_l1 p1 p2 p3 k1) (l1.set y1.toNat y4) (IntKind.i64.wrap (x1 + (1 : Int))))
      (lake_unwoven_j1 l1)

def lake_unwoven (p1 : Int) (p2 : Int) (p3 : Int) : Option (List Int) :=
    grd (0 ≤ p2 ∧ p2 ≤ p2 ∧ p2 ≤ 4294967296) <|
    lake_unwoven_l1 p1 p2 p3 BIG (List.replicate p2.toNat (0 : Int)) (0 : Int)


theorem c_lake_unwoven (p1 : Int) (p2 : Int) (p3 : Int) (r : (List Int)) (h : lake_unwoven p1 p2 p3 = some r) : PC Try.prog 24 [vi p1, vi p2, vi p3] (vl eI r) := by
 unfold lake_unwoven at h
 refine zF 40 Try.f24 (zq fun K1 hK1 => zr (zg [] 1 [0,1,2] (zd (hK1 _ _ (zq fun K2 hK2 => ?_)))))
 obtain ⟨g4, h⟩ := zG h
 refine zr (zp [] 2 [0,1,2,11] [] [(0, vi p1), (1, vi p2), (2, vi p3), (11, .one (.sl 0 1 0 p2.toNat))] [.arr 1 (List.replicate p2.toNat [pi (0 : Int)])] [0 ≤ p2, p2 ≤ p2, p2 ≤ 4294967296] (⟨g4.1, g4.2.1, g4.2.2, trivial⟩) ?_)
 rw [show List.replicate p2.toNat [pi (0 : Int)] = eI.els (List.replicate p2.toNat (0 : Int)) from eI.rep _ (0 : Int)]
 refine zg [] 1 [0,1,2,7] (zd (hK2 _ _ (zq fun K5 hK5 => ?_)))
 have hJ1 : ∀ (l2 : List Int), lake_unwoven_j1 l2 = some r → ∀ fr1 st1, Sub 40 0 [] fr1 st1 [(7, .one (.sl 0 1 0 l2.length))] [.arr 1 (eI.els l2)] → K5 fr1 st1 := by
  intro l2 h fr1 st1 hS
  unfold lake_unwoven_j1 at h
  refine hK5 _ _ (XW.sub hS ?_)
  refine zq fun K22 hK22 => zr (zg [] 2 [6] (zd (hK22 _ _ (ze ?_))))
  obtain rfl := Option.some.inj h
  exact zf [.one (.sl 0 1 0 l2.length)] (.one (cf_sl eI l2 rfl rfl rfl))
 refine zq fun K6 hK6 => zr (zg [] 4 [1,2,7,14,15] (zd (hK6 _ _ (zb 0 (XW.rounds' BIG (x := cd Try.f24 [1,1,0,1,0,0]) (by kernel_rfl) fun Q1 hQ1 => ?_)))))
 have hL1 : ∀ (k1 : Nat) (l1 : List Int) (x1 : Int), lake_unwoven_l1 p1 p2 p3 k1 l1 x1 = some r → XR Try.prog 40 0 [] (cd Try.f24 [1,1,0,1,0,0]) Q1 k1 [(1, vi p2), (2, vi p3), (7, .one (.sl 0 1 0 l1.length)), (14, vi (IntKind.i64.wrap (p1 * p2))), (15, vi x1)] [.arr 1 (eI.els l1)] := by
  intro k1
  induction k1 with
  | zero => intro l1 x1 h; rw [lake_unwoven_l1.eq_1] at h; cases h
  | succ k1 ih1 =>
   intro l1 x1 h
   rw [lake_unwoven_l1.eq_2] at h
   refine zq fun K7 hK7 => zr (zg [] 1 [1,2,7,14,15,16] (zd (hK7 _ _ (zq fun K8 hK8 => zC h (fun b9 h => ?_) (fun b9 h => ?_)))))
   ·refine zs (hK8 _ _ (zq fun K10 hK10 => zb 1 (zq fun K11 hK11 => zr (zg [] 2 [1,2,7,8,14,15] (zd ?_)))))
    refine hK11 _ _ (zq fun K12 hK12 => ?_)
    obtain ⟨g13, h⟩ := zG h
    obtain ⟨y1, hy14, h⟩ := zB h
    refine zr (zp [] 6 [1,2,7,8,14,15,23] [] [(1, vi p2), (2, vi p3), (7, .one (.sl 0 1 0 l1.length)), (8, vi x1), (14, vi (IntKind.i64.wrap (p1 * p2))), (15, vi x1), (23, vi (IntKind.i64.wrap ((IntKind.i64.wrap (p2 - (1 : Int))) - (x1.tmod p2))))] [.arr 1 (eI.els l1)] [p2 ≠ 0] (⟨g13, trivial⟩) ?_)
    rw [show (IntKind.i64.wrap ((IntKind.i64.wrap (p2 - (1 : Int))) - (x1.tmod p2))) = y1 from Option.some.inj hy14]
    refine zg [] 1 [1,2,7,8,9,14,15] (zd (hK12 _ _ ?_))
    obtain ⟨e1, a15, h⟩ := zB h
    obtain ⟨g16, h⟩ := zG h
    obtain ⟨y2, hy17, h⟩ := zB h
    obtain ⟨g18, h⟩ := zG h
    obtain ⟨g19, h⟩ := zG h
    obtain ⟨y3, hy20, h⟩ := zB h
    obtain ⟨y4, hy21, h⟩ := zB h
    refine zw 12 [(35, vi y3), (34, vi (IntKind.i64.wrap (x1.tdiv p2))), (33, vi p2), (32, vi x1), (31, vi y2), (30, vi (p3.fdiv (2 ^ (min x1.toNat (IntKind.i64).bits)))), (29, vi x1), (28, vi p3), (27, vi e1), (26, .one (.pt 0 1 (0 + y1.toNat) 0)), (25, vi y1), (24, .one (.sl 0 1 0 l1.length)), (1, vi p2), (2, vi p3), (7, .one (.sl 0 1 0 l1.length)), (8, vi x1), (9, vi y1), (14, vi (IntKind.i64.wrap (p1 * p2))), (15, vi x1)] ?_ ?_
    ·refine zyp 8 [[pi e1]] [(31, vi (IntKind.i64.wrap (BitVec.ofInt (IntKind.i64).bits (p3.fdiv (2 ^ (min x1.toNat (IntKind.i64).bits))) &&& BitVec.ofInt (IntKind.i64).bits (1 : Int)).toNat)), (30, vi (p3.fdiv (2 ^ (min x1.toNat (IntKind.i64).bits)))), (29, vi x1), (28, vi p3), (27, vi e1), (26, .one (.pt 0 1 (0 + y1.toNat) 0)), (25, vi y1), (24, .one (.sl 0 1 0 l1.length)), (1, vi p2), (2, vi p3), (7, .one (.sl 0 1 0 l1.length)), (8, vi x1), (9, vi y1), (14, vi (IntKind.i64.wrap (p1 * p2))), (15, vi x1)] [0 ≤ y1 ∧ y1 < ((l1.length : Nat) : Int), (eI.els l1)[(0 + y1.toNat)]? = some [pi e1], 0 ≤ x1] (⟨Enc.inb' a15, (eI.get0 a15), g16, trivial⟩) ?_
     rw [show (IntKind.i64.wrap (BitVec.ofInt (IntKind.i64).bits (p3.fdiv (2 ^ (min x1.toNat (IntKind.i64).bits))) &&& BitVec.ofInt (IntKind.i64).bits (1 : Int)).toNat) = y2 from Option.some.inj hy17]
     refine zyp 4 [] [(35, vi (IntKind.i64.wrap (y2 * 2 ^ (min (IntKind.i64.wrap (x1.tdiv p2)).toNat (IntKind.i64).bits)))), (34, vi (IntKind.i64.wrap (x1.tdiv p2))), (33, vi p2), (32, vi x1), (31, vi y2), (30, vi (p3.fdiv (2 ^ (min x1.toNat (IntKind.i64).bits)))), (29, vi x1), (28, vi p3), (27, vi e1), (26, .one (.pt 0 1 (0 + y1.toNat) 0)), (25, vi y1), (24, .one (.sl 0 1 0 l1.length)), (1, vi p2), (2, vi p3), (7, .one (.sl 0 1 0 l1.length)), (8, vi x1), (9, vi y1), (14, vi (IntKind.i64.wrap (p1 * p2))), (15, vi x1)] [p2 ≠ 0, 0 ≤ (IntKind.i64.wrap (x1.tdiv p2))] (⟨g18, g19, trivial⟩) ?_
     rw [show (IntKind.i64.wrap (y2 * 2 ^ (min (IntKind.i64.wrap (x1.tdiv p2)).toNat (IntKind.i64).bits))) = y3 from Option.some.inj hy20]
     exact zyd
    refine zv [] 1 [1,2,7,14,15,24,25,36] [] [(1, vi p2), (2, vi p3), (7, .one (.sl 0 1 0 l1.length)), (14, vi (IntKind.i64.wrap (p1 * p2))), (15, vi x1), (24, .one (.sl 0 1 0 l1.length)), (25, vi y1), (36, vi (IntKind.i64.wrap (BitVec.ofInt (IntKind.i64).bits e1 ||| BitVec.ofInt (IntKind.i64).bits y3).toNat))] [.arr 1 (eI.els l1)] ?_
    rw [show (IntKind.i64.wrap (BitVec.ofInt (IntKind.i64).bits e1 ||| BitVec.ofInt (IntKind.i64).bits y3).toNat) = y4 from Option.some.inj hy21]
    refine zp [] 2 [1,2,7,14,15] [[pi e1]] [(1, vi p2), (2, vi p3), (7, .one (.sl 0 1 0 l1.length)), (14, vi (IntKind.i64.wrap (p1 * p2))), (15, vi x1)] [.arr 1 ((eI.els l1).set (0 + y1.toNat) [pi y4])] [0 ≤ y1 ∧ y1 < ((l1.length : Nat) : Int), (eI.els l1)[(0 + y1.toNat)]? = some [pi e1]] (⟨Enc.inb' a15, (eI.get0 a15), trivial⟩) ?_
    rw [show (eI.els l1).set (0 + y1.toNat) [pi y4] = eI.els (l1.set y1.toNat y4) from eI.set0 _ _ y4]
    refine zd (hK10 _ _ (zr (zg [] 2 [1,2,7,14,15] (zd ?_))))
    exact XR.sub (Sub.trans (Sub.pick (fr' := [(1, vi p2), (2, vi p3), (7, .one (.sl 0 1 0 l1.length)), (14, vi (IntKind.i64.wrap (p1 * p2))), (15, vi (IntKind.i64.wrap (x1 + (1 : Int))))]) [1,2,7,14,15] (by kernel_rfl)) (Sub.frame (fr' := [(1, vi p2), (2, vi p3), (7, .one (.sl 0 1 0 (l1.set y1.toNat y4).length)), (14, vi (IntKind.i64.wrap (p1 * p2))), (15, vi (IntKind.i64.wrap (x1 + (1 : Int))))]) ⟨.rfl _, .rfl _, ALe.of_eq (show (.one (.sl 0 1 0 l1.length) : AV) = .one (.sl 0 1 0 (l1.set y1.toNat y4).length) from by simp), .rfl _, .rfl _, trivial⟩)) (ih1 (l1.set y1.toNat y4) (IntKind.i64.wrap (x1 + (1 : Int))) h)
   ·exact zx 0 (hQ1 _ _ _ (hJ1 l1 h _ _ (zk [7])))
 exact XR.sub (Sub.trans (Sub.pick (fr' := [(1, vi p2), (2, vi p3), (7, .one (.sl 0 1 0 p2.toNat)), (14, vi (IntKind.i64.wrap (p1 * p2))), (15, vi (0 : Int))]) [1,2,7,14,15] (by kernel_rfl)) (Sub.frame (fr' := [(1, vi p2), (2, vi p3), (7, .one (.sl 0 1 0 (List.replicate p2.toNat (0 : Int)).length)), (14, vi (IntKind.i64.wrap (p1 * p2))), (15, vi (0 : Int))]) ⟨.rfl _, .rfl _, ALe.of_eq (show (.one (.sl 0 1 0 p2.toNat) : AV) = .one (.sl 0 1 0 (List.replicate p2.toNat (0 : Int)).length) from by simp), .rfl _, .rfl _, trivial⟩)) (hL1 BIG (List.replicate p2.toNat (0 : Int)) (0 : Int) h)

def lake_unhilbert_j1 (rec1 : Int → Int → Option (List Int)) (x2 : Int) (x3 : Int) : Option (List Int) :=
    rec1 x3 (x2.fdiv (2 ^ (min (1 : Int).toNat (IntKind.i64).bits)))

def lake_unhilbert_j5 (rec4 : List Int → Int → Option (List Int)) (x7 : Int) (l7 : List Int) : Option (List Int) :=
    bnd (some (IntKind.i64.wrap (x7 * 2 ^ (min (1 : Int).toNat (IntKind.i64).bits)))) fun y7 =>
    rec4 l7 y7

def lake_unhilbert_l5 (rec4 : List Int → Int → Option (List Int)) (x7 : Int) : Nat → List Int → Int → Option (List Int)
  | 0, _, _ => none
  | k5 + 1, l6, x8 =>
    ift (decide ((0 : Int) ≤ x8))
      (bnd (lake_bend_s x8 x7 l6) fun r2 =>
       grd (r2.2.length = l6.length) <|
       (lake_unhilbert_l5 rec4 x7 k5) r2.2 (IntKind.i64.wrap (x8 - (1 : Int))))
      (lake_unhilbert_j5 rec4 x7 l6)

def lake_unhilbert_j6 (l8 : List Int) : Option (List Int) :=
    some l8

def lake_unhilbert_l4 (r1 : (List Int)) (y1 : Int) : Nat → List Int → Int → Option (List Int)
  | 0, _, _ => none
  | k4 + 1, l5, x7 =>
    ift (decide (x7 ≤ y1))
      (lake_unhilbert_l5 (lake_unhilbert_l4 r1 y1 k4) x7 BIG l5 (IntKind.i64.wrap (((r1.length : Nat) : Int) - (1 : Int))))
      (lake_unhilbert_j6 l5)

def lake_unhilbert_j4 (r1 : (List Int)) (y1 : Int) (l4 : List Int) : Option (List Int) :=
    lake_unhilbert_l4 r1 y1 BIG l4 (2 : Int)

def lake_unhilbert_l3 (r1 : (List Int)) (y1 : Int) : Nat → List Int → Int → Option (List Int)
  | 0, _, _ => none
  | k3 + 1, l3, x6 =>
    ift (decide ((0 : Int) < x6))
      (bnd (at? l3 x6) fun e3 =>
       bnd (at? l3 (IntKind.i64.wrap (x6 - (1 : Int)))) fun e4 =>
       bnd (some (IntKind.i64.wrap (BitVec.ofInt (IntKind.i64).bits e3 ^^^ BitVec.ofInt (IntKind.i64).bits e4).toNat)) fun y6 =>
       (lake_unhilbert_l3 r1 y1 k3) (l3.set x6.toNat y6) (IntKind.i64.wrap (x6 - (1 : Int))))
      (lake_unhilbert_j4 r1 y1 l3)

def lake_unhilbert_j3 (r1 : (List Int)) (y1 : Int) (l2 : List Int) : Option (List Int) :=
    lake_unhilbert_l3 r1 y1 BIG l2 (IntKind.i64.wrap (((r1.length : Nat) : Int) - (1 : Int)))

def lake_unhilbert_l2 (r1 : (List Int)) (y1 : Int) (x4 : Int) : Nat → List Int → Int → Option (List Int)
  | 0, _, _ => none
  | k2 + 1, l1, x5 =>
    ift (decide (x5 < ((r1.length : Nat) : Int)))
      (bnd (at? l1 x5) fun e2 =>
       bnd (some (IntKind.i64.wrap (BitVec.ofInt (IntKind.i64).bits e2 ^^^ BitVec.ofInt (IntKind.i64).bits x4).toNat)) fun y5 =>
       (lake_unhilbert_l2 r1 y1 x4 k2) (l1.set x5.toNat y5) (IntKind.i64.wrap (x5 + (1 : Int))))
      (lake_unhilbert_j3 r1 y1 l1)

def lake_unhilbert_j2 (r1 : (List Int)) (y1 : Int) (x4 : Int) : Option (List Int) :=
    lake_unhilbert_l2 r1 y1 x4 BIG r1 (0 : Int)

def lake_unhilbert_l1 (r1 : (List Int)) (y1 : Int) (e1 : Int) : Nat → Int → Int → Option (List Int)
  | 0, _, _ => none
  | k1 + 1, x1, x2 =>
    ift (decide ((1 : Int) < x2))
      (bnd (some (IntKind.i64.wrap (BitVec.ofInt (IntKind.i64).bits e1 ^^^ BitVec.ofInt (IntKind.i64).bits x1).toNat)) fun y2 =>
       bnd (some (IntKind.i64.wrap (BitVec.ofInt (IntKind.i64).bits y2 &&& BitVec.ofInt (IntKind.i64).bits x2).toNat)) fun y3 =>
       ift (y3 != (0 : Int))
         (bnd (some (IntKind.i64.wrap (BitVec.ofInt (IntKind.i64).bits x1 ^^^ BitVec.ofInt (IntKind.i64).bits (IntKind.i64.wrap (x2 - (1 : Int)))).toNat)) fun y4 =>
          lake_unhilbert_j1 (lake_unhilbert_l1 r1 y1 e1 k1) x2 y4)
         (lake_unhilbert_j1 (lake_unhilbert_l1 r1 y1 e1 k1) x2 x1))
      (lake_unhilbert_j2 r1 y1 x1)

def lake_unhilbert (p1 : Int) (p2 : (List Int)) : Option (List Int) :=
    bnd (slices_Clone_int_int p2) fun r1 =>
    grd (0 ≤ (IntKind.i64.wrap (p1 - (1 : Int)))) <|
    bnd (some (IntKind.i64.wrap ((1 : Int) * 2 ^ (min (IntKind.i64.wrap (p1 - (1 : Int))).toNat (IntKind.i64).bits)))) fun y1 =>
    bnd (at? r1 (IntKind.i64.wrap (((r1.length : Nat) : Int) - (1 : Int)))) fun e1 =>
    lake_unhilbert_l1 r1 y1 e1 BIG (0 : Int) y1


theorem c_lake_unhilbert (p1 : Int) (p2 : (List Int)) (r : (List Int)) (h : lake_unhilbert p1 p2 = some r) : PC Try.prog 25 [vi p1, vl eI p2] (vl eI r) := by
 unfold lake_unhilbert at h
 refine zF 88 Try.f25 (zq fun K1 hK1 => zr (zg [] 1 [0,1] (zd (hK1 _ _ (zq fun K2 hK2 => ?_)))))
 obtain ⟨r1, c3, h⟩ := zB h
 refine zr (zv [] 1 [0,15] [] [(0, vi p1), (15, vl eI p2)] [] (XO.calx 27 [vl eI p2] [] [.arr 1 (eI.els r1)] [] (.one (.sl 0 1 0 r1.length)) [] [] [(16, .one (.sl 0 1 0 r1.length)), (0, vi p1), (15, vl eI p2)] [.arr 1 (eI.els r1)] (by kernel_rfl) (c_slices_Clone_int_int _ _ c3) (by kernel_rfl) (by kernel_rfl) (by kernel_rfl) (by kernel_rfl) (by kernel_rfl) (by kernel_rfl) (by kernel_rfl) (zg [] 1 [0,5] (zd (hK2 _ _ (zq fun K4 hK4 => ?_))))))
 obtain ⟨g5, h⟩ := zG h
 obtain ⟨y1, hy6, h⟩ := zB h
 refine zr (zp [] 3 [5,19] [] [(5, .one (.sl 0 1 0 r1.length)), (19, vi (IntKind.i64.wrap ((1 : Int) * 2 ^ (min (IntKind.i64.wrap (p1 - (1 : Int))).toNat (IntKind.i64).bits))))] [.arr 1 (eI.els r1)] [0 ≤ (IntKind.i64.wrap (p1 - (1 : Int)))] (⟨g5, trivial⟩) ?_)
 rw [show (IntKind.i64.wrap ((1 : Int) * 2 ^ (min (IntKind.i64.wrap (p1 - (1 : Int))).toNat (IntKind.i64).bits))) = y1 from Option.some.inj hy6]
 refine zg [] 1 [5,6] (zd (hK4 _ _ (zq fun K7 hK7 => zr (zg [] 3 [5,6,7] (zd (hK7 _ _ ?_))))))
 refine zq fun K8 hK8 => ?_
 obtain ⟨e1, a9, h⟩ := zB h
 refine zr (zp [] 7 [5,6,7,8,9] [[pi e1]] [(5, .one (.sl 0 1 0 r1.length)), (6, vi y1), (7, vi ((r1.length : Nat) : Int)), (8, vi e1), (9, vi (0 : Int))] [.arr 1 (eI.els r1)] [0 ≤ (IntKind.i64.wrap (((r1.length : Nat) : Int) - (1 : Int))) ∧ (IntKind.i64.wrap (((r1.length : Nat) : Int) - (1 : Int))) < ((r1.length : Nat) : Int), (eI.els r1)[(0 + (IntKind.i64.wrap (((r1.length : Nat) : Int) - (1 : Int))).toNat)]? = some [pi e1]] (⟨Enc.inb' a9, (eI.get0 a9), trivial⟩) (zd (hK8 _ _ (zq fun K10 hK10 => ?_))))
 have hJ2 : ∀ (x4 : Int), lake_unhilbert_j2 r1 y1 x4 = some r → ∀ fr1 st1, Sub 88 0 [] fr1 st1 [(5, .one (.sl 0 1 0 r1.length)), (6, vi y1), (7, vi ((r1.length : Nat) : Int)), (9, vi x4)] [.arr 1 (eI.els r1)] → K10 fr1 st1 := by
  intro x4 h fr1 st1 hS
  unfold lake_unhilbert_j2 at h
  refine hK10 _ _ (XW.sub hS ?_)
  refine zq fun K21 hK21 => ?_
  have hJ3 : ∀ (l2 : List Int), lake_unhilbert_j3 r1 y1 l2 = some r → ∀ fr1 st1, Sub 88 0 [] fr1 st1 [(5, .one (.sl 0 1 0 l2.length)), (6, vi y1), (7, vi ((r1.length : Nat) : Int))] [.arr 1 (eI.els l2)] → K21 fr1 st1 := by
   intro l2 h fr1 st1 hS
   unfold lake_unhilbert_j3 at h
   refine hK21 _ _ (XW.sub hS ?_)
   refine zq fun K30 hK30 => ?_
   have hJ4 : ∀ (l4 : List Int), lake_unhilbert_j4 r1 y1 l4 = some r → ∀ fr1 st1, Sub 88 0 [] fr1 st1 [(5, .one (.sl 0 1 0 l4.length)), (6, vi y1), (7, vi ((r1.length : Nat) : Int))] [.arr 1 (eI.els l4)] → K30 fr1 st1 := by
    intro l4 h fr1 st1 hS
    unfold lake_unhilbert_j4 at h
    refine hK30 _ _ (XW.sub hS ?_)
    refine zq fun K39 hK39 => ?_
    have hJ6 : ∀ (l8 : List Int), lake_unhilbert_j6 l8 = some r → ∀ fr1 st1, Sub 88 0 [] fr1 st1 [(5, .one (.sl 0 1 0 l8.length))] [.arr 1 (eI.els l8)] → K39 fr1 st1 := by
     intro l8 h fr1 st1 hS
     unfold lake_unhilbert_j6 at h
     refine hK39 _ _ (XW.sub hS ?_)
     refine zq fun K53 hK53 => zr (zg [] 2 [4] (zd (hK53 _ _ (ze ?_))))
     obtain rfl := Option.some.inj h
     exact zf [.one (.sl 0 1 0 l8.length)] (.one (cf_sl eI l8 rfl rfl rfl))
    refine zq fun K40 hK40 => zr (zg [] 1 [5,6,7,13] (zd (hK40 _ _ (zb 6 (XW.rounds' BIG (x := cd Try.f25 [1,1,1,1,1,1,1,1,0,1,0,0]) (by kernel_rfl) fun Q4 hQ4 => ?_)))))
    have hL4 : ∀ (k4 : Nat) (l5 : List Int) (x7 : Int), lake_unhilbert_l4 r1 y1 k4 l5 x7 = some r → XR Try.prog 88 0 [] (cd Try.f25 [1,1,1,1,1,1,1,1,0,1,0,0]) Q4 k4 [(5, .one (.sl 0 1 0 l5.length)), (6, vi y1), (7, vi ((r1.length : Nat) : Int)), (13, vi x7)] [.arr 1 (eI.els l5)] := by
     intro k4
     induction k4 with
     | zero => intro l5 x7 h; rw [lake_unhilbert_l4.eq_1] at h; cases h
     | succ k4 ih4 =>
      intro l5 x7 h
      rw [lake_unhilbert_l4.eq_2] at h
      refine zq fun K41 hK41 => zq fun K42 hK42 => zr (zg [] 3 [5,6,7,13,74] (zd (hK42 _ _ (zC h (fun b43 h => ?_) (fun b43 h => ?_)))))
      ·refine zs (hK41 _ _ (zq fun K44 hK44 => ?_))
       have hJ5 : ∀ (l7 : List Int), lake_unhilbert_j5 (lake_unhilbert_l4 r1 y1 k4) x7 l7 = some r → ∀ fr1 st1, Sub 88 0 [] fr1 st1 [(5, .one (.sl 0 1 0 l7.length)), (6, vi y1), (7, vi ((r1.length : Nat) : Int)), (13, vi x7)] [.arr 1 (eI.els l7)] → K44 fr1 st1 := by
        intro l7 h fr1 st1 hS
        unfold lake_unhilbert_j5 at h
        refine hK44 _ _ (XW.sub hS ?_)
        obtain ⟨y7, hy52, h⟩ := zB h
        refine zr (zp [] 2 [5,6,7,76] [] [(5, .one (.sl 0 1 0 l7.length)), (6, vi y1), (7, vi ((r1.length : Nat) : Int)), (76, vi (IntKind.i64.wrap (x7 * 2 ^ (min (1 : Int).toNat (IntKind.i64).bits))))] [.arr 1 (eI.els l7)] [0 ≤ (1 : Int)] (⟨by decide, trivial⟩) ?_)
        rw [show (IntKind.i64.wrap (x7 * 2 ^ (min (1 : Int).toNat (IntKind.i64).bits))) = y7 from Option.some.inj hy52]
        exact zg [] 1 [5,6,7,13] (zd (XR.sub (zk [5,6,7,13]) (ih4 l7 y7 h)))
       refine zb 7 (zq fun K45 hK45 => zr (zg [] 3 [5,6,7,13,14] (zd (hK45 _ _ (zb 8 (XW.rounds' BIG (x := cd Try.f25 [1,1,1,1,1,1,1,1,0,1,0,0,1,0,0,1,0,0]) (by kernel_rfl) fun Q5 hQ5 => ?_))))))
       have hL5 : ∀ (k5 : Nat) (l6 : List Int) (x8 : Int), lake_unhilbert_l5 (lake_unhilbert_l4 r1 y1 k4) x7 k5 l6 x8 = some r → XR Try.prog 88 0 [] (cd Try.f25 [1,1,1,1,1,1,1,1,0,1,0,0,1,0,0,1,0,0]) Q5 k5 [(5, .one (.sl 0 1 0 l6.length)), (6, vi y1), (7, vi ((r1.length : Nat) : Int)), (13, vi x7), (14, vi x8)] [.arr 1 (eI.els l6)] := by
        intro k5
        induction k5 with
        | zero => intro l6 x8 h; rw [lake_unhilbert_l5.eq_1] at h; cases h
        | succ k5 ih5 =>
         intro l6 x8 h
         rw [lake_unhilbert_l5.eq_2] at h
         refine zq fun K46 hK46 => zq fun K47 hK47 => zr (zg [] 2 [5,6,7,13,14,80] (zd (hK47 _ _ (zC h (fun b48 h => ?_) (fun b48 h => ?_)))))
         ·refine zs (hK46 _ _ (zq fun K49 hK49 => zb 9 ?_))
          obtain ⟨r2, c50, h⟩ := zB h
          obtain ⟨g51, h⟩ := zG h
          refine zr (zv [] 3 [5,6,7,13,14,83,84,85] [] [(5, .one (.sl 0 1 0 l6.length)), (6, vi y1), (7, vi ((r1.length : Nat) : Int)), (13, vi x7), (14, vi x8), (83, .one (.sl 0 1 0 l6.length)), (84, vi x8), (85, vi x7)] [.arr 1 (eI.els l6)] ?_)
          refine XO.calm 28 [.one (.sl 0 1 0 l6.length), vi x8, vi x7] [.arr 1 (eI.els l6)] [.arr 1 (eI.els r2.2)] (.tp []) [0] [(86, .tp []), (5, .one (.sl 0 1 0 l6.length)), (6, vi y1), (7, vi ((r1.length : Nat) : Int)), (13, vi x7), (14, vi x8), (83, .one (.sl 0 1 0 l6.length)), (84, vi x8), (85, vi x7)] [.arr 1 (eI.els r2.2)] (by kernel_rfl) (c_lake_bend_s _ _ _ _ c50) (by kernel_rfl) (by kernel_rfl) (by kernel_rfl) (by kernel_rfl) ?_
          refine XO.sub (Sub.frame (fr' := [(86, .tp []), (5, .one (.sl 0 1 0 r2.2.length)), (6, vi y1), (7, vi ((r1.length : Nat) : Int)), (13, vi x7), (14, vi x8), (83, .one (.sl 0 1 0 r2.2.length)), (84, vi x8), (85, vi x7)]) ⟨.rfl _, ALe.of_eq (show (.one (.sl 0 1 0 l6.length) : AV) = .one (.sl 0 1 0 r2.2.length) from by rw [g51]), .rfl _, .rfl _, .rfl _, .rfl _, ALe.of_eq (show (.one (.sl 0 1 0 l6.length) : AV) = .one (.sl 0 1 0 r2.2.length) from by rw [g51]), .rfl _, .rfl _, trivial⟩) (zd (hK49 _ _ (zr (zg [] 3 [5,6,7,13,14] (zd ?_)))))
          exact XR.sub (zk [5,6,7,13,14]) (ih5 r2.2 (IntKind.i64.wrap (x8 - (1 : Int))) h)
         ·exact zx 8 (hQ5 _ _ _ (hJ5 l6 h _ _ (zk [5,6,7,13])))
       exact XR.sub (zk [5,6,7,13,14]) (hL5 BIG l5 (IntKind.i64.wrap (((r1.length : Nat) : Int) - (1 : Int))) h)
      ·exact zx 6 (hQ4 _ _ _ (hJ6 l5 h _ _ (zk [5])))
    exact XR.sub (zk [5,6,7,13]) (hL4 BIG l4 (2 : Int) h)
   refine zq fun K31 hK31 => zr (zg [] 3 [5,6,7,12] (zd (hK31 _ _ (zb 4 (XW.rounds' BIG (x := cd Try.f25 [1,1,1,1,1,1,1,0,1,0,0]) (by kernel_rfl) fun Q3 hQ3 => ?_)))))
   have hL3 : ∀ (k3 : Nat) (l3 : List Int) (x6 : Int), lake_unhilbert_l3 r1 y1 k3 l3 x6 = some r → XR Try.prog 88 0 [] (cd Try.f25 [1,1,1,1,1,1,1,0,1,0,0]) Q3 k3 [(5, .one (.sl 0 1 0 l3.length)), (6, vi y1), (7, vi ((r1.length : Nat) : Int)), (12, vi x6)] [.arr 1 (eI.els l3)] := by
    intro k3
    induction k3 with
    | zero => intro l3 x6 h; rw [lake_unhilbert_l3.eq_1] at h; cases h
    | succ k3 ih3 =>
     intro l3 x6 h
     rw [lake_unhilbert_l3.eq_2] at h
     refine zq fun K32 hK32 => zq fun K33 hK33 => zr (zg [] 2 [5,6,7,12,58] (zd (hK33 _ _ (zC h (fun b34 h => ?_) (fun b34 h => ?_)))))
     ·refine zs (hK32 _ _ (zq fun K35 hK35 => zb 5 ?_))
      obtain ⟨e3, a36, h⟩ := zB h
      obtain ⟨e4, a37, h⟩ := zB h
      obtain ⟨y6, hy38, h⟩ := zB h
      refine zw 9 [(69, vi e4), (68, .one (.pt 0 1 (0 + (IntKind.i64.wrap (x6 - (1 : Int))).toNat) 0)), (67, vi (IntKind.i64.wrap (x6 - (1 : Int)))), (66, vi x6), (65, .one (.sl 0 1 0 l3.length)), (64, vi e3), (63, .one (.pt 0 1 (0 + x6.toNat) 0)), (62, vi x6), (61, .one (.sl 0 1 0 l3.length)), (5, .one (.sl 0 1 0 l3.length)), (6, vi y1), (7, vi ((r1.length : Nat) : Int)), (12, vi x6), (58, vb (decide ((0 : Int) < x6)))] ?_ ?_
      ·exact zyo 9 [[pi e3], [pi e4]] [0 ≤ x6 ∧ x6 < ((l3.length : Nat) : Int), (eI.els l3)[(0 + x6.toNat)]? = some [pi e3], 0 ≤ (IntKind.i64.wrap (x6 - (1 : Int))) ∧ (IntKind.i64.wrap (x6 - (1 : Int))) < ((l3.length : Nat) : Int), (eI.els l3)[(0 + (IntKind.i64.wrap (x6 - (1 : Int))).toNat)]? = some [pi e4]] (⟨Enc.inb' a36, (eI.get0 a36), Enc.inb' a37, (eI.get0 a37), trivial⟩) zyd
      refine zv [] 1 [5,6,7,12,61,62,70] [] [(5, .one (.sl 0 1 0 l3.length)), (6, vi y1), (7, vi ((r1.length : Nat) : Int)), (12, vi x6), (61, .one (.sl 0 1 0 l3.length)), (62, vi x6), (70, vi (IntKind.i64.wrap (BitVec.ofInt (IntKind.i64).bits e3 ^^^ BitVec.ofInt (IntKind.i64).bits e4).toNat))] [.arr 1 (eI.els l3)] ?_
      rw [show (IntKind.i64.wrap (BitVec.ofInt (IntKind.i64).bits e3 ^^^ BitVec.ofInt (IntKind.i64).bits e4).toNat) = y6 from Option.some.inj hy38]
      refine zp [] 2 [5,6,7,12] [[pi e3]] [(5, .one (.sl 0 1 0 l3.length)), (6, vi y1), (7, vi ((r1.length : Nat) : Int)), (12, vi x6)] [.arr 1 ((eI.els l3).set (0 + x6.toNat) [pi y6])] [0 ≤ x6 ∧ x6 < ((l3.length : Nat) : Int), (eI.els l3)[(0 + x6.toNat)]? = some [pi e3]] (⟨Enc.inb' a36, (eI.get0 a36), trivial⟩) ?_
      rw [show (eI.els l3).set (0 + x6.toNat) [pi y6] = eI.els (l3.set x6.toNat y6) from eI.set0 _ _ y6]
      refine zd (hK35 _ _ (zr (zg [] 3 [5,6,7,12] (zd ?_))))
      exact XR.sub (Sub.trans (Sub.pick (fr' := [(5, .one (.sl 0 1 0 l3.length)), (6, vi y1), (7, vi ((r1.length : Nat) : Int)), (12, vi (IntKind.i64.wrap (x6 - (1 : Int))))]) [5,6,7,12] (by kernel_rfl)) (Sub.frame (fr' := [(5, .one (.sl 0 1 0 (l3.set x6.toNat y6).length)), (6, vi y1), (7, vi ((r1.length : Nat) : Int)), (12, vi (IntKind.i64.wrap (x6 - (1 : Int))))]) ⟨ALe.of_eq (show (.one (.sl 0 1 0 l3.length) : AV) = .one (.sl 0 1 0 (l3.set x6.toNat y6).length) from by simp), .rfl _, .rfl _, .rfl _, trivial⟩)) (ih3 (l3.set x6.toNat y6) (IntKind.i64.wrap (x6 - (1 : Int))) h)
     ·exact zx 4 (hQ3 _ _ _ (hJ4 l3 h _ _ (zk [5,6,7])))
   exact XR.sub (zk [5,6,7,12]) (hL3 BIG l2 (IntKind.i64.wrap (((r1.length : Nat) : Int) - (1 : Int))) h)
  refine zq fun K22 hK22 => zr (zg [] 3 [5,6,7,9,43,44] (zd (hK22 _ _ (zb 2 (XW.rounds' BIG (x := cd Try.f25 [1,1,1,1,1,1,0,1,0,0]) (by kernel_rfl) fun Q2 hQ2 => ?_)))))
  have hL2 : ∀ (k2 : Nat) (l1 : List Int) (x5 : Int), lake_unhilbert_l2 r1 y1 x4 k2 l1 x5 = some r → XR Try.prog 88 0 [] (cd Try.f25 [1,1,1,1,1,1,0,1,0,0]) Q2 k2 [(5, .one (.sl 0 1 0 l1.length)), (6, vi y1), (7, vi ((r1.length : Nat) : Int)), (9, vi x4), (43, vi ((r1.length : Nat) : Int)), (44, vi x5)] [.arr 1 (eI.els l1)] := by
   intro k2
   induction k2 with
   | zero => intro l1 x5 h; rw [lake_unhilbert_l2.eq_1] at h; cases h
   | succ k2 ih2 =>
    intro l1 x5 h
    rw [lake_unhilbert_l2.eq_2] at h
    refine zq fun K23 hK23 => zr (zg [] 1 [5,6,7,9,43,44,45] (zd (hK23 _ _ (zq fun K24 hK24 => zC h (fun b25 h => ?_) (fun b25 h => ?_)))))
    ·refine zs (hK24 _ _ (zq fun K26 hK26 => zb 3 (zq fun K27 hK27 => zr (zg [] 2 [5,6,7,9,11,43,44] (zd ?_)))))
     refine hK27 _ _ ?_
     obtain ⟨e2, a28, h⟩ := zB h
     obtain ⟨y5, hy29, h⟩ := zB h
     refine zr (zp [] 6 [5,6,7,9,43,44,47,48,52] [[pi e2]] [(5, .one (.sl 0 1 0 l1.length)), (6, vi y1), (7, vi ((r1.length : Nat) : Int)), (9, vi x4), (43, vi ((r1.length : Nat) : Int)), (44, vi x5), (47, .one (.sl 0 1 0 l1.length)), (48, vi x5), (52, vi (IntKind.i64.wrap (BitVec.ofInt (IntKind.i64).bits e2 ^^^ BitVec.ofInt (IntKind.i64).bits x4).toNat))] [.arr 1 (eI.els l1)] [0 ≤ x5 ∧ x5 < ((l1.length : Nat) : Int), (eI.els l1)[(0 + x5.toNat)]? = some [pi e2]] (⟨Enc.inb' a28, (eI.get0 a28), trivial⟩) ?_)
     rw [show (IntKind.i64.wrap (BitVec.ofInt (IntKind.i64).bits e2 ^^^ BitVec.ofInt (IntKind.i64).bits x4).toNat) = y5 from Option.some.inj hy29]
     refine zp [] 2 [5,6,7,9,43,44] [[pi e2]] [(5, .one (.sl 0 1 0 l1.length)), (6, vi y1), (7, vi ((r1.length : Nat) : Int)), (9, vi x4), (43, vi ((r1.length : Nat) : Int)), (44, vi x5)] [.arr 1 ((eI.els l1).set (0 + x5.toNat) [pi y5])] [0 ≤ x5 ∧ x5 < ((l1.length : Nat) : Int), (eI.els l1)[(0 + x5.toNat)]? = some [pi e2]] (⟨Enc.inb' a28, (eI.get0 a28), trivial⟩) ?_
     rw [show (eI.els l1).set (0 + x5.toNat) [pi y5] = eI.els (l1.set x5.toNat y5) from eI.set0 _ _ y5]
     refine zd (hK26 _ _ (zr (zg [] 2 [5,6,7,9,43,44] (zd ?_))))
     exact XR.sub (Sub.trans (Sub.pick (fr' := [(5, .one (.sl 0 1 0 l1.length)), (6, vi y1), (7, vi ((r1.length : Nat) : Int)), (9, vi x4), (43, vi ((r1.length : Nat) : Int)), (44, vi (IntKind.i64.wrap (x5 + (1 : Int))))]) [5,6,7,9,43,44] (by kernel_rfl)) (Sub.frame (fr' := [(5, .one (.sl 0 1 0 (l1.set x5.toNat y5).length)), (6, vi y1), (7, vi ((r1.length : Nat) : Int)), (9, vi x4), (43, vi ((r1.length : Nat) : Int)), (44, vi (IntKind.i64.wrap (x5 + (1 : Int))))]) ⟨ALe.of_eq (show (.one (.sl 0 1 0 l1.length) : AV) = .one (.sl 0 1 0 (l1.set x5.toNat y5).length) from by simp), .rfl _, .rfl _, .rfl _, .rfl _, .rfl _, trivial⟩)) (ih2 (l1.set x5.toNat y5) (IntKind.i64.wrap (x5 + (1 : Int))) h)
    ·exact zx 2 (hQ2 _ _ _ (hJ3 l1 h _ _ (zk [5,6,7])))
  exact XR.sub (zk [5,6,7,9,43,44]) (hL2 BIG r1 (0 : Int) h)
 refine zq fun K11 hK11 => zr (zg [] 2 [5,6,7,8,9,10] (zd (hK11 _ _ (zb 0 (XW.rounds' BIG (x := cd Try.f25 [1,1,1,1,1,0,1,0,0]) (by kernel_rfl) fun Q1 hQ1 => ?_)))))
 have hL1 : ∀ (k1 : Nat) (x1 : Int) (x2 : Int), lake_unhilbert_l1 r1 y1 e1 k1 x1 x2 = some r → XR Try.prog 88 0 [] (cd Try.f25 [1,1,1,1,1,0,1,0,0]) Q1 k1 [(5, .one (.sl 0 1 0 r1.length)), (6, vi y1), (7, vi ((r1.length : Nat) : Int)), (8, vi e1), (9, vi x1), (10, vi x2)] [.arr 1 (eI.els r1)] := by
  intro k1
  induction k1 with
  | zero => intro x1 x2 h; rw [lake_unhilbert_l1.eq_1] at h; cases h
  | succ k1 ih1 =>
   intro x1 x2 h
   rw [lake_unhilbert_l1.eq_2] at h
   refine zq fun K12 hK12 => zq fun K13 hK13 => zr (zg [] 2 [5,6,7,8,9,10,29] (zd (hK13 _ _ (zC h (fun b14 h => ?_) (fun b14 h => ?_)))))
   ·refine zs (hK12 _ _ (zq fun K15 hK15 => ?_))
    have hJ1 : ∀ (x3 : Int), lake_unhilbert_j1 (lake_unhilbert_l1 r1 y1 e1 k1) x2 x3 = some r → ∀ fr1 st1, Sub 88 0 [] fr1 st1 [(5, .one (.sl 0 1 0 r1.length)), (6, vi y1), (7, vi ((r1.length : Nat) : Int)), (8, vi e1), (9, vi x3), (10, vi x2)] [.arr 1 (eI.els r1)] → K15 fr1 st1 := by
     intro x3 h fr1 st1 hS
     unfold lake_unhilbert_j1 at h
     refine hK15 _ _ (XW.sub hS ?_)
     exact zr (zo [] 3 [5,6,7,8,9,10] [] [0 ≤ (1 : Int)] (⟨by decide, trivial⟩) (zd (XR.sub (zk [5,6,7,8,9,10]) (ih1 x3 (x2.fdiv (2 ^ (min (1 : Int).toNat (IntKind.i64).bits))) h))))
    refine zb 1 (zq fun K16 hK16 => ?_)
    obtain ⟨y2, hy17, h⟩ := zB h
    obtain ⟨y3, hy18, h⟩ := zB h
    refine zr (zv [] 3 [5,6,7,8,9,10,34] [] [(5, .one (.sl 0 1 0 r1.length)), (6, vi y1), (7, vi ((r1.length : Nat) : Int)), (8, vi e1), (9, vi x1), (10, vi x2), (34, vi (IntKind.i64.wrap (BitVec.ofInt (IntKind.i64).bits e1 ^^^ BitVec.ofInt (IntKind.i64).bits x1).toNat))] [.arr 1 (eI.els r1)] ?_)
    rw [show (IntKind.i64.wrap (BitVec.ofInt (IntKind.i64).bits e1 ^^^ BitVec.ofInt (IntKind.i64).bits x1).toNat) = y2 from Option.some.inj hy17]
    refine zv [] 2 [5,6,7,8,9,10,36] [] [(5, .one (.sl 0 1 0 r1.length)), (6, vi y1), (7, vi ((r1.length : Nat) : Int)), (8, vi e1), (9, vi x1), (10, vi x2), (36, vi (IntKind.i64.wrap (BitVec.ofInt (IntKind.i64).bits y2 &&& BitVec.ofInt (IntKind.i64).bits x2).toNat))] [.arr 1 (eI.els r1)] ?_
    rw [show (IntKind.i64.wrap (BitVec.ofInt (IntKind.i64).bits y2 &&& BitVec.ofInt (IntKind.i64).bits x2).toNat) = y3 from Option.some.inj hy18]
    refine zg [] 1 [5,6,7,8,9,10,37] (zd (hK16 _ _ (zC h (fun b19 h => ?_) (fun b19 h => ?_))))
    ·obtain ⟨y4, hy20, h⟩ := zB h
     refine zr (zv [] 4 [5,6,7,8,10,41] [] [(5, .one (.sl 0 1 0 r1.length)), (6, vi y1), (7, vi ((r1.length : Nat) : Int)), (8, vi e1), (10, vi x2), (41, vi (IntKind.i64.wrap (BitVec.ofInt (IntKind.i64).bits x1 ^^^ BitVec.ofInt (IntKind.i64).bits (IntKind.i64.wrap (x2 - (1 : Int)))).toNat))] [.arr 1 (eI.els r1)] ?_)
     rw [show (IntKind.i64.wrap (BitVec.ofInt (IntKind.i64).bits x1 ^^^ BitVec.ofInt (IntKind.i64).bits (IntKind.i64.wrap (x2 - (1 : Int)))).toNat) = y4 from Option.some.inj hy20]
     exact zg [] 1 [5,6,7,8,9,10] (zd (hJ1 y4 h _ _ (zk [5,6,7,8,9,10])))
    ·exact zs (hJ1 x1 h _ _ (zk [5,6,7,8,9,10]))
   ·exact zx 0 (hQ1 _ _ _ (hJ2 x1 h _ _ (zk [5,6,7,9])))
 exact XR.sub (zk [5,6,7,8,9,10]) (hL1 BIG (0 : Int) y1 h)

def lake_Uncurve_j2 (x2 : List Int) : Option ((List Int) × Int) :=
    some (x2, (0 : Int))

def lake_Uncurve_j1 (p1 : Int) (p2 : Int) (p3 : Int) (p4 : Int) (x1 : Bool) : Option ((List Int) × Int) :=
    ift x1
      (some ([], (3 : Int)))
      (bnd (lake_unwoven p2 p3 p4) fun r2 =>
       ift (p1 == (2 : Int))
         (bnd (lake_unhilbert p2 r2) fun r3 =>
          lake_Uncurve_j2 r3)
         (lake_Uncurve_j2 r2))

def lake_Uncurve (p1 : Int) (p2 : Int) (p3 : Int) (p4 : Int) : Option ((List Int) × Int) :=
    bnd (lake_curve p1 p2 p3) fun r1 =>
    ift (r1 != (0 : Int))
      (some ([], r1))
      (ift (decide (p4 < (0 : Int)))
         (lake_Uncurve_j1 p1 p2 p3 p4 true)
         (grd (0 ≤ (IntKind.i64.wrap (p2 * p3))) <|
          bnd (some (IntKind.i64.wrap ((1 : Int) * 2 ^ (min (IntKind.i64.wrap (p2 * p3)).toNat (IntKind.i64).bits)))) fun y1 =>
          lake_Uncurve_j1 p1 p2 p3 p4 (decide (y1 ≤ p4))))


theorem c_lake_Uncurve (p1 : Int) (p2 : Int) (p3 : Int) (p4 : Int) (r : ((List Int) × Int)) (h : lake_Uncurve p1 p2 p3 p4 = some r) : PC Try.prog 11 [vi p1, vi p2, vi p3, vi p4] (.tp [vl eI r.1, vi r.2]) := by
 unfold lake_Uncurve at h
 refine zF 39 Try.f11 (zq fun K1 hK1 => zr (zg [] 2 [0,1,2,3] (zd (hK1 _ _ (zq fun K2 hK2 => zq fun K3 hK3 => ?_)))))
 obtain ⟨r1, c4, h⟩ := zB h
 refine zr (zg [] 3 [0,1,2,3,12,13,14] (zl 17 [vi p1, vi p2, vi p3] (vi r1) [(15, vi r1), (0, vi p1), (1, vi p2), (2, vi p3), (3, vi p4), (12, vi p1), (13, vi p2), (14, vi p3)] (c_lake_curve _ _ _ _ c4) (zg [] 1 [0,1,2,3,10] (zd (hK3 _ _ (zq fun K5 hK5 => zr ?_))))))
 refine zg [] 2 [0,1,2,3,10,17] (zd (hK5 _ _ (zC h (fun b6 h => ?_) (fun b6 h => ?_))))
 ·refine zq fun K7 hK7 => zr (zv [] 3 [8,9] [] [(8, .one (.pv (.s (.slice none 0 0)))), (9, vi r1)] [] (zd (hK7 _ _ (ze ?_))))
  obtain rfl := Option.some.inj h
  exact zf [.one (.pv (.s (.slice none 0 0))), vi r1] (.tpc (.one (.nl)) (.tpc (.one (.rfl _ rfl)) (.tp0)))
 ·refine zs (hK2 _ _ (zq fun K8 hK8 => zq fun K9 hK9 => ?_))
  have hJ1 : ∀ (x1 : Bool), lake_Uncurve_j1 p1 p2 p3 p4 x1 = some r → ∀ fr1 st1, Sub 39 0 [] fr1 st1 [(0, vi p1), (1, vi p2), (2, vi p3), (3, vi p4), (28, vb x1)] [] → K9 fr1 st1 := by
   intro x1 h fr1 st1 hS
   unfold lake_Uncurve_j1 at h
   refine hK9 _ _ (XW.sub hS ?_)
   refine zC h (fun b13 h => ?_) (fun b13 h => ?_)
   ·refine zq fun K14 hK14 => zr (zg [] 2 [8,9] (zd (hK14 _ _ (ze ?_))))
    obtain rfl := Option.some.inj h
    exact zf [.one (.pv (.s (.slice none 0 0))), vi (3 : Int)] (.tpc (.one (.nl)) (.tpc (.one (.rfl _ rfl)) (.tp0)))
   ·refine zs (hK8 _ _ (zq fun K15 hK15 => ?_))
    obtain ⟨r2, c16, h⟩ := zB h
    refine zr (zg [] 3 [0,1,29,30,31] (zl 24 [vi p2, vi p3, vi p4] (vl eI r2) [(32, vl eI r2), (0, vi p1), (1, vi p2), (29, vi p2), (30, vi p3), (31, vi p4)] (c_lake_unwoven _ _ _ _ c16) (zg [] 1 [0,1,11] (zd (hK15 _ _ (zq fun K17 hK17 => ?_))))))
    have hJ2 : ∀ (x2 : List Int), lake_Uncurve_j2 x2 = some r → ∀ fr1 st1, Sub 39 0 [] fr1 st1 [(11, vl eI x2)] [] → K17 fr1 st1 := by
     intro x2 h fr1 st1 hS
     unfold lake_Uncurve_j2 at h
     refine hK17 _ _ (XW.sub hS ?_)
     refine zq fun K21 hK21 => zr (zg [] 3 [8,9] (zd (hK21 _ _ (ze ?_))))
     obtain rfl := Option.some.inj h
     exact zf [vl eI x2, vi (0 : Int)] (.tpc (.one (.rfl _ rfl)) (.tpc (.one (.rfl _ rfl)) (.tp0)))
    refine zq fun K18 hK18 => zr (zg [] 2 [1,11,34] (zd (hK18 _ _ (zC h (fun b19 h => ?_) (fun b19 h => ?_)))))
    ·obtain ⟨r3, c20, h⟩ := zB h
     exact zr (zv [] 2 [35,36] [] [(35, vi p2), (36, vl eI r2)] [] (za (c_lake_unhilbert _ _ _ c20) (zg [] 1 [11] (zd (hJ2 r3 h _ _ (zk [11]))))))
    ·exact zs (hJ2 r2 h _ _ (zk [11]))
  rcases zW h with ⟨b10, h⟩ | ⟨b10, h⟩
  ·exact zr (zg [] 3 [0,1,2,3,21] (zt 21 b10 (zg [] 7 [0,1,2,3,28] (zd (hJ1 true h _ _ (zk [0,1,2,3,28]))))))
  ·obtain ⟨g11, h⟩ := zG h
   obtain ⟨y1, hy12, h⟩ := zB h
   refine zr (zv [] 3 [0,1,2,3,21] [] [(0, vi p1), (1, vi p2), (2, vi p3), (3, vi p4), (21, vb (decide (p4 < (0 : Int))))] [] (zt 21 b10 (zp [] 5 [0,1,2,3,21,22,26] [] [(0, vi p1), (1, vi p2), (2, vi p3), (3, vi p4), (21, vb false), (22, vi p4), (26, vi (IntKind.i64.wrap ((1 : Int) * 2 ^ (min (IntKind.i64.wrap (p2 * p3)).toNat (IntKind.i64).bits))))] [] [0 ≤ (IntKind.i64.wrap (p2 * p3))] (⟨g11, trivial⟩) ?_)))
   rw [show (IntKind.i64.wrap ((1 : Int) * 2 ^ (min (IntKind.i64.wrap (p2 * p3)).toNat (IntKind.i64).bits))) = y1 from Option.some.inj hy12]
   exact zg [] 2 [0,1,2,3,28] (zd (hJ1 (decide (y1 ≤ p4)) h _ _ (zk [0,1,2,3,28])))

def law4_ints_j1 : Option Bool :=
    some true

def law4_ints_l1 (p1 : (List Int)) (p2 : (List Int)) : Nat → Int → Option Bool
  | 0, _ => none
  | k1 + 1, x1 =>
    ift (decide (x1 < (p1.length : Int)))
      (bnd (at? p1 x1) fun e1 =>
       bnd (at? p2 x1) fun e2 =>
       ift (e1 != e2)
         (some false)
         ((law4_ints_l1 p1 p2 k1) (IntKind.i64.wrap (x1 + (1 : Int)))))
      (law4_ints_j1)

def law4_ints (p1 : (List Int)) (p2 : (List Int)) : Option Bool :=
    ift ((p1.length : Int) != (p2.length : Int))
      (some false)
      (law4_ints_l1 p1 p2 BIG (0 : Int))

abbrev qa360 (p1 : (List Int)) (p2 : (List Int)) (x1 : Int) (e1 : Int) (e2 : Int) : Fr := [(23, vi e2), (22, .one (.pv (.rp (eI.els p2) x1.toNat 0))), (21, vi x1), (20, vl eI p2), (19, vi e1), (18, .one (.pv (.rp (eI.els p1) x1.toNat 0))), (17, vi x1), (16, vl eI p1), (0, vl eI p1), (1, vl eI p2), (5, vi x1), (12, vi (p1.length : Int)), (13, vi x1)]

theorem c_law4_ints (p1 : (List Int)) (p2 : (List Int)) (r : Bool) (h : law4_ints p1 p2 = some r) : PC Try.prog 8 [vl eI p1, vl eI p2] (vb r) := by
 unfold law4_ints at h
 refine zF 26 Try.f8 (zq fun K1 hK1 => zr (zg [] 1 [0,1] (zd (hK1 _ _ (zq fun K2 hK2 => zq fun K3 hK3 => ?_)))))
 refine zr (zv [] 2 [0,1,7] [] [(0, vl eI p1), (1, vl eI p2), (7, vi ((eI.els p1).length : Int))] [] ?_)
 rw [eI.len p1]
 refine zv [] 2 [0,1,7,9] [] [(0, vl eI p1), (1, vl eI p2), (7, vi (p1.length : Int)), (9, vi ((eI.els p2).length : Int))] [] ?_
 rw [eI.len p2]
 refine zg [] 1 [0,1,10] (zd (hK3 _ _ (zC h (fun b4 h => ?_) (fun b4 h => ?_))))
 ·refine zq fun K5 hK5 => zr (zg [] 1 [4] (zd (hK5 _ _ (ze ?_))))
  obtain rfl := Option.some.inj h
  exact zf [vb false] (.one (.rfl _ rfl))
 ·refine zs (hK2 _ _ (zq fun K6 hK6 => ?_))
  have hJ1 : ∀ (_ : Unit), law4_ints_j1 = some r → ∀ fr1 st1, Sub 26 0 [] fr1 st1 [] [] → K6 fr1 st1 := by
   intro _ h fr1 st1 hS
   unfold law4_ints_j1 at h
   refine hK6 _ _ (XW.sub hS ?_)
   refine zq fun K18 hK18 => zr (zg [] 1 [4] (zd (hK18 _ _ (ze ?_))))
   obtain rfl := Option.some.inj h
   exact zf [vb true] (.one (.rfl _ rfl))
  refine zq fun K7 hK7 => zr (zv [] 2 [0,1,12] [] [(0, vl eI p1), (1, vl eI p2), (12, vi ((eI.els p1).length : Int))] [] ?_)
  rw [eI.len p1]
  refine zg [] 1 [0,1,12,13] (zd (hK7 _ _ (zb 0 (XW.rounds' BIG (x := cd Try.f8 [1,1,0,1,0,0]) (by kernel_rfl) fun Q1 hQ1 => ?_))))
  have hL1 : ∀ (k1 : Nat) (x1 : Int), law4_ints_l1 p1 p2 k1 x1 = some r → XR Try.prog 26 0 [] (cd Try.f8 [1,1,0,1,0,0]) Q1 k1 [(0, vl eI p1), (1, vl eI p2), (12, vi (p1.length : Int)), (13, vi x1)] [] := by
   intro k1
   induction k1 with
   | zero => intro x1 h; rw [law4_ints_l1.eq_1] at h; cases h
   | succ k1 ih1 =>
    intro x1 h
    rw [law4_ints_l1.eq_2] at h
    refine zq fun K8 hK8 => zr (zg [] 1 [0,1,12,13,14] (zd (hK8 _ _ (zq fun K9 hK9 => zC h (fun b10 h => ?_) (fun b10 h => ?_)))))
    ·refine zs (hK9 _ _ (zq fun K11 hK11 => zb 1 (zq fun K12 hK12 => zr (zg [] 2 [0,1,5,12,13] (zd ?_)))))
     refine hK12 _ _ (zq fun K13 hK13 => ?_)
     obtain ⟨e1, a14, h⟩ := zB h
     obtain ⟨e2, a15, h⟩ := zB h
     refine zw 8 (qa360 p1 p2 x1 e1 e2) ?_ ?_
     ·exact zyp 8 [[pi e1], [pi e2]] (qa360 p1 p2 x1 e1 e2) [0 ≤ x1 ∧ x1 < ((eI.els p1).length : Int) ∧ elemsOk 1 (eI.els p1), (eI.els p1)[x1.toNat]? = some [pi e1], 0 ≤ x1 ∧ x1 < ((eI.els p2).length : Int) ∧ elemsOk 1 (eI.els p2), (eI.els p2)[x1.toNat]? = some [pi e2]] (⟨eI.inb a14, (eI.get a14), eI.inb a15, (eI.get a15), trivial⟩) zyd
     refine zv [] 1 [0,1,12,13,24] [] [(0, vl eI p1), (1, vl eI p2), (12, vi (p1.length : Int)), (13, vi x1), (24, vb (e1 != e2))] [] (zd (hK13 _ _ (zC h (fun b16 h => ?_) (fun b16 h => ?_))))
     ·refine zq fun K17 hK17 => zr (zg [] 1 [4] (zd (hK17 _ _ (ze (hQ1 _ _ _ ?_)))))
      obtain rfl := Option.some.inj h
      exact zf [vb false] (.one (.rfl _ rfl))
     ·exact zs (hK11 _ _ (zr (zg [] 2 [0,1,12,13] (zd (XR.sub (zk [0,1,12,13]) (ih1 (IntKind.i64.wrap (x1 + (1 : Int))) h))))))
    ·exact zx 0 (hQ1 _ _ _ (hJ1 () h _ _ (zk [])))
  exact XR.sub (zk [0,1,12,13]) (hL1 BIG (0 : Int) h)

def ref4_Uncurve_j3 (rec1 : List Int → Int → Option ((List Int) × Int)) (x3 : Int) (x6 : List Int) : Option ((List Int) × Int) :=
    rec1 x6 (IntKind.i64.wrap (x3 + (1 : Int)))

def ref4_Uncurve_j2 (rec1 : List Int → Int → Option ((List Int) × Int)) (rec2 : Int → Option ((List Int) × Int)) (p1 : Int) (p2 : Int) (p3 : Int) (p4 : Int) (x3 : Int) (x4 : Int) (l2 : List Int) : Option ((List Int) × Int) :=
    bnd (ref4_Curve p1 p2 l2) fun r2 =>
    bnd (some (IntKind.i64.wrap ((IntKind.i64.wrap ((IntKind.i64.wrap (p2 - (1 : Int))) - x3)) * p3))) fun y4 =>
    grd (0 ≤ y4) <|
    bnd (some (IntKind.i64.wrap ((IntKind.i64.wrap ((IntKind.i64.wrap (p2 - (1 : Int))) - x3)) * p3))) fun y5 =>
    grd (0 ≤ y5) <|
    bnd (some ((r2.1.fdiv (2 ^ (min y4.toNat (IntKind.i64).bits))) == (p4.fdiv (2 ^ (min y5.toNat (IntKind.i64).bits))))) fun y6 =>
    ift y6
      (ref4_Uncurve_j3 rec1 x3 l2)
      (rec2 (IntKind.i64.wrap (x4 + (1 : Int))))

def ref4_Uncurve_l3 (rec1 : List Int → Int → Option ((List Int) × Int)) (rec2 : Int → Option ((List Int) × Int)) (p1 : Int) (p2 : Int) (p3 : Int) (p4 : Int) (x2 : List Int) (x3 : Int) (x4 : Int) : Nat → List Int → Int → Option ((List Int) × Int)
  | 0, _, _ => none
  | k3 + 1, l1, x5 =>
    ift (decide (x5 < (((([] : List Int) ++ x2).length : Nat) : Int)))
      (bnd (at? l1 x5) fun e1 =>
       grd (0 ≤ x5) <|
       grd (0 ≤ (IntKind.i64.wrap ((IntKind.i64.wrap (p2 - (1 : Int))) - x3))) <|
       bnd (some (IntKind.i64.wrap (((x4.fdiv (2 ^ (min x5.toNat (IntKind.i64).bits))).tmod (2 : Int)) * 2 ^ (min (IntKind.i64.wrap ((IntKind.i64.wrap (p2 - (1 : Int))) - x3)).toNat (IntKind.i64).bits)))) fun y3 =>
       (ref4_Uncurve_l3 rec1 rec2 p1 p2 p3 p4 x2 x3 x4 k3) (l1.set x5.toNat (IntKind.i64.wrap (e1 + y3))) (IntKind.i64.wrap (x5 + (1 : Int))))
      (ref4_Uncurve_j2 rec1 rec2 p1 p2 p3 p4 x3 x4 l1)

def ref4_Uncurve_l2 (rec1 : List Int → Int → Option ((List Int) × Int)) (p1 : Int) (p2 : Int) (p3 : Int) (p4 : Int) (x2 : List Int) (x3 : Int) : Nat → Int → Option ((List Int) × Int)
  | 0, _ => none
  | k2 + 1, x4 =>
    grd (0 ≤ p3) <|
    bnd (some (IntKind.i64.wrap ((1 : Int) * 2 ^ (min p3.toNat (IntKind.i64).bits)))) fun y2 =>
    ift (decide (x4 < y2))
      (grd (([] : List Int).length + x2.length ≤ 4294967296) <|
       ref4_Uncurve_l3 rec1 (ref4_Uncurve_l2 rec1 p1 p2 p3 p4 x2 x3 k2) p1 p2 p3 p4 x2 x3 x4 BIG (([] : List Int) ++ x2) (0 : Int))
      (ref4_Uncurve_j3 rec1 x3 x2)

def ref4_Uncurve_j4 (x7 : List Int) : Option ((List Int) × Int) :=
    some (x7, (0 : Int))

def ref4_Uncurve_l1 (p1 : Int) (p2 : Int) (p3 : Int) (p4 : Int) : Nat → List Int → Int → Option ((List Int) × Int)
  | 0, _, _ => none
  | k1 + 1, x2, x3 =>
    ift (decide (x3 < p2))
      (ref4_Uncurve_l2 (ref4_Uncurve_l1 p1 p2 p3 p4 k1) p1 p2 p3 p4 x2 x3 BIG (0 : Int))
      (ref4_Uncurve_j4 x2)

def ref4_Uncurve_j1 (p1 : Int) (p2 : Int) (p3 : Int) (p4 : Int) (x1 : Bool) : Option ((List Int) × Int) :=
    ift x1
      (some ([], (3 : Int)))
      (grd (0 ≤ p3 ∧ p3 ≤ p3 ∧ p3 ≤ 4294967296) <|
       ref4_Uncurve_l1 p1 p2 p3 p4 BIG (List.replicate p3.toNat (0 : Int)) (0 : Int))

def ref4_Uncurve (p1 : Int) (p2 : Int) (p3 : Int) (p4 : Int) : Option ((List Int) × Int) :=
    bnd (ref4_curved p1 p2 p3) fun r1 =>
    ift (r1 != (0 : Int))
      (some ([], r1))
      (ift (decide (p4 < (0 : Int)))
         (ref4_Uncurve_j1 p1 p2 p3 p4 true)
         (grd (0 ≤ (IntKind.i64.wrap (p2 * p3))) <|
          bnd (some (IntKind.i64.wrap ((1 : Int) * 2 ^ (min (IntKind.i64.wrap (p2 * p3)).toNat (IntKind.i64).bits)))) fun y1 =>
          ref4_Uncurve_j1 p1 p2 p3 p4 (decide (y1 ≤ p4))))

abbrev qa378 (p1 : Int) (p2 : Int) (p3 : Int) (p4 : Int) (x2 : List Int) (x3 : Int) (x4 : Int) : Fr := [(0, vi p1), (1, vi p2), (2, vi p3), (3, vi p4), (11, vl eI x2), (12, vi x3), (13, vi (IntKind.i64.wrap ((IntKind.i64.wrap (p2 - (1 : Int))) - x3))), (14, vi (IntKind.i64.wrap (x4 + (1 : Int))))]

theorem c_ref4_Uncurve (p1 : Int) (p2 : Int) (p3 : Int) (p4 : Int) (r : ((List Int) × Int)) (h : ref4_Uncurve p1 p2 p3 p4 = some r) : PC Try.prog 12 [vi p1, vi p2, vi p3, vi p4] (.tp [vl eI r.1, vi r.2]) := by
 unfold ref4_Uncurve at h
 refine zF 94 Try.f12 (zq fun K1 hK1 => zr (zg [53] 2 [0,1,2,3] (zd (hK1 _ _ (zq fun K2 hK2 => zq fun K3 hK3 => ?_)))))
 obtain ⟨r1, c4, h⟩ := zB h
 refine zr (zg [53] 3 [0,1,2,3,19,20,21] (zl 21 [vi p1, vi p2, vi p3] (vi r1) [(22, vi r1), (0, vi p1), (1, vi p2), (2, vi p3), (3, vi p4), (19, vi p1), (20, vi p2), (21, vi p3)] (c_ref4_curved _ _ _ _ c4) (zg [53] 1 [0,1,2,3,10] (zd (hK3 _ _ (zq fun K5 hK5 => zr ?_))))))
 refine zg [53] 2 [0,1,2,3,10,24] (zd (hK5 _ _ (zC h (fun b6 h => ?_) (fun b6 h => ?_))))
 ·refine zq fun K7 hK7 => zr (zv [53] 3 [8,9] [] [(8, .one (.pv (.s (.slice none 0 0)))), (9, vi r1)] [] (zd (hK7 _ _ (ze ?_))))
  obtain rfl := Option.some.inj h
  exact zf [.one (.pv (.s (.slice none 0 0))), vi r1] (.tpc (.one (.nl)) (.tpc (.one (.rfl _ rfl)) (.tp0)))
 ·refine zs (hK2 _ _ (zq fun K8 hK8 => zq fun K9 hK9 => ?_))
  have hJ1 : ∀ (x1 : Bool), ref4_Uncurve_j1 p1 p2 p3 p4 x1 = some r → ∀ fr1 st1, Sub 94 0 [] fr1 st1 [(0, vi p1), (1, vi p2), (2, vi p3), (3, vi p4), (35, vb x1)] [] → K9 fr1 st1 := by
   intro x1 h fr1 st1 hS
   unfold ref4_Uncurve_j1 at h
   refine hK9 _ _ (XW.sub hS ?_)
   refine zC h (fun b13 h => ?_) (fun b13 h => ?_)
   ·refine zq fun K14 hK14 => zr (zg [53] 2 [8,9] (zd (hK14 _ _ (ze ?_))))
    obtain rfl := Option.some.inj h
    exact zf [.one (.pv (.s (.slice none 0 0))), vi (3 : Int)] (.tpc (.one (.nl)) (.tpc (.one (.rfl _ rfl)) (.tp0)))
   ·refine zs (hK8 _ _ (zq fun K15 hK15 => ?_))
    obtain ⟨g17, h⟩ := zG h
    refine zr (zp [53] 2 [0,1,2,3,37] [] [(0, vi p1), (1, vi p2), (2, vi p3), (3, vi p4), (37, .one (.sl 0 1 0 p3.toNat))] [.arr 1 (List.replicate p3.toNat [pi (0 : Int)])] [0 ≤ p3, p3 ≤ p3, p3 ≤ 4294967296] (⟨g17.1, g17.2.1, g17.2.2, trivial⟩) ?_)
    rw [show List.replicate p3.toNat [pi (0 : Int)] = eI.els (List.replicate p3.toNat (0 : Int)) from eI.rep _ (0 : Int)]
    refine zg [53] 1 [0,1,2,3,11] (zd (hK15 _ _ (zq fun K18 hK18 => ?_)))
    have hJ4 : ∀ (x7 : List Int), ref4_Uncurve_j4 x7 = some r → ∀ fr1 st1, Sub 94 0 [] fr1 st1 [(11, vl eI x7)] [.dead] → K18 fr1 st1 := by
     intro x7 h fr1 st1 hS
     unfold ref4_Uncurve_j4 at h
     refine hK18 _ _ (XW.sub hS ?_)
     refine zq fun K55 hK55 => zr (zg [53] 3 [8,9] (zd (hK55 _ _ (ze ?_))))
     obtain rfl := Option.some.inj h
     exact zf [vl eI x7, vi (0 : Int)] (.tpc (.one (.rfl _ rfl)) (.tpc (.one (.rfl _ rfl)) (.tp0)))
    refine zq fun K19 hK19 => zr (zv [53] 1 [0,1,2,3,11,12] [] [(0, vi p1), (1, vi p2), (2, vi p3), (3, vi p4), (11, .one (.sl 0 1 0 p3.toNat)), (12, vi (0 : Int))] [.arr 1 (eI.els (List.replicate p3.toNat (0 : Int)))] (zd (hK19 _ _ (zb 0 (XW.sub (Sub.kill (fr' := [(0, vi p1), (1, vi p2), (2, vi p3), (3, vi p4), (11, vl eI (List.replicate p3.toNat (0 : Int))), (12, vi (0 : Int))]) 0 (Nat.zero_le _) (by kernel_rfl) ⟨.one (.rfl _ rfl), .one (.rfl _ rfl), .one (.rfl _ rfl), .one (.rfl _ rfl), .one (cf_sl eI (List.replicate p3.toNat (0 : Int)) rfl rfl (by simp)), .one (.rfl _ rfl), trivial⟩) ?_)))))
    refine XW.rounds' BIG (x := cd Try.f12 [1,1,1,1,0,1,0,0]) (by kernel_rfl) fun Q1 hQ1 => ?_
    have hL1 : ∀ (k1 : Nat) (x2 : List Int) (x3 : Int), ref4_Uncurve_l1 p1 p2 p3 p4 k1 x2 x3 = some r → XR Try.prog 94 0 [] (cd Try.f12 [1,1,1,1,0,1,0,0]) Q1 k1 [(0, vi p1), (1, vi p2), (2, vi p3), (3, vi p4), (11, vl eI x2), (12, vi x3)] [.dead] := by
     intro k1
     induction k1 with
     | zero => intro x2 x3 h; rw [ref4_Uncurve_l1.eq_1] at h; cases h
     | succ k1 ih1 =>
      intro x2 x3 h
      rw [ref4_Uncurve_l1.eq_2] at h
      refine zq fun K20 hK20 => zq fun K21 hK21 => zr (zg [53] 3 [0,1,2,3,11,12,40] (zd (hK21 _ _ (zC h (fun b22 h => ?_) (fun b22 h => ?_)))))
      ·refine zs (hK20 _ _ (zq fun K23 hK23 => ?_))
       have hJ3 : ∀ (x6 : List Int), ref4_Uncurve_j3 (ref4_Uncurve_l1 p1 p2 p3 p4 k1) x3 x6 = some r → ∀ fr1 st1, Sub 94 0 [] fr1 st1 [(0, vi p1), (1, vi p2), (2, vi p3), (3, vi p4), (11, vl eI x6), (12, vi x3)] [.dead] → K23 fr1 st1 := by
        intro x6 h fr1 st1 hS
        unfold ref4_Uncurve_j3 at h
        refine hK23 _ _ (XW.sub hS ?_)
        exact zr (zg [53] 3 [0,1,2,3,11,12] (zd (XR.sub (zk [0,1,2,3,11,12]) (ih1 x6 (IntKind.i64.wrap (x3 + (1 : Int))) h))))
       refine zb 1 (zq fun K24 hK24 => zr (zg [53] 5 [0,1,2,3,11,12,13] (zd (hK24 _ _ (zq fun K25 hK25 => zr ?_)))))
       refine zv [53] 1 [0,1,2,3,11,12,13,14] [] [(0, vi p1), (1, vi p2), (2, vi p3), (3, vi p4), (11, vl eI x2), (12, vi x3), (13, vi (IntKind.i64.wrap ((IntKind.i64.wrap (p2 - (1 : Int))) - x3))), (14, vi (0 : Int))] [.dead] (zd (hK25 _ _ (zb 2 (XW.rounds' BIG (x := cd Try.f12 [1,1,1,1,0,1,0,0,1,0,0,1,1,0,0]) (by kernel_rfl) fun Q2 hQ2 => ?_))))
       have hL2 : ∀ (k2 : Nat) (x4 : Int), ref4_Uncurve_l2 (ref4_Uncurve_l1 p1 p2 p3 p4 k1) p1 p2 p3 p4 x2 x3 k2 x4 = some r → XR Try.prog 94 0 [] (cd Try.f12 [1,1,1,1,0,1,0,0,1,0,0,1,1,0,0]) Q2 k2 [(0, vi p1), (1, vi p2), (2, vi p3), (3, vi p4), (11, vl eI x2), (12, vi x3), (13, vi (IntKind.i64.wrap ((IntKind.i64.wrap (p2 - (1 : Int))) - x3))), (14, vi x4)] [.dead] := by
        intro k2
        induction k2 with
        | zero => intro x4 h; rw [ref4_Uncurve_l2.eq_1] at h; cases h
        | succ k2 ih2 =>
         intro x4 h
         rw [ref4_Uncurve_l2.eq_2] at h
         refine zq fun K26 hK26 => zq fun K27 hK27 => ?_
         obtain ⟨g28, h⟩ := zG h
         obtain ⟨y2, hy29, h⟩ := zB h
         refine zr (zp [53] 3 [0,1,2,3,11,12,13,14,47,49] [] [(0, vi p1), (1, vi p2), (2, vi p3), (3, vi p4), (11, vl eI x2), (12, vi x3), (13, vi (IntKind.i64.wrap ((IntKind.i64.wrap (p2 - (1 : Int))) - x3))), (14, vi x4), (47, vi x4), (49, vi (IntKind.i64.wrap ((1 : Int) * 2 ^ (min p3.toNat (IntKind.i64).bits))))] [.dead] [0 ≤ p3] (⟨g28, trivial⟩) ?_)
         rw [show (IntKind.i64.wrap ((1 : Int) * 2 ^ (min p3.toNat (IntKind.i64).bits))) = y2 from Option.some.inj hy29]
         refine zg [53] 1 [0,1,2,3,11,12,13,14,50] (zd (hK27 _ _ (zC h (fun b30 h => ?_) (fun b30 h => ?_))))
         ·refine zs (hK26 _ _ (zq fun K31 hK31 => zb 3 (zq fun K32 hK32 => ?_)))
          obtain ⟨g33, h⟩ := zG h
          refine zr (zp [53] 3 [0,1,2,3,11,12,13,14,55] [] [(0, vi p1), (1, vi p2), (2, vi p3), (3, vi p4), (11, vl eI x2), (12, vi x3), (13, vi (IntKind.i64.wrap ((IntKind.i64.wrap (p2 - (1 : Int))) - x3))), (14, vi x4), (55, .one (.sl 1 1 0 (0 + (eI.els x2).length)))] [.dead, .arr 1 (eI.els [] ++ eI.els x2)] [elemsOk 1 (eI.els x2), 0 = (eI.els []).length, 0 + (eI.els x2).length ≤ 4294967296] (⟨eI.ok _, (by simp [Enc.len]), (by simp [Enc.len] at * <;> omega), trivial⟩) ?_)
          rw [show 0 + (eI.els x2).length = (([] : List Int) ++ x2).length from (by simp [Enc.len] <;> omega)]
          rw [show eI.els [] ++ eI.els x2 = eI.els (([] : List Int) ++ x2) from eI.app2 _ _]
          refine zg [53] 1 [0,1,2,3,11,12,13,14,15] (zd (hK32 _ _ (zq fun K34 hK34 => ?_)))
          have hJ2 : ∀ (l2 : List Int), ref4_Uncurve_j2 (ref4_Uncurve_l1 p1 p2 p3 p4 k1) (ref4_Uncurve_l2 (ref4_Uncurve_l1 p1 p2 p3 p4 k1) p1 p2 p3 p4 x2 x3 k2) p1 p2 p3 p4 x3 x4 l2 = some r → ∀ fr1 st1, Sub 94 0 [] fr1 st1 [(0, vi p1), (1, vi p2), (2, vi p3), (3, vi p4), (11, vl eI x2), (12, vi x3), (13, vi (IntKind.i64.wrap ((IntKind.i64.wrap (p2 - (1 : Int))) - x3))), (14, vi x4), (15, .one (.sl 1 1 0 l2.length))] [.dead, .arr 1 (eI.els l2)] → K34 fr1 st1 := by
           intro l2 h fr1 st1 hS
           unfold ref4_Uncurve_j2 at h
           refine hK34 _ _ (XW.sub hS ?_)
           refine zq fun K45 hK45 => ?_
           obtain ⟨r2, c46, h⟩ := zB h
           refine zr (zv [53] 3 [0,1,2,3,11,12,13,14,15,75,76,77] [] [(0, vi p1), (1, vi p2), (2, vi p3), (3, vi p4), (11, vl eI x2), (12, vi x3), (13, vi (IntKind.i64.wrap ((IntKind.i64.wrap (p2 - (1 : Int))) - x3))), (14, vi x4), (15, .one (.sl 1 1 0 l2.length)), (75, vi p1), (76, vi p2), (77, .one (.sl 1 1 0 l2.length))] [.dead, .arr 1 (eI.els l2)] ?_)
           refine XO.sub (Sub.kill (fr' := [(0, vi p1), (1, vi p2), (2, vi p3), (3, vi p4), (11, vl eI x2), (12, vi x3), (13, vi (IntKind.i64.wrap ((IntKind.i64.wrap (p2 - (1 : Int))) - x3))), (14, vi x4), (15, vl eI l2), (75, vi p1), (76, vi p2), (77, vl eI l2)]) 1 (Nat.zero_le _) (by kernel_rfl) ⟨.one (.rfl _ rfl), .one (.rfl _ rfl), .one (.rfl _ rfl), .one (.rfl _ rfl), .one (.rfl _ rfl), .one (.rfl _ rfl), .one (.rfl _ rfl), .one (.rfl _ rfl), .one (cf_sl eI l2 rfl rfl rfl), .one (.rfl _ rfl), .one (.rfl _ rfl), .one (cf_sl eI l2 rfl rfl rfl), trivial⟩) (za (c_ref4_Curve _ _ _ _ c46) ?_)
           refine zg [53] 5 [0,1,2,3,11,12,13,14,15,17] (zd (hK45 _ _ (zq fun K47 hK47 => ?_)))
           obtain ⟨y4, hy48, h⟩ := zB h
           obtain ⟨g49, h⟩ := zG h
           obtain ⟨y5, hy50, h⟩ := zB h
           obtain ⟨g51, h⟩ := zG h
           obtain ⟨y6, hy52, h⟩ := zB h
           refine zw 10 [(90, vi (p4.fdiv (2 ^ (min y5.toNat (IntKind.i64).bits)))), (89, vi y5), (88, vi p3), (87, vi (IntKind.i64.wrap ((IntKind.i64.wrap (p2 - (1 : Int))) - x3))), (86, vi p4), (85, vi (r2.1.fdiv (2 ^ (min y4.toNat (IntKind.i64).bits)))), (84, vi y4), (83, vi p3), (82, vi (IntKind.i64.wrap ((IntKind.i64.wrap (p2 - (1 : Int))) - x3))), (81, vi r2.1), (0, vi p1), (1, vi p2), (2, vi p3), (3, vi p4), (11, vl eI x2), (12, vi x3), (13, vi (IntKind.i64.wrap ((IntKind.i64.wrap (p2 - (1 : Int))) - x3))), (14, vi x4), (15, vl eI l2), (17, vi r2.1)] ?_ ?_
           ·refine zyv 4 [] [(84, vi (IntKind.i64.wrap ((IntKind.i64.wrap ((IntKind.i64.wrap (p2 - (1 : Int))) - x3)) * p3))), (83, vi p3), (82, vi (IntKind.i64.wrap ((IntKind.i64.wrap (p2 - (1 : Int))) - x3))), (81, vi r2.1), (0, vi p1), (1, vi p2), (2, vi p3), (3, vi p4), (11, vl eI x2), (12, vi x3), (13, vi (IntKind.i64.wrap ((IntKind.i64.wrap (p2 - (1 : Int))) - x3))), (14, vi x4), (15, vl eI l2), (17, vi r2.1)] ?_
            rw [show (IntKind.i64.wrap ((IntKind.i64.wrap ((IntKind.i64.wrap (p2 - (1 : Int))) - x3)) * p3)) = y4 from Option.some.inj hy48]
            refine zyp 5 [] [(89, vi (IntKind.i64.wrap ((IntKind.i64.wrap ((IntKind.i64.wrap (p2 - (1 : Int))) - x3)) * p3))), (88, vi p3), (87, vi (IntKind.i64.wrap ((IntKind.i64.wrap (p2 - (1 : Int))) - x3))), (86, vi p4), (85, vi (r2.1.fdiv (2 ^ (min y4.toNat (IntKind.i64).bits)))), (84, vi y4), (83, vi p3), (82, vi (IntKind.i64.wrap ((IntKind.i64.wrap (p2 - (1 : Int))) - x3))), (81, vi r2.1), (0, vi p1), (1, vi p2), (2, vi p3), (3, vi p4), (11, vl eI x2), (12, vi x3), (13, vi (IntKind.i64.wrap ((IntKind.i64.wrap (p2 - (1 : Int))) - x3))), (14, vi x4), (15, vl eI l2), (17, vi r2.1)] [0 ≤ y4] (⟨g49, trivial⟩) ?_
            rw [show (IntKind.i64.wrap ((IntKind.i64.wrap ((IntKind.i64.wrap (p2 - (1 : Int))) - x3)) * p3)) = y5 from Option.some.inj hy50]
            exact zyo 1 [] [0 ≤ y5] (⟨g51, trivial⟩) zyd
           refine zv [53] 1 [0,1,2,3,11,12,13,14,15,91] [] [(0, vi p1), (1, vi p2), (2, vi p3), (3, vi p4), (11, vl eI x2), (12, vi x3), (13, vi (IntKind.i64.wrap ((IntKind.i64.wrap (p2 - (1 : Int))) - x3))), (14, vi x4), (15, vl eI l2), (91, vb ((r2.1.fdiv (2 ^ (min y4.toNat (IntKind.i64).bits))) == (p4.fdiv (2 ^ (min y5.toNat (IntKind.i64).bits)))))] [.dead, .dead] ?_
           rw [show ((r2.1.fdiv (2 ^ (min y4.toNat (IntKind.i64).bits))) == (p4.fdiv (2 ^ (min y5.toNat (IntKind.i64).bits)))) = y6 from Option.some.inj hy52]
           refine zd (hK47 _ _ (zC h (fun b53 h => ?_) (fun b53 h => ?_)))
           ·exact zq fun K54 hK54 => zr (zg [53] 2 [0,1,2,3,11,12] (zd (hK54 _ _ (zx 2 (hQ2 _ _ _ (hJ3 l2 h _ _ (Sub.trans (Sub.pick (fr' := [(0, vi p1), (1, vi p2), (2, vi p3), (3, vi p4), (11, vl eI l2), (12, vi x3)]) [0,1,2,3,11,12] (by kernel_rfl)) (Sub.take (fr' := [(0, vi p1), (1, vi p2), (2, vi p3), (3, vi p4), (11, vl eI l2), (12, vi x3)]) 1 (Nat.zero_le _) (by kernel_rfl) (by kernel_rfl)))))))))
           ·refine zs (hK31 _ _ (zr (zg [53] 3 [0,1,2,3,11,12,13,14] (zd ?_))))
            exact XR.sub (Sub.trans (Sub.pick (fr' := (qa378 p1 p2 p3 p4 x2 x3 x4)) [0,1,2,3,11,12,13,14] (by kernel_rfl)) (Sub.take (fr' := (qa378 p1 p2 p3 p4 x2 x3 x4)) 1 (Nat.zero_le _) (by kernel_rfl) (by kernel_rfl))) (ih2 (IntKind.i64.wrap (x4 + (1 : Int))) h)
          refine zq fun K35 hK35 => zr (zg [53] 3 [0,1,2,3,11,12,13,14,15,57,58] (zd (hK35 _ _ (zb 4 (XW.rounds' BIG (x := cd Try.f12 [1,1,1,1,0,1,0,0,1,0,0,1,1,0,0,1,0,0,1,0,1,0,0]) (by kernel_rfl) fun Q3 hQ3 => ?_)))))
          have hL3 : ∀ (k3 : Nat) (l1 : List Int) (x5 : Int), ref4_Uncurve_l3 (ref4_Uncurve_l1 p1 p2 p3 p4 k1) (ref4_Uncurve_l2 (ref4_Uncurve_l1 p1 p2 p3 p4 k1) p1 p2 p3 p4 x2 x3 k2) p1 p2 p3 p4 x2 x3 x4 k3 l1 x5 = some r → XR Try.prog 94 0 [] (cd Try.f12 [1,1,1,1,0,1,0,0,1,0,0,1,1,0,0,1,0,0,1,0,1,0,0]) Q3 k3 [(0, vi p1), (1, vi p2), (2, vi p3), (3, vi p4), (11, vl eI x2), (12, vi x3), (13, vi (IntKind.i64.wrap ((IntKind.i64.wrap (p2 - (1 : Int))) - x3))), (14, vi x4), (15, .one (.sl 1 1 0 l1.length)), (57, vi (((([] : List Int) ++ x2).length : Nat) : Int)), (58, vi x5)] [.dead, .arr 1 (eI.els l1)] := by
           intro k3
           induction k3 with
           | zero => intro l1 x5 h; rw [ref4_Uncurve_l3.eq_1] at h; cases h
           | succ k3 ih3 =>
            intro l1 x5 h
            rw [ref4_Uncurve_l3.eq_2] at h
            refine zq fun K36 hK36 => zr (zg [53] 1 [0,1,2,3,11,12,13,14,15,57,58,59] (zd (hK36 _ _ (zq fun K37 hK37 => zC h (fun b38 h => ?_) (fun b38 h => ?_)))))
            ·refine zs (hK37 _ _ (zq fun K39 hK39 => zb 5 (zq fun K40 hK40 => zr (zg [53] 2 [0,1,2,3,11,12,13,14,15,16,57,58] (zd ?_)))))
             refine hK40 _ _ ?_
             obtain ⟨e1, a41, h⟩ := zB h
             obtain ⟨g42, h⟩ := zG h
             obtain ⟨g43, h⟩ := zG h
             obtain ⟨y3, hy44, h⟩ := zB h
             refine zw 10 [(70, vi y3), (69, vi (IntKind.i64.wrap ((IntKind.i64.wrap (p2 - (1 : Int))) - x3))), (68, vi ((x4.fdiv (2 ^ (min x5.toNat (IntKind.i64).bits))).tmod (2 : Int))), (67, vi (x4.fdiv (2 ^ (min x5.toNat (IntKind.i64).bits)))), (66, vi x5), (65, vi x4), (64, vi e1), (63, .one (.pt 1 1 (0 + x5.toNat) 0)), (62, vi x5), (61, .one (.sl 1 1 0 l1.length)), (0, vi p1), (1, vi p2), (2, vi p3), (3, vi p4), (11, vl eI x2), (12, vi x3), (13, vi (IntKind.i64.wrap ((IntKind.i64.wrap (p2 - (1 : Int))) - x3))), (14, vi x4), (15, .one (.sl 1 1 0 l1.length)), (16, vi x5), (57, vi (((([] : List Int) ++ x2).length : Nat) : Int)), (58, vi x5)] ?_ ?_
             ·refine zyp 10 [[pi e1]] [(70, vi (IntKind.i64.wrap (((x4.fdiv (2 ^ (min x5.toNat (IntKind.i64).bits))).tmod (2 : Int)) * 2 ^ (min (IntKind.i64.wrap ((IntKind.i64.wrap (p2 - (1 : Int))) - x3)).toNat (IntKind.i64).bits)))), (69, vi (IntKind.i64.wrap ((IntKind.i64.wrap (p2 - (1 : Int))) - x3))), (68, vi ((x4.fdiv (2 ^ (min x5.toNat (IntKind.i64).bits))).tmod (2 : Int))), (67, vi (x4.fdiv (2 ^ (min x5.toNat (IntKind.i64).bits)))), (66, vi x5), (65, vi x4), (64, vi e1), (63, .one (.pt 1 1 (0 + x5.toNat) 0)), (62, vi x5), (61, .one (.sl 1 1 0 l1.length)), (0, vi p1), (1, vi p2), (2, vi p3), (3, vi p4), (11, vl eI x2), (12, vi x3), (13, vi (IntKind.i64.wrap ((IntKind.i64.wrap (p2 - (1 : Int))) - x3))), (14, vi x4), (15, .one (.sl 1 1 0 l1.length)), (16, vi x5), (57, vi (((([] : List Int) ++ x2).length : Nat) : Int)), (58, vi x5)] [0 ≤ x5 ∧ x5 < ((l1.length : Nat) : Int), (eI.els l1)[(0 + x5.toNat)]? = some [pi e1], 0 ≤ x5, (2 : Int) ≠ 0, 0 ≤ (IntKind.i64.wrap ((IntKind.i64.wrap (p2 - (1 : Int))) - x3))] (⟨Enc.inb' a41, (eI.get0 a41), g42, by decide, g43, trivial⟩) ?_
              rw [show (IntKind.i64.wrap (((x4.fdiv (2 ^ (min x5.toNat (IntKind.i64).bits))).tmod (2 : Int)) * 2 ^ (min (IntKind.i64.wrap ((IntKind.i64.wrap (p2 - (1 : Int))) - x3)).toNat (IntKind.i64).bits))) = y3 from Option.some.inj hy44]
              exact zyd
             refine zp [53] 3 [0,1,2,3,11,12,13,14,15,57,58] [[pi e1]] [(0, vi p1), (1, vi p2), (2, vi p3), (3, vi p4), (11, vl eI x2), (12, vi x3), (13, vi (IntKind.i64.wrap ((IntKind.i64.wrap (p2 - (1 : Int))) - x3))), (14, vi x4), (15, .one (.sl 1 1 0 l1.length)), (57, vi (((([] : List Int) ++ x2).length : Nat) : Int)), (58, vi x5)] [.dead, .arr 1 ((eI.els l1).set (0 + x5.toNat) [pi (IntKind.i64.wrap (e1 + y3))])] [0 ≤ x5 ∧ x5 < ((l1.length : Nat) : Int), (eI.els l1)[(0 + x5.toNat)]? = some [pi e1]] (⟨Enc.inb' a41, (eI.get0 a41), trivial⟩) ?_
             rw [show (eI.els l1).set (0 + x5.toNat) [pi (IntKind.i64.wrap (e1 + y3))] = eI.els (l1.set x5.toNat (IntKind.i64.wrap (e1 + y3))) from eI.set0 _ _ (IntKind.i64.wrap (e1 + y3))]
             refine zd (hK39 _ _ (zr (zg [53] 2 [0,1,2,3,11,12,13,14,15,57,58] (zd ?_))))
             exact XR.sub (Sub.trans (Sub.pick (fr' := [(0, vi p1), (1, vi p2), (2, vi p3), (3, vi p4), (11, vl eI x2), (12, vi x3), (13, vi (IntKind.i64.wrap ((IntKind.i64.wrap (p2 - (1 : Int))) - x3))), (14, vi x4), (15, .one (.sl 1 1 0 l1.length)), (57, vi (((([] : List Int) ++ x2).length : Nat) : Int)), (58, vi (IntKind.i64.wrap (x5 + (1 : Int))))]) [0,1,2,3,11,12,13,14,15,57,58] (by kernel_rfl)) (Sub.frame (fr' := [(0, vi p1), (1, vi p2), (2, vi p3), (3, vi p4), (11, vl eI x2), (12, vi x3), (13, vi (IntKind.i64.wrap ((IntKind.i64.wrap (p2 - (1 : Int))) - x3))), (14, vi x4), (15, .one (.sl 1 1 0 (l1.set x5.toNat (IntKind.i64.wrap (e1 + y3))).length)), (57, vi (((([] : List Int) ++ x2).length : Nat) : Int)), (58, vi (IntKind.i64.wrap (x5 + (1 : Int))))]) ⟨.rfl _, .rfl _, .rfl _, .rfl _, .rfl _, .rfl _, .rfl _, .rfl _, ALe.of_eq (show (.one (.sl 1 1 0 l1.length) : AV) = .one (.sl 1 1 0 (l1.set x5.toNat (IntKind.i64.wrap (e1 + y3))).length) from by simp), .rfl _, .rfl _, trivial⟩)) (ih3 (l1.set x5.toNat (IntKind.i64.wrap (e1 + y3))) (IntKind.i64.wrap (x5 + (1 : Int))) h)
            ·exact zx 4 (hQ3 _ _ _ (hJ2 l1 h _ _ (zk [0,1,2,3,11,12,13,14,15])))
          exact XR.sub (zk [0,1,2,3,11,12,13,14,15,57,58]) (hL3 BIG (([] : List Int) ++ x2) (0 : Int) h)
         ·exact zx 2 (hQ2 _ _ _ (hJ3 x2 h _ _ (zk [0,1,2,3,11,12])))
       exact XR.sub (zk [0,1,2,3,11,12,13,14]) (hL2 BIG (0 : Int) h)
      ·exact zx 0 (hQ1 _ _ _ (hJ4 x2 h _ _ (zk [11])))
    exact XR.sub (zk [0,1,2,3,11,12]) (hL1 BIG (List.replicate p3.toNat (0 : Int)) (0 : Int) h)
  rcases zW h with ⟨b10, h⟩ | ⟨b10, h⟩
  ·exact zr (zg [53] 3 [0,1,2,3,28] (zt 28 b10 (zg [53] 7 [0,1,2,3,35] (zd (hJ1 true h _ _ (zk [0,1,2,3,35]))))))
  ·obtain ⟨g11, h⟩ := zG h
   obtain ⟨y1, hy12, h⟩ := zB h
   refine zr (zv [53] 3 [0,1,2,3,28] [] [(0, vi p1), (1, vi p2), (2, vi p3), (3, vi p4), (28, vb (decide (p4 < (0 : Int))))] [] (zt 28 b10 (zp [53] 5 [0,1,2,3,28,29,33] [] [(0, vi p1), (1, vi p2), (2, vi p3), (3, vi p4), (28, vb false), (29, vi p4), (33, vi (IntKind.i64.wrap ((1 : Int) * 2 ^ (min (IntKind.i64.wrap (p2 * p3)).toNat (IntKind.i64).bits))))] [] [0 ≤ (IntKind.i64.wrap (p2 * p3))] (⟨g11, trivial⟩) ?_)))
   rw [show (IntKind.i64.wrap ((1 : Int) * 2 ^ (min (IntKind.i64.wrap (p2 * p3)).toNat (IntKind.i64).bits))) = y1 from Option.some.inj hy12]
   exact zg [53] 2 [0,1,2,3,35] (zd (hJ1 (decide (y1 ≤ p4)) h _ _ (zk [0,1,2,3,35])))

def law4_LakeCurvesMatchSpec_j4 (x3 : Bool) : Option Bool :=
    some x3

def law4_LakeCurvesMatchSpec_j3 (p1 : Int) (p2 : Int) (p3 : Int) (p4 : Int) : Option Bool :=
    bnd (lake_Uncurve p1 p2 p3 p4) fun r6 =>
    bnd (ref4_Uncurve p1 p2 p3 p4) fun r7 =>
    ift (r6.2 == r7.2)
      (bnd (law4_ints r6.1 r7.1) fun r8 =>
       law4_LakeCurvesMatchSpec_j4 r8)
      (law4_LakeCurvesMatchSpec_j4 false)

def law4_LakeCurvesMatchSpec_j2 (p1 : Int) (p2 : Int) (p3 : Int) (p4 : Int) (x2 : Bool) : Option Bool :=
    ift x2
      (some false)
      (law4_LakeCurvesMatchSpec_j3 p1 p2 p3 p4)

def law4_LakeCurvesMatchSpec_j1 (p1 : Int) (p2 : Int) (p3 : Int) (p4 : Int) (p5 : (List Int)) (r1 : (Int × Int)) (x1 : Bool) : Option Bool :=
    ift x1
      (some false)
      (ift (r1.2 == (0 : Int))
         (bnd (lake_Uncurve p1 p2 (p5.length : Int) r1.1) fun r4 =>
          ift (r4.2 != (0 : Int))
            (law4_LakeCurvesMatchSpec_j2 p1 p2 p3 p4 true)
            (bnd (law4_ints r4.1 p5) fun r5 =>
             law4_LakeCurvesMatchSpec_j2 p1 p2 p3 p4 (!r5)))
         (law4_LakeCurvesMatchSpec_j3 p1 p2 p3 p4))

def law4_LakeCurvesMatchSpec (p1 : Int) (p2 : Int) (p3 : Int) (p4 : Int) (p5 : (List Int)) : Option Bool :=
    bnd (lake_Curve p1 p2 p5) fun r1 =>
    bnd (ref4_Curve p1 p2 p5) fun r2 =>
    bnd (lake_Curve (1 : Int) (1 : Int) [(1 : Int)]) fun r3 =>
    ift (r1.2 != r2.2)
      (law4_LakeCurvesMatchSpec_j1 p1 p2 p3 p4 p5 r1 true)
      (ift (r1.1 != r2.1)
         (law4_LakeCurvesMatchSpec_j1 p1 p2 p3 p4 p5 r1 true)
         (ift (r3.2 != (0 : Int))
            (law4_LakeCurvesMatchSpec_j1 p1 p2 p3 p4 p5 r1 true)
            (law4_LakeCurvesMatchSpec_j1 p1 p2 p3 p4 p5 r1 (r3.1 != (1 : Int)))))


theorem c_law4_LakeCurvesMatchSpec (p1 : Int) (p2 : Int) (p3 : Int) (p4 : Int) (p5 : (List Int)) (r : Bool) (h : law4_LakeCurvesMatchSpec p1 p2 p3 p4 p5 = some r) : PC Try.prog 4 [vi p1, vi p2, vi p3, vi p4, vl eI p5] (vb r) := by
 unfold law4_LakeCurvesMatchSpec at h
 refine zF 99 Try.f4 (zq fun K1 hK1 => zr (zg [] 1 [0,1,2,3,4] (zd (hK1 _ _ (zq fun K2 hK2 => ?_)))))
 obtain ⟨r1, c3, h⟩ := zB h
 refine zr (zg [] 3 [0,1,2,3,4,22,23,24] (zl 9 [vi p1, vi p2, vl eI p5] (.tp [vi r1.1, vi r1.2]) [(25, .tp [vi r1.1, vi r1.2]), (0, vi p1), (1, vi p2), (2, vi p3), (3, vi p4), (4, vl eI p5), (22, vi p1), (23, vi p2), (24, vl eI p5)] (c_lake_Curve _ _ _ _ c3) (zg [] 5 [0,1,2,3,4,11,12] (zd (hK2 _ _ (zq fun K4 hK4 => ?_))))))
 obtain ⟨r2, c5, h⟩ := zB h
 refine zr (zg [] 3 [0,1,2,3,4,11,12,29,30,31] (zl 10 [vi p1, vi p2, vl eI p5] (.tp [vi r2.1, vi r2.2]) [(32, .tp [vi r2.1, vi r2.2]), (0, vi p1), (1, vi p2), (2, vi p3), (3, vi p4), (4, vl eI p5), (11, vi r1.1), (12, vi r1.2), (29, vi p1), (30, vi p2), (31, vl eI p5)] (c_ref4_Curve _ _ _ _ c5) (zg [] 5 [0,1,2,3,4,11,12,13,14] (zd (hK4 _ _ (zq fun K6 hK6 => ?_))))))
 obtain ⟨r3, c7, h⟩ := zB h
 refine zr (zg [] 1 [0,1,2,3,4,11,12,13,14,36] (zl 9 [vi (1 : Int), vi (1 : Int), vl eI [(1 : Int)]] (.tp [vi r3.1, vi r3.2]) [(37, .tp [vi r3.1, vi r3.2]), (0, vi p1), (1, vi p2), (2, vi p3), (3, vi p4), (4, vl eI p5), (11, vi r1.1), (12, vi r1.2), (13, vi r2.1), (14, vi r2.2), (36, vl eI [(1 : Int)])] (c_lake_Curve _ _ _ _ c7) (zg [] 5 [0,1,2,3,4,11,12,13,14,15,16] (zd (hK6 _ _ (zq fun K8 hK8 => zq fun K9 hK9 => ?_))))))
 have hJ1 : ∀ (x1 : Bool), law4_LakeCurvesMatchSpec_j1 p1 p2 p3 p4 p5 r1 x1 = some r → ∀ fr1 st1, Sub 99 0 [] fr1 st1 [(0, vi p1), (1, vi p2), (2, vi p3), (3, vi p4), (4, vl eI p5), (11, vi r1.1), (12, vi r1.2), (55, vb x1)] [] → K9 fr1 st1 := by
  intro x1 h fr1 st1 hS
  unfold law4_LakeCurvesMatchSpec_j1 at h
  refine hK9 _ _ (XW.sub hS ?_)
  refine zC h (fun b13 h => ?_) (fun b13 h => ?_)
  ·refine zq fun K14 hK14 => zr (zg [] 1 [10] (zd (hK14 _ _ (ze ?_))))
   obtain rfl := Option.some.inj h
   exact zf [vb false] (.one (.rfl _ rfl))
  ·refine zs (hK8 _ _ (zq fun K15 hK15 => ?_))
   have hJ3 : ∀ (_ : Unit), law4_LakeCurvesMatchSpec_j3 p1 p2 p3 p4 = some r → ∀ fr1 st1, Sub 99 0 [] fr1 st1 [(0, vi p1), (1, vi p2), (2, vi p3), (3, vi p4)] [] → K15 fr1 st1 := by
    intro _ h fr1 st1 hS
    unfold law4_LakeCurvesMatchSpec_j3 at h
    refine hK15 _ _ (XW.sub hS ?_)
    refine zq fun K25 hK25 => ?_
    obtain ⟨r6, c26, h⟩ := zB h
    refine zr (zg [] 4 [0,1,2,3,76,77,78,79] (za (c_lake_Uncurve _ _ _ _ _ c26) (zv [] 5 [0,1,2,3,12,19] [] [(0, vi p1), (1, vi p2), (2, vi p3), (3, vi p4), (12, vi r6.2), (19, vl eI r6.1)] [] (zd (hK25 _ _ (zq fun K27 hK27 => ?_))))))
    obtain ⟨r7, c28, h⟩ := zB h
    refine zr (zg [] 4 [12,19,84,85,86,87] (za (c_ref4_Uncurve _ _ _ _ _ c28) (zv [] 5 [12,14,19,20] [] [(12, vi r6.2), (14, vi r7.2), (19, vl eI r6.1), (20, vl eI r7.1)] [] (zd (hK27 _ _ (zq fun K29 hK29 => ?_))))))
    have hJ4 : ∀ (x3 : Bool), law4_LakeCurvesMatchSpec_j4 x3 = some r → ∀ fr1 st1, Sub 99 0 [] fr1 st1 [(10, vb x3)] [] → K29 fr1 st1 := by
     intro x3 h fr1 st1 hS
     unfold law4_LakeCurvesMatchSpec_j4 at h
     refine hK29 _ _ (XW.sub hS ?_)
     refine ze ?_
     obtain rfl := Option.some.inj h
     exact zf [vb x3] (.one (.rfl _ rfl))
    rcases zW h with ⟨b30, h⟩ | ⟨b30, h⟩
    ·obtain ⟨r8, c31, h⟩ := zB h
     exact zr (zg [] 4 [19,20,94] (zt 94 b30 (zg [] 2 [94,95,96] (zl 8 [vl eI r6.1, vl eI r7.1] (vb r8) [(97, vb r8), (94, vb true), (95, vl eI r6.1), (96, vl eI r7.1)] (c_law4_ints _ _ _ c31) (zg [] 2 [10] (zd (hJ4 r8 h _ _ (zk [10]))))))))
    ·exact zr (zg [] 4 [19,20,94] (zt 94 b30 (zv [] 5 [10] [] [(10, vb false)] [] (zd (hJ4 false h _ _ (zk [10]))))))
   refine zq fun K16 hK16 => zr (zg [] 2 [0,1,2,3,4,11,57] (zd (hK16 _ _ (zC h (fun b17 h => ?_) (fun b17 h => ?_)))))
   ·refine zq fun K18 hK18 => ?_
    obtain ⟨r4, c19, h⟩ := zB h
    refine zr (zv [] 4 [0,1,2,3,4,11,59,60,62] [] [(0, vi p1), (1, vi p2), (2, vi p3), (3, vi p4), (4, vl eI p5), (11, vi r1.1), (59, vi p1), (60, vi p2), (62, vi ((eI.els p5).length : Int))] [] ?_)
    rw [eI.len p5]
    refine zg [] 1 [0,1,2,3,4,59,60,62,63] (za (c_lake_Uncurve _ _ _ _ _ c19) (zv [] 5 [0,1,2,3,4,17,18] [] [(0, vi p1), (1, vi p2), (2, vi p3), (3, vi p4), (4, vl eI p5), (17, vl eI r4.1), (18, vi r4.2)] [] (zd (hK18 _ _ (zq fun K20 hK20 => ?_)))))
    have hJ2 : ∀ (x2 : Bool), law4_LakeCurvesMatchSpec_j2 p1 p2 p3 p4 x2 = some r → ∀ fr1 st1, Sub 99 0 [] fr1 st1 [(0, vi p1), (1, vi p2), (2, vi p3), (3, vi p4), (74, vb x2)] [] → K20 fr1 st1 := by
     intro x2 h fr1 st1 hS
     unfold law4_LakeCurvesMatchSpec_j2 at h
     refine hK20 _ _ (XW.sub hS ?_)
     refine zC h (fun b23 h => ?_) (fun b23 h => ?_)
     ·refine zq fun K24 hK24 => zr (zg [] 1 [10] (zd (hK24 _ _ (ze ?_))))
      obtain rfl := Option.some.inj h
      exact zf [vb false] (.one (.rfl _ rfl))
     ·exact zs (hJ3 () h _ _ (zk [0,1,2,3]))
    rcases zW h with ⟨b21, h⟩ | ⟨b21, h⟩
    ·exact zr (zg [] 3 [0,1,2,3,4,17,69] (zt 69 b21 (zg [] 5 [0,1,2,3,74] (zd (hJ2 true h _ _ (zk [0,1,2,3,74]))))))
    ·obtain ⟨r5, c22, h⟩ := zB h
     exact zr (zv [] 3 [0,1,2,3,4,17,69] [] [(0, vi p1), (1, vi p2), (2, vi p3), (3, vi p4), (4, vl eI p5), (17, vl eI r4.1), (69, vb (r4.2 != (0 : Int)))] [] (zt 69 b21 (zg [] 2 [0,1,2,3,69,70,71] (za (c_law4_ints _ _ _ c22) (zv [] 2 [0,1,2,3,74] [] [(0, vi p1), (1, vi p2), (2, vi p3), (3, vi p4), (74, vb (!r5))] [] (zd (hJ2 (!r5) h _ _ (zk [0,1,2,3,74]))))))))
   ·exact zs (hJ3 () h _ _ (zk [0,1,2,3]))
 rcases zW h with ⟨b10, h⟩ | ⟨b10, h⟩
 ·exact zr (zg [] 4 [0,1,2,3,4,11,12,13,15,16,43] (zt 43 b10 (zv [] 12 [0,1,2,3,4,11,12,55] [] [(0, vi p1), (1, vi p2), (2, vi p3), (3, vi p4), (4, vl eI p5), (11, vi r1.1), (12, vi r1.2), (55, vb true)] [] (zd (hJ1 true h _ _ (zk [0,1,2,3,4,11,12,55]))))))
 ·rcases zW h with ⟨b11, h⟩ | ⟨b11, h⟩
  ·exact zr (zg [] 4 [0,1,2,3,4,11,12,13,15,16,43] (zt 43 b10 (zg [] 5 [0,1,2,3,4,11,12,15,16,48] (zt 48 b11 (zv [] 7 [0,1,2,3,4,11,12,55] [] [(0, vi p1), (1, vi p2), (2, vi p3), (3, vi p4), (4, vl eI p5), (11, vi r1.1), (12, vi r1.2), (55, vb true)] [] (zd (hJ1 true h _ _ (zk [0,1,2,3,4,11,12,55]))))))))
  ·rcases zW h with ⟨b12, h⟩ | ⟨b12, h⟩
   ·refine zr (zg [] 4 [0,1,2,3,4,11,12,13,15,16,43] (zt 43 b10 (zg [] 5 [0,1,2,3,4,11,12,15,16,48] (zt 48 b11 (zv [] 4 [0,1,2,3,4,11,12,15,52] [] [(0, vi p1), (1, vi p2), (2, vi p3), (3, vi p4), (4, vl eI p5), (11, vi r1.1), (12, vi r1.2), (15, vi r3.1), (52, vb (r3.2 != (0 : Int)))] [] (zt 52 b12 (zg [] 3 [0,1,2,3,4,11,12,55] ?_)))))))
    exact zd (hJ1 true h _ _ (zk [0,1,2,3,4,11,12,55]))
   ·refine zr (zg [] 4 [0,1,2,3,4,11,12,13,15,16,43] (zt 43 b10 (zv [] 5 [0,1,2,3,4,11,12,15,16,48] [] [(0, vi p1), (1, vi p2), (2, vi p3), (3, vi p4), (4, vl eI p5), (11, vi r1.1), (12, vi r1.2), (15, vi r3.1), (16, vi r3.2), (48, vb (r1.1 != r2.1))] [] (zt 48 b11 (zg [] 4 [0,1,2,3,4,11,12,15,52] (zt 52 b12 (zg [] 3 [0,1,2,3,4,11,12,55] ?_)))))))
    exact zd (hJ1 (r3.1 != (1 : Int)) h _ _ (zk [0,1,2,3,4,11,12,55]))

end Go.Proofs.Ytbmkkmbgoenllaa
