/- Printed by a program: what the functions compute, and the proofs of their contracts. -/
import Derived.Test.YtdbfodeghijdlaaChecked
import Derived.Test.YtdbfodeghijdlaaSxB
namespace Go.Proofs.Ytdbfodeghijdlaa
open Go.SX Go
set_option linter.unusedVariables false
set_option linter.unusedSimpArgs false
set_option maxRecDepth 100000
set_option maxHeartbeats 8000000

def column_Pack_1_s_j1 (x1 : Bool) : Option Bool :=
    some x1

def column_Pack_1_s (p1 : Int) (p2 : Int) : Option Bool :=
    ift (decide (p1 < (0 : Int)))
      (column_Pack_1_s_j1 true)
      (grd (0 ≤ p2) <|
       bnd (some (IntKind.i64.wrap ((1 : Int) * 2 ^ (min p2.toNat (IntKind.i64).bits)))) fun y1 =>
       column_Pack_1_s_j1 (decide (y1 ≤ p1)))


theorem c_column_Pack_1_s (p1 : Int) (p2 : Int) (r : Bool) (h : column_Pack_1_s p1 p2 = some r) : PC Try.prog 12 [vi p1, .one (.pv (.rp [[pi p2]] 0 0))] (vb r) := by
 unfold column_Pack_1_s at h
 refine zF 12 Try.f12 (zq fun K1 hK1 => zr (zg [] 1 [0,1] (zd (hK1 _ _ (zq fun K2 hK2 => ?_)))))
 have hJ1 : ∀ (x1 : Bool), column_Pack_1_s_j1 x1 = some r → ∀ fr1 st1, Sub 12 0 [] fr1 st1 [(3, vb x1)] [] → K2 fr1 st1 := by
  intro x1 h fr1 st1 hS
  unfold column_Pack_1_s_j1 at h
  refine hK2 _ _ (XW.sub hS ?_)
  refine ze ?_
  obtain rfl := Option.some.inj h
  exact zf [vb x1] (.one (.rfl _ rfl))
 rcases zW h with ⟨b3, h⟩ | ⟨b3, h⟩
 ·exact zr (zg [] 3 [0,1,6] (zt 6 b3 (zv [] 6 [3] [] [(3, vb true)] [] (zd (hJ1 true h _ _ (zk [3]))))))
 ·obtain ⟨g4, h⟩ := zG h
  obtain ⟨y1, hy5, h⟩ := zB h
  refine zr (zg [] 3 [0,1,6] (zt 6 b3 (zp [] 3 [6,7,9] [[pi p2]] [(6, vb false), (7, vi p1), (9, vi (IntKind.i64.wrap ((1 : Int) * 2 ^ (min p2.toNat (IntKind.i64).bits))))] [] [([[pi p2]] : List (List PV))[0]? = some [pi p2], 0 ≤ p2] (⟨rfl, g4, trivial⟩) ?_)))
  rw [show (IntKind.i64.wrap ((1 : Int) * 2 ^ (min p2.toNat (IntKind.i64).bits))) = y1 from Option.some.inj hy5]
  exact zg [] 3 [3] (zd (hJ1 (decide (y1 ≤ p1)) h _ _ (zk [3])))

def slices_IndexFunc_int_int_of_column_Pack_1_j1 : Option Int :=
    some (-1 : Int)

def slices_IndexFunc_int_int_of_column_Pack_1_l1 (p1 : (List Int)) (p2 : Int) : Nat → Int → Option Int
  | 0, _ => none
  | k1 + 1, x1 =>
    ift (decide (x1 < (p1.length : Int)))
      (bnd (at? p1 x1) fun e1 =>
       bnd (column_Pack_1_s e1 p2) fun r1 =>
       ift r1
         (some x1)
         ((slices_IndexFunc_int_int_of_column_Pack_1_l1 p1 p2 k1) (IntKind.i64.wrap (x1 + (1 : Int)))))
      (slices_IndexFunc_int_int_of_column_Pack_1_j1)

def slices_IndexFunc_int_int_of_column_Pack_1 (p1 : (List Int)) (p2 : Int) : Option Int :=
    slices_IndexFunc_int_int_of_column_Pack_1_l1 p1 p2 BIG (0 : Int)


theorem c_slices_IndexFunc_int_int_of_column_Pack_1 (p1 : (List Int)) (p2 : Int) (r : Int) (h : slices_IndexFunc_int_int_of_column_Pack_1 p1 p2 = some r) : PC Try.prog 19 [vl eI p1, .one (.fn 12 [.pv (.rp [[pi p2]] 0 0)])] (vi r) := by
 unfold slices_IndexFunc_int_int_of_column_Pack_1 at h
 refine zF 19 Try.f19 (zq fun K1 hK1 => zr (zg [] 1 [0,1] (zd (hK1 _ _ (zq fun K2 hK2 => ?_)))))
 have hJ1 : ∀ (_ : Unit), slices_IndexFunc_int_int_of_column_Pack_1_j1 = some r → ∀ fr1 st1, Sub 19 0 [] fr1 st1 [] [] → K2 fr1 st1 := by
  intro _ h fr1 st1 hS
  unfold slices_IndexFunc_int_int_of_column_Pack_1_j1 at h
  refine hK2 _ _ (XW.sub hS ?_)
  refine zq fun K14 hK14 => zr (zg [] 1 [4] (zd (hK14 _ _ (ze ?_))))
  obtain rfl := Option.some.inj h
  exact zf [vi (-1 : Int)] (.one (.rfl _ rfl))
 refine zq fun K3 hK3 => zr (zv [] 2 [0,1,7] [] [(0, vl eI p1), (1, .one (.fn 12 [.pv (.rp [[pi p2]] 0 0)])), (7, vi ((eI.els p1).length : Int))] [] ?_)
 rw [eI.len p1]
 refine zg [] 1 [0,1,7,8] (zd (hK3 _ _ (zb 0 (XW.rounds' BIG (x := cd Try.f19 [1,0,1,0,0]) (by kernel_rfl) fun Q1 hQ1 => ?_))))
 have hL1 : ∀ (k1 : Nat) (x1 : Int), slices_IndexFunc_int_int_of_column_Pack_1_l1 p1 p2 k1 x1 = some r → XR Try.prog 19 0 [] (cd Try.f19 [1,0,1,0,0]) Q1 k1 [(0, vl eI p1), (1, .one (.fn 12 [.pv (.rp [[pi p2]] 0 0)])), (7, vi (p1.length : Int)), (8, vi x1)] [] := by
  intro k1
  induction k1 with
  | zero => intro x1 h; rw [slices_IndexFunc_int_int_of_column_Pack_1_l1.eq_1] at h; cases h
  | succ k1 ih1 =>
   intro x1 h
   rw [slices_IndexFunc_int_int_of_column_Pack_1_l1.eq_2] at h
   refine zq fun K4 hK4 => zr (zg [] 1 [0,1,7,8,9] (zd (hK4 _ _ (zq fun K5 hK5 => zC h (fun b6 h => ?_) (fun b6 h => ?_)))))
   ·refine zs (hK5 _ _ (zq fun K7 hK7 => zb 1 (zq fun K8 hK8 => zr (zg [] 2 [0,1,5,7,8] (zd ?_)))))
    refine hK8 _ _ (zq fun K9 hK9 => ?_)
    obtain ⟨e1, a10, h⟩ := zB h
    obtain ⟨r1, c11, h⟩ := zB h
    refine zr (zp [] 5 [0,1,5,7,8,11,15] [[pi e1]] [(0, vl eI p1), (1, .one (.fn 12 [.pv (.rp [[pi p2]] 0 0)])), (5, vi x1), (7, vi (p1.length : Int)), (8, vi x1), (11, .one (.fn 12 [.pv (.rp [[pi p2]] 0 0)])), (15, vi e1)] [] [0 ≤ x1 ∧ x1 < ((eI.els p1).length : Int) ∧ elemsOk 1 (eI.els p1), (eI.els p1)[x1.toNat]? = some [pi e1]] (⟨eI.inb a10, (eI.get a10), trivial⟩) (za (c_column_Pack_1_s _ _ _ c11) (zd (hK9 _ _ (zC h (fun b12 h => ?_) (fun b12 h => ?_))))))
    ·refine zq fun K13 hK13 => zr (zg [] 2 [4] (zd (hK13 _ _ (ze (hQ1 _ _ _ ?_)))))
     obtain rfl := Option.some.inj h
     exact zf [vi x1] (.one (.rfl _ rfl))
    ·exact zs (hK7 _ _ (zr (zv [] 2 [0,1,7,8] [] [(0, vl eI p1), (1, .one (.fn 12 [.pv (.rp [[pi p2]] 0 0)])), (7, vi (p1.length : Int)), (8, vi (IntKind.i64.wrap (x1 + (1 : Int))))] [] (zd (XR.sub (zk [0,1,7,8]) (ih1 (IntKind.i64.wrap (x1 + (1 : Int))) h))))))
   ·exact zx 0 (hQ1 _ _ _ (hJ1 () h _ _ (zk [])))
 exact XR.sub (zk [0,1,7,8]) (hL1 BIG (0 : Int) h)

def slices_ContainsFunc_int_int_of_column_Pack_1 (p1 : (List Int)) (p2 : Int) : Option Bool :=
    bnd (slices_IndexFunc_int_int_of_column_Pack_1 p1 p2) fun r1 =>
    some (decide ((0 : Int) ≤ r1))


theorem c_slices_ContainsFunc_int_int_of_column_Pack_1 (p1 : (List Int)) (p2 : Int) (r : Bool) (h : slices_ContainsFunc_int_int_of_column_Pack_1 p1 p2 = some r) : PC Try.prog 11 [vl eI p1, .one (.fn 12 [.pv (.rp [[pi p2]] 0 0)])] (vb r) := by
 unfold slices_ContainsFunc_int_int_of_column_Pack_1 at h
 refine zF 9 Try.f11 (zq fun K1 hK1 => zr (zg [] 1 [0,1] (zd (hK1 _ _ (zq fun K2 hK2 => ?_)))))
 obtain ⟨r1, c3, h⟩ := zB h
 refine zr (zg [] 2 [5,6] (zl 19 [vl eI p1, .one (.fn 12 [.pv (.rp [[pi p2]] 0 0)])] (vi r1) [(7, vi r1), (5, vl eI p1), (6, .one (.fn 12 [.pv (.rp [[pi p2]] 0 0)]))] (c_slices_IndexFunc_int_int_of_column_Pack_1 _ _ _ c3) (zg [] 2 [4] (zd (hK2 _ _ (ze ?_))))))
 obtain rfl := Option.some.inj h
 exact zf [vb (decide ((0 : Int) ≤ r1))] (.one (.rfl _ rfl))

def column_pack_j1 (rec2 : List Int → Int → Option (List Int)) (x2 : Int) (l3 : List Int) : Option (List Int) :=
    rec2 l3 (IntKind.i64.wrap (x2 + (1 : Int)))

def column_pack_j2 (rec1 : List Int → Int → Option (List Int)) (x1 : Int) (l4 : List Int) : Option (List Int) :=
    rec1 l4 (IntKind.i64.wrap (x1 + (1 : Int)))

def column_pack_l2 (rec1 : List Int → Int → Option (List Int)) (p1 : Int) (x1 : Int) (e1 : Int) : Nat → List Int → Int → Option (List Int)
  | 0, _, _ => none
  | k2 + 1, l2, x2 =>
    ift (decide (x2 < p1))
      (grd (0 ≤ x2) <|
       bnd (some (IntKind.i64.wrap (BitVec.ofInt (IntKind.i64).bits (e1.fdiv (2 ^ (min x2.toNat (IntKind.i64).bits))) &&& BitVec.ofInt (IntKind.i64).bits (1 : Int)).toNat)) fun y2 =>
       ift (y2 == (1 : Int))
         (bnd (some (IntKind.i64.wrap ((IntKind.i64.wrap ((IntKind.i64.wrap (x1 * p1)) + x2)).tdiv (8 : Int)))) fun y3 =>
          bnd (at? l2 y3) fun e2 =>
          bnd (some ((IntKind.i64.wrap ((IntKind.i64.wrap (x1 * p1)) + x2)).tmod (8 : Int))) fun y4 =>
          grd (0 ≤ y4) <|
          bnd (some (IntKind.u8.wrap (BitVec.ofInt (IntKind.u8).bits e2 ||| BitVec.ofInt (IntKind.u8).bits (IntKind.u8.wrap ((1 : Int) * 2 ^ (min y4.toNat (IntKind.u8).bits)))).toNat)) fun y5 =>
          column_pack_j1 (column_pack_l2 rec1 p1 x1 e1 k2) x2 (l2.set y3.toNat y5))
         (column_pack_j1 (column_pack_l2 rec1 p1 x1 e1 k2) x2 l2))
      (column_pack_j2 rec1 x1 l2)

def column_pack_j3 (l5 : List Int) : Option (List Int) :=
    some l5

def column_pack_l1 (p1 : Int) (p2 : (List Int)) : Nat → List Int → Int → Option (List Int)
  | 0, _, _ => none
  | k1 + 1, l1, x1 =>
    ift (decide (x1 < (p2.length : Int)))
      (bnd (at? p2 x1) fun e1 =>
       column_pack_l2 (column_pack_l1 p1 p2 k1) p1 x1 e1 BIG l1 (0 : Int))
      (column_pack_j3 l1)

def column_pack (p1 : Int) (p2 : (List Int)) : Option (List Int) :=
    bnd (some (IntKind.i64.wrap ((IntKind.i64.wrap ((p2.length : Int) * p1)) + (7 : Int)))) fun y1 =>
    grd (0 ≤ (IntKind.i64.wrap (y1.tdiv (8 : Int))) ∧ (IntKind.i64.wrap (y1.tdiv (8 : Int))) ≤ (IntKind.i64.wrap (y1.tdiv (8 : Int))) ∧ (IntKind.i64.wrap (y1.tdiv (8 : Int))) ≤ 4294967296) <|
    column_pack_l1 p1 p2 BIG (List.replicate (IntKind.i64.wrap (y1.tdiv (8 : Int))).toNat (0 : Int)) (0 : Int)


theorem c_column_pack (p1 : Int) (p2 : (List Int)) (r : (List Int)) (h : column_pack p1 p2 = some r) : PC Try.prog 13 [vi p1, vl eI p2] (vl (eK .u8) r) := by
 unfold column_pack at h
 refine zF 53 Try.f13 (zq fun K1 hK1 => zr (zg [] 1 [0,1] (zd (hK1 _ _ (zq fun K2 hK2 => ?_)))))
 obtain ⟨y1, hy3, h⟩ := zB h
 obtain ⟨g5, h⟩ := zG h
 refine zr (zv [] 2 [0,1,10] [] [(0, vi p1), (1, vl eI p2), (10, vi ((eI.els p2).length : Int))] [] ?_)
 rw [eI.len p2]
 refine zv [] 3 [0,1,13] [] [(0, vi p1), (1, vl eI p2), (13, vi (IntKind.i64.wrap ((IntKind.i64.wrap ((p2.length : Int) * p1)) + (7 : Int))))] [] ?_
 rw [show (IntKind.i64.wrap ((IntKind.i64.wrap ((p2.length : Int) * p1)) + (7 : Int))) = y1 from Option.some.inj hy3]
 refine zp [] 2 [0,1,15] [] [(0, vi p1), (1, vl eI p2), (15, .one (.sl 0 1 0 ((IntKind.i64.wrap (y1.tdiv (8 : Int))).toNat)))] [.arr 1 (List.replicate (IntKind.i64.wrap (y1.tdiv (8 : Int))).toNat [.s (.int .u8 (0 : Int))])] [(8 : Int) ≠ 0, 0 ≤ (IntKind.i64.wrap (y1.tdiv (8 : Int))), (IntKind.i64.wrap (y1.tdiv (8 : Int))) ≤ (IntKind.i64.wrap (y1.tdiv (8 : Int))), (IntKind.i64.wrap (y1.tdiv (8 : Int))) ≤ 4294967296] (⟨by decide, g5.1, g5.2.1, g5.2.2, trivial⟩) ?_
 rw [show List.replicate (IntKind.i64.wrap (y1.tdiv (8 : Int))).toNat [.s (.int .u8 (0 : Int))] = (eK .u8).els (List.replicate (IntKind.i64.wrap (y1.tdiv (8 : Int))).toNat (0 : Int)) from (eK .u8).rep _ (0 : Int)]
 refine zg [] 1 [0,1,5] (zd (hK2 _ _ (zq fun K6 hK6 => ?_)))
 have hJ3 : ∀ (l5 : List Int), column_pack_j3 l5 = some r → ∀ fr1 st1, Sub 53 0 [] fr1 st1 [(5, .one (.sl 0 1 0 l5.length))] [.arr 1 ((eK .u8).els l5)] → K6 fr1 st1 := by
  intro l5 h fr1 st1 hS
  unfold column_pack_j3 at h
  refine hK6 _ _ (XW.sub hS ?_)
  refine zq fun K29 hK29 => zr (zg [] 2 [4] (zd (hK29 _ _ (ze ?_))))
  obtain rfl := Option.some.inj h
  exact zf [.one (.sl 0 1 0 l5.length)] (.one (cf_sl (eK .u8) l5 rfl rfl rfl))
 refine zq fun K7 hK7 => zr (zv [] 2 [0,5,16,17] [] [(0, vi p1), (5, .one (.sl 0 1 0 ((IntKind.i64.wrap (y1.tdiv (8 : Int))).toNat))), (16, vl eI p2), (17, vi ((eI.els p2).length : Int))] [.arr 1 ((eK .u8).els (List.replicate (IntKind.i64.wrap (y1.tdiv (8 : Int))).toNat (0 : Int)))] ?_)
 rw [eI.len p2]
 refine zg [] 1 [0,5,16,17,18] (zd (hK7 _ _ (zb 0 (XW.rounds' BIG (x := cd Try.f13 [1,1,0,1,0,0]) (by kernel_rfl) fun Q1 hQ1 => ?_))))
 have hL1 : ∀ (k1 : Nat) (l1 : List Int) (x1 : Int), column_pack_l1 p1 p2 k1 l1 x1 = some r → XR Try.prog 53 0 [] (cd Try.f13 [1,1,0,1,0,0]) Q1 k1 [(0, vi p1), (5, .one (.sl 0 1 0 l1.length)), (16, vl eI p2), (17, vi (p2.length : Int)), (18, vi x1)] [.arr 1 ((eK .u8).els l1)] := by
  intro k1
  induction k1 with
  | zero => intro l1 x1 h; rw [column_pack_l1.eq_1] at h; cases h
  | succ k1 ih1 =>
   intro l1 x1 h
   rw [column_pack_l1.eq_2] at h
   refine zq fun K8 hK8 => zr (zg [] 1 [0,5,16,17,18,19] (zd (hK8 _ _ (zq fun K9 hK9 => zC h (fun b10 h => ?_) (fun b10 h => ?_)))))
   ·refine zs (hK9 _ _ (zq fun K11 hK11 => ?_))
    have hJ2 : ∀ (l4 : List Int), column_pack_j2 (column_pack_l1 p1 p2 k1) x1 l4 = some r → ∀ fr1 st1, Sub 53 0 [] fr1 st1 [(0, vi p1), (5, .one (.sl 0 1 0 l4.length)), (16, vl eI p2), (17, vi (p2.length : Int)), (18, vi x1)] [.arr 1 ((eK .u8).els l4)] → K11 fr1 st1 := by
     intro l4 h fr1 st1 hS
     unfold column_pack_j2 at h
     refine hK11 _ _ (XW.sub hS ?_)
     exact zr (zg [] 2 [0,5,16,17,18] (zd (XR.sub (zk [0,5,16,17,18]) (ih1 l4 (IntKind.i64.wrap (x1 + (1 : Int))) h))))
    refine zb 1 (zq fun K12 hK12 => ?_)
    obtain ⟨e1, a13, h⟩ := zB h
    refine zr (zo [] 5 [0,5,6,7,16,17,18] [[pi e1]] [0 ≤ x1 ∧ x1 < ((eI.els p2).length : Int) ∧ elemsOk 1 (eI.els p2), (eI.els p2)[x1.toNat]? = some [pi e1]] (⟨eI.inb a13, (eI.get a13), trivial⟩) (zd (hK12 _ _ (zq fun K14 hK14 => zr (zv [] 2 [0,5,6,7,16,17,18,23,24] [] [(0, vi p1), (5, .one (.sl 0 1 0 l1.length)), (6, vi x1), (7, vi e1), (16, vl eI p2), (17, vi (p2.length : Int)), (18, vi x1), (23, vi p1), (24, vi (0 : Int))] [.arr 1 ((eK .u8).els l1)] (zd ?_))))))
    refine hK14 _ _ (zb 2 (XW.rounds' BIG (x := cd Try.f13 [1,1,0,1,0,0,1,1,0,0,1,1,0,0]) (by kernel_rfl) fun Q2 hQ2 => ?_))
    have hL2 : ∀ (k2 : Nat) (l2 : List Int) (x2 : Int), column_pack_l2 (column_pack_l1 p1 p2 k1) p1 x1 e1 k2 l2 x2 = some r → XR Try.prog 53 0 [] (cd Try.f13 [1,1,0,1,0,0,1,1,0,0,1,1,0,0]) Q2 k2 [(0, vi p1), (5, .one (.sl 0 1 0 l2.length)), (6, vi x1), (7, vi e1), (16, vl eI p2), (17, vi (p2.length : Int)), (18, vi x1), (23, vi p1), (24, vi x2)] [.arr 1 ((eK .u8).els l2)] := by
     intro k2
     induction k2 with
     | zero => intro l2 x2 h; rw [column_pack_l2.eq_1] at h; cases h
     | succ k2 ih2 =>
      intro l2 x2 h
      rw [column_pack_l2.eq_2] at h
      refine zq fun K15 hK15 => zr (zg [] 1 [0,5,6,7,16,17,18,23,24,25] (zd (hK15 _ _ (zq fun K16 hK16 => zC h (fun b17 h => ?_) (fun b17 h => ?_)))))
      ·refine zs (hK16 _ _ (zq fun K18 hK18 => ?_))
       have hJ1 : ∀ (l3 : List Int), column_pack_j1 (column_pack_l2 (column_pack_l1 p1 p2 k1) p1 x1 e1 k2) x2 l3 = some r → ∀ fr1 st1, Sub 53 0 [] fr1 st1 [(0, vi p1), (5, .one (.sl 0 1 0 l3.length)), (6, vi x1), (7, vi e1), (16, vl eI p2), (17, vi (p2.length : Int)), (18, vi x1), (23, vi p1), (24, vi x2)] [.arr 1 ((eK .u8).els l3)] → K18 fr1 st1 := by
        intro l3 h fr1 st1 hS
        unfold column_pack_j1 at h
        refine hK18 _ _ (XW.sub hS ?_)
        exact zr (zg [] 2 [0,5,6,7,16,17,18,23,24] (zd (XR.sub (zk [0,5,6,7,16,17,18,23,24]) (ih2 l3 (IntKind.i64.wrap (x2 + (1 : Int))) h))))
       refine zb 3 (zq fun K19 hK19 => zr (zg [] 2 [0,5,6,7,8,16,17,18,23,24] (zd (hK19 _ _ (zq fun K20 hK20 => ?_)))))
       obtain ⟨g21, h⟩ := zG h
       obtain ⟨y2, hy22, h⟩ := zB h
       refine zr (zp [] 4 [0,5,6,7,8,16,17,18,23,24,30] [] [(0, vi p1), (5, .one (.sl 0 1 0 l2.length)), (6, vi x1), (7, vi e1), (8, vi x2), (16, vl eI p2), (17, vi (p2.length : Int)), (18, vi x1), (23, vi p1), (24, vi x2), (30, vi (IntKind.i64.wrap (BitVec.ofInt (IntKind.i64).bits (e1.fdiv (2 ^ (min x2.toNat (IntKind.i64).bits))) &&& BitVec.ofInt (IntKind.i64).bits (1 : Int)).toNat))] [.arr 1 ((eK .u8).els l2)] [0 ≤ x2] (⟨g21, trivial⟩) ?_)
       rw [show (IntKind.i64.wrap (BitVec.ofInt (IntKind.i64).bits (e1.fdiv (2 ^ (min x2.toNat (IntKind.i64).bits))) &&& BitVec.ofInt (IntKind.i64).bits (1 : Int)).toNat) = y2 from Option.some.inj hy22]
       refine zg [] 1 [0,5,6,7,8,16,17,18,23,24,31] (zd (hK20 _ _ (zC h (fun b23 h => ?_) (fun b23 h => ?_))))
       ·obtain ⟨y3, hy24, h⟩ := zB h
        obtain ⟨e2, a25, h⟩ := zB h
        obtain ⟨y4, hy26, h⟩ := zB h
        obtain ⟨g27, h⟩ := zG h
        obtain ⟨y5, hy28, h⟩ := zB h
        refine zw 16 [(47, vk .u8 (IntKind.u8.wrap ((1 : Int) * 2 ^ (min y4.toNat (IntKind.u8).bits)))), (46, vi y4), (45, vi (IntKind.i64.wrap ((IntKind.i64.wrap (x1 * p1)) + x2))), (44, vi x2), (43, vi (IntKind.i64.wrap (x1 * p1))), (42, vi p1), (41, vi x1), (40, vk .u8 e2), (39, .one (.pt 0 1 (0 + y3.toNat) 0)), (38, vi y3), (37, vi (IntKind.i64.wrap ((IntKind.i64.wrap (x1 * p1)) + x2))), (36, vi x2), (35, vi (IntKind.i64.wrap (x1 * p1))), (34, vi p1), (33, vi x1), (32, .one (.sl 0 1 0 l2.length)), (0, vi p1), (5, .one (.sl 0 1 0 l2.length)), (6, vi x1), (7, vi e1), (8, vi x2), (16, vl eI p2), (17, vi (p2.length : Int)), (18, vi x1), (23, vi p1), (24, vi x2), (31, vb (y2 == (1 : Int)))] ?_ ?_
        ·refine zyp 7 [] [(38, vi (IntKind.i64.wrap ((IntKind.i64.wrap ((IntKind.i64.wrap (x1 * p1)) + x2)).tdiv (8 : Int)))), (37, vi (IntKind.i64.wrap ((IntKind.i64.wrap (x1 * p1)) + x2))), (36, vi x2), (35, vi (IntKind.i64.wrap (x1 * p1))), (34, vi p1), (33, vi x1), (32, .one (.sl 0 1 0 l2.length)), (0, vi p1), (5, .one (.sl 0 1 0 l2.length)), (6, vi x1), (7, vi e1), (8, vi x2), (16, vl eI p2), (17, vi (p2.length : Int)), (18, vi x1), (23, vi p1), (24, vi x2), (31, vb (y2 == (1 : Int)))] [(8 : Int) ≠ 0] (⟨by decide, trivial⟩) ?_
         rw [show (IntKind.i64.wrap ((IntKind.i64.wrap ((IntKind.i64.wrap (x1 * p1)) + x2)).tdiv (8 : Int))) = y3 from Option.some.inj hy24]
         refine zyp 8 [[.s (.int .u8 e2)]] [(46, vi ((IntKind.i64.wrap ((IntKind.i64.wrap (x1 * p1)) + x2)).tmod (8 : Int))), (45, vi (IntKind.i64.wrap ((IntKind.i64.wrap (x1 * p1)) + x2))), (44, vi x2), (43, vi (IntKind.i64.wrap (x1 * p1))), (42, vi p1), (41, vi x1), (40, vk .u8 e2), (39, .one (.pt 0 1 (0 + y3.toNat) 0)), (38, vi y3), (37, vi (IntKind.i64.wrap ((IntKind.i64.wrap (x1 * p1)) + x2))), (36, vi x2), (35, vi (IntKind.i64.wrap (x1 * p1))), (34, vi p1), (33, vi x1), (32, .one (.sl 0 1 0 l2.length)), (0, vi p1), (5, .one (.sl 0 1 0 l2.length)), (6, vi x1), (7, vi e1), (8, vi x2), (16, vl eI p2), (17, vi (p2.length : Int)), (18, vi x1), (23, vi p1), (24, vi x2), (31, vb (y2 == (1 : Int)))] [0 ≤ y3 ∧ y3 < ((l2.length : Nat) : Int), ((eK .u8).els l2)[(0 + y3.toNat)]? = some [.s (.int .u8 e2)], (8 : Int) ≠ 0] (⟨Enc.inb' a25, ((eK .u8).get0 a25), by decide, trivial⟩) ?_
         rw [show ((IntKind.i64.wrap ((IntKind.i64.wrap (x1 * p1)) + x2)).tmod (8 : Int)) = y4 from Option.some.inj hy26]
         exact zyo 1 [] [0 ≤ y4] (⟨g27, trivial⟩) zyd
        refine zv [] 1 [0,5,6,7,16,17,18,23,24,32,38,48] [] [(0, vi p1), (5, .one (.sl 0 1 0 l2.length)), (6, vi x1), (7, vi e1), (16, vl eI p2), (17, vi (p2.length : Int)), (18, vi x1), (23, vi p1), (24, vi x2), (32, .one (.sl 0 1 0 l2.length)), (38, vi y3), (48, vk .u8 (IntKind.u8.wrap (BitVec.ofInt (IntKind.u8).bits e2 ||| BitVec.ofInt (IntKind.u8).bits (IntKind.u8.wrap ((1 : Int) * 2 ^ (min y4.toNat (IntKind.u8).bits)))).toNat))] [.arr 1 ((eK .u8).els l2)] ?_
        rw [show (IntKind.u8.wrap (BitVec.ofInt (IntKind.u8).bits e2 ||| BitVec.ofInt (IntKind.u8).bits (IntKind.u8.wrap ((1 : Int) * 2 ^ (min y4.toNat (IntKind.u8).bits)))).toNat) = y5 from Option.some.inj hy28]
        refine zp [] 2 [0,5,6,7,16,17,18,23,24] [[.s (.int .u8 e2)]] [(0, vi p1), (5, .one (.sl 0 1 0 l2.length)), (6, vi x1), (7, vi e1), (16, vl eI p2), (17, vi (p2.length : Int)), (18, vi x1), (23, vi p1), (24, vi x2)] [.arr 1 (((eK .u8).els l2).set (0 + y3.toNat) [.s (.int .u8 y5)])] [0 ≤ y3 ∧ y3 < ((l2.length : Nat) : Int), ((eK .u8).els l2)[(0 + y3.toNat)]? = some [.s (.int .u8 e2)]] (⟨Enc.inb' a25, ((eK .u8).get0 a25), trivial⟩) ?_
        rw [show ((eK .u8).els l2).set (0 + y3.toNat) [.s (.int .u8 y5)] = (eK .u8).els (l2.set y3.toNat y5) from (eK .u8).set0 _ _ y5]
        refine zd ?_
        exact hJ1 (l2.set y3.toNat y5) h _ _ (Sub.trans (Sub.pick (fr' := [(0, vi p1), (5, .one (.sl 0 1 0 l2.length)), (6, vi x1), (7, vi e1), (16, vl eI p2), (17, vi (p2.length : Int)), (18, vi x1), (23, vi p1), (24, vi x2)]) [0,5,6,7,16,17,18,23,24] (by kernel_rfl)) (Sub.frame (fr' := [(0, vi p1), (5, .one (.sl 0 1 0 (l2.set y3.toNat y5).length)), (6, vi x1), (7, vi e1), (16, vl eI p2), (17, vi (p2.length : Int)), (18, vi x1), (23, vi p1), (24, vi x2)]) ⟨.rfl _, ALe.of_eq (show (.one (.sl 0 1 0 l2.length) : AV) = .one (.sl 0 1 0 (l2.set y3.toNat y5).length) from by simp), .rfl _, .rfl _, .rfl _, .rfl _, .rfl _, .rfl _, .rfl _, trivial⟩))
       ·exact zs (hJ1 l2 h _ _ (zk [0,5,6,7,16,17,18,23,24]))
      ·exact zx 2 (hQ2 _ _ _ (hJ2 l2 h _ _ (zk [0,5,16,17,18])))
    exact XR.sub (zk [0,5,6,7,16,17,18,23,24]) (hL2 BIG l1 (0 : Int) h)
   ·exact zx 0 (hQ1 _ _ _ (hJ3 l1 h _ _ (zk [5])))
 exact XR.sub (Sub.trans (Sub.pick (fr' := [(0, vi p1), (5, .one (.sl 0 1 0 ((IntKind.i64.wrap (y1.tdiv (8 : Int))).toNat))), (16, vl eI p2), (17, vi (p2.length : Int)), (18, vi (0 : Int))]) [0,5,16,17,18] (by kernel_rfl)) (Sub.frame (fr' := [(0, vi p1), (5, .one (.sl 0 1 0 (List.replicate (IntKind.i64.wrap (y1.tdiv (8 : Int))).toNat (0 : Int)).length)), (16, vl eI p2), (17, vi (p2.length : Int)), (18, vi (0 : Int))]) ⟨.rfl _, ALe.of_eq (show (.one (.sl 0 1 0 ((IntKind.i64.wrap (y1.tdiv (8 : Int))).toNat)) : AV) = .one (.sl 0 1 0 (List.replicate (IntKind.i64.wrap (y1.tdiv (8 : Int))).toNat (0 : Int)).length) from by simp), .rfl _, .rfl _, .rfl _, trivial⟩)) (hL1 BIG (List.replicate (IntKind.i64.wrap (y1.tdiv (8 : Int))).toNat (0 : Int)) (0 : Int) h)

def column_Pack_j1 (p1 : Int) (p2 : (List Int)) (x1 : Bool) : Option ((List Int) × Int) :=
    ift x1
      (some ([], (3 : Int)))
      (bnd (column_pack p1 p2) fun r2 =>
       some (r2, (0 : Int)))

def column_Pack (p1 : Int) (p2 : (List Int)) : Option ((List Int) × Int) :=
    ift (decide (p1 < (0 : Int)))
      (column_Pack_j1 p1 p2 true)
      (ift (decide ((62 : Int) < p1))
         (column_Pack_j1 p1 p2 true)
         (bnd (slices_ContainsFunc_int_int_of_column_Pack_1 p2 p1) fun r1 =>
          column_Pack_j1 p1 p2 r1))


theorem c_column_Pack (p1 : Int) (p2 : (List Int)) (r : ((List Int) × Int)) (h : column_Pack p1 p2 = some r) : PC Try.prog 4 [vi p1, vl eI p2] (.tp [vl (eK .u8) r.1, vi r.2]) := by
 unfold column_Pack at h
 refine zF 20 Try.f4 (zq fun K1 hK1 => zr (zg [] 3 [1,2] (zd (hK1 _ _ (zq fun K2 hK2 => zq fun K3 hK3 => ?_)))))
 have hJ1 : ∀ (x1 : Bool), column_Pack_j1 p1 p2 x1 = some r → ∀ fr1 st1, Sub 20 0 [] fr1 st1 [(1, vl eI p2), (2, .one (.pv (.rp [[pi p1]] 0 0))), (16, vb x1)] [] → K3 fr1 st1 := by
  intro x1 h fr1 st1 hS
  unfold column_Pack_j1 at h
  refine hK3 _ _ (XW.sub hS ?_)
  refine zC h (fun b7 h => ?_) (fun b7 h => ?_)
  ·refine zq fun K8 hK8 => zr (zg [] 2 [4,5] (zd (hK8 _ _ (ze ?_))))
   obtain rfl := Option.some.inj h
   exact zf [.one (.pv (.s (.slice none 0 0))), vi (3 : Int)] (.tpc (.one (.nl)) (.tpc (.one (.rfl _ rfl)) (.tp0)))
  ·refine zs (hK2 _ _ (zq fun K9 hK9 => ?_))
   obtain ⟨r2, c10, h⟩ := zB h
   refine zr (zu [] 2 [17,18] [[pi p1]] (zl 13 [vi p1, vl eI p2] (vl (eK .u8) r2) [(19, vl (eK .u8) r2), (17, vi p1), (18, vl eI p2)] (c_column_pack _ _ _ c10) (zg [] 2 [4,5] (zd (hK9 _ _ (ze ?_))))))
   obtain rfl := Option.some.inj h
   exact zf [vl (eK .u8) r2, vi (0 : Int)] (.tpc (.one (.rfl _ rfl)) (.tpc (.one (.rfl _ rfl)) (.tp0)))
 rcases zW h with ⟨b4, h⟩ | ⟨b4, h⟩
 ·exact zr (zu [] 3 [1,2,8] [[pi p1]] (zt 8 b4 (zv [] 8 [1,2,16] [] [(1, vl eI p2), (2, .one (.pv (.rp [[pi p1]] 0 0))), (16, vb true)] [] (zd (hJ1 true h _ _ (zk [1,2,16]))))))
 ·rcases zW h with ⟨b5, h⟩ | ⟨b5, h⟩
  ·exact zr (zu [] 3 [1,2,8] [[pi p1]] (zt 8 b4 (zu [] 4 [1,2,12] [[pi p1]] (zt 12 b5 (zv [] 4 [1,2,16] [] [(1, vl eI p2), (2, .one (.pv (.rp [[pi p1]] 0 0))), (16, vb true)] [] (zd (hJ1 true h _ _ (zk [1,2,16]))))))))
  ·obtain ⟨r1, c6, h⟩ := zB h
   refine zr (zu [] 3 [1,2,8] [[pi p1]] (zt 8 b4 (zu [] 4 [1,2,12] [[pi p1]] (zt 12 b5 (zv [] 2 [1,2,12,13,14] [] [(1, vl eI p2), (2, .one (.pv (.rp [[pi p1]] 0 0))), (12, vb false), (13, vl eI p2), (14, .one (.fn 12 [.pv (.rp [[pi p1]] 0 0)]))] [] (za (c_slices_ContainsFunc_int_int_of_column_Pack_1 _ _ _ c6) (zg [] 1 [1,2,16] ?_)))))))
   exact zd (hJ1 r1 h _ _ (zk [1,2,16]))

def ref2_fits_j1 (rec1 : Int → Option Bool) (x1 : Int) (x2 : Bool) : Option Bool :=
    ift x2
      (some false)
      (rec1 (IntKind.i64.wrap (x1 + (1 : Int))))

def ref2_fits_j2 : Option Bool :=
    some true

def ref2_fits_l1 (p1 : Int) (p2 : (List Int)) : Nat → Int → Option Bool
  | 0, _ => none
  | k1 + 1, x1 =>
    ift (decide (x1 < (p2.length : Int)))
      (bnd (at? p2 x1) fun e1 =>
       ift (decide (e1 < (0 : Int)))
         (ref2_fits_j1 (ref2_fits_l1 p1 p2 k1) x1 true)
         (grd (0 ≤ p1) <|
          bnd (some (IntKind.i64.wrap ((1 : Int) * 2 ^ (min p1.toNat (IntKind.i64).bits)))) fun y1 =>
          ref2_fits_j1 (ref2_fits_l1 p1 p2 k1) x1 (decide (y1 ≤ e1))))
      (ref2_fits_j2)

def ref2_fits (p1 : Int) (p2 : (List Int)) : Option Bool :=
    ref2_fits_l1 p1 p2 BIG (0 : Int)


theorem c_ref2_fits (p1 : Int) (p2 : (List Int)) (r : Bool) (h : ref2_fits p1 p2 = some r) : PC Try.prog 14 [vi p1, vl eI p2] (vb r) := by
 unfold ref2_fits at h
 refine zF 22 Try.f14 (zq fun K1 hK1 => zr (zg [] 1 [0,1] (zd (hK1 _ _ (zq fun K2 hK2 => ?_)))))
 have hJ2 : ∀ (_ : Unit), ref2_fits_j2 = some r → ∀ fr1 st1, Sub 22 0 [] fr1 st1 [] [] → K2 fr1 st1 := by
  intro _ h fr1 st1 hS
  unfold ref2_fits_j2 at h
  refine hK2 _ _ (XW.sub hS ?_)
  refine zq fun K16 hK16 => zr (zg [] 1 [4] (zd (hK16 _ _ (ze ?_))))
  obtain rfl := Option.some.inj h
  exact zf [vb true] (.one (.rfl _ rfl))
 refine zq fun K3 hK3 => zr (zv [] 2 [0,7,8] [] [(0, vi p1), (7, vl eI p2), (8, vi ((eI.els p2).length : Int))] [] ?_)
 rw [eI.len p2]
 refine zg [] 1 [0,7,8,9] (zd (hK3 _ _ (zb 0 (XW.rounds' BIG (x := cd Try.f14 [1,0,1,0,0]) (by kernel_rfl) fun Q1 hQ1 => ?_))))
 have hL1 : ∀ (k1 : Nat) (x1 : Int), ref2_fits_l1 p1 p2 k1 x1 = some r → XR Try.prog 22 0 [] (cd Try.f14 [1,0,1,0,0]) Q1 k1 [(0, vi p1), (7, vl eI p2), (8, vi (p2.length : Int)), (9, vi x1)] [] := by
  intro k1
  induction k1 with
  | zero => intro x1 h; rw [ref2_fits_l1.eq_1] at h; cases h
  | succ k1 ih1 =>
   intro x1 h
   rw [ref2_fits_l1.eq_2] at h
   refine zq fun K4 hK4 => zr (zg [] 1 [0,7,8,9,10] (zd (hK4 _ _ (zq fun K5 hK5 => zC h (fun b6 h => ?_) (fun b6 h => ?_)))))
   ·refine zs (hK5 _ _ (zq fun K7 hK7 => zb 1 (zq fun K8 hK8 => ?_)))
    obtain ⟨e1, a9, h⟩ := zB h
    refine zr (zo [] 3 [0,6,7,8,9] [[pi e1]] [0 ≤ x1 ∧ x1 < ((eI.els p2).length : Int) ∧ elemsOk 1 (eI.els p2), (eI.els p2)[x1.toNat]? = some [pi e1]] (⟨eI.inb a9, (eI.get a9), trivial⟩) (zd (hK8 _ _ (zq fun K10 hK10 => ?_))))
    have hJ1 : ∀ (x2 : Bool), ref2_fits_j1 (ref2_fits_l1 p1 p2 k1) x1 x2 = some r → ∀ fr1 st1, Sub 22 0 [] fr1 st1 [(0, vi p1), (7, vl eI p2), (8, vi (p2.length : Int)), (9, vi x1), (20, vb x2)] [] → K10 fr1 st1 := by
     intro x2 h fr1 st1 hS
     unfold ref2_fits_j1 at h
     refine hK10 _ _ (XW.sub hS ?_)
     refine zC h (fun b14 h => ?_) (fun b14 h => ?_)
     ·refine zq fun K15 hK15 => zr (zg [] 1 [4] (zd (hK15 _ _ (ze (hQ1 _ _ _ ?_)))))
      obtain rfl := Option.some.inj h
      exact zf [vb false] (.one (.rfl _ rfl))
     ·exact zs (hK7 _ _ (zr (zg [] 2 [0,7,8,9] (zd (XR.sub (zk [0,7,8,9]) (ih1 (IntKind.i64.wrap (x1 + (1 : Int))) h))))))
    rcases zW h with ⟨b11, h⟩ | ⟨b11, h⟩
    ·exact zr (zv [] 3 [0,6,7,8,9,15] [] [(0, vi p1), (6, vi e1), (7, vl eI p2), (8, vi (p2.length : Int)), (9, vi x1), (15, vb (decide (e1 < (0 : Int))))] [] (zt 15 b11 (zg [] 5 [0,7,8,9,20] (zd (hJ1 true h _ _ (zk [0,7,8,9,20]))))))
    ·obtain ⟨g12, h⟩ := zG h
     obtain ⟨y1, hy13, h⟩ := zB h
     refine zr (zg [] 3 [0,6,7,8,9,15] (zt 15 b11 (zp [] 3 [0,7,8,9,15,16,18] [] [(0, vi p1), (7, vl eI p2), (8, vi (p2.length : Int)), (9, vi x1), (15, vb false), (16, vi e1), (18, vi (IntKind.i64.wrap ((1 : Int) * 2 ^ (min p1.toNat (IntKind.i64).bits))))] [] [0 ≤ p1] (⟨g12, trivial⟩) ?_)))
     rw [show (IntKind.i64.wrap ((1 : Int) * 2 ^ (min p1.toNat (IntKind.i64).bits))) = y1 from Option.some.inj hy13]
     exact zg [] 2 [0,7,8,9,20] (zd (hJ1 (decide (y1 ≤ e1)) h _ _ (zk [0,7,8,9,20])))
   ·exact zx 0 (hQ1 _ _ _ (hJ2 () h _ _ (zk [])))
 exact XR.sub (zk [0,7,8,9]) (hL1 BIG (0 : Int) h)

def ref2_bits_j1 (rec1 : List Bool → Int → Option (List Bool)) (x1 : Int) (l3 : List Bool) : Option (List Bool) :=
    rec1 l3 (IntKind.i64.wrap (x1 + (1 : Int)))

def ref2_bits_l2 (rec1 : List Bool → Int → Option (List Bool)) (p1 : Int) (x1 : Int) : Nat → List Bool → Int → Int → Option (List Bool)
  | 0, _, _, _ => none
  | k2 + 1, l2, x2, x3 =>
    ift (decide (x3 < p1))
      (grd (l2.length + 1 ≤ 4294967296) <|
       (ref2_bits_l2 rec1 p1 x1 k2) (l2 ++ [((x2.tmod (2 : Int)) == (1 : Int))]) (IntKind.i64.wrap (x2.tdiv (2 : Int))) (IntKind.i64.wrap (x3 + (1 : Int))))
      (ref2_bits_j1 rec1 x1 l2)

def ref2_bits_j2 (l4 : List Bool) : Option (List Bool) :=
    some l4

def ref2_bits_l1 (p1 : Int) (p2 : (List Int)) : Nat → List Bool → Int → Option (List Bool)
  | 0, _, _ => none
  | k1 + 1, l1, x1 =>
    ift (decide (x1 < (p2.length : Int)))
      (bnd (at? p2 x1) fun e1 =>
       ref2_bits_l2 (ref2_bits_l1 p1 p2 k1) p1 x1 BIG l1 e1 (0 : Int))
      (ref2_bits_j2 l1)

def ref2_bits (p1 : Int) (p2 : (List Int)) : Option (List Bool) :=
    ref2_bits_l1 p1 p2 BIG [] (0 : Int)


theorem c_ref2_bits (p1 : Int) (p2 : (List Int)) (r : (List Bool)) (h : ref2_bits p1 p2 = some r) : PC Try.prog 20 [vi p1, vl eI p2] (vl eB r) := by
 unfold ref2_bits at h
 refine zF 30 Try.f20 (zq fun K1 hK1 => zr (zg [] 1 [0,1] (zd (hK1 _ _ (zq fun K2 hK2 => zr ?_)))))
 refine zg [] 1 [0,1,5] (zd (hK2 _ _ (zq fun K3 hK3 => ?_)))
 have hJ2 : ∀ (l4 : List Bool), ref2_bits_j2 l4 = some r → ∀ fr1 st1, Sub 30 0 [] fr1 st1 [(5, .one (.sl 0 1 0 l4.length))] [.arr 1 (eB.els l4)] → K3 fr1 st1 := by
  intro l4 h fr1 st1 hS
  unfold ref2_bits_j2 at h
  refine hK3 _ _ (XW.sub hS ?_)
  refine zq fun K18 hK18 => zr (zg [] 2 [4] (zd (hK18 _ _ (ze ?_))))
  obtain rfl := Option.some.inj h
  exact zf [.one (.sl 0 1 0 l4.length)] (.one (cf_sl eB l4 rfl rfl rfl))
 refine zq fun K4 hK4 => zr (zv [] 2 [0,5,9,10] [] [(0, vi p1), (5, .one (.pv (.s (.slice none 0 0)))), (9, vl eI p2), (10, vi ((eI.els p2).length : Int))] [] ?_)
 rw [eI.len p2]
 refine zv [] 1 [0,5,9,10,11] [] [(0, vi p1), (5, .one (.pv (.s (.slice none 0 0)))), (9, vl eI p2), (10, vi (p2.length : Int)), (11, vi (0 : Int))] [] (zd (hK4 _ _ (zb 0 (XW.sub (Sub.list (t := 5) (sz := 1) rfl) (XW.rounds' BIG (x := cd Try.f20 [1,1,0,1,0,0]) (by kernel_rfl) fun Q1 hQ1 => ?_)))))
 have hL1 : ∀ (k1 : Nat) (l1 : List Bool) (x1 : Int), ref2_bits_l1 p1 p2 k1 l1 x1 = some r → XR Try.prog 30 0 [] (cd Try.f20 [1,1,0,1,0,0]) Q1 k1 [(0, vi p1), (5, .one (.sl 0 1 0 l1.length)), (9, vl eI p2), (10, vi (p2.length : Int)), (11, vi x1)] [.arr 1 (eB.els l1)] := by
  intro k1
  induction k1 with
  | zero => intro l1 x1 h; rw [ref2_bits_l1.eq_1] at h; cases h
  | succ k1 ih1 =>
   intro l1 x1 h
   rw [ref2_bits_l1.eq_2] at h
   refine zq fun K5 hK5 => zr (zg [] 1 [0,5,9,10,11,12] (zd (hK5 _ _ (zq fun K6 hK6 => zC h (fun b7 h => ?_) (fun b7 h => ?_)))))
   ·refine zs (hK6 _ _ (zq fun K8 hK8 => ?_))
    have hJ1 : ∀ (l3 : List Bool), ref2_bits_j1 (ref2_bits_l1 p1 p2 k1) x1 l3 = some r → ∀ fr1 st1, Sub 30 0 [] fr1 st1 [(0, vi p1), (5, .one (.sl 0 1 0 l3.length)), (9, vl eI p2), (10, vi (p2.length : Int)), (11, vi x1)] [.arr 1 (eB.els l3)] → K8 fr1 st1 := by
     intro l3 h fr1 st1 hS
     unfold ref2_bits_j1 at h
     refine hK8 _ _ (XW.sub hS ?_)
     exact zr (zg [] 2 [0,5,9,10,11] (zd (XR.sub (zk [0,5,9,10,11]) (ih1 l3 (IntKind.i64.wrap (x1 + (1 : Int))) h))))
    refine zb 1 (zq fun K9 hK9 => ?_)
    obtain ⟨e1, a10, h⟩ := zB h
    refine zr (zo [] 3 [0,5,7,9,10,11] [[pi e1]] [0 ≤ x1 ∧ x1 < ((eI.els p2).length : Int) ∧ elemsOk 1 (eI.els p2), (eI.els p2)[x1.toNat]? = some [pi e1]] (⟨eI.inb a10, (eI.get a10), trivial⟩) (zd (hK9 _ _ (zq fun K11 hK11 => zr (zv [] 1 [0,5,7,8,9,10,11] [] [(0, vi p1), (5, .one (.sl 0 1 0 l1.length)), (7, vi e1), (8, vi (0 : Int)), (9, vl eI p2), (10, vi (p2.length : Int)), (11, vi x1)] [.arr 1 (eB.els l1)] (zd ?_))))))
    refine hK11 _ _ (zb 2 (XW.rounds' BIG (x := cd Try.f20 [1,1,0,1,0,0,1,1,0,0,1,1,0,0]) (by kernel_rfl) fun Q2 hQ2 => ?_))
    have hL2 : ∀ (k2 : Nat) (l2 : List Bool) (x2 : Int) (x3 : Int), ref2_bits_l2 (ref2_bits_l1 p1 p2 k1) p1 x1 k2 l2 x2 x3 = some r → XR Try.prog 30 0 [] (cd Try.f20 [1,1,0,1,0,0,1,1,0,0,1,1,0,0]) Q2 k2 [(0, vi p1), (5, .one (.sl 0 1 0 l2.length)), (7, vi x2), (8, vi x3), (9, vl eI p2), (10, vi (p2.length : Int)), (11, vi x1)] [.arr 1 (eB.els l2)] := by
     intro k2
     induction k2 with
     | zero => intro l2 x2 x3 h; rw [ref2_bits_l2.eq_1] at h; cases h
     | succ k2 ih2 =>
      intro l2 x2 x3 h
      rw [ref2_bits_l2.eq_2] at h
      refine zq fun K12 hK12 => zq fun K13 hK13 => zr (zg [] 3 [0,5,7,8,9,10,11,17] (zd (hK13 _ _ (zC h (fun b14 h => ?_) (fun b14 h => ?_)))))
      ·refine zs (hK12 _ _ (zq fun K15 hK15 => zb 3 (zq fun K16 hK16 => ?_)))
       obtain ⟨g17, h⟩ := zG h
       refine zr (zp [] 6 [0,7,8,9,10,11,25] [] [(0, vi p1), (7, vi x2), (8, vi x3), (9, vl eI p2), (10, vi (p2.length : Int)), (11, vi x1), (25, .one (.sl 0 1 0 (l2.length + (eB.els [((x2.tmod (2 : Int)) == (1 : Int))]).length)))] [.arr 1 (eB.els l2 ++ eB.els [((x2.tmod (2 : Int)) == (1 : Int))])] [(2 : Int) ≠ 0, elemsOk 1 (eB.els [((x2.tmod (2 : Int)) == (1 : Int))]), l2.length = (eB.els l2).length, l2.length + (eB.els [((x2.tmod (2 : Int)) == (1 : Int))]).length ≤ 4294967296] (⟨by decide, eB.ok _, (eB.len l2).symm, g17, trivial⟩) ?_)
       rw [show l2.length + (eB.els [((x2.tmod (2 : Int)) == (1 : Int))]).length = (l2 ++ [((x2.tmod (2 : Int)) == (1 : Int))]).length from eB.lapp _ _]
       rw [show eB.els l2 ++ eB.els [((x2.tmod (2 : Int)) == (1 : Int))] = eB.els (l2 ++ [((x2.tmod (2 : Int)) == (1 : Int))]) from eB.app2 _ _]
       refine zg [] 1 [0,5,7,8,9,10,11] (zd (hK16 _ _ (zr (zo [] 3 [0,5,7,8,9,10,11] [] [(2 : Int) ≠ 0] (⟨by decide, trivial⟩) (zd (hK15 _ _ (zr ?_)))))))
       exact zv [] 3 [0,5,7,8,9,10,11] [] [(0, vi p1), (5, .one (.sl 0 1 0 ((l2 ++ [((x2.tmod (2 : Int)) == (1 : Int))]).length))), (7, vi (IntKind.i64.wrap (x2.tdiv (2 : Int)))), (8, vi (IntKind.i64.wrap (x3 + (1 : Int)))), (9, vl eI p2), (10, vi (p2.length : Int)), (11, vi x1)] [.arr 1 (eB.els (l2 ++ [((x2.tmod (2 : Int)) == (1 : Int))]))] (zd (XR.sub (zk [0,5,7,8,9,10,11]) (ih2 (l2 ++ [((x2.tmod (2 : Int)) == (1 : Int))]) (IntKind.i64.wrap (x2.tdiv (2 : Int))) (IntKind.i64.wrap (x3 + (1 : Int))) h)))
      ·exact zx 2 (hQ2 _ _ _ (hJ1 l2 h _ _ (zk [0,5,9,10,11])))
    exact XR.sub (zk [0,5,7,8,9,10,11]) (hL2 BIG l1 e1 (0 : Int) h)
   ·exact zx 0 (hQ1 _ _ _ (hJ2 l1 h _ _ (zk [5])))
 exact XR.sub (zk [0,5,9,10,11]) (hL1 BIG [] (0 : Int) h)

def ref2_pack_j1 (rec1 : List Int → Int → Option (List Int)) (x1 : Int) (l2 : List Int) : Option (List Int) :=
    rec1 l2 (IntKind.i64.wrap (x1 + (1 : Int)))

def ref2_pack_j2 (l3 : List Int) : Option (List Int) :=
    some l3

def ref2_pack_l1 (r1 : (List Bool)) : Nat → List Int → Int → Option (List Int)
  | 0, _, _ => none
  | k1 + 1, l1, x1 =>
    ift (decide (x1 < (r1.length : Int)))
      (bnd (at? r1 x1) fun e1 =>
       ift e1
         (bnd (at? l1 (IntKind.i64.wrap (x1.tdiv (8 : Int)))) fun e2 =>
          grd (0 ≤ (x1.tmod (8 : Int))) <|
          bnd (some (IntKind.u8.wrap ((1 : Int) * 2 ^ (min (x1.tmod (8 : Int)).toNat (IntKind.u8).bits)))) fun y2 =>
          ref2_pack_j1 (ref2_pack_l1 r1 k1) x1 (l1.set (IntKind.i64.wrap (x1.tdiv (8 : Int))).toNat (IntKind.u8.wrap (e2 + y2))))
         (ref2_pack_j1 (ref2_pack_l1 r1 k1) x1 l1))
      (ref2_pack_j2 l1)

def ref2_pack (p1 : Int) (p2 : (List Int)) : Option (List Int) :=
    bnd (ref2_bits p1 p2) fun r1 =>
    bnd (some (IntKind.i64.wrap ((IntKind.i64.wrap ((r1.length : Int) + (7 : Int))).tdiv (8 : Int)))) fun y1 =>
    grd (0 ≤ y1 ∧ y1 ≤ y1 ∧ y1 ≤ 4294967296) <|
    ref2_pack_l1 r1 BIG (List.replicate y1.toNat (0 : Int)) (0 : Int)


theorem c_ref2_pack (p1 : Int) (p2 : (List Int)) (r : (List Int)) (h : ref2_pack p1 p2 = some r) : PC Try.prog 15 [vi p1, vl eI p2] (vl (eK .u8) r) := by
 unfold ref2_pack at h
 refine zF 37 Try.f15 (zq fun K1 hK1 => zr (zg [] 1 [0,1] (zd (hK1 _ _ (zq fun K2 hK2 => ?_)))))
 obtain ⟨r1, c3, h⟩ := zB h
 refine zr (zg [] 2 [8,9] (zl 20 [vi p1, vl eI p2] (vl eB r1) [(10, vl eB r1), (8, vi p1), (9, vl eI p2)] (c_ref2_bits _ _ _ c3) (zg [] 1 [5] (zd (hK2 _ _ (zq fun K4 hK4 => ?_))))))
 obtain ⟨y1, hy5, h⟩ := zB h
 obtain ⟨g7, h⟩ := zG h
 refine zr (zv [] 2 [5,12] [] [(5, vl eB r1), (12, vi ((eB.els r1).length : Int))] [] ?_)
 rw [eB.len r1]
 refine zp [] 2 [5,14] [] [(5, vl eB r1), (14, vi (IntKind.i64.wrap ((IntKind.i64.wrap ((r1.length : Int) + (7 : Int))).tdiv (8 : Int))))] [] [(8 : Int) ≠ 0] (⟨by decide, trivial⟩) ?_
 rw [show (IntKind.i64.wrap ((IntKind.i64.wrap ((r1.length : Int) + (7 : Int))).tdiv (8 : Int))) = y1 from Option.some.inj hy5]
 refine zp [] 1 [5,15] [] [(5, vl eB r1), (15, .one (.sl 0 1 0 y1.toNat))] [.arr 1 (List.replicate y1.toNat [.s (.int .u8 (0 : Int))])] [0 ≤ y1, y1 ≤ y1, y1 ≤ 4294967296] (⟨g7.1, g7.2.1, g7.2.2, trivial⟩) ?_
 rw [show List.replicate y1.toNat [.s (.int .u8 (0 : Int))] = (eK .u8).els (List.replicate y1.toNat (0 : Int)) from (eK .u8).rep _ (0 : Int)]
 refine zg [] 1 [5,6] (zd (hK4 _ _ (zq fun K8 hK8 => ?_)))
 have hJ2 : ∀ (l3 : List Int), ref2_pack_j2 l3 = some r → ∀ fr1 st1, Sub 37 0 [] fr1 st1 [(6, .one (.sl 0 1 0 l3.length))] [.arr 1 ((eK .u8).els l3)] → K8 fr1 st1 := by
  intro l3 h fr1 st1 hS
  unfold ref2_pack_j2 at h
  refine hK8 _ _ (XW.sub hS ?_)
  refine zq fun K21 hK21 => zr (zg [] 2 [4] (zd (hK21 _ _ (ze ?_))))
  obtain rfl := Option.some.inj h
  exact zf [.one (.sl 0 1 0 l3.length)] (.one (cf_sl (eK .u8) l3 rfl rfl rfl))
 refine zq fun K9 hK9 => zr (zv [] 2 [5,6,17] [] [(5, vl eB r1), (6, .one (.sl 0 1 0 y1.toNat)), (17, vi ((eB.els r1).length : Int))] [.arr 1 ((eK .u8).els (List.replicate y1.toNat (0 : Int)))] ?_)
 rw [eB.len r1]
 refine zg [] 1 [5,6,17,18] (zd (hK9 _ _ (zb 0 (XW.rounds' BIG (x := cd Try.f15 [1,1,1,0,1,0,0]) (by kernel_rfl) fun Q1 hQ1 => ?_))))
 have hL1 : ∀ (k1 : Nat) (l1 : List Int) (x1 : Int), ref2_pack_l1 r1 k1 l1 x1 = some r → XR Try.prog 37 0 [] (cd Try.f15 [1,1,1,0,1,0,0]) Q1 k1 [(5, vl eB r1), (6, .one (.sl 0 1 0 l1.length)), (17, vi (r1.length : Int)), (18, vi x1)] [.arr 1 ((eK .u8).els l1)] := by
  intro k1
  induction k1 with
  | zero => intro l1 x1 h; rw [ref2_pack_l1.eq_1] at h; cases h
  | succ k1 ih1 =>
   intro l1 x1 h
   rw [ref2_pack_l1.eq_2] at h
   refine zq fun K10 hK10 => zr (zg [] 1 [5,6,17,18,19] (zd (hK10 _ _ (zq fun K11 hK11 => zC h (fun b12 h => ?_) (fun b12 h => ?_)))))
   ·refine zs (hK11 _ _ (zq fun K13 hK13 => ?_))
    have hJ1 : ∀ (l2 : List Int), ref2_pack_j1 (ref2_pack_l1 r1 k1) x1 l2 = some r → ∀ fr1 st1, Sub 37 0 [] fr1 st1 [(5, vl eB r1), (6, .one (.sl 0 1 0 l2.length)), (17, vi (r1.length : Int)), (18, vi x1)] [.arr 1 ((eK .u8).els l2)] → K13 fr1 st1 := by
     intro l2 h fr1 st1 hS
     unfold ref2_pack_j1 at h
     refine hK13 _ _ (XW.sub hS ?_)
     exact zr (zg [] 2 [5,6,17,18] (zd (XR.sub (zk [5,6,17,18]) (ih1 l2 (IntKind.i64.wrap (x1 + (1 : Int))) h))))
    refine zb 1 (zq fun K14 hK14 => zr (zg [] 2 [5,6,7,17,18] (zd (hK14 _ _ (zq fun K15 hK15 => ?_)))))
    obtain ⟨e1, a16, h⟩ := zB h
    refine zr (zp [] 4 [5,6,7,17,18,24] [[.s (.bool e1)]] [(5, vl eB r1), (6, .one (.sl 0 1 0 l1.length)), (7, vi x1), (17, vi (r1.length : Int)), (18, vi x1), (24, vb e1)] [.arr 1 ((eK .u8).els l1)] [0 ≤ x1 ∧ x1 < ((eB.els r1).length : Int) ∧ elemsOk 1 (eB.els r1), (eB.els r1)[x1.toNat]? = some [.s (.bool e1)]] (⟨eB.inb a16, (eB.get a16), trivial⟩) (zd (hK15 _ _ (zC h (fun b17 h => ?_) (fun b17 h => ?_)))))
    ·obtain ⟨e2, a18, h⟩ := zB h
     obtain ⟨g19, h⟩ := zG h
     obtain ⟨y2, hy20, h⟩ := zB h
     refine zw 8 [(32, vk .u8 y2), (31, vi (x1.tmod (8 : Int))), (30, vi x1), (29, vk .u8 e2), (28, .one (.pt 0 1 (0 + (IntKind.i64.wrap (x1.tdiv (8 : Int))).toNat) 0)), (27, vi (IntKind.i64.wrap (x1.tdiv (8 : Int)))), (26, vi x1), (25, .one (.sl 0 1 0 l1.length)), (5, vl eB r1), (6, .one (.sl 0 1 0 l1.length)), (7, vi x1), (17, vi (r1.length : Int)), (18, vi x1), (24, vb e1)] ?_ ?_
     ·refine zyp 8 [[.s (.int .u8 e2)]] [(32, vk .u8 (IntKind.u8.wrap ((1 : Int) * 2 ^ (min (x1.tmod (8 : Int)).toNat (IntKind.u8).bits)))), (31, vi (x1.tmod (8 : Int))), (30, vi x1), (29, vk .u8 e2), (28, .one (.pt 0 1 (0 + (IntKind.i64.wrap (x1.tdiv (8 : Int))).toNat) 0)), (27, vi (IntKind.i64.wrap (x1.tdiv (8 : Int)))), (26, vi x1), (25, .one (.sl 0 1 0 l1.length)), (5, vl eB r1), (6, .one (.sl 0 1 0 l1.length)), (7, vi x1), (17, vi (r1.length : Int)), (18, vi x1), (24, vb e1)] [(8 : Int) ≠ 0, 0 ≤ (IntKind.i64.wrap (x1.tdiv (8 : Int))) ∧ (IntKind.i64.wrap (x1.tdiv (8 : Int))) < ((l1.length : Nat) : Int), ((eK .u8).els l1)[(0 + (IntKind.i64.wrap (x1.tdiv (8 : Int))).toNat)]? = some [.s (.int .u8 e2)], (8 : Int) ≠ 0, 0 ≤ (x1.tmod (8 : Int))] (⟨by decide, Enc.inb' a18, ((eK .u8).get0 a18), by decide, g19, trivial⟩) ?_
      rw [show (IntKind.u8.wrap ((1 : Int) * 2 ^ (min (x1.tmod (8 : Int)).toNat (IntKind.u8).bits))) = y2 from Option.some.inj hy20]
      exact zyd
     refine zp [] 3 [5,6,17,18] [[.s (.int .u8 e2)]] [(5, vl eB r1), (6, .one (.sl 0 1 0 l1.length)), (17, vi (r1.length : Int)), (18, vi x1)] [.arr 1 (((eK .u8).els l1).set (0 + (IntKind.i64.wrap (x1.tdiv (8 : Int))).toNat) [.s (.int .u8 (IntKind.u8.wrap (e2 + y2)))])] [0 ≤ (IntKind.i64.wrap (x1.tdiv (8 : Int))) ∧ (IntKind.i64.wrap (x1.tdiv (8 : Int))) < ((l1.length : Nat) : Int), ((eK .u8).els l1)[(0 + (IntKind.i64.wrap (x1.tdiv (8 : Int))).toNat)]? = some [.s (.int .u8 e2)]] (⟨Enc.inb' a18, ((eK .u8).get0 a18), trivial⟩) ?_
     rw [show ((eK .u8).els l1).set (0 + (IntKind.i64.wrap (x1.tdiv (8 : Int))).toNat) [.s (.int .u8 (IntKind.u8.wrap (e2 + y2)))] = (eK .u8).els (l1.set (IntKind.i64.wrap (x1.tdiv (8 : Int))).toNat (IntKind.u8.wrap (e2 + y2))) from (eK .u8).set0 _ _ (IntKind.u8.wrap (e2 + y2))]
     refine zd ?_
     exact hJ1 (l1.set (IntKind.i64.wrap (x1.tdiv (8 : Int))).toNat (IntKind.u8.wrap (e2 + y2))) h _ _ (Sub.trans (Sub.pick (fr' := [(5, vl eB r1), (6, .one (.sl 0 1 0 l1.length)), (17, vi (r1.length : Int)), (18, vi x1)]) [5,6,17,18] (by kernel_rfl)) (Sub.frame (fr' := [(5, vl eB r1), (6, .one (.sl 0 1 0 (l1.set (IntKind.i64.wrap (x1.tdiv (8 : Int))).toNat (IntKind.u8.wrap (e2 + y2))).length)), (17, vi (r1.length : Int)), (18, vi x1)]) ⟨.rfl _, ALe.of_eq (show (.one (.sl 0 1 0 l1.length) : AV) = .one (.sl 0 1 0 (l1.set (IntKind.i64.wrap (x1.tdiv (8 : Int))).toNat (IntKind.u8.wrap (e2 + y2))).length) from by simp), .rfl _, .rfl _, trivial⟩))
    ·exact zs (hJ1 l1 h _ _ (zk [5,6,17,18]))
   ·exact zx 0 (hQ1 _ _ _ (hJ2 l1 h _ _ (zk [6])))
 exact XR.sub (Sub.trans (Sub.pick (fr' := [(5, vl eB r1), (6, .one (.sl 0 1 0 y1.toNat)), (17, vi (r1.length : Int)), (18, vi (0 : Int))]) [5,6,17,18] (by kernel_rfl)) (Sub.frame (fr' := [(5, vl eB r1), (6, .one (.sl 0 1 0 (List.replicate y1.toNat (0 : Int)).length)), (17, vi (r1.length : Int)), (18, vi (0 : Int))]) ⟨.rfl _, ALe.of_eq (show (.one (.sl 0 1 0 y1.toNat) : AV) = .one (.sl 0 1 0 (List.replicate y1.toNat (0 : Int)).length) from by simp), .rfl _, .rfl _, trivial⟩)) (hL1 BIG (List.replicate y1.toNat (0 : Int)) (0 : Int) h)

def ref2_Pack_j1 (p1 : Int) (p2 : (List Int)) (x1 : Bool) : Option ((List Int) × Int) :=
    ift x1
      (some ([], (3 : Int)))
      (bnd (ref2_pack p1 p2) fun r2 =>
       some (r2, (0 : Int)))

def ref2_Pack (p1 : Int) (p2 : (List Int)) : Option ((List Int) × Int) :=
    ift (decide (p1 < (0 : Int)))
      (ref2_Pack_j1 p1 p2 true)
      (ift (decide ((62 : Int) < p1))
         (ref2_Pack_j1 p1 p2 true)
         (bnd (ref2_fits p1 p2) fun r1 =>
          ref2_Pack_j1 p1 p2 (!r1)))


theorem c_ref2_Pack (p1 : Int) (p2 : (List Int)) (r : ((List Int) × Int)) (h : ref2_Pack p1 p2 = some r) : PC Try.prog 5 [vi p1, vl eI p2] (.tp [vl (eK .u8) r.1, vi r.2]) := by
 unfold ref2_Pack at h
 refine zF 21 Try.f5 (zq fun K1 hK1 => zr (zg [] 2 [0,1] (zd (hK1 _ _ (zq fun K2 hK2 => zq fun K3 hK3 => ?_)))))
 have hJ1 : ∀ (x1 : Bool), ref2_Pack_j1 p1 p2 x1 = some r → ∀ fr1 st1, Sub 21 0 [] fr1 st1 [(0, vi p1), (1, vl eI p2), (17, vb x1)] [] → K3 fr1 st1 := by
  intro x1 h fr1 st1 hS
  unfold ref2_Pack_j1 at h
  refine hK3 _ _ (XW.sub hS ?_)
  refine zC h (fun b7 h => ?_) (fun b7 h => ?_)
  ·refine zq fun K8 hK8 => zr (zg [] 2 [4,5] (zd (hK8 _ _ (ze ?_))))
   obtain rfl := Option.some.inj h
   exact zf [.one (.pv (.s (.slice none 0 0))), vi (3 : Int)] (.tpc (.one (.nl)) (.tpc (.one (.rfl _ rfl)) (.tp0)))
  ·refine zs (hK2 _ _ (zq fun K9 hK9 => ?_))
   obtain ⟨r2, c10, h⟩ := zB h
   refine zr (zg [] 2 [18,19] (zl 15 [vi p1, vl eI p2] (vl (eK .u8) r2) [(20, vl (eK .u8) r2), (18, vi p1), (19, vl eI p2)] (c_ref2_pack _ _ _ c10) (zg [] 2 [4,5] (zd (hK9 _ _ (ze ?_))))))
   obtain rfl := Option.some.inj h
   exact zf [vl (eK .u8) r2, vi (0 : Int)] (.tpc (.one (.rfl _ rfl)) (.tpc (.one (.rfl _ rfl)) (.tp0)))
 rcases zW h with ⟨b4, h⟩ | ⟨b4, h⟩
 ·exact zr (zg [] 3 [0,1,8] (zt 8 b4 (zv [] 9 [0,1,17] [] [(0, vi p1), (1, vl eI p2), (17, vb true)] [] (zd (hJ1 true h _ _ (zk [0,1,17]))))))
 ·rcases zW h with ⟨b5, h⟩ | ⟨b5, h⟩
  ·exact zr (zg [] 3 [0,1,8] (zt 8 b4 (zg [] 4 [0,1,12] (zt 12 b5 (zv [] 5 [0,1,17] [] [(0, vi p1), (1, vl eI p2), (17, vb true)] [] (zd (hJ1 true h _ _ (zk [0,1,17]))))))))
  ·obtain ⟨r1, c6, h⟩ := zB h
   refine zr (zg [] 3 [0,1,8] (zt 8 b4 (zg [] 4 [0,1,12] (zt 12 b5 (zv [] 2 [0,1,12,13,14] [] [(0, vi p1), (1, vl eI p2), (12, vb false), (13, vi p1), (14, vl eI p2)] [] (za (c_ref2_fits _ _ _ c6) (zg [] 2 [0,1,17] ?_)))))))
   exact zd (hJ1 (!r1) h _ _ (zk [0,1,17]))

def bytes_Equal (p1 : (List Int)) (p2 : (List Int)) : Option Bool :=
    some ((strOfNums p1).toList == (strOfNums p2).toList)


theorem c_bytes_Equal (p1 : (List Int)) (p2 : (List Int)) (r : Bool) (h : bytes_Equal p1 p2 = some r) : PC Try.prog 9 [vl (eK .u8) p1, vl (eK .u8) p2] (vb r) := by
 unfold bytes_Equal at h
 refine zF 10 Try.f9 (zq fun K1 hK1 => zr (zg [] 1 [0,1] (zd (hK1 _ _ (zq fun K2 hK2 => zr ?_)))))
 refine zp [] 2 [1,6] [] [(1, vl (eK .u8) p2), (6, vs (strOfEls ((eK .u8).els p1)))] [] [bytesOk ((eK .u8).els p1)] (⟨bytesOk_eK _, trivial⟩) ?_
 rw [strOf_eK p1]
 refine zp [] 2 [6,8] [] [(6, vs (strOfNums p1)), (8, vs (strOfEls ((eK .u8).els p2)))] [] [bytesOk ((eK .u8).els p2)] (⟨bytesOk_eK _, trivial⟩) ?_
 rw [strOf_eK p2]
 refine zg [] 2 [4] (zd (hK2 _ _ (ze ?_)))
 obtain rfl := Option.some.inj h
 exact zf [vb ((strOfNums p1).toList == (strOfNums p2).toList)] (.one (.rfl _ rfl))

def column_unpack_j1 (rec1 : List Int → Int → Option ((List Int) × Bool)) (x1 : Int) (l3 : List Int) : Option ((List Int) × Bool) :=
    rec1 l3 (IntKind.i64.wrap (x1 + (1 : Int)))

def column_unpack_l2 (rec1 : List Int → Int → Option ((List Int) × Bool)) (p1 : Int) (p3 : (List Int)) (x1 : Int) : Nat → List Int → Int → Option ((List Int) × Bool)
  | 0, _, _ => none
  | k2 + 1, l2, x2 =>
    ift (decide (x2 < p1))
      (bnd (at? l2 x1) fun e1 =>
       bnd (some (IntKind.i64.wrap ((IntKind.i64.wrap ((IntKind.i64.wrap (x1 * p1)) + x2)).tdiv (8 : Int)))) fun y2 =>
       bnd (at? p3 y2) fun e2 =>
       bnd (some ((IntKind.i64.wrap ((IntKind.i64.wrap (x1 * p1)) + x2)).tmod (8 : Int))) fun y3 =>
       grd (0 ≤ y3) <|
       bnd (some (IntKind.u8.wrap (BitVec.ofInt (IntKind.u8).bits (e2.fdiv (2 ^ (min y3.toNat (IntKind.u8).bits))) &&& BitVec.ofInt (IntKind.u8).bits (1 : Int)).toNat)) fun y4 =>
       grd (0 ≤ x2) <|
       bnd (some (IntKind.i64.wrap ((IntKind.i64.wrap y4) * 2 ^ (min x2.toNat (IntKind.i64).bits)))) fun y5 =>
       bnd (some (IntKind.i64.wrap (BitVec.ofInt (IntKind.i64).bits e1 ||| BitVec.ofInt (IntKind.i64).bits y5).toNat)) fun y6 =>
       (column_unpack_l2 rec1 p1 p3 x1 k2) (l2.set x1.toNat y6) (IntKind.i64.wrap (x2 + (1 : Int))))
      (column_unpack_j1 rec1 x1 l2)

def column_unpack_j2 (p1 : Int) (p3 : (List Int)) (l4 : List Int) : Option ((List Int) × Bool) :=
    bnd (column_pack p1 l4) fun r1 =>
    bnd (bytes_Equal r1 p3) fun r2 =>
    some (l4, r2)

def column_unpack_l1 (p1 : Int) (p2 : Int) (p3 : (List Int)) : Nat → List Int → Int → Option ((List Int) × Bool)
  | 0, _, _ => none
  | k1 + 1, l1, x1 =>
    ift (decide (x1 < ((p2.toNat : Nat) : Int)))
      (column_unpack_l2 (column_unpack_l1 p1 p2 p3 k1) p1 p3 x1 BIG l1 (0 : Int))
      (column_unpack_j2 p1 p3 l1)

def column_unpack (p1 : Int) (p2 : Int) (p3 : (List Int)) : Option ((List Int) × Bool) :=
    bnd (some (IntKind.i64.wrap ((IntKind.i64.wrap ((IntKind.i64.wrap (p2 * p1)) + (7 : Int))).tdiv (8 : Int)))) fun y1 =>
    ift ((p3.length : Int) != y1)
      (some ([], false))
      (grd (0 ≤ p2 ∧ p2 ≤ p2 ∧ p2 ≤ 4294967296) <|
       column_unpack_l1 p1 p2 p3 BIG (List.replicate p2.toNat (0 : Int)) (0 : Int))


theorem c_column_unpack (p1 : Int) (p2 : Int) (p3 : (List Int)) (r : ((List Int) × Bool)) (h : column_unpack p1 p2 p3 = some r) : PC Try.prog 16 [vi p1, vi p2, vl (eK .u8) p3] (.tp [vl eI r.1, vb r.2]) := by
 unfold column_unpack at h
 refine zF 64 Try.f16 (zq fun K1 hK1 => zr (zg [] 2 [0,1,2] (zd (hK1 _ _ (zq fun K2 hK2 => zq fun K3 hK3 => ?_)))))
 obtain ⟨y1, hy4, h⟩ := zB h
 refine zr (zv [] 2 [0,1,2,12] [] [(0, vi p1), (1, vi p2), (2, vl (eK .u8) p3), (12, vi (((eK .u8).els p3).length : Int))] [] ?_)
 rw [(eK .u8).len p3]
 refine zp [] 5 [0,1,2,12,17] [] [(0, vi p1), (1, vi p2), (2, vl (eK .u8) p3), (12, vi (p3.length : Int)), (17, vi (IntKind.i64.wrap ((IntKind.i64.wrap ((IntKind.i64.wrap (p2 * p1)) + (7 : Int))).tdiv (8 : Int))))] [] [(8 : Int) ≠ 0] (⟨by decide, trivial⟩) ?_
 rw [show (IntKind.i64.wrap ((IntKind.i64.wrap ((IntKind.i64.wrap (p2 * p1)) + (7 : Int))).tdiv (8 : Int))) = y1 from Option.some.inj hy4]
 refine zg [] 1 [0,1,2,18] (zd (hK3 _ _ (zC h (fun b5 h => ?_) (fun b5 h => ?_))))
 ·refine zq fun K6 hK6 => zr (zg [] 2 [6,7] (zd (hK6 _ _ (ze ?_))))
  obtain rfl := Option.some.inj h
  exact zf [.one (.pv (.s (.slice none 0 0))), vb false] (.tpc (.one (.nl)) (.tpc (.one (.rfl _ rfl)) (.tp0)))
 ·refine zs (hK2 _ _ (zq fun K7 hK7 => ?_))
  obtain ⟨g9, h⟩ := zG h
  refine zr (zp [] 2 [0,2,20] [] [(0, vi p1), (2, vl (eK .u8) p3), (20, .one (.sl 0 1 0 p2.toNat))] [.arr 1 (List.replicate p2.toNat [pi (0 : Int)])] [0 ≤ p2, p2 ≤ p2, p2 ≤ 4294967296] (⟨g9.1, g9.2.1, g9.2.2, trivial⟩) ?_)
  rw [show List.replicate p2.toNat [pi (0 : Int)] = eI.els (List.replicate p2.toNat (0 : Int)) from eI.rep _ (0 : Int)]
  refine zg [] 1 [0,2,8] (zd (hK7 _ _ (zq fun K10 hK10 => ?_)))
  have hJ2 : ∀ (l4 : List Int), column_unpack_j2 p1 p3 l4 = some r → ∀ fr1 st1, Sub 64 0 [] fr1 st1 [(0, vi p1), (2, vl (eK .u8) p3), (8, .one (.sl 0 1 0 l4.length))] [.arr 1 (eI.els l4)] → K10 fr1 st1 := by
   intro l4 h fr1 st1 hS
   unfold column_unpack_j2 at h
   refine hK10 _ _ (XW.sub hS ?_)
   refine zq fun K32 hK32 => ?_
   obtain ⟨r1, c33, h⟩ := zB h
   obtain ⟨r2, c34, h⟩ := zB h
   refine zr (zv [] 3 [2,58,59,60] [] [(2, vl (eK .u8) p3), (58, .one (.sl 0 1 0 l4.length)), (59, vi p1), (60, .one (.sl 0 1 0 l4.length))] [.arr 1 (eI.els l4)] (XO.sub (Sub.kill (fr' := [(2, vl (eK .u8) p3), (58, vl eI l4), (59, vi p1), (60, vl eI l4)]) 0 (Nat.zero_le _) (by kernel_rfl) ⟨.one (.rfl _ rfl), .one (cf_sl eI l4 rfl rfl rfl), .one (.rfl _ rfl), .one (cf_sl eI l4 rfl rfl rfl), trivial⟩) (za (c_column_pack _ _ _ c33) (zg [] 1 [58,61,62] ?_))))
   refine zl 9 [vl (eK .u8) r1, vl (eK .u8) p3] (vb r2) [(63, vb r2), (58, vl eI l4), (61, vl (eK .u8) r1), (62, vl (eK .u8) p3)] (c_bytes_Equal _ _ _ c34) (zg [] 2 [6,7] (zd (hK32 _ _ (ze ?_))))
   obtain rfl := Option.some.inj h
   exact zf [vl eI l4, vb r2] (.tpc (.one (.rfl _ rfl)) (.tpc (.one (.rfl _ rfl)) (.tp0)))
  refine zq fun K11 hK11 => zr (zg [] 3 [0,2,8,22,23] (zd (hK11 _ _ (zb 0 (XW.rounds' BIG (x := cd Try.f16 [1,1,1,0,1,0,0]) (by kernel_rfl) fun Q1 hQ1 => ?_)))))
  have hL1 : ∀ (k1 : Nat) (l1 : List Int) (x1 : Int), column_unpack_l1 p1 p2 p3 k1 l1 x1 = some r → XR Try.prog 64 0 [] (cd Try.f16 [1,1,1,0,1,0,0]) Q1 k1 [(0, vi p1), (2, vl (eK .u8) p3), (8, .one (.sl 0 1 0 l1.length)), (22, vi ((p2.toNat : Nat) : Int)), (23, vi x1)] [.arr 1 (eI.els l1)] := by
   intro k1
   induction k1 with
   | zero => intro l1 x1 h; rw [column_unpack_l1.eq_1] at h; cases h
   | succ k1 ih1 =>
    intro l1 x1 h
    rw [column_unpack_l1.eq_2] at h
    refine zq fun K12 hK12 => zr (zg [] 1 [0,2,8,22,23,24] (zd (hK12 _ _ (zq fun K13 hK13 => zC h (fun b14 h => ?_) (fun b14 h => ?_)))))
    ·refine zs (hK13 _ _ (zq fun K15 hK15 => ?_))
     have hJ1 : ∀ (l3 : List Int), column_unpack_j1 (column_unpack_l1 p1 p2 p3 k1) x1 l3 = some r → ∀ fr1 st1, Sub 64 0 [] fr1 st1 [(0, vi p1), (2, vl (eK .u8) p3), (8, .one (.sl 0 1 0 l3.length)), (22, vi ((p2.toNat : Nat) : Int)), (23, vi x1)] [.arr 1 (eI.els l3)] → K15 fr1 st1 := by
      intro l3 h fr1 st1 hS
      unfold column_unpack_j1 at h
      refine hK15 _ _ (XW.sub hS ?_)
      exact zr (zg [] 2 [0,2,8,22,23] (zd (XR.sub (zk [0,2,8,22,23]) (ih1 l3 (IntKind.i64.wrap (x1 + (1 : Int))) h))))
     refine zb 1 (zq fun K16 hK16 => zr (zg [] 2 [0,2,8,9,22,23] (zd (hK16 _ _ (zq fun K17 hK17 => zr ?_)))))
     refine zv [] 2 [0,2,8,9,22,23,26,27] [] [(0, vi p1), (2, vl (eK .u8) p3), (8, .one (.sl 0 1 0 l1.length)), (9, vi x1), (22, vi ((p2.toNat : Nat) : Int)), (23, vi x1), (26, vi p1), (27, vi (0 : Int))] [.arr 1 (eI.els l1)] (zd (hK17 _ _ (zb 2 (XW.rounds' BIG (x := cd Try.f16 [1,1,1,0,1,0,0,1,1,0,0,1,1,0,0]) (by kernel_rfl) fun Q2 hQ2 => ?_))))
     have hL2 : ∀ (k2 : Nat) (l2 : List Int) (x2 : Int), column_unpack_l2 (column_unpack_l1 p1 p2 p3 k1) p1 p3 x1 k2 l2 x2 = some r → XR Try.prog 64 0 [] (cd Try.f16 [1,1,1,0,1,0,0,1,1,0,0,1,1,0,0]) Q2 k2 [(0, vi p1), (2, vl (eK .u8) p3), (8, .one (.sl 0 1 0 l2.length)), (9, vi x1), (22, vi ((p2.toNat : Nat) : Int)), (23, vi x1), (26, vi p1), (27, vi x2)] [.arr 1 (eI.els l2)] := by
      intro k2
      induction k2 with
      | zero => intro l2 x2 h; rw [column_unpack_l2.eq_1] at h; cases h
      | succ k2 ih2 =>
       intro l2 x2 h
       rw [column_unpack_l2.eq_2] at h
       refine zq fun K18 hK18 => zr (zg [] 1 [0,2,8,9,22,23,26,27,28] (zd (hK18 _ _ (zq fun K19 hK19 => zC h (fun b20 h => ?_) (fun b20 h => ?_)))))
       ·refine zs (hK19 _ _ (zq fun K21 hK21 => zb 3 (zq fun K22 hK22 => zr (zg [] 2 [0,2,8,9,10,22,23,26,27] (zd ?_)))))
        refine hK22 _ _ ?_
        obtain ⟨e1, a23, h⟩ := zB h
        obtain ⟨y2, hy24, h⟩ := zB h
        obtain ⟨e2, a25, h⟩ := zB h
        obtain ⟨y3, hy26, h⟩ := zB h
        obtain ⟨g27, h⟩ := zG h
        obtain ⟨y4, hy28, h⟩ := zB h
        obtain ⟨g29, h⟩ := zG h
        obtain ⟨y5, hy30, h⟩ := zB h
        obtain ⟨y6, hy31, h⟩ := zB h
        refine zw 24 [(53, vi y5), (52, vi x2), (51, vi (IntKind.i64.wrap y4)), (50, vk .u8 y4), (49, vk .u8 (e2.fdiv (2 ^ (min y3.toNat (IntKind.u8).bits)))), (48, vi y3), (47, vi (IntKind.i64.wrap ((IntKind.i64.wrap (x1 * p1)) + x2))), (46, vi x2), (45, vi (IntKind.i64.wrap (x1 * p1))), (44, vi p1), (43, vi x1), (42, vk .u8 e2), (41, .one (.pv (.rp ((eK .u8).els p3) y2.toNat 0))), (40, vi y2), (39, vi (IntKind.i64.wrap ((IntKind.i64.wrap (x1 * p1)) + x2))), (38, vi x2), (37, vi (IntKind.i64.wrap (x1 * p1))), (36, vi p1), (35, vi x1), (34, vl (eK .u8) p3), (33, vi e1), (32, .one (.pt 0 1 (0 + x1.toNat) 0)), (31, vi x1), (30, .one (.sl 0 1 0 l2.length)), (0, vi p1), (2, vl (eK .u8) p3), (8, .one (.sl 0 1 0 l2.length)), (9, vi x1), (10, vi x2), (22, vi ((p2.toNat : Nat) : Int)), (23, vi x1), (26, vi p1), (27, vi x2)] ?_ ?_
        ·refine zyp 11 [[pi e1]] [(40, vi (IntKind.i64.wrap ((IntKind.i64.wrap ((IntKind.i64.wrap (x1 * p1)) + x2)).tdiv (8 : Int)))), (39, vi (IntKind.i64.wrap ((IntKind.i64.wrap (x1 * p1)) + x2))), (38, vi x2), (37, vi (IntKind.i64.wrap (x1 * p1))), (36, vi p1), (35, vi x1), (34, vl (eK .u8) p3), (33, vi e1), (32, .one (.pt 0 1 (0 + x1.toNat) 0)), (31, vi x1), (30, .one (.sl 0 1 0 l2.length)), (0, vi p1), (2, vl (eK .u8) p3), (8, .one (.sl 0 1 0 l2.length)), (9, vi x1), (10, vi x2), (22, vi ((p2.toNat : Nat) : Int)), (23, vi x1), (26, vi p1), (27, vi x2)] [0 ≤ x1 ∧ x1 < ((l2.length : Nat) : Int), (eI.els l2)[(0 + x1.toNat)]? = some [pi e1], (8 : Int) ≠ 0] (⟨Enc.inb' a23, (eI.get0 a23), by decide, trivial⟩) ?_
         rw [show (IntKind.i64.wrap ((IntKind.i64.wrap ((IntKind.i64.wrap (x1 * p1)) + x2)).tdiv (8 : Int))) = y2 from Option.some.inj hy24]
         refine zyp 8 [[.s (.int .u8 e2)]] [(48, vi ((IntKind.i64.wrap ((IntKind.i64.wrap (x1 * p1)) + x2)).tmod (8 : Int))), (47, vi (IntKind.i64.wrap ((IntKind.i64.wrap (x1 * p1)) + x2))), (46, vi x2), (45, vi (IntKind.i64.wrap (x1 * p1))), (44, vi p1), (43, vi x1), (42, vk .u8 e2), (41, .one (.pv (.rp ((eK .u8).els p3) y2.toNat 0))), (40, vi y2), (39, vi (IntKind.i64.wrap ((IntKind.i64.wrap (x1 * p1)) + x2))), (38, vi x2), (37, vi (IntKind.i64.wrap (x1 * p1))), (36, vi p1), (35, vi x1), (34, vl (eK .u8) p3), (33, vi e1), (32, .one (.pt 0 1 (0 + x1.toNat) 0)), (31, vi x1), (30, .one (.sl 0 1 0 l2.length)), (0, vi p1), (2, vl (eK .u8) p3), (8, .one (.sl 0 1 0 l2.length)), (9, vi x1), (10, vi x2), (22, vi ((p2.toNat : Nat) : Int)), (23, vi x1), (26, vi p1), (27, vi x2)] [0 ≤ y2 ∧ y2 < (((eK .u8).els p3).length : Int) ∧ elemsOk 1 ((eK .u8).els p3), ((eK .u8).els p3)[y2.toNat]? = some [.s (.int .u8 e2)], (8 : Int) ≠ 0] (⟨(eK .u8).inb a25, ((eK .u8).get a25), by decide, trivial⟩) ?_
         rw [show ((IntKind.i64.wrap ((IntKind.i64.wrap (x1 * p1)) + x2)).tmod (8 : Int)) = y3 from Option.some.inj hy26]
         refine zyp 2 [] [(50, vk .u8 (IntKind.u8.wrap (BitVec.ofInt (IntKind.u8).bits (e2.fdiv (2 ^ (min y3.toNat (IntKind.u8).bits))) &&& BitVec.ofInt (IntKind.u8).bits (1 : Int)).toNat)), (49, vk .u8 (e2.fdiv (2 ^ (min y3.toNat (IntKind.u8).bits)))), (48, vi y3), (47, vi (IntKind.i64.wrap ((IntKind.i64.wrap (x1 * p1)) + x2))), (46, vi x2), (45, vi (IntKind.i64.wrap (x1 * p1))), (44, vi p1), (43, vi x1), (42, vk .u8 e2), (41, .one (.pv (.rp ((eK .u8).els p3) y2.toNat 0))), (40, vi y2), (39, vi (IntKind.i64.wrap ((IntKind.i64.wrap (x1 * p1)) + x2))), (38, vi x2), (37, vi (IntKind.i64.wrap (x1 * p1))), (36, vi p1), (35, vi x1), (34, vl (eK .u8) p3), (33, vi e1), (32, .one (.pt 0 1 (0 + x1.toNat) 0)), (31, vi x1), (30, .one (.sl 0 1 0 l2.length)), (0, vi p1), (2, vl (eK .u8) p3), (8, .one (.sl 0 1 0 l2.length)), (9, vi x1), (10, vi x2), (22, vi ((p2.toNat : Nat) : Int)), (23, vi x1), (26, vi p1), (27, vi x2)] [0 ≤ y3] (⟨g27, trivial⟩) ?_
         rw [show (IntKind.u8.wrap (BitVec.ofInt (IntKind.u8).bits (e2.fdiv (2 ^ (min y3.toNat (IntKind.u8).bits))) &&& BitVec.ofInt (IntKind.u8).bits (1 : Int)).toNat) = y4 from Option.some.inj hy28]
         refine zyp 3 [] [(53, vi (IntKind.i64.wrap ((IntKind.i64.wrap y4) * 2 ^ (min x2.toNat (IntKind.i64).bits)))), (52, vi x2), (51, vi (IntKind.i64.wrap y4)), (50, vk .u8 y4), (49, vk .u8 (e2.fdiv (2 ^ (min y3.toNat (IntKind.u8).bits)))), (48, vi y3), (47, vi (IntKind.i64.wrap ((IntKind.i64.wrap (x1 * p1)) + x2))), (46, vi x2), (45, vi (IntKind.i64.wrap (x1 * p1))), (44, vi p1), (43, vi x1), (42, vk .u8 e2), (41, .one (.pv (.rp ((eK .u8).els p3) y2.toNat 0))), (40, vi y2), (39, vi (IntKind.i64.wrap ((IntKind.i64.wrap (x1 * p1)) + x2))), (38, vi x2), (37, vi (IntKind.i64.wrap (x1 * p1))), (36, vi p1), (35, vi x1), (34, vl (eK .u8) p3), (33, vi e1), (32, .one (.pt 0 1 (0 + x1.toNat) 0)), (31, vi x1), (30, .one (.sl 0 1 0 l2.length)), (0, vi p1), (2, vl (eK .u8) p3), (8, .one (.sl 0 1 0 l2.length)), (9, vi x1), (10, vi x2), (22, vi ((p2.toNat : Nat) : Int)), (23, vi x1), (26, vi p1), (27, vi x2)] [0 ≤ x2] (⟨g29, trivial⟩) ?_
         rw [show (IntKind.i64.wrap ((IntKind.i64.wrap y4) * 2 ^ (min x2.toNat (IntKind.i64).bits))) = y5 from Option.some.inj hy30]
         exact zyd
        refine zv [] 1 [0,2,8,9,22,23,26,27,30,31,54] [] [(0, vi p1), (2, vl (eK .u8) p3), (8, .one (.sl 0 1 0 l2.length)), (9, vi x1), (22, vi ((p2.toNat : Nat) : Int)), (23, vi x1), (26, vi p1), (27, vi x2), (30, .one (.sl 0 1 0 l2.length)), (31, vi x1), (54, vi (IntKind.i64.wrap (BitVec.ofInt (IntKind.i64).bits e1 ||| BitVec.ofInt (IntKind.i64).bits y5).toNat))] [.arr 1 (eI.els l2)] ?_
        rw [show (IntKind.i64.wrap (BitVec.ofInt (IntKind.i64).bits e1 ||| BitVec.ofInt (IntKind.i64).bits y5).toNat) = y6 from Option.some.inj hy31]
        refine zp [] 2 [0,2,8,9,22,23,26,27] [[pi e1]] [(0, vi p1), (2, vl (eK .u8) p3), (8, .one (.sl 0 1 0 l2.length)), (9, vi x1), (22, vi ((p2.toNat : Nat) : Int)), (23, vi x1), (26, vi p1), (27, vi x2)] [.arr 1 ((eI.els l2).set (0 + x1.toNat) [pi y6])] [0 ≤ x1 ∧ x1 < ((l2.length : Nat) : Int), (eI.els l2)[(0 + x1.toNat)]? = some [pi e1]] (⟨Enc.inb' a23, (eI.get0 a23), trivial⟩) ?_
        rw [show (eI.els l2).set (0 + x1.toNat) [pi y6] = eI.els (l2.set x1.toNat y6) from eI.set0 _ _ y6]
        refine zd (hK21 _ _ (zr (zg [] 2 [0,2,8,9,22,23,26,27] (zd ?_))))
        exact XR.sub (Sub.trans (Sub.pick (fr' := [(0, vi p1), (2, vl (eK .u8) p3), (8, .one (.sl 0 1 0 l2.length)), (9, vi x1), (22, vi ((p2.toNat : Nat) : Int)), (23, vi x1), (26, vi p1), (27, vi (IntKind.i64.wrap (x2 + (1 : Int))))]) [0,2,8,9,22,23,26,27] (by kernel_rfl)) (Sub.frame (fr' := [(0, vi p1), (2, vl (eK .u8) p3), (8, .one (.sl 0 1 0 (l2.set x1.toNat y6).length)), (9, vi x1), (22, vi ((p2.toNat : Nat) : Int)), (23, vi x1), (26, vi p1), (27, vi (IntKind.i64.wrap (x2 + (1 : Int))))]) ⟨.rfl _, .rfl _, ALe.of_eq (show (.one (.sl 0 1 0 l2.length) : AV) = .one (.sl 0 1 0 (l2.set x1.toNat y6).length) from by simp), .rfl _, .rfl _, .rfl _, .rfl _, .rfl _, trivial⟩)) (ih2 (l2.set x1.toNat y6) (IntKind.i64.wrap (x2 + (1 : Int))) h)
       ·exact zx 2 (hQ2 _ _ _ (hJ1 l2 h _ _ (zk [0,2,8,22,23])))
     exact XR.sub (zk [0,2,8,9,22,23,26,27]) (hL2 BIG l1 (0 : Int) h)
    ·exact zx 0 (hQ1 _ _ _ (hJ2 l1 h _ _ (zk [0,2,8])))
  exact XR.sub (Sub.trans (Sub.pick (fr' := [(0, vi p1), (2, vl (eK .u8) p3), (8, .one (.sl 0 1 0 p2.toNat)), (22, vi ((p2.toNat : Nat) : Int)), (23, vi (0 : Int))]) [0,2,8,22,23] (by kernel_rfl)) (Sub.frame (fr' := [(0, vi p1), (2, vl (eK .u8) p3), (8, .one (.sl 0 1 0 (List.replicate p2.toNat (0 : Int)).length)), (22, vi ((p2.toNat : Nat) : Int)), (23, vi (0 : Int))]) ⟨.rfl _, .rfl _, ALe.of_eq (show (.one (.sl 0 1 0 p2.toNat) : AV) = .one (.sl 0 1 0 (List.replicate p2.toNat (0 : Int)).length) from by simp), .rfl _, .rfl _, trivial⟩)) (hL1 BIG (List.replicate p2.toNat (0 : Int)) (0 : Int) h)

def column_Unpack_j1 (p1 : Int) (p2 : Int) (p3 : (List Int)) (x1 : Bool) : Option ((List Int) × Int) :=
    ift x1
      (some ([], (3 : Int)))
      (bnd (column_unpack p1 p2 p3) fun r1 =>
       ift (!r1.2)
         (some ([], (1 : Int)))
         (some (r1.1, (0 : Int))))

def column_Unpack (p1 : Int) (p2 : Int) (p3 : (List Int)) : Option ((List Int) × Int) :=
    ift (decide (p1 < (0 : Int)))
      (column_Unpack_j1 p1 p2 p3 true)
      (ift (decide ((62 : Int) < p1))
         (column_Unpack_j1 p1 p2 p3 true)
         (ift (decide (p2 < (0 : Int)))
            (column_Unpack_j1 p1 p2 p3 true)
            (column_Unpack_j1 p1 p2 p3 (decide ((1048576 : Int) < p2)))))


theorem c_column_Unpack (p1 : Int) (p2 : Int) (p3 : (List Int)) (r : ((List Int) × Int)) (h : column_Unpack p1 p2 p3 = some r) : PC Try.prog 6 [vi p1, vi p2, vl (eK .u8) p3] (.tp [vl eI r.1, vi r.2]) := by
 unfold column_Unpack at h
 refine zF 34 Try.f6 (zq fun K1 hK1 => zr (zg [] 2 [0,1,2] (zd (hK1 _ _ (zq fun K2 hK2 => zq fun K3 hK3 => ?_)))))
 have hJ1 : ∀ (x1 : Bool), column_Unpack_j1 p1 p2 p3 x1 = some r → ∀ fr1 st1, Sub 34 0 [] fr1 st1 [(0, vi p1), (1, vi p2), (2, vl (eK .u8) p3), (23, vb x1)] [] → K3 fr1 st1 := by
  intro x1 h fr1 st1 hS
  unfold column_Unpack_j1 at h
  refine hK3 _ _ (XW.sub hS ?_)
  refine zC h (fun b7 h => ?_) (fun b7 h => ?_)
  ·refine zq fun K8 hK8 => zr (zg [] 2 [6,7] (zd (hK8 _ _ (ze ?_))))
   obtain rfl := Option.some.inj h
   exact zf [.one (.pv (.s (.slice none 0 0))), vi (3 : Int)] (.tpc (.one (.nl)) (.tpc (.one (.rfl _ rfl)) (.tp0)))
  ·refine zs (hK2 _ _ (zq fun K9 hK9 => ?_))
   obtain ⟨r1, c10, h⟩ := zB h
   refine zr (zg [] 3 [25,26,27] (zl 16 [vi p1, vi p2, vl (eK .u8) p3] (.tp [vl eI r1.1, vb r1.2]) [(28, .tp [vl eI r1.1, vb r1.2]), (25, vi p1), (26, vi p2), (27, vl (eK .u8) p3)] (c_column_unpack _ _ _ _ c10) (zg [] 5 [8,9] (zd (hK9 _ _ (zq fun K11 hK11 => zq fun K12 hK12 => ?_))))))
   refine zr (zg [] 2 [8,32] (zd (hK12 _ _ (zC h (fun b13 h => ?_) (fun b13 h => ?_)))))
   ·refine zq fun K14 hK14 => zr (zv [] 2 [6,7] [] [(6, .one (.pv (.s (.slice none 0 0)))), (7, vi (1 : Int))] [] (zd (hK14 _ _ (ze ?_))))
    obtain rfl := Option.some.inj h
    exact zf [.one (.pv (.s (.slice none 0 0))), vi (1 : Int)] (.tpc (.one (.nl)) (.tpc (.one (.rfl _ rfl)) (.tp0)))
   ·refine zs (hK11 _ _ (zq fun K15 hK15 => zr (zg [] 3 [6,7] (zd (hK15 _ _ (ze ?_))))))
    obtain rfl := Option.some.inj h
    exact zf [vl eI r1.1, vi (0 : Int)] (.tpc (.one (.rfl _ rfl)) (.tpc (.one (.rfl _ rfl)) (.tp0)))
 rcases zW h with ⟨b4, h⟩ | ⟨b4, h⟩
 ·exact zr (zg [] 3 [0,1,2,12] (zt 12 b4 (zv [] 11 [0,1,2,23] [] [(0, vi p1), (1, vi p2), (2, vl (eK .u8) p3), (23, vb true)] [] (zd (hJ1 true h _ _ (zk [0,1,2,23]))))))
 ·rcases zW h with ⟨b5, h⟩ | ⟨b5, h⟩
  ·exact zr (zg [] 3 [0,1,2,12] (zt 12 b4 (zg [] 4 [0,1,2,16] (zt 16 b5 (zv [] 7 [0,1,2,23] [] [(0, vi p1), (1, vi p2), (2, vl (eK .u8) p3), (23, vb true)] [] (zd (hJ1 true h _ _ (zk [0,1,2,23]))))))))
  ·rcases zW h with ⟨b6, h⟩ | ⟨b6, h⟩
   ·refine zr (zg [] 3 [0,1,2,12] (zt 12 b4 (zg [] 4 [0,1,2,16] (zt 16 b5 (zv [] 4 [0,1,2,20] [] [(0, vi p1), (1, vi p2), (2, vl (eK .u8) p3), (20, vb (decide (p2 < (0 : Int))))] [] (zt 20 b6 (zg [] 3 [0,1,2,23] ?_)))))))
    exact zd (hJ1 true h _ _ (zk [0,1,2,23]))
   ·refine zr (zg [] 3 [0,1,2,12] (zt 12 b4 (zv [] 4 [0,1,2,16] [] [(0, vi p1), (1, vi p2), (2, vl (eK .u8) p3), (16, vb (decide ((62 : Int) < p1)))] [] (zt 16 b5 (zg [] 4 [0,1,2,20] (zt 20 b6 (zg [] 3 [0,1,2,23] ?_)))))))
    exact zd (hJ1 (decide ((1048576 : Int) < p2)) h _ _ (zk [0,1,2,23]))

def ref2_unpack_j1 (rec1 : List Int → Int → Option (List Int)) (x1 : Int) (l3 : List Int) : Option (List Int) :=
    rec1 l3 (IntKind.i64.wrap (x1 + (1 : Int)))

def ref2_unpack_l2 (rec1 : List Int → Int → Option (List Int)) (p1 : Int) (p3 : (List Int)) (x1 : Int) : Nat → List Int → Int → Option (List Int)
  | 0, _, _ => none
  | k2 + 1, l2, x2 =>
    ift (decide ((0 : Int) ≤ x2))
      (bnd (at? l2 x1) fun e1 =>
       bnd (some (IntKind.i64.wrap ((IntKind.i64.wrap ((IntKind.i64.wrap (x1 * p1)) + x2)).tdiv (8 : Int)))) fun y1 =>
       bnd (at? p3 y1) fun e2 =>
       bnd (some ((IntKind.i64.wrap ((IntKind.i64.wrap (x1 * p1)) + x2)).tmod (8 : Int))) fun y2 =>
       grd (0 ≤ y2) <|
       bnd (some ((IntKind.i64.wrap (e2.fdiv (2 ^ (min y2.toNat (IntKind.u8).bits)))).tmod (2 : Int))) fun y3 =>
       (ref2_unpack_l2 rec1 p1 p3 x1 k2) (l2.set x1.toNat (IntKind.i64.wrap ((IntKind.i64.wrap ((2 : Int) * e1)) + y3))) (IntKind.i64.wrap (x2 - (1 : Int))))
      (ref2_unpack_j1 rec1 x1 l2)

def ref2_unpack_j2 (l4 : List Int) : Option (List Int) :=
    some l4

def ref2_unpack_l1 (p1 : Int) (p2 : Int) (p3 : (List Int)) : Nat → List Int → Int → Option (List Int)
  | 0, _, _ => none
  | k1 + 1, l1, x1 =>
    ift (decide (x1 < ((p2.toNat : Nat) : Int)))
      (ref2_unpack_l2 (ref2_unpack_l1 p1 p2 p3 k1) p1 p3 x1 BIG l1 (IntKind.i64.wrap (p1 - (1 : Int))))
      (ref2_unpack_j2 l1)

def ref2_unpack (p1 : Int) (p2 : Int) (p3 : (List Int)) : Option (List Int) :=
    grd (0 ≤ p2 ∧ p2 ≤ p2 ∧ p2 ≤ 4294967296) <|
    ref2_unpack_l1 p1 p2 p3 BIG (List.replicate p2.toNat (0 : Int)) (0 : Int)


theorem c_ref2_unpack (p1 : Int) (p2 : Int) (p3 : (List Int)) (r : (List Int)) (h : ref2_unpack p1 p2 p3 = some r) : PC Try.prog 17 [vi p1, vi p2, vl (eK .u8) p3] (vl eI r) := by
 unfold ref2_unpack at h
 refine zF 50 Try.f17 (zq fun K1 hK1 => zr (zg [] 1 [0,1,2] (zd (hK1 _ _ (zq fun K2 hK2 => ?_)))))
 obtain ⟨g4, h⟩ := zG h
 refine zr (zp [] 2 [0,2,12] [] [(0, vi p1), (2, vl (eK .u8) p3), (12, .one (.sl 0 1 0 p2.toNat))] [.arr 1 (List.replicate p2.toNat [pi (0 : Int)])] [0 ≤ p2, p2 ≤ p2, p2 ≤ 4294967296] (⟨g4.1, g4.2.1, g4.2.2, trivial⟩) ?_)
 rw [show List.replicate p2.toNat [pi (0 : Int)] = eI.els (List.replicate p2.toNat (0 : Int)) from eI.rep _ (0 : Int)]
 refine zg [] 1 [0,2,7] (zd (hK2 _ _ (zq fun K5 hK5 => ?_)))
 have hJ2 : ∀ (l4 : List Int), ref2_unpack_j2 l4 = some r → ∀ fr1 st1, Sub 50 0 [] fr1 st1 [(7, .one (.sl 0 1 0 l4.length))] [.arr 1 (eI.els l4)] → K5 fr1 st1 := by
  intro l4 h fr1 st1 hS
  unfold ref2_unpack_j2 at h
  refine hK5 _ _ (XW.sub hS ?_)
  refine zq fun K24 hK24 => zr (zg [] 2 [6] (zd (hK24 _ _ (ze ?_))))
  obtain rfl := Option.some.inj h
  exact zf [.one (.sl 0 1 0 l4.length)] (.one (cf_sl eI l4 rfl rfl rfl))
 refine zq fun K6 hK6 => zr (zg [] 3 [0,2,7,14,15] (zd (hK6 _ _ (zb 0 (XW.rounds' BIG (x := cd Try.f17 [1,1,0,1,0,0]) (by kernel_rfl) fun Q1 hQ1 => ?_)))))
 have hL1 : ∀ (k1 : Nat) (l1 : List Int) (x1 : Int), ref2_unpack_l1 p1 p2 p3 k1 l1 x1 = some r → XR Try.prog 50 0 [] (cd Try.f17 [1,1,0,1,0,0]) Q1 k1 [(0, vi p1), (2, vl (eK .u8) p3), (7, .one (.sl 0 1 0 l1.length)), (14, vi ((p2.toNat : Nat) : Int)), (15, vi x1)] [.arr 1 (eI.els l1)] := by
  intro k1
  induction k1 with
  | zero => intro l1 x1 h; rw [ref2_unpack_l1.eq_1] at h; cases h
  | succ k1 ih1 =>
   intro l1 x1 h
   rw [ref2_unpack_l1.eq_2] at h
   refine zq fun K7 hK7 => zr (zg [] 1 [0,2,7,14,15,16] (zd (hK7 _ _ (zq fun K8 hK8 => zC h (fun b9 h => ?_) (fun b9 h => ?_)))))
   ·refine zs (hK8 _ _ (zq fun K10 hK10 => ?_))
    have hJ1 : ∀ (l3 : List Int), ref2_unpack_j1 (ref2_unpack_l1 p1 p2 p3 k1) x1 l3 = some r → ∀ fr1 st1, Sub 50 0 [] fr1 st1 [(0, vi p1), (2, vl (eK .u8) p3), (7, .one (.sl 0 1 0 l3.length)), (14, vi ((p2.toNat : Nat) : Int)), (15, vi x1)] [.arr 1 (eI.els l3)] → K10 fr1 st1 := by
     intro l3 h fr1 st1 hS
     unfold ref2_unpack_j1 at h
     refine hK10 _ _ (XW.sub hS ?_)
     exact zr (zg [] 2 [0,2,7,14,15] (zd (XR.sub (zk [0,2,7,14,15]) (ih1 l3 (IntKind.i64.wrap (x1 + (1 : Int))) h))))
    refine zb 1 (zq fun K11 hK11 => zr (zg [] 2 [0,2,7,8,14,15] (zd (hK11 _ _ (zq fun K12 hK12 => zr ?_)))))
    refine zv [] 3 [0,2,7,8,9,14,15] [] [(0, vi p1), (2, vl (eK .u8) p3), (7, .one (.sl 0 1 0 l1.length)), (8, vi x1), (9, vi (IntKind.i64.wrap (p1 - (1 : Int)))), (14, vi ((p2.toNat : Nat) : Int)), (15, vi x1)] [.arr 1 (eI.els l1)] (zd (hK12 _ _ (zb 2 (XW.rounds' BIG (x := cd Try.f17 [1,1,0,1,0,0,1,1,0,0,1,1,0,0]) (by kernel_rfl) fun Q2 hQ2 => ?_))))
    have hL2 : ∀ (k2 : Nat) (l2 : List Int) (x2 : Int), ref2_unpack_l2 (ref2_unpack_l1 p1 p2 p3 k1) p1 p3 x1 k2 l2 x2 = some r → XR Try.prog 50 0 [] (cd Try.f17 [1,1,0,1,0,0,1,1,0,0,1,1,0,0]) Q2 k2 [(0, vi p1), (2, vl (eK .u8) p3), (7, .one (.sl 0 1 0 l2.length)), (8, vi x1), (9, vi x2), (14, vi ((p2.toNat : Nat) : Int)), (15, vi x1)] [.arr 1 (eI.els l2)] := by
     intro k2
     induction k2 with
     | zero => intro l2 x2 h; rw [ref2_unpack_l2.eq_1] at h; cases h
     | succ k2 ih2 =>
      intro l2 x2 h
      rw [ref2_unpack_l2.eq_2] at h
      refine zq fun K13 hK13 => zq fun K14 hK14 => zr (zg [] 2 [0,2,7,8,9,14,15,21] (zd (hK14 _ _ (zC h (fun b15 h => ?_) (fun b15 h => ?_)))))
      ·refine zs (hK13 _ _ (zq fun K16 hK16 => zb 3 (zq fun K17 hK17 => zr (zg [] 6 [0,2,7,8,9,10,14,15] (zd ?_)))))
       refine hK17 _ _ ?_
       obtain ⟨e1, a18, h⟩ := zB h
       obtain ⟨y1, hy19, h⟩ := zB h
       obtain ⟨e2, a20, h⟩ := zB h
       obtain ⟨y2, hy21, h⟩ := zB h
       obtain ⟨g22, h⟩ := zG h
       obtain ⟨y3, hy23, h⟩ := zB h
       refine zw 18 [(46, vi (IntKind.i64.wrap ((IntKind.i64.wrap ((2 : Int) * e1)) + y3))), (45, vi y3), (44, vi (IntKind.i64.wrap (e2.fdiv (2 ^ (min y2.toNat (IntKind.u8).bits))))), (43, vk .u8 (e2.fdiv (2 ^ (min y2.toNat (IntKind.u8).bits)))), (42, vi y2), (41, vi (IntKind.i64.wrap ((IntKind.i64.wrap (x1 * p1)) + x2))), (40, vk .u8 e2), (39, .one (.pv (.rp ((eK .u8).els p3) y1.toNat 0))), (38, vi y1), (37, vi (IntKind.i64.wrap ((IntKind.i64.wrap (x1 * p1)) + x2))), (36, vl (eK .u8) p3), (35, vi (IntKind.i64.wrap ((2 : Int) * e1))), (34, vi e1), (33, .one (.pt 0 1 (0 + x1.toNat) 0)), (32, vi x1), (31, .one (.sl 0 1 0 l2.length)), (30, vi x1), (29, .one (.sl 0 1 0 l2.length)), (0, vi p1), (2, vl (eK .u8) p3), (7, .one (.sl 0 1 0 l2.length)), (8, vi x1), (9, vi x2), (10, vi (IntKind.i64.wrap ((IntKind.i64.wrap (x1 * p1)) + x2))), (14, vi ((p2.toNat : Nat) : Int)), (15, vi x1)] ?_ ?_
       ·refine zyp 10 [[pi e1]] [(38, vi (IntKind.i64.wrap ((IntKind.i64.wrap ((IntKind.i64.wrap (x1 * p1)) + x2)).tdiv (8 : Int)))), (37, vi (IntKind.i64.wrap ((IntKind.i64.wrap (x1 * p1)) + x2))), (36, vl (eK .u8) p3), (35, vi (IntKind.i64.wrap ((2 : Int) * e1))), (34, vi e1), (33, .one (.pt 0 1 (0 + x1.toNat) 0)), (32, vi x1), (31, .one (.sl 0 1 0 l2.length)), (30, vi x1), (29, .one (.sl 0 1 0 l2.length)), (0, vi p1), (2, vl (eK .u8) p3), (7, .one (.sl 0 1 0 l2.length)), (8, vi x1), (9, vi x2), (10, vi (IntKind.i64.wrap ((IntKind.i64.wrap (x1 * p1)) + x2))), (14, vi ((p2.toNat : Nat) : Int)), (15, vi x1)] [0 ≤ x1 ∧ x1 < ((l2.length : Nat) : Int), (eI.els l2)[(0 + x1.toNat)]? = some [pi e1], (8 : Int) ≠ 0] (⟨Enc.inb' a18, (eI.get0 a18), by decide, trivial⟩) ?_
        rw [show (IntKind.i64.wrap ((IntKind.i64.wrap ((IntKind.i64.wrap (x1 * p1)) + x2)).tdiv (8 : Int))) = y1 from Option.some.inj hy19]
        refine zyp 4 [[.s (.int .u8 e2)]] [(42, vi ((IntKind.i64.wrap ((IntKind.i64.wrap (x1 * p1)) + x2)).tmod (8 : Int))), (41, vi (IntKind.i64.wrap ((IntKind.i64.wrap (x1 * p1)) + x2))), (40, vk .u8 e2), (39, .one (.pv (.rp ((eK .u8).els p3) y1.toNat 0))), (38, vi y1), (37, vi (IntKind.i64.wrap ((IntKind.i64.wrap (x1 * p1)) + x2))), (36, vl (eK .u8) p3), (35, vi (IntKind.i64.wrap ((2 : Int) * e1))), (34, vi e1), (33, .one (.pt 0 1 (0 + x1.toNat) 0)), (32, vi x1), (31, .one (.sl 0 1 0 l2.length)), (30, vi x1), (29, .one (.sl 0 1 0 l2.length)), (0, vi p1), (2, vl (eK .u8) p3), (7, .one (.sl 0 1 0 l2.length)), (8, vi x1), (9, vi x2), (10, vi (IntKind.i64.wrap ((IntKind.i64.wrap (x1 * p1)) + x2))), (14, vi ((p2.toNat : Nat) : Int)), (15, vi x1)] [0 ≤ y1 ∧ y1 < (((eK .u8).els p3).length : Int) ∧ elemsOk 1 ((eK .u8).els p3), ((eK .u8).els p3)[y1.toNat]? = some [.s (.int .u8 e2)], (8 : Int) ≠ 0] (⟨(eK .u8).inb a20, ((eK .u8).get a20), by decide, trivial⟩) ?_
        rw [show ((IntKind.i64.wrap ((IntKind.i64.wrap (x1 * p1)) + x2)).tmod (8 : Int)) = y2 from Option.some.inj hy21]
        refine zyp 3 [] [(45, vi ((IntKind.i64.wrap (e2.fdiv (2 ^ (min y2.toNat (IntKind.u8).bits)))).tmod (2 : Int))), (44, vi (IntKind.i64.wrap (e2.fdiv (2 ^ (min y2.toNat (IntKind.u8).bits))))), (43, vk .u8 (e2.fdiv (2 ^ (min y2.toNat (IntKind.u8).bits)))), (42, vi y2), (41, vi (IntKind.i64.wrap ((IntKind.i64.wrap (x1 * p1)) + x2))), (40, vk .u8 e2), (39, .one (.pv (.rp ((eK .u8).els p3) y1.toNat 0))), (38, vi y1), (37, vi (IntKind.i64.wrap ((IntKind.i64.wrap (x1 * p1)) + x2))), (36, vl (eK .u8) p3), (35, vi (IntKind.i64.wrap ((2 : Int) * e1))), (34, vi e1), (33, .one (.pt 0 1 (0 + x1.toNat) 0)), (32, vi x1), (31, .one (.sl 0 1 0 l2.length)), (30, vi x1), (29, .one (.sl 0 1 0 l2.length)), (0, vi p1), (2, vl (eK .u8) p3), (7, .one (.sl 0 1 0 l2.length)), (8, vi x1), (9, vi x2), (10, vi (IntKind.i64.wrap ((IntKind.i64.wrap (x1 * p1)) + x2))), (14, vi ((p2.toNat : Nat) : Int)), (15, vi x1)] [0 ≤ y2, (2 : Int) ≠ 0] (⟨g22, by decide, trivial⟩) ?_
        rw [show ((IntKind.i64.wrap (e2.fdiv (2 ^ (min y2.toNat (IntKind.u8).bits)))).tmod (2 : Int)) = y3 from Option.some.inj hy23]
        exact zyg 1 zyd
       refine zp [] 2 [0,2,7,8,9,14,15] [[pi e1]] [(0, vi p1), (2, vl (eK .u8) p3), (7, .one (.sl 0 1 0 l2.length)), (8, vi x1), (9, vi x2), (14, vi ((p2.toNat : Nat) : Int)), (15, vi x1)] [.arr 1 ((eI.els l2).set (0 + x1.toNat) [pi (IntKind.i64.wrap ((IntKind.i64.wrap ((2 : Int) * e1)) + y3))])] [0 ≤ x1 ∧ x1 < ((l2.length : Nat) : Int), (eI.els l2)[(0 + x1.toNat)]? = some [pi e1]] (⟨Enc.inb' a18, (eI.get0 a18), trivial⟩) ?_
       rw [show (eI.els l2).set (0 + x1.toNat) [pi (IntKind.i64.wrap ((IntKind.i64.wrap ((2 : Int) * e1)) + y3))] = eI.els (l2.set x1.toNat (IntKind.i64.wrap ((IntKind.i64.wrap ((2 : Int) * e1)) + y3))) from eI.set0 _ _ (IntKind.i64.wrap ((IntKind.i64.wrap ((2 : Int) * e1)) + y3))]
       refine zd (hK16 _ _ (zr (zg [] 3 [0,2,7,8,9,14,15] (zd ?_))))
       exact XR.sub (Sub.trans (Sub.pick (fr' := [(0, vi p1), (2, vl (eK .u8) p3), (7, .one (.sl 0 1 0 l2.length)), (8, vi x1), (9, vi (IntKind.i64.wrap (x2 - (1 : Int)))), (14, vi ((p2.toNat : Nat) : Int)), (15, vi x1)]) [0,2,7,8,9,14,15] (by kernel_rfl)) (Sub.frame (fr' := [(0, vi p1), (2, vl (eK .u8) p3), (7, .one (.sl 0 1 0 (l2.set x1.toNat (IntKind.i64.wrap ((IntKind.i64.wrap ((2 : Int) * e1)) + y3))).length)), (8, vi x1), (9, vi (IntKind.i64.wrap (x2 - (1 : Int)))), (14, vi ((p2.toNat : Nat) : Int)), (15, vi x1)]) ⟨.rfl _, .rfl _, ALe.of_eq (show (.one (.sl 0 1 0 l2.length) : AV) = .one (.sl 0 1 0 (l2.set x1.toNat (IntKind.i64.wrap ((IntKind.i64.wrap ((2 : Int) * e1)) + y3))).length) from by simp), .rfl _, .rfl _, .rfl _, .rfl _, trivial⟩)) (ih2 (l2.set x1.toNat (IntKind.i64.wrap ((IntKind.i64.wrap ((2 : Int) * e1)) + y3))) (IntKind.i64.wrap (x2 - (1 : Int))) h)
      ·exact zx 2 (hQ2 _ _ _ (hJ1 l2 h _ _ (zk [0,2,7,14,15])))
    exact XR.sub (zk [0,2,7,8,9,14,15]) (hL2 BIG l1 (IntKind.i64.wrap (p1 - (1 : Int))) h)
   ·exact zx 0 (hQ1 _ _ _ (hJ2 l1 h _ _ (zk [7])))
 exact XR.sub (Sub.trans (Sub.pick (fr' := [(0, vi p1), (2, vl (eK .u8) p3), (7, .one (.sl 0 1 0 p2.toNat)), (14, vi ((p2.toNat : Nat) : Int)), (15, vi (0 : Int))]) [0,2,7,14,15] (by kernel_rfl)) (Sub.frame (fr' := [(0, vi p1), (2, vl (eK .u8) p3), (7, .one (.sl 0 1 0 (List.replicate p2.toNat (0 : Int)).length)), (14, vi ((p2.toNat : Nat) : Int)), (15, vi (0 : Int))]) ⟨.rfl _, .rfl _, ALe.of_eq (show (.one (.sl 0 1 0 p2.toNat) : AV) = .one (.sl 0 1 0 (List.replicate p2.toNat (0 : Int)).length) from by simp), .rfl _, .rfl _, trivial⟩)) (hL1 BIG (List.replicate p2.toNat (0 : Int)) (0 : Int) h)

def ref2_sameBytes (p1 : (List Int)) (p2 : (List Int)) : Option Bool :=
    some ((strOfNums p1).toList == (strOfNums p2).toList)


theorem c_ref2_sameBytes (p1 : (List Int)) (p2 : (List Int)) (r : Bool) (h : ref2_sameBytes p1 p2 = some r) : PC Try.prog 18 [vl (eK .u8) p1, vl (eK .u8) p2] (vb r) := by
 unfold ref2_sameBytes at h
 refine zF 10 Try.f18 (zq fun K1 hK1 => zr (zg [] 1 [0,1] (zd (hK1 _ _ (zq fun K2 hK2 => zr ?_)))))
 refine zp [] 2 [1,6] [] [(1, vl (eK .u8) p2), (6, vs (strOfEls ((eK .u8).els p1)))] [] [bytesOk ((eK .u8).els p1)] (⟨bytesOk_eK _, trivial⟩) ?_
 rw [strOf_eK p1]
 refine zp [] 2 [6,8] [] [(6, vs (strOfNums p1)), (8, vs (strOfEls ((eK .u8).els p2)))] [] [bytesOk ((eK .u8).els p2)] (⟨bytesOk_eK _, trivial⟩) ?_
 rw [strOf_eK p2]
 refine zg [] 2 [4] (zd (hK2 _ _ (ze ?_)))
 obtain rfl := Option.some.inj h
 exact zf [vb ((strOfNums p1).toList == (strOfNums p2).toList)] (.one (.rfl _ rfl))

def ref2_Unpack_j1 (p1 : Int) (p2 : Int) (p3 : (List Int)) (x1 : Bool) : Option ((List Int) × Int) :=
    ift x1
      (some ([], (3 : Int)))
      (bnd (some (IntKind.i64.wrap ((IntKind.i64.wrap ((IntKind.i64.wrap (p2 * p1)) + (7 : Int))).tdiv (8 : Int)))) fun y1 =>
       ift ((p3.length : Int) != y1)
         (some ([], (1 : Int)))
         (bnd (ref2_unpack p1 p2 p3) fun r1 =>
          bnd (ref2_pack p1 r1) fun r2 =>
          bnd (ref2_sameBytes r2 p3) fun r3 =>
          ift (!r3)
            (some ([], (1 : Int)))
            (some (r1, (0 : Int)))))

def ref2_Unpack (p1 : Int) (p2 : Int) (p3 : (List Int)) : Option ((List Int) × Int) :=
    ift (decide (p1 < (0 : Int)))
      (ref2_Unpack_j1 p1 p2 p3 true)
      (ift (decide ((62 : Int) < p1))
         (ref2_Unpack_j1 p1 p2 p3 true)
         (ift (decide (p2 < (0 : Int)))
            (ref2_Unpack_j1 p1 p2 p3 true)
            (ref2_Unpack_j1 p1 p2 p3 (decide ((1048576 : Int) < p2)))))


theorem c_ref2_Unpack (p1 : Int) (p2 : Int) (p3 : (List Int)) (r : ((List Int) × Int)) (h : ref2_Unpack p1 p2 p3 = some r) : PC Try.prog 7 [vi p1, vi p2, vl (eK .u8) p3] (.tp [vl eI r.1, vi r.2]) := by
 unfold ref2_Unpack at h
 refine zF 42 Try.f7 (zq fun K1 hK1 => zr (zg [] 2 [0,1,2] (zd (hK1 _ _ (zq fun K2 hK2 => zq fun K3 hK3 => ?_)))))
 have hJ1 : ∀ (x1 : Bool), ref2_Unpack_j1 p1 p2 p3 x1 = some r → ∀ fr1 st1, Sub 42 0 [] fr1 st1 [(0, vi p1), (1, vi p2), (2, vl (eK .u8) p3), (22, vb x1)] [] → K3 fr1 st1 := by
  intro x1 h fr1 st1 hS
  unfold ref2_Unpack_j1 at h
  refine hK3 _ _ (XW.sub hS ?_)
  refine zC h (fun b7 h => ?_) (fun b7 h => ?_)
  ·refine zq fun K8 hK8 => zr (zg [] 2 [6,7] (zd (hK8 _ _ (ze ?_))))
   obtain rfl := Option.some.inj h
   exact zf [.one (.pv (.s (.slice none 0 0))), vi (3 : Int)] (.tpc (.one (.nl)) (.tpc (.one (.rfl _ rfl)) (.tp0)))
  ·refine zs (hK2 _ _ (zq fun K9 hK9 => zq fun K10 hK10 => ?_))
   obtain ⟨y1, hy11, h⟩ := zB h
   refine zr (zv [] 2 [0,1,2,24] [] [(0, vi p1), (1, vi p2), (2, vl (eK .u8) p3), (24, vi (((eK .u8).els p3).length : Int))] [] ?_)
   rw [(eK .u8).len p3]
   refine zp [] 5 [0,1,2,24,29] [] [(0, vi p1), (1, vi p2), (2, vl (eK .u8) p3), (24, vi (p3.length : Int)), (29, vi (IntKind.i64.wrap ((IntKind.i64.wrap ((IntKind.i64.wrap (p2 * p1)) + (7 : Int))).tdiv (8 : Int))))] [] [(8 : Int) ≠ 0] (⟨by decide, trivial⟩) ?_
   rw [show (IntKind.i64.wrap ((IntKind.i64.wrap ((IntKind.i64.wrap (p2 * p1)) + (7 : Int))).tdiv (8 : Int))) = y1 from Option.some.inj hy11]
   refine zg [] 1 [0,1,2,30] (zd (hK10 _ _ (zC h (fun b12 h => ?_) (fun b12 h => ?_))))
   ·refine zq fun K13 hK13 => zr (zg [] 2 [6,7] (zd (hK13 _ _ (ze ?_))))
    obtain rfl := Option.some.inj h
    exact zf [.one (.pv (.s (.slice none 0 0))), vi (1 : Int)] (.tpc (.one (.nl)) (.tpc (.one (.rfl _ rfl)) (.tp0)))
   ·refine zs (hK9 _ _ (zq fun K14 hK14 => ?_))
    obtain ⟨r1, c15, h⟩ := zB h
    refine zr (zv [] 3 [0,2,31,32,33] [] [(0, vi p1), (2, vl (eK .u8) p3), (31, vi p1), (32, vi p2), (33, vl (eK .u8) p3)] [] (za (c_ref2_unpack _ _ _ _ c15) (zg [] 1 [0,2,8] (zd (hK14 _ _ (zq fun K16 hK16 => zq fun K17 hK17 => ?_))))))
    obtain ⟨r2, c18, h⟩ := zB h
    obtain ⟨r3, c19, h⟩ := zB h
    refine zr (zv [] 2 [2,8,35,36] [] [(2, vl (eK .u8) p3), (8, vl eI r1), (35, vi p1), (36, vl eI r1)] [] (za (c_ref2_pack _ _ _ c18) (zg [] 1 [8,37,38] (zl 18 [vl (eK .u8) r2, vl (eK .u8) p3] (vb r3) [(39, vb r3), (8, vl eI r1), (37, vl (eK .u8) r2), (38, vl (eK .u8) p3)] (c_ref2_sameBytes _ _ _ c19) (zg [] 1 [8,40] (zd (hK17 _ _ ?_)))))))
    refine zC h (fun b20 h => ?_) (fun b20 h => ?_)
    ·refine zq fun K21 hK21 => zr (zg [] 2 [6,7] (zd (hK21 _ _ (ze ?_))))
     obtain rfl := Option.some.inj h
     exact zf [.one (.pv (.s (.slice none 0 0))), vi (1 : Int)] (.tpc (.one (.nl)) (.tpc (.one (.rfl _ rfl)) (.tp0)))
    ·refine zs (hK16 _ _ (zq fun K22 hK22 => zr (zv [] 3 [6,7] [] [(6, vl eI r1), (7, vi (0 : Int))] [] (zd (hK22 _ _ (ze ?_))))))
     obtain rfl := Option.some.inj h
     exact zf [vl eI r1, vi (0 : Int)] (.tpc (.one (.rfl _ rfl)) (.tpc (.one (.rfl _ rfl)) (.tp0)))
 rcases zW h with ⟨b4, h⟩ | ⟨b4, h⟩
 ·exact zr (zg [] 3 [0,1,2,11] (zt 11 b4 (zv [] 11 [0,1,2,22] [] [(0, vi p1), (1, vi p2), (2, vl (eK .u8) p3), (22, vb true)] [] (zd (hJ1 true h _ _ (zk [0,1,2,22]))))))
 ·rcases zW h with ⟨b5, h⟩ | ⟨b5, h⟩
  ·exact zr (zg [] 3 [0,1,2,11] (zt 11 b4 (zg [] 4 [0,1,2,15] (zt 15 b5 (zv [] 7 [0,1,2,22] [] [(0, vi p1), (1, vi p2), (2, vl (eK .u8) p3), (22, vb true)] [] (zd (hJ1 true h _ _ (zk [0,1,2,22]))))))))
  ·rcases zW h with ⟨b6, h⟩ | ⟨b6, h⟩
   ·refine zr (zg [] 3 [0,1,2,11] (zt 11 b4 (zg [] 4 [0,1,2,15] (zt 15 b5 (zv [] 4 [0,1,2,19] [] [(0, vi p1), (1, vi p2), (2, vl (eK .u8) p3), (19, vb (decide (p2 < (0 : Int))))] [] (zt 19 b6 (zg [] 3 [0,1,2,22] ?_)))))))
    exact zd (hJ1 true h _ _ (zk [0,1,2,22]))
   ·refine zr (zg [] 3 [0,1,2,11] (zt 11 b4 (zv [] 4 [0,1,2,15] [] [(0, vi p1), (1, vi p2), (2, vl (eK .u8) p3), (15, vb (decide ((62 : Int) < p1)))] [] (zt 15 b5 (zg [] 4 [0,1,2,19] (zt 19 b6 (zg [] 3 [0,1,2,22] ?_)))))))
    exact zd (hJ1 (decide ((1048576 : Int) < p2)) h _ _ (zk [0,1,2,22]))

def law2_packs_j1 (x1 : Bool) : Option Bool :=
    some x1

def law2_packs : Option Bool :=
    bnd (column_Pack (2 : Int) [(1 : Int), (2 : Int), (3 : Int)]) fun r1 =>
    ift (r1.2 == (0 : Int))
      (bnd (bytes_Equal r1.1 [(57 : Int)]) fun r2 =>
       law2_packs_j1 r2)
      (law2_packs_j1 false)


theorem c_law2_packs (r : Bool) (h : law2_packs = some r) : PC Try.prog 8 [] (vb r) := by
 unfold law2_packs at h
 refine zF 15 Try.f8 (zq fun K1 hK1 => zr (zg [] 1 [] (zd (hK1 _ _ (zq fun K2 hK2 => ?_)))))
 obtain ⟨r1, c3, h⟩ := zB h
 refine zr (zg [] 1 [4] (zl 4 [vi (2 : Int), vl eI [(1 : Int), (2 : Int), (3 : Int)]] (.tp [vl (eK .u8) r1.1, vi r1.2]) [(5, .tp [vl (eK .u8) r1.1, vi r1.2]), (4, vl eI [(1 : Int), (2 : Int), (3 : Int)])] (c_column_Pack _ _ _ c3) (zg [] 5 [1,2] (zd (hK2 _ _ (zq fun K4 hK4 => ?_))))))
 have hJ1 : ∀ (x1 : Bool), law2_packs_j1 x1 = some r → ∀ fr1 st1, Sub 15 0 [] fr1 st1 [(0, vb x1)] [] → K4 fr1 st1 := by
  intro x1 h fr1 st1 hS
  unfold law2_packs_j1 at h
  refine hK4 _ _ (XW.sub hS ?_)
  refine ze ?_
  obtain rfl := Option.some.inj h
  exact zf [vb x1] (.one (.rfl _ rfl))
 rcases zW h with ⟨b5, h⟩ | ⟨b5, h⟩
 ·obtain ⟨r2, c6, h⟩ := zB h
  exact zr (zg [] 3 [1,10] (zt 10 b5 (zv [] 2 [10,11,12] [] [(10, vb true), (11, vl (eK .u8) r1.1), (12, vl (eK .u8) [(57 : Int)])] [] (za (c_bytes_Equal _ _ _ c6) (zg [] 2 [0] (zd (hJ1 r2 h _ _ (zk [0]))))))))
 ·exact zr (zv [] 3 [1,10] [] [(1, vl (eK .u8) r1.1), (10, vb (r1.2 == (0 : Int)))] [] (zt 10 b5 (zg [] 5 [0] (zd (hJ1 false h _ _ (zk [0]))))))

def law2_ints_j1 : Option Bool :=
    some true

def law2_ints_l1 (p1 : (List Int)) (p2 : (List Int)) : Nat → Int → Option Bool
  | 0, _ => none
  | k1 + 1, x1 =>
    ift (decide (x1 < (p1.length : Int)))
      (bnd (at? p1 x1) fun e1 =>
       bnd (at? p2 x1) fun e2 =>
       ift (e1 != e2)
         (some false)
         ((law2_ints_l1 p1 p2 k1) (IntKind.i64.wrap (x1 + (1 : Int)))))
      (law2_ints_j1)

def law2_ints (p1 : (List Int)) (p2 : (List Int)) : Option Bool :=
    ift ((p1.length : Int) != (p2.length : Int))
      (some false)
      (law2_ints_l1 p1 p2 BIG (0 : Int))

abbrev qa212 (p1 : (List Int)) (p2 : (List Int)) (x1 : Int) (e1 : Int) (e2 : Int) : Fr := [(23, vi e2), (22, .one (.pv (.rp (eI.els p2) x1.toNat 0))), (21, vi x1), (20, vl eI p2), (19, vi e1), (18, .one (.pv (.rp (eI.els p1) x1.toNat 0))), (17, vi x1), (16, vl eI p1), (0, vl eI p1), (1, vl eI p2), (5, vi x1), (12, vi (p1.length : Int)), (13, vi x1)]

theorem c_law2_ints (p1 : (List Int)) (p2 : (List Int)) (r : Bool) (h : law2_ints p1 p2 = some r) : PC Try.prog 10 [vl eI p1, vl eI p2] (vb r) := by
 unfold law2_ints at h
 refine zF 26 Try.f10 (zq fun K1 hK1 => zr (zg [] 1 [0,1] (zd (hK1 _ _ (zq fun K2 hK2 => zq fun K3 hK3 => ?_)))))
 refine zr (zv [] 2 [0,1,7] [] [(0, vl eI p1), (1, vl eI p2), (7, vi ((eI.els p1).length : Int))] [] ?_)
 rw [eI.len p1]
 refine zv [] 2 [0,1,7,9] [] [(0, vl eI p1), (1, vl eI p2), (7, vi (p1.length : Int)), (9, vi ((eI.els p2).length : Int))] [] ?_
 rw [eI.len p2]
 refine zg [] 1 [0,1,10] (zd (hK3 _ _ (zC h (fun b4 h => ?_) (fun b4 h => ?_))))
 ·refine zq fun K5 hK5 => zr (zg [] 1 [4] (zd (hK5 _ _ (ze ?_))))
  obtain rfl := Option.some.inj h
  exact zf [vb false] (.one (.rfl _ rfl))
 ·refine zs (hK2 _ _ (zq fun K6 hK6 => ?_))
  have hJ1 : ∀ (_ : Unit), law2_ints_j1 = some r → ∀ fr1 st1, Sub 26 0 [] fr1 st1 [] [] → K6 fr1 st1 := by
   intro _ h fr1 st1 hS
   unfold law2_ints_j1 at h
   refine hK6 _ _ (XW.sub hS ?_)
   refine zq fun K18 hK18 => zr (zg [] 1 [4] (zd (hK18 _ _ (ze ?_))))
   obtain rfl := Option.some.inj h
   exact zf [vb true] (.one (.rfl _ rfl))
  refine zq fun K7 hK7 => zr (zv [] 2 [0,1,12] [] [(0, vl eI p1), (1, vl eI p2), (12, vi ((eI.els p1).length : Int))] [] ?_)
  rw [eI.len p1]
  refine zg [] 1 [0,1,12,13] (zd (hK7 _ _ (zb 0 (XW.rounds' BIG (x := cd Try.f10 [1,1,0,1,0,0]) (by kernel_rfl) fun Q1 hQ1 => ?_))))
  have hL1 : ∀ (k1 : Nat) (x1 : Int), law2_ints_l1 p1 p2 k1 x1 = some r → XR Try.prog 26 0 [] (cd Try.f10 [1,1,0,1,0,0]) Q1 k1 [(0, vl eI p1), (1, vl eI p2), (12, vi (p1.length : Int)), (13, vi x1)] [] := by
   intro k1
   induction k1 with
   | zero => intro x1 h; rw [law2_ints_l1.eq_1] at h; cases h
   | succ k1 ih1 =>
    intro x1 h
    rw [law2_ints_l1.eq_2] at h
    refine zq fun K8 hK8 => zr (zg [] 1 [0,1,12,13,14] (zd (hK8 _ _ (zq fun K9 hK9 => zC h (fun b10 h => ?_) (fun b10 h => ?_)))))
    ·refine zs (hK9 _ _ (zq fun K11 hK11 => zb 1 (zq fun K12 hK12 => zr (zg [] 2 [0,1,5,12,13] (zd ?_)))))
     refine hK12 _ _ (zq fun K13 hK13 => ?_)
     obtain ⟨e1, a14, h⟩ := zB h
     obtain ⟨e2, a15, h⟩ := zB h
     refine zw 8 (qa212 p1 p2 x1 e1 e2) ?_ ?_
     ·exact zyp 8 [[pi e1], [pi e2]] (qa212 p1 p2 x1 e1 e2) [0 ≤ x1 ∧ x1 < ((eI.els p1).length : Int) ∧ elemsOk 1 (eI.els p1), (eI.els p1)[x1.toNat]? = some [pi e1], 0 ≤ x1 ∧ x1 < ((eI.els p2).length : Int) ∧ elemsOk 1 (eI.els p2), (eI.els p2)[x1.toNat]? = some [pi e2]] (⟨eI.inb a14, (eI.get a14), eI.inb a15, (eI.get a15), trivial⟩) zyd
     refine zv [] 1 [0,1,12,13,24] [] [(0, vl eI p1), (1, vl eI p2), (12, vi (p1.length : Int)), (13, vi x1), (24, vb (e1 != e2))] [] (zd (hK13 _ _ (zC h (fun b16 h => ?_) (fun b16 h => ?_))))
     ·refine zq fun K17 hK17 => zr (zg [] 1 [4] (zd (hK17 _ _ (ze (hQ1 _ _ _ ?_)))))
      obtain rfl := Option.some.inj h
      exact zf [vb false] (.one (.rfl _ rfl))
     ·exact zs (hK11 _ _ (zr (zg [] 2 [0,1,12,13] (zd (XR.sub (zk [0,1,12,13]) (ih1 (IntKind.i64.wrap (x1 + (1 : Int))) h))))))
    ·exact zx 0 (hQ1 _ _ _ (hJ1 () h _ _ (zk [])))
  exact XR.sub (zk [0,1,12,13]) (hL1 BIG (0 : Int) h)

def law2_ColumnPacksMatchSpec_j1 (x1 : Bool) : Option Bool :=
    some x1

def law2_ColumnPacksMatchSpec (p1 : Int) (p2 : Int) (p3 : (List Int)) (p4 : (List Int)) : Option Bool :=
    bnd (column_Pack p1 p3) fun r1 =>
    bnd (ref2_Pack p1 p3) fun r2 =>
    bnd (column_Unpack p1 p2 p4) fun r3 =>
    bnd (ref2_Unpack p1 p2 p4) fun r4 =>
    bnd (law2_packs) fun r5 =>
    ift r5
      (ift (r1.2 == r2.2)
         (bnd (bytes_Equal r1.1 r2.1) fun r6 =>
          ift r6
            (ift (r3.2 == r4.2)
               (bnd (law2_ints r3.1 r4.1) fun r7 =>
                law2_ColumnPacksMatchSpec_j1 r7)
               (law2_ColumnPacksMatchSpec_j1 false))
            (law2_ColumnPacksMatchSpec_j1 false))
         (law2_ColumnPacksMatchSpec_j1 false))
      (law2_ColumnPacksMatchSpec_j1 false)

abbrev qa221 (r1 : ((List Int) × Int)) (r2 : ((List Int) × Int)) (r3 : ((List Int) × Int)) (r4 : ((List Int) × Int)) (r5 : Bool) : Fr := [(9, vl (eK .u8) r1.1), (10, vi r1.2), (11, vl (eK .u8) r2.1), (12, vi r2.2), (13, vl eI r3.1), (14, vi r3.2), (15, vl eI r4.1), (16, vi r4.2), (44, vb r5)]

theorem c_law2_ColumnPacksMatchSpec (p1 : Int) (p2 : Int) (p3 : (List Int)) (p4 : (List Int)) (r : Bool) (h : law2_ColumnPacksMatchSpec p1 p2 p3 p4 = some r) : PC Try.prog 3 [vi p1, vi p2, vl eI p3, vl (eK .u8) p4] (vb r) := by
 unfold law2_ColumnPacksMatchSpec at h
 refine zF 64 Try.f3 (zq fun K1 hK1 => zr (zg [] 1 [0,1,2,3] (zd (hK1 _ _ (zq fun K2 hK2 => ?_)))))
 obtain ⟨r1, c3, h⟩ := zB h
 refine zr (zg [] 2 [0,1,2,3,18,19] (zl 4 [vi p1, vl eI p3] (.tp [vl (eK .u8) r1.1, vi r1.2]) [(20, .tp [vl (eK .u8) r1.1, vi r1.2]), (0, vi p1), (1, vi p2), (2, vl eI p3), (3, vl (eK .u8) p4), (18, vi p1), (19, vl eI p3)] (c_column_Pack _ _ _ c3) (zg [] 5 [0,1,2,3,9,10] (zd (hK2 _ _ (zq fun K4 hK4 => ?_))))))
 obtain ⟨r2, c5, h⟩ := zB h
 refine zr (zg [] 2 [0,1,3,9,10,24,25] (zl 5 [vi p1, vl eI p3] (.tp [vl (eK .u8) r2.1, vi r2.2]) [(26, .tp [vl (eK .u8) r2.1, vi r2.2]), (0, vi p1), (1, vi p2), (3, vl (eK .u8) p4), (9, vl (eK .u8) r1.1), (10, vi r1.2), (24, vi p1), (25, vl eI p3)] (c_ref2_Pack _ _ _ c5) (zg [] 5 [0,1,3,9,10,11,12] (zd (hK4 _ _ (zq fun K6 hK6 => ?_))))))
 obtain ⟨r3, c7, h⟩ := zB h
 refine zr (zg [] 3 [0,1,3,9,10,11,12,30,31,32] (zl 6 [vi p1, vi p2, vl (eK .u8) p4] (.tp [vl eI r3.1, vi r3.2]) [(33, .tp [vl eI r3.1, vi r3.2]), (0, vi p1), (1, vi p2), (3, vl (eK .u8) p4), (9, vl (eK .u8) r1.1), (10, vi r1.2), (11, vl (eK .u8) r2.1), (12, vi r2.2), (30, vi p1), (31, vi p2), (32, vl (eK .u8) p4)] (c_column_Unpack _ _ _ _ c7) (zg [] 5 [0,1,3,9,10,11,12,13,14] (zd (hK6 _ _ (zq fun K8 hK8 => ?_))))))
 obtain ⟨r4, c9, h⟩ := zB h
 refine zr (zg [] 3 [9,10,11,12,13,14,37,38,39] (zl 7 [vi p1, vi p2, vl (eK .u8) p4] (.tp [vl eI r4.1, vi r4.2]) [(40, .tp [vl eI r4.1, vi r4.2]), (9, vl (eK .u8) r1.1), (10, vi r1.2), (11, vl (eK .u8) r2.1), (12, vi r2.2), (13, vl eI r3.1), (14, vi r3.2), (37, vi p1), (38, vi p2), (39, vl (eK .u8) p4)] (c_ref2_Unpack _ _ _ _ c9) (zg [] 5 [9,10,11,12,13,14,15,16] (zd (hK8 _ _ (zq fun K10 hK10 => ?_))))))
 have hJ1 : ∀ (x1 : Bool), law2_ColumnPacksMatchSpec_j1 x1 = some r → ∀ fr1 st1, Sub 64 0 [] fr1 st1 [(8, vb x1)] [] → K10 fr1 st1 := by
  intro x1 h fr1 st1 hS
  unfold law2_ColumnPacksMatchSpec_j1 at h
  refine hK10 _ _ (XW.sub hS ?_)
  refine ze ?_
  obtain rfl := Option.some.inj h
  exact zf [vb x1] (.one (.rfl _ rfl))
 obtain ⟨r5, c11, h⟩ := zB h
 rcases zW h with ⟨b12, h⟩ | ⟨b12, h⟩
 ·rcases zW h with ⟨b13, h⟩ | ⟨b13, h⟩
  ·obtain ⟨r6, c14, h⟩ := zB h
   rcases zW h with ⟨b15, h⟩ | ⟨b15, h⟩
   ·rcases zW h with ⟨b16, h⟩ | ⟨b16, h⟩
    ·obtain ⟨r7, c17, h⟩ := zB h
     refine zr (za (c_law2_packs _ c11) (zv [] 1 [9,10,11,12,13,14,15,16,44] [] (qa221 r1 r2 r3 r4 r5) [] (zt 44 b12 (zg [] 5 [9,11,13,14,15,16,49] (zt 49 b13 (zg [] 2 [13,14,15,16,49,50,51] (zl 9 [vl (eK .u8) r1.1, vl (eK .u8) r2.1] (vb r6) [(52, vb r6), (13, vl eI r3.1), (14, vi r3.2), (15, vl eI r4.1), (16, vi r4.2), (49, vb true), (50, vl (eK .u8) r1.1), (51, vl (eK .u8) r2.1)] (c_bytes_Equal _ _ _ c14) ?_)))))))
     refine zg [] 2 [13,14,15,16,54] (zt 54 b15 (zg [] 5 [13,15,59] (zt 59 b16 (zv [] 2 [59,60,61] [] [(59, vb true), (60, vl eI r3.1), (61, vl eI r4.1)] [] (za (c_law2_ints _ _ _ c17) (zg [] 2 [8] (zd ?_)))))))
     exact hJ1 r7 h _ _ (zk [8])
    ·refine zr (zl 8 [] (vb r5) [(43, vb r5), (9, vl (eK .u8) r1.1), (10, vi r1.2), (11, vl (eK .u8) r2.1), (12, vi r2.2), (13, vl eI r3.1), (14, vi r3.2), (15, vl eI r4.1), (16, vi r4.2)] (c_law2_packs _ c11) (zg [] 1 [9,10,11,12,13,14,15,16,44] (zt 44 b12 (zg [] 5 [9,11,13,14,15,16,49] (zt 49 b13 (zv [] 2 [13,14,15,16,49,50,51] [] [(13, vl eI r3.1), (14, vi r3.2), (15, vl eI r4.1), (16, vi r4.2), (49, vb true), (50, vl (eK .u8) r1.1), (51, vl (eK .u8) r2.1)] [] (za (c_bytes_Equal _ _ _ c14) ?_)))))))
     exact zg [] 2 [13,14,15,16,54] (zt 54 b15 (zv [] 5 [13,15,59] [] [(13, vl eI r3.1), (15, vl eI r4.1), (59, vb (r3.2 == r4.2))] [] (zt 59 b16 (zg [] 5 [8] (zd (hJ1 false h _ _ (zk [8])))))))
   ·refine zr (za (c_law2_packs _ c11) (zv [] 1 [9,10,11,12,13,14,15,16,44] [] (qa221 r1 r2 r3 r4 r5) [] (zt 44 b12 (zg [] 5 [9,11,13,14,15,16,49] (zt 49 b13 (zg [] 2 [13,14,15,16,49,50,51] (zl 9 [vl (eK .u8) r1.1, vl (eK .u8) r2.1] (vb r6) [(52, vb r6), (13, vl eI r3.1), (14, vi r3.2), (15, vl eI r4.1), (16, vi r4.2), (49, vb true), (50, vl (eK .u8) r1.1), (51, vl (eK .u8) r2.1)] (c_bytes_Equal _ _ _ c14) ?_)))))))
    exact zg [] 2 [13,14,15,16,54] (zt 54 b15 (zg [] 10 [8] (zd (hJ1 false h _ _ (zk [8])))))
  ·refine zr (za (c_law2_packs _ c11) (zv [] 1 [9,10,11,12,13,14,15,16,44] [] (qa221 r1 r2 r3 r4 r5) [] (zt 44 b12 (zg [] 5 [9,11,13,14,15,16,49] (zt 49 b13 (zg [] 15 [8] (zd ?_)))))))
   exact hJ1 false h _ _ (zk [8])
 ·exact zr (za (c_law2_packs _ c11) (zv [] 1 [9,10,11,12,13,14,15,16,44] [] (qa221 r1 r2 r3 r4 r5) [] (zt 44 b12 (zg [] 20 [8] (zd (hJ1 false h _ _ (zk [8])))))))


end Go.Proofs.Ytdbfodeghijdlaa
