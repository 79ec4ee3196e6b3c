/- Printed by a program: what the functions compute, and the proofs of their contracts. Printed by a program: what the functions compute, and the proofs of their contracts. -/
import Derived.Test.YtmaemlebpjnmoaaGeA
namespace Go.Proofs.Ytmaemlebpjnmoaa
open Go.SX Go
set_option linter.unusedVariables false
set_option linter.unusedSimpArgs false
set_option maxRecDepth 100000
set_option maxHeartbeats 8000000

def column_cursor_signed (p1 : GCursor) : Option (Int × GCursor) :=
    bnd (column_cursor_raw p1) fun r1 =>
    bnd (some (IntKind.i64.wrap (r1.1.fdiv (2 ^ (min (1 : Int).toNat (IntKind.u64).bits))))) fun y1 =>
    bnd (some (IntKind.u64.wrap (BitVec.ofInt (IntKind.u64).bits r1.1 &&& BitVec.ofInt (IntKind.u64).bits (1 : Int)).toNat)) fun y2 =>
    bnd (some (IntKind.i64.wrap (BitVec.ofInt (IntKind.i64).bits y1 ^^^ BitVec.ofInt (IntKind.i64).bits (IntKind.i64.wrap (0 - (IntKind.i64.wrap y2)))).toNat)) fun y3 =>
    some (y3, r1.2)


theorem c_column_cursor_signed (p1 : GCursor) (r : (Int × GCursor)) (h : column_cursor_signed p1 = some r) : MC Try.prog 95 [.one (.pt 0 0 0 0)] [.box [cl (eK .u8) p1.b, cb p1.bad]] (vi r.1) [.box [cl (eK .u8) r.2.b, cb r.2.bad]] := by
 unfold column_cursor_signed at h
 refine MC.of 1 (n := 14) (fn := Try.f95) (c := cd Try.f95 []) (by kernel_rfl) (by kernel_rfl) (by kernel_rfl) (Nat.le_of_ble_eq_true rfl) rfl (zq fun K1 hK1 => zr (zg [] 1 [0] (zd (hK1 _ _ (zq fun K2 hK2 => ?_)))))
 obtain ⟨r1, c3, h⟩ := zB h
 refine zr (zv [] 1 [4] [] [(4, .one (.pt 0 0 0 0))] [.box [cl (eK .u8) p1.b, cb p1.bad]] (XO.calm 119 [.one (.pt 0 0 0 0)] [.box [cl (eK .u8) p1.b, cb p1.bad]] [.box [cl (eK .u8) r1.2.b, cb r1.2.bad]] (vk .u64 r1.1) [0] [(5, vk .u64 r1.1), (4, .one (.pt 0 0 0 0))] [.box [cl (eK .u8) r1.2.b, cb r1.2.bad]] (by kernel_rfl) (c_column_cursor_raw _ _ c3) (by kernel_rfl) (by kernel_rfl) (by kernel_rfl) (by kernel_rfl) (zg [] 1 [3] (zd (hK2 _ _ (zq fun K4 hK4 => ?_))))))
 obtain ⟨y1, hy5, h⟩ := zB h
 obtain ⟨y2, hy6, h⟩ := zB h
 obtain ⟨y3, hy7, h⟩ := zB h
 refine zr (zp [] 3 [3,8] [] [(3, vk .u64 r1.1), (8, vi (IntKind.i64.wrap (r1.1.fdiv (2 ^ (min (1 : Int).toNat (IntKind.u64).bits)))))] [.box [cl (eK .u8) r1.2.b, cb r1.2.bad]] [0 ≤ (1 : Int)] (⟨by decide, trivial⟩) ?_)
 rw [show (IntKind.i64.wrap (r1.1.fdiv (2 ^ (min (1 : Int).toNat (IntKind.u64).bits)))) = y1 from Option.some.inj hy5]
 refine zv [] 2 [8,10] [] [(8, vi y1), (10, vk .u64 (IntKind.u64.wrap (BitVec.ofInt (IntKind.u64).bits r1.1 &&& BitVec.ofInt (IntKind.u64).bits (1 : Int)).toNat))] [.box [cl (eK .u8) r1.2.b, cb r1.2.bad]] ?_
 rw [show (IntKind.u64.wrap (BitVec.ofInt (IntKind.u64).bits r1.1 &&& BitVec.ofInt (IntKind.u64).bits (1 : Int)).toNat) = y2 from Option.some.inj hy6]
 refine zv [] 3 [13] [] [(13, vi (IntKind.i64.wrap (BitVec.ofInt (IntKind.i64).bits y1 ^^^ BitVec.ofInt (IntKind.i64).bits (IntKind.i64.wrap (0 - (IntKind.i64.wrap y2)))).toNat))] [.box [cl (eK .u8) r1.2.b, cb r1.2.bad]] ?_
 rw [show (IntKind.i64.wrap (BitVec.ofInt (IntKind.i64).bits y1 ^^^ BitVec.ofInt (IntKind.i64).bits (IntKind.i64.wrap (0 - (IntKind.i64.wrap y2)))).toNat) = y3 from Option.some.inj hy7]
 refine zv [] 1 [2] [] [(2, vi y3)] [.box [cl (eK .u8) r1.2.b, cb r1.2.bad]] (zd (hK4 _ _ (ze ?_)))
 obtain rfl := Option.some.inj h
 exact FinM.fin (.inr rfl) [] [vi y3] [] (by kernel_rfl) trivial (by kernel_rfl) (by kernel_rfl) (.one (.rfl _ rfl))

def column_cursor_runs_l2 (rec1 : List Int → List Int → Bool → Option ((List Int) × GCursor)) (r1 : (Int × GCursor)) (r2 : (Int × GCursor)) : Nat → List Int → Int → Option ((List Int) × GCursor)
  | 0, _, _ => none
  | k2 + 1, l2, x3 =>
    ift (decide (x3 < r1.1))
      (grd (l2.length + 1 ≤ 4294967296) <|
       (column_cursor_runs_l2 rec1 r1 r2 k2) (l2 ++ [r2.1]) (IntKind.i64.wrap (x3 + (1 : Int))))
      (rec1 l2 r2.2.b r2.2.bad)

def column_cursor_runs_j2 (rec1 : List Int → List Int → Bool → Option ((List Int) × GCursor)) (l1 : List Int) (r1 : (Int × GCursor)) (r2 : (Int × GCursor)) (x2 : Bool) : Option ((List Int) × GCursor) :=
    ift x2
      (some ([], (GCursor.mk r2.2.b true)))
      (column_cursor_runs_l2 rec1 r1 r2 BIG l1 (0 : Int))

def column_cursor_runs_j3 (l3 : List Int) (z3 : List Int) (z4 : Bool) : Option ((List Int) × GCursor) :=
    some (l3, (GCursor.mk z3 z4))

def column_cursor_runs_j1 (rec1 : List Int → List Int → Bool → Option ((List Int) × GCursor)) (p1 : Int) (l1 : List Int) (z1 : List Int) (z2 : Bool) (x1 : Bool) : Option ((List Int) × GCursor) :=
    ift x1
      (bnd (column_cursor_number (GCursor.mk z1 z2)) fun r1 =>
       bnd (column_cursor_signed r1.2) fun r2 =>
       ift (decide (r1.1 < (1 : Int)))
         (column_cursor_runs_j2 rec1 l1 r1 r2 true)
         (column_cursor_runs_j2 rec1 l1 r1 r2 (decide ((IntKind.i64.wrap (p1 - ((l1.length : Nat) : Int))) < r1.1))))
      (column_cursor_runs_j3 l1 z1 z2)

def column_cursor_runs_l1 (p1 : Int) : Nat → List Int → List Int → Bool → Option ((List Int) × GCursor)
  | 0, _, _, _ => none
  | k1 + 1, l1, z1, z2 =>
    ift (decide (((l1.length : Nat) : Int) < p1))
      (column_cursor_runs_j1 (column_cursor_runs_l1 p1 k1) p1 l1 z1 z2 (!z2))
      (column_cursor_runs_j1 (column_cursor_runs_l1 p1 k1) p1 l1 z1 z2 false)

def column_cursor_runs (p1 : Int) (p2 : GCursor) : Option ((List Int) × GCursor) :=
    column_cursor_runs_l1 p1 BIG [] p2.b p2.bad

abbrev qa1389 (r2 : (Int × GCursor)) : List CV := [cl (eK .u8) r2.2.b, cb r2.2.bad]

theorem c_column_cursor_runs (p1 : Int) (p2 : GCursor) (r : ((List Int) × GCursor)) (h : column_cursor_runs p1 p2 = some r) : MC Try.prog 90 [.one (.pt 0 0 0 0), vi p1] [.box [cl (eK .u8) p2.b, cb p2.bad]] (vl eI r.1) [.box [cl (eK .u8) r.2.b, cb r.2.bad]] := by
 unfold column_cursor_runs at h
 refine MC.of 1 (n := 45) (fn := Try.f90) (c := cd Try.f90 []) (by kernel_rfl) (by kernel_rfl) (by kernel_rfl) (Nat.le_of_ble_eq_true rfl) rfl (zq fun K1 hK1 => zr (zg [] 1 [0,1] (zd (hK1 _ _ (zq fun K2 hK2 => zr ?_)))))
 refine zg [] 1 [0,1,5] (zd (hK2 _ _ (zq fun K3 hK3 => ?_)))
 have hJ3 : ∀ (l3 : List Int) (z3 : List Int) (z4 : Bool), column_cursor_runs_j3 l3 z3 z4 = some r → ∀ fr1 st1, Sub 45 1 [] fr1 st1 [(5, .one (.sl 1 1 0 l3.length))] [.box [cl (eK .u8) z3, cb z4], .arr 1 (eI.els l3)] → K3 fr1 st1 := by
  intro l3 z3 z4 h fr1 st1 hS
  unfold column_cursor_runs_j3 at h
  refine hK3 _ _ (XW.sub hS ?_)
  refine zq fun K23 hK23 => zr (zv [] 2 [4] [] [(4, .one (.sl 1 1 0 l3.length))] [.box [cl (eK .u8) z3, cb z4], .arr 1 (eI.els l3)] (zd (hK23 _ _ (ze ?_))))
  obtain rfl := Option.some.inj h
  exact FinM.fin (.inr rfl) [] [.one (.sl 1 1 0 l3.length)] [] (by kernel_rfl) trivial (by kernel_rfl) (by kernel_rfl) (.one (cf_sl eI l3 rfl rfl rfl))
 refine zb 0 (XW.sub (Sub.list (t := 5) (sz := 1) rfl) (XW.rounds' BIG (x := cd Try.f90 [1,1,0,0,0]) (by kernel_rfl) fun Q1 hQ1 => ?_))
 have hL1 : ∀ (k1 : Nat) (l1 : List Int) (z1 : List Int) (z2 : Bool), column_cursor_runs_l1 p1 k1 l1 z1 z2 = some r → XR Try.prog 45 1 [] (cd Try.f90 [1,1,0,0,0]) Q1 k1 [(0, .one (.pt 0 0 0 0)), (1, vi p1), (5, .one (.sl 1 1 0 l1.length))] [.box [cl (eK .u8) z1, cb z2], .arr 1 (eI.els l1)] := by
  intro k1
  induction k1 with
  | zero => intro l1 z1 z2 h; rw [column_cursor_runs_l1.eq_1] at h; cases h
  | succ k1 ih1 =>
   intro l1 z1 z2 h
   rw [column_cursor_runs_l1.eq_2] at h
   refine zq fun K4 hK4 => zq fun K5 hK5 => ?_
   have hJ1 : ∀ (x1 : Bool), column_cursor_runs_j1 (column_cursor_runs_l1 p1 k1) p1 l1 z1 z2 x1 = some r → ∀ fr1 st1, Sub 45 1 [] fr1 st1 [(0, .one (.pt 0 0 0 0)), (1, vi p1), (5, .one (.sl 1 1 0 l1.length)), (18, vb x1)] [.box [cl (eK .u8) z1, cb z2], .arr 1 (eI.els l1)] → K5 fr1 st1 := by
    intro x1 h fr1 st1 hS
    unfold column_cursor_runs_j1 at h
    refine hK5 _ _ (XW.sub hS ?_)
    refine zC h (fun b7 h => ?_) (fun b7 h => ?_)
    ·refine zs (hK4 _ _ (zb 1 (zq fun K8 hK8 => ?_)))
     obtain ⟨r1, c9, h⟩ := zB h
     obtain ⟨r2, c10, h⟩ := zB h
     refine zr (zv [] 1 [0,1,5,19] [] [(0, .one (.pt 0 0 0 0)), (1, vi p1), (5, .one (.sl 1 1 0 l1.length)), (19, .one (.pt 0 0 0 0))] [.box [cl (eK .u8) z1, cb z2], .arr 1 (eI.els l1)] (XO.calm 93 [.one (.pt 0 0 0 0)] [.box [cl (eK .u8) z1, cb z2]] [.box [cl (eK .u8) r1.2.b, cb r1.2.bad]] (vi r1.1) [0] [(20, vi r1.1), (0, .one (.pt 0 0 0 0)), (1, vi p1), (5, .one (.sl 1 1 0 l1.length)), (19, .one (.pt 0 0 0 0))] [.box [cl (eK .u8) r1.2.b, cb r1.2.bad], .arr 1 (eI.els l1)] (by kernel_rfl) (c_column_cursor_number _ _ c9) (by kernel_rfl) (by kernel_rfl) (by kernel_rfl) (by kernel_rfl) ?_))
     refine zv [] 1 [0,1,5,20,21] [] [(0, .one (.pt 0 0 0 0)), (1, vi p1), (5, .one (.sl 1 1 0 l1.length)), (20, vi r1.1), (21, .one (.pt 0 0 0 0))] [.box [cl (eK .u8) r1.2.b, cb r1.2.bad], .arr 1 (eI.els l1)] ?_
     refine XO.calm 95 [.one (.pt 0 0 0 0)] [.box [cl (eK .u8) r1.2.b, cb r1.2.bad]] [.box (qa1389 r2)] (vi r2.1) [0] [(22, vi r2.1), (0, .one (.pt 0 0 0 0)), (1, vi p1), (5, .one (.sl 1 1 0 l1.length)), (20, vi r1.1), (21, .one (.pt 0 0 0 0))] [.box (qa1389 r2), .arr 1 (eI.els l1)] (by kernel_rfl) (c_column_cursor_signed _ _ c10) (by kernel_rfl) (by kernel_rfl) (by kernel_rfl) (by kernel_rfl) (zg [] 2 [0,1,5,6,7] (zd (hK8 _ _ (zq fun K11 hK11 => zq fun K12 hK12 => ?_))))
     have hJ2 : ∀ (x2 : Bool), column_cursor_runs_j2 (column_cursor_runs_l1 p1 k1) l1 r1 r2 x2 = some r → ∀ fr1 st1, Sub 45 1 [] fr1 st1 [(0, .one (.pt 0 0 0 0)), (1, vi p1), (5, .one (.sl 1 1 0 l1.length)), (6, vi r1.1), (7, vi r2.1), (32, vb x2)] [.box (qa1389 r2), .arr 1 (eI.els l1)] → K12 fr1 st1 := by
      intro x2 h fr1 st1 hS
      unfold column_cursor_runs_j2 at h
      refine hK12 _ _ (XW.sub hS ?_)
      refine zC h (fun b14 h => ?_) (fun b14 h => ?_)
      ·refine zq fun K15 hK15 => zr (zg [] 4 [] (zd (hK15 _ _ (zq fun K16 hK16 => zr (zv [] 1 [4] [] [(4, .one (.pv (.s (.slice none 0 0))))] [.box [cl (eK .u8) r2.2.b, cb true], .arr 1 (eI.els l1)] ?_)))))
       refine zd (hK16 _ _ (ze (hQ1 _ _ _ ?_)))
       obtain rfl := Option.some.inj h
       exact FinM.fin (.inr rfl) [] [.one (.pv (.s (.slice none 0 0)))] [] (by kernel_rfl) trivial (by kernel_rfl) (by kernel_rfl) (.one (.nl))
      ·refine zs (hK11 _ _ (zq fun K17 hK17 => zr (zg [] 2 [0,1,5,7,36,37] (zd (hK17 _ _ (zb 2 ?_))))))
       refine XW.rounds' BIG (x := cd Try.f90 [1,1,0,0,0,1,0,1,1,1,0,0]) (by kernel_rfl) fun Q2 hQ2 => ?_
       have hL2 : ∀ (k2 : Nat) (l2 : List Int) (x3 : Int), column_cursor_runs_l2 (column_cursor_runs_l1 p1 k1) r1 r2 k2 l2 x3 = some r → XR Try.prog 45 1 [] (cd Try.f90 [1,1,0,0,0,1,0,1,1,1,0,0]) Q2 k2 [(0, .one (.pt 0 0 0 0)), (1, vi p1), (5, .one (.sl 1 1 0 l2.length)), (7, vi r2.1), (36, vi r1.1), (37, vi x3)] [.box (qa1389 r2), .arr 1 (eI.els l2)] := by
        intro k2
        induction k2 with
        | zero => intro l2 x3 h; rw [column_cursor_runs_l2.eq_1] at h; cases h
        | succ k2 ih2 =>
         intro l2 x3 h
         rw [column_cursor_runs_l2.eq_2] at h
         refine zq fun K18 hK18 => zr (zg [] 1 [0,1,5,7,36,37,38] (zd (hK18 _ _ (zq fun K19 hK19 => zC h (fun b20 h => ?_) (fun b20 h => ?_)))))
         ·refine zs (hK19 _ _ (zq fun K21 hK21 => zb 3 ?_))
          obtain ⟨g22, h⟩ := zG h
          refine zr (zp [] 4 [0,1,7,36,37,42] [] [(0, .one (.pt 0 0 0 0)), (1, vi p1), (7, vi r2.1), (36, vi r1.1), (37, vi x3), (42, .one (.sl 1 1 0 (l2.length + (eI.els [r2.1]).length)))] [.box [cl (eK .u8) r2.2.b, cb r2.2.bad], .arr 1 (eI.els l2 ++ eI.els [r2.1])] [elemsOk 1 (eI.els [r2.1]), l2.length = (eI.els l2).length, l2.length + (eI.els [r2.1]).length ≤ 4294967296] (⟨eI.ok _, (eI.len l2).symm, g22, trivial⟩) ?_)
          rw [show l2.length + (eI.els [r2.1]).length = (l2 ++ [r2.1]).length from eI.lapp _ _]
          rw [show eI.els l2 ++ eI.els [r2.1] = eI.els (l2 ++ [r2.1]) from eI.app2 _ _]
          exact zg [] 1 [0,1,5,7,36,37] (zd (hK21 _ _ (zr (zg [] 2 [0,1,5,7,36,37] (zd (XR.sub (zk [0,1,5,7,36,37]) (ih2 (l2 ++ [r2.1]) (IntKind.i64.wrap (x3 + (1 : Int))) h)))))))
         ·exact zx 2 (hQ2 _ _ _ (XR.sub (zk [0,1,5]) (ih1 l2 r2.2.b r2.2.bad h)))
       exact XR.sub (zk [0,1,5,7,36,37]) (hL2 BIG l1 (0 : Int) h)
     rcases zW h with ⟨b13, h⟩ | ⟨b13, h⟩
     ·exact zr (zg [] 3 [0,1,5,6,7,25] (zt 25 b13 (zv [] 7 [0,1,5,6,7,32] [] [(0, .one (.pt 0 0 0 0)), (1, vi p1), (5, .one (.sl 1 1 0 l1.length)), (6, vi r1.1), (7, vi r2.1), (32, vb true)] [.box (qa1389 r2), .arr 1 (eI.els l1)] (zd (hJ2 true h _ _ (zk [0,1,5,6,7,32]))))))
     ·exact zr (zg [] 3 [0,1,5,6,7,25] (zt 25 b13 (zg [] 7 [0,1,5,6,7,32] (zd (hJ2 (decide ((IntKind.i64.wrap (p1 - ((l1.length : Nat) : Int))) < r1.1)) h _ _ (zk [0,1,5,6,7,32]))))))
    ·exact zx 0 (hQ1 _ _ _ (hJ3 l1 z1 z2 h _ _ (zk [5])))
   rcases zW h with ⟨b6, h⟩ | ⟨b6, h⟩
   ·exact zr (zg [] 5 [0,1,5,12] (zt 12 b6 (zg [] 6 [0,1,5,18] (zd (hJ1 (!z2) h _ _ (zk [0,1,5,18]))))))
   ·exact zr (zv [] 5 [0,1,5,12] [] [(0, .one (.pt 0 0 0 0)), (1, vi p1), (5, .one (.sl 1 1 0 l1.length)), (12, vb (decide (((l1.length : Nat) : Int) < p1)))] [.box [cl (eK .u8) z1, cb z2], .arr 1 (eI.els l1)] (zt 12 b6 (zg [] 6 [0,1,5,18] (zd (hJ1 false h _ _ (zk [0,1,5,18]))))))
 exact XR.sub (zk [0,1,5]) (hL1 BIG [] p2.b p2.bad h)

def column_cursor_deltas_j2 (l2 : List Int) (z3 : List Int) (z4 : Bool) : Option ((List Int) × GCursor) :=
    some (l2, (GCursor.mk z3 z4))

def column_cursor_deltas_j1 (rec1 : List Int → List Int → Bool → Int → Option ((List Int) × GCursor)) (l1 : List Int) (z1 : List Int) (z2 : Bool) (x1 : Int) (x2 : Bool) : Option ((List Int) × GCursor) :=
    ift x2
      (bnd (column_cursor_signed (GCursor.mk z1 z2)) fun r1 =>
       grd (l1.length + 1 ≤ 4294967296) <|
       rec1 (l1 ++ [(IntKind.i64.wrap (x1 + r1.1))]) r1.2.b r1.2.bad (IntKind.i64.wrap (x1 + r1.1)))
      (column_cursor_deltas_j2 l1 z1 z2)

def column_cursor_deltas_l1 (p1 : Int) : Nat → List Int → List Int → Bool → Int → Option ((List Int) × GCursor)
  | 0, _, _, _, _ => none
  | k1 + 1, l1, z1, z2, x1 =>
    ift (decide (((l1.length : Nat) : Int) < p1))
      (column_cursor_deltas_j1 (column_cursor_deltas_l1 p1 k1) l1 z1 z2 x1 (!z2))
      (column_cursor_deltas_j1 (column_cursor_deltas_l1 p1 k1) l1 z1 z2 x1 false)

def column_cursor_deltas (p1 : Int) (p2 : GCursor) : Option ((List Int) × GCursor) :=
    column_cursor_deltas_l1 p1 BIG [] p2.b p2.bad (0 : Int)


theorem c_column_cursor_deltas (p1 : Int) (p2 : GCursor) (r : ((List Int) × GCursor)) (h : column_cursor_deltas p1 p2 = some r) : MC Try.prog 91 [.one (.pt 0 0 0 0), vi p1] [.box [cl (eK .u8) p2.b, cb p2.bad]] (vl eI r.1) [.box [cl (eK .u8) r.2.b, cb r.2.bad]] := by
 unfold column_cursor_deltas at h
 refine MC.of 1 (n := 27) (fn := Try.f91) (c := cd Try.f91 []) (by kernel_rfl) (by kernel_rfl) (by kernel_rfl) (Nat.le_of_ble_eq_true rfl) rfl (zq fun K1 hK1 => zr (zg [] 1 [0,1] (zd (hK1 _ _ (zq fun K2 hK2 => zr ?_)))))
 refine zg [] 1 [0,1,5] (zd (hK2 _ _ (zq fun K3 hK3 => ?_)))
 have hJ2 : ∀ (l2 : List Int) (z3 : List Int) (z4 : Bool), column_cursor_deltas_j2 l2 z3 z4 = some r → ∀ fr1 st1, Sub 27 1 [] fr1 st1 [(5, .one (.sl 1 1 0 l2.length))] [.box [cl (eK .u8) z3, cb z4], .arr 1 (eI.els l2)] → K3 fr1 st1 := by
  intro l2 z3 z4 h fr1 st1 hS
  unfold column_cursor_deltas_j2 at h
  refine hK3 _ _ (XW.sub hS ?_)
  refine zq fun K12 hK12 => zr (zv [] 2 [4] [] [(4, .one (.sl 1 1 0 l2.length))] [.box [cl (eK .u8) z3, cb z4], .arr 1 (eI.els l2)] (zd (hK12 _ _ (ze ?_))))
  obtain rfl := Option.some.inj h
  exact FinM.fin (.inr rfl) [] [.one (.sl 1 1 0 l2.length)] [] (by kernel_rfl) trivial (by kernel_rfl) (by kernel_rfl) (.one (cf_sl eI l2 rfl rfl rfl))
 refine zq fun K4 hK4 => zr (zv [] 1 [0,1,5,6] [] [(0, .one (.pt 0 0 0 0)), (1, vi p1), (5, .one (.pv (.s (.slice none 0 0)))), (6, vi (0 : Int))] [.box [cl (eK .u8) p2.b, cb p2.bad]] (zd (hK4 _ _ (zb 0 (XW.sub (Sub.list (t := 5) (sz := 1) rfl) (XW.rounds' BIG (x := cd Try.f91 [1,1,0,1,0,0]) (by kernel_rfl) fun Q1 hQ1 => ?_))))))
 have hL1 : ∀ (k1 : Nat) (l1 : List Int) (z1 : List Int) (z2 : Bool) (x1 : Int), column_cursor_deltas_l1 p1 k1 l1 z1 z2 x1 = some r → XR Try.prog 27 1 [] (cd Try.f91 [1,1,0,1,0,0]) Q1 k1 [(0, .one (.pt 0 0 0 0)), (1, vi p1), (5, .one (.sl 1 1 0 l1.length)), (6, vi x1)] [.box [cl (eK .u8) z1, cb z2], .arr 1 (eI.els l1)] := by
  intro k1
  induction k1 with
  | zero => intro l1 z1 z2 x1 h; rw [column_cursor_deltas_l1.eq_1] at h; cases h
  | succ k1 ih1 =>
   intro l1 z1 z2 x1 h
   rw [column_cursor_deltas_l1.eq_2] at h
   refine zq fun K5 hK5 => zq fun K6 hK6 => ?_
   have hJ1 : ∀ (x2 : Bool), column_cursor_deltas_j1 (column_cursor_deltas_l1 p1 k1) l1 z1 z2 x1 x2 = some r → ∀ fr1 st1, Sub 27 1 [] fr1 st1 [(0, .one (.pt 0 0 0 0)), (1, vi p1), (5, .one (.sl 1 1 0 l1.length)), (6, vi x1), (17, vb x2)] [.box [cl (eK .u8) z1, cb z2], .arr 1 (eI.els l1)] → K6 fr1 st1 := by
    intro x2 h fr1 st1 hS
    unfold column_cursor_deltas_j1 at h
    refine hK6 _ _ (XW.sub hS ?_)
    refine zC h (fun b8 h => ?_) (fun b8 h => ?_)
    ·refine zs (hK5 _ _ (zb 1 (zq fun K9 hK9 => ?_)))
     obtain ⟨r1, c10, h⟩ := zB h
     refine zr (zv [] 2 [0,1,5,18,19] [] [(0, .one (.pt 0 0 0 0)), (1, vi p1), (5, .one (.sl 1 1 0 l1.length)), (18, vi x1), (19, .one (.pt 0 0 0 0))] [.box [cl (eK .u8) z1, cb z2], .arr 1 (eI.els l1)] ?_)
     refine XO.calm 95 [.one (.pt 0 0 0 0)] [.box [cl (eK .u8) z1, cb z2]] [.box [cl (eK .u8) r1.2.b, cb r1.2.bad]] (vi r1.1) [0] [(20, vi r1.1), (0, .one (.pt 0 0 0 0)), (1, vi p1), (5, .one (.sl 1 1 0 l1.length)), (18, vi x1), (19, .one (.pt 0 0 0 0))] [.box [cl (eK .u8) r1.2.b, cb r1.2.bad], .arr 1 (eI.els l1)] (by kernel_rfl) (c_column_cursor_signed _ _ c10) (by kernel_rfl) (by kernel_rfl) (by kernel_rfl) (by kernel_rfl) (zg [] 2 [0,1,5,6] (zd (hK9 _ _ ?_)))
     obtain ⟨g11, h⟩ := zG h
     refine zr (zp [] 4 [0,1,6,25] [] [(0, .one (.pt 0 0 0 0)), (1, vi p1), (6, vi (IntKind.i64.wrap (x1 + r1.1))), (25, .one (.sl 1 1 0 (l1.length + (eI.els [(IntKind.i64.wrap (x1 + r1.1))]).length)))] [.box [cl (eK .u8) r1.2.b, cb r1.2.bad], .arr 1 (eI.els l1 ++ eI.els [(IntKind.i64.wrap (x1 + r1.1))])] [elemsOk 1 (eI.els [(IntKind.i64.wrap (x1 + r1.1))]), l1.length = (eI.els l1).length, l1.length + (eI.els [(IntKind.i64.wrap (x1 + r1.1))]).length ≤ 4294967296] (⟨eI.ok _, (eI.len l1).symm, g11, trivial⟩) ?_)
     rw [show l1.length + (eI.els [(IntKind.i64.wrap (x1 + r1.1))]).length = (l1 ++ [(IntKind.i64.wrap (x1 + r1.1))]).length from eI.lapp _ _]
     rw [show eI.els l1 ++ eI.els [(IntKind.i64.wrap (x1 + r1.1))] = eI.els (l1 ++ [(IntKind.i64.wrap (x1 + r1.1))]) from eI.app2 _ _]
     exact zg [] 1 [0,1,5,6] (zd (XR.sub (zk [0,1,5,6]) (ih1 (l1 ++ [(IntKind.i64.wrap (x1 + r1.1))]) r1.2.b r1.2.bad (IntKind.i64.wrap (x1 + r1.1)) h)))
    ·exact zx 0 (hQ1 _ _ _ (hJ2 l1 z1 z2 h _ _ (zk [5])))
   rcases zW h with ⟨b7, h⟩ | ⟨b7, h⟩
   ·exact zr (zg [] 5 [0,1,5,6,11] (zt 11 b7 (zg [] 6 [0,1,5,6,17] (zd (hJ1 (!z2) h _ _ (zk [0,1,5,6,17]))))))
   ·exact zr (zv [] 5 [0,1,5,6,11] [] [(0, .one (.pt 0 0 0 0)), (1, vi p1), (5, .one (.sl 1 1 0 l1.length)), (6, vi x1), (11, vb (decide (((l1.length : Nat) : Int) < p1)))] [.box [cl (eK .u8) z1, cb z2], .arr 1 (eI.els l1)] (zt 11 b7 (zg [] 6 [0,1,5,6,17] (zd (hJ1 false h _ _ (zk [0,1,5,6,17]))))))
 exact XR.sub (zk [0,1,5,6]) (hL1 BIG [] p2.b p2.bad (0 : Int) h)

def column_pack_s_j1 (rec2 : List Int → Int → Option ((List Int) × (List Int))) (x2 : Int) (l3 : List Int) : Option ((List Int) × (List Int)) :=
    rec2 l3 (IntKind.i64.wrap (x2 + (1 : Int)))

def column_pack_s_j2 (rec1 : List Int → Int → Option ((List Int) × (List Int))) (x1 : Int) (l4 : List Int) : Option ((List Int) × (List Int)) :=
    rec1 l4 (IntKind.i64.wrap (x1 + (1 : Int)))

def column_pack_s_l2 (rec1 : List Int → Int → Option ((List Int) × (List Int))) (p1 : Int) (x1 : Int) (e1 : Int) : Nat → List Int → Int → Option ((List Int) × (List Int))
  | 0, _, _ => none
  | k2 + 1, l2, x2 =>
    ift (decide (x2 < p1))
      (grd (0 ≤ x2) <|
       bnd (some (IntKind.i64.wrap (BitVec.ofInt (IntKind.i64).bits (e1.fdiv (2 ^ (min x2.toNat (IntKind.i64).bits))) &&& BitVec.ofInt (IntKind.i64).bits (1 : Int)).toNat)) fun y2 =>
       ift (y2 == (1 : Int))
         (bnd (some (IntKind.i64.wrap ((IntKind.i64.wrap ((IntKind.i64.wrap (x1 * p1)) + x2)).tdiv (8 : Int)))) fun y3 =>
          bnd (at? l2 y3) fun e2 =>
          bnd (some ((IntKind.i64.wrap ((IntKind.i64.wrap (x1 * p1)) + x2)).tmod (8 : Int))) fun y4 =>
          grd (0 ≤ y4) <|
          bnd (some (IntKind.u8.wrap (BitVec.ofInt (IntKind.u8).bits e2 ||| BitVec.ofInt (IntKind.u8).bits (IntKind.u8.wrap ((1 : Int) * 2 ^ (min y4.toNat (IntKind.u8).bits)))).toNat)) fun y5 =>
          column_pack_s_j1 (column_pack_s_l2 rec1 p1 x1 e1 k2) x2 (l2.set y3.toNat y5))
         (column_pack_s_j1 (column_pack_s_l2 rec1 p1 x1 e1 k2) x2 l2))
      (column_pack_s_j2 rec1 x1 l2)

def column_pack_s_j3 (p2 : (List Int)) (l5 : List Int) : Option ((List Int) × (List Int)) :=
    some (l5, p2)

def column_pack_s_l1 (p1 : Int) (p2 : (List Int)) : Nat → List Int → Int → Option ((List Int) × (List Int))
  | 0, _, _ => none
  | k1 + 1, l1, x1 =>
    ift (decide (x1 < ((p2.length : Nat) : Int)))
      (bnd (at? p2 x1) fun e1 =>
       column_pack_s_l2 (column_pack_s_l1 p1 p2 k1) p1 x1 e1 BIG l1 (0 : Int))
      (column_pack_s_j3 p2 l1)

def column_pack_s (p1 : Int) (p2 : (List Int)) : Option ((List Int) × (List Int)) :=
    bnd (some (IntKind.i64.wrap ((IntKind.i64.wrap (((p2.length : Nat) : Int) * p1)) + (7 : Int)))) fun y1 =>
    grd (0 ≤ (IntKind.i64.wrap (y1.tdiv (8 : Int))) ∧ (IntKind.i64.wrap (y1.tdiv (8 : Int))) ≤ (IntKind.i64.wrap (y1.tdiv (8 : Int))) ∧ (IntKind.i64.wrap (y1.tdiv (8 : Int))) ≤ 4294967296) <|
    column_pack_s_l1 p1 p2 BIG (List.replicate (IntKind.i64.wrap (y1.tdiv (8 : Int))).toNat (0 : Int)) (0 : Int)


theorem c_column_pack_s (p1 : Int) (p2 : (List Int)) (r : ((List Int) × (List Int))) (h : column_pack_s p1 p2 = some r) : MC Try.prog 72 [vi p1, .one (.sl 0 1 0 p2.length)] [.arr 1 (eI.els p2)] (vl (eK .u8) r.1) [.arr 1 (eI.els r.2)] := by
 unfold column_pack_s at h
 refine MC.of 1 (n := 53) (fn := Try.f72) (c := cd Try.f72 []) (by kernel_rfl) (by kernel_rfl) (by kernel_rfl) (Nat.le_of_ble_eq_true rfl) rfl (zq fun K1 hK1 => zr (zg [] 1 [0,1] (zd (hK1 _ _ (zq fun K2 hK2 => ?_)))))
 obtain ⟨y1, hy3, h⟩ := zB h
 obtain ⟨g5, h⟩ := zG h
 refine zr (zv [] 5 [0,1,13] [] [(0, vi p1), (1, .one (.sl 0 1 0 p2.length)), (13, vi (IntKind.i64.wrap ((IntKind.i64.wrap (((p2.length : Nat) : Int) * p1)) + (7 : Int))))] [.arr 1 (eI.els p2)] ?_)
 rw [show (IntKind.i64.wrap ((IntKind.i64.wrap (((p2.length : Nat) : Int) * p1)) + (7 : Int))) = y1 from Option.some.inj hy3]
 refine zp [] 2 [0,1,15] [] [(0, vi p1), (1, .one (.sl 0 1 0 p2.length)), (15, .one (.sl 1 1 0 ((IntKind.i64.wrap (y1.tdiv (8 : Int))).toNat)))] [.arr 1 (eI.els p2), .arr 1 (List.replicate (IntKind.i64.wrap (y1.tdiv (8 : Int))).toNat [.s (.int .u8 (0 : Int))])] [(8 : Int) ≠ 0, 0 ≤ (IntKind.i64.wrap (y1.tdiv (8 : Int))), (IntKind.i64.wrap (y1.tdiv (8 : Int))) ≤ (IntKind.i64.wrap (y1.tdiv (8 : Int))), (IntKind.i64.wrap (y1.tdiv (8 : Int))) ≤ 4294967296] (⟨by decide, g5.1, g5.2.1, g5.2.2, trivial⟩) ?_
 rw [show List.replicate (IntKind.i64.wrap (y1.tdiv (8 : Int))).toNat [.s (.int .u8 (0 : Int))] = (eK .u8).els (List.replicate (IntKind.i64.wrap (y1.tdiv (8 : Int))).toNat (0 : Int)) from (eK .u8).rep _ (0 : Int)]
 refine zg [] 1 [0,1,5] (zd (hK2 _ _ (zq fun K6 hK6 => ?_)))
 have hJ3 : ∀ (l5 : List Int), column_pack_s_j3 p2 l5 = some r → ∀ fr1 st1, Sub 53 1 [] fr1 st1 [(5, .one (.sl 1 1 0 l5.length))] [.arr 1 (eI.els p2), .arr 1 ((eK .u8).els l5)] → K6 fr1 st1 := by
  intro l5 h fr1 st1 hS
  unfold column_pack_s_j3 at h
  refine hK6 _ _ (XW.sub hS ?_)
  refine zq fun K29 hK29 => zr (zv [] 2 [4] [] [(4, .one (.sl 1 1 0 l5.length))] [.arr 1 (eI.els p2), .arr 1 ((eK .u8).els l5)] (zd (hK29 _ _ (ze ?_))))
  obtain rfl := Option.some.inj h
  exact FinM.fin (.inr rfl) [] [.one (.sl 1 1 0 l5.length)] [] (by kernel_rfl) trivial (by kernel_rfl) (by kernel_rfl) (.one (cf_sl (eK .u8) l5 rfl rfl rfl))
 refine zq fun K7 hK7 => zr (zg [] 3 [0,5,16,17,18] (zd (hK7 _ _ (zb 0 (XW.rounds' BIG (x := cd Try.f72 [1,1,0,1,0,0]) (by kernel_rfl) fun Q1 hQ1 => ?_)))))
 have hL1 : ∀ (k1 : Nat) (l1 : List Int) (x1 : Int), column_pack_s_l1 p1 p2 k1 l1 x1 = some r → XR Try.prog 53 1 [] (cd Try.f72 [1,1,0,1,0,0]) Q1 k1 [(0, vi p1), (5, .one (.sl 1 1 0 l1.length)), (16, .one (.sl 0 1 0 p2.length)), (17, vi ((p2.length : Nat) : Int)), (18, vi x1)] [.arr 1 (eI.els p2), .arr 1 ((eK .u8).els l1)] := by
  intro k1
  induction k1 with
  | zero => intro l1 x1 h; rw [column_pack_s_l1.eq_1] at h; cases h
  | succ k1 ih1 =>
   intro l1 x1 h
   rw [column_pack_s_l1.eq_2] at h
   refine zq fun K8 hK8 => zr (zg [] 1 [0,5,16,17,18,19] (zd (hK8 _ _ (zq fun K9 hK9 => zC h (fun b10 h => ?_) (fun b10 h => ?_)))))
   ·refine zs (hK9 _ _ (zq fun K11 hK11 => ?_))
    have hJ2 : ∀ (l4 : List Int), column_pack_s_j2 (column_pack_s_l1 p1 p2 k1) x1 l4 = some r → ∀ fr1 st1, Sub 53 1 [] fr1 st1 [(0, vi p1), (5, .one (.sl 1 1 0 l4.length)), (16, .one (.sl 0 1 0 p2.length)), (17, vi ((p2.length : Nat) : Int)), (18, vi x1)] [.arr 1 (eI.els p2), .arr 1 ((eK .u8).els l4)] → K11 fr1 st1 := by
     intro l4 h fr1 st1 hS
     unfold column_pack_s_j2 at h
     refine hK11 _ _ (XW.sub hS ?_)
     exact zr (zg [] 2 [0,5,16,17,18] (zd (XR.sub (zk [0,5,16,17,18]) (ih1 l4 (IntKind.i64.wrap (x1 + (1 : Int))) h))))
    refine zb 1 (zq fun K12 hK12 => ?_)
    obtain ⟨e1, a13, h⟩ := zB h
    refine zr (zo [] 5 [0,5,6,7,16,17,18] [[pi e1]] [0 ≤ x1 ∧ x1 < ((p2.length : Nat) : Int), (eI.els p2)[(0 + x1.toNat)]? = some [pi e1]] (⟨Enc.inb' a13, (eI.get0 a13), trivial⟩) (zd (hK12 _ _ (zq fun K14 hK14 => zr (zv [] 2 [0,5,6,7,16,17,18,23,24] [] [(0, vi p1), (5, .one (.sl 1 1 0 l1.length)), (6, vi x1), (7, vi e1), (16, .one (.sl 0 1 0 p2.length)), (17, vi ((p2.length : Nat) : Int)), (18, vi x1), (23, vi p1), (24, vi (0 : Int))] [.arr 1 (eI.els p2), .arr 1 ((eK .u8).els l1)] (zd ?_))))))
    refine hK14 _ _ (zb 2 (XW.rounds' BIG (x := cd Try.f72 [1,1,0,1,0,0,1,1,0,0,1,1,0,0]) (by kernel_rfl) fun Q2 hQ2 => ?_))
    have hL2 : ∀ (k2 : Nat) (l2 : List Int) (x2 : Int), column_pack_s_l2 (column_pack_s_l1 p1 p2 k1) p1 x1 e1 k2 l2 x2 = some r → XR Try.prog 53 1 [] (cd Try.f72 [1,1,0,1,0,0,1,1,0,0,1,1,0,0]) Q2 k2 [(0, vi p1), (5, .one (.sl 1 1 0 l2.length)), (6, vi x1), (7, vi e1), (16, .one (.sl 0 1 0 p2.length)), (17, vi ((p2.length : Nat) : Int)), (18, vi x1), (23, vi p1), (24, vi x2)] [.arr 1 (eI.els p2), .arr 1 ((eK .u8).els l2)] := by
     intro k2
     induction k2 with
     | zero => intro l2 x2 h; rw [column_pack_s_l2.eq_1] at h; cases h
     | succ k2 ih2 =>
      intro l2 x2 h
      rw [column_pack_s_l2.eq_2] at h
      refine zq fun K15 hK15 => zr (zg [] 1 [0,5,6,7,16,17,18,23,24,25] (zd (hK15 _ _ (zq fun K16 hK16 => zC h (fun b17 h => ?_) (fun b17 h => ?_)))))
      ·refine zs (hK16 _ _ (zq fun K18 hK18 => ?_))
       have hJ1 : ∀ (l3 : List Int), column_pack_s_j1 (column_pack_s_l2 (column_pack_s_l1 p1 p2 k1) p1 x1 e1 k2) x2 l3 = some r → ∀ fr1 st1, Sub 53 1 [] fr1 st1 [(0, vi p1), (5, .one (.sl 1 1 0 l3.length)), (6, vi x1), (7, vi e1), (16, .one (.sl 0 1 0 p2.length)), (17, vi ((p2.length : Nat) : Int)), (18, vi x1), (23, vi p1), (24, vi x2)] [.arr 1 (eI.els p2), .arr 1 ((eK .u8).els l3)] → K18 fr1 st1 := by
        intro l3 h fr1 st1 hS
        unfold column_pack_s_j1 at h
        refine hK18 _ _ (XW.sub hS ?_)
        exact zr (zg [] 2 [0,5,6,7,16,17,18,23,24] (zd (XR.sub (zk [0,5,6,7,16,17,18,23,24]) (ih2 l3 (IntKind.i64.wrap (x2 + (1 : Int))) h))))
       refine zb 3 (zq fun K19 hK19 => zr (zg [] 2 [0,5,6,7,8,16,17,18,23,24] (zd (hK19 _ _ (zq fun K20 hK20 => ?_)))))
       obtain ⟨g21, h⟩ := zG h
       obtain ⟨y2, hy22, h⟩ := zB h
       refine zr (zp [] 4 [0,5,6,7,8,16,17,18,23,24,30] [] [(0, vi p1), (5, .one (.sl 1 1 0 l2.length)), (6, vi x1), (7, vi e1), (8, vi x2), (16, .one (.sl 0 1 0 p2.length)), (17, vi ((p2.length : Nat) : Int)), (18, vi x1), (23, vi p1), (24, vi x2), (30, vi (IntKind.i64.wrap (BitVec.ofInt (IntKind.i64).bits (e1.fdiv (2 ^ (min x2.toNat (IntKind.i64).bits))) &&& BitVec.ofInt (IntKind.i64).bits (1 : Int)).toNat))] [.arr 1 (eI.els p2), .arr 1 ((eK .u8).els l2)] [0 ≤ x2] (⟨g21, trivial⟩) ?_)
       rw [show (IntKind.i64.wrap (BitVec.ofInt (IntKind.i64).bits (e1.fdiv (2 ^ (min x2.toNat (IntKind.i64).bits))) &&& BitVec.ofInt (IntKind.i64).bits (1 : Int)).toNat) = y2 from Option.some.inj hy22]
       refine zg [] 1 [0,5,6,7,8,16,17,18,23,24,31] (zd (hK20 _ _ (zC h (fun b23 h => ?_) (fun b23 h => ?_))))
       ·obtain ⟨y3, hy24, h⟩ := zB h
        obtain ⟨e2, a25, h⟩ := zB h
        obtain ⟨y4, hy26, h⟩ := zB h
        obtain ⟨g27, h⟩ := zG h
        obtain ⟨y5, hy28, h⟩ := zB h
        refine zw 16 [(47, vk .u8 (IntKind.u8.wrap ((1 : Int) * 2 ^ (min y4.toNat (IntKind.u8).bits)))), (46, vi y4), (45, vi (IntKind.i64.wrap ((IntKind.i64.wrap (x1 * p1)) + x2))), (44, vi x2), (43, vi (IntKind.i64.wrap (x1 * p1))), (42, vi p1), (41, vi x1), (40, vk .u8 e2), (39, .one (.pt 1 1 (0 + y3.toNat) 0)), (38, vi y3), (37, vi (IntKind.i64.wrap ((IntKind.i64.wrap (x1 * p1)) + x2))), (36, vi x2), (35, vi (IntKind.i64.wrap (x1 * p1))), (34, vi p1), (33, vi x1), (32, .one (.sl 1 1 0 l2.length)), (0, vi p1), (5, .one (.sl 1 1 0 l2.length)), (6, vi x1), (7, vi e1), (8, vi x2), (16, .one (.sl 0 1 0 p2.length)), (17, vi ((p2.length : Nat) : Int)), (18, vi x1), (23, vi p1), (24, vi x2), (31, vb (y2 == (1 : Int)))] ?_ ?_
        ·refine zyp 7 [] [(38, vi (IntKind.i64.wrap ((IntKind.i64.wrap ((IntKind.i64.wrap (x1 * p1)) + x2)).tdiv (8 : Int)))), (37, vi (IntKind.i64.wrap ((IntKind.i64.wrap (x1 * p1)) + x2))), (36, vi x2), (35, vi (IntKind.i64.wrap (x1 * p1))), (34, vi p1), (33, vi x1), (32, .one (.sl 1 1 0 l2.length)), (0, vi p1), (5, .one (.sl 1 1 0 l2.length)), (6, vi x1), (7, vi e1), (8, vi x2), (16, .one (.sl 0 1 0 p2.length)), (17, vi ((p2.length : Nat) : Int)), (18, vi x1), (23, vi p1), (24, vi x2), (31, vb (y2 == (1 : Int)))] [(8 : Int) ≠ 0] (⟨by decide, trivial⟩) ?_
         rw [show (IntKind.i64.wrap ((IntKind.i64.wrap ((IntKind.i64.wrap (x1 * p1)) + x2)).tdiv (8 : Int))) = y3 from Option.some.inj hy24]
         refine zyp 8 [[.s (.int .u8 e2)]] [(46, vi ((IntKind.i64.wrap ((IntKind.i64.wrap (x1 * p1)) + x2)).tmod (8 : Int))), (45, vi (IntKind.i64.wrap ((IntKind.i64.wrap (x1 * p1)) + x2))), (44, vi x2), (43, vi (IntKind.i64.wrap (x1 * p1))), (42, vi p1), (41, vi x1), (40, vk .u8 e2), (39, .one (.pt 1 1 (0 + y3.toNat) 0)), (38, vi y3), (37, vi (IntKind.i64.wrap ((IntKind.i64.wrap (x1 * p1)) + x2))), (36, vi x2), (35, vi (IntKind.i64.wrap (x1 * p1))), (34, vi p1), (33, vi x1), (32, .one (.sl 1 1 0 l2.length)), (0, vi p1), (5, .one (.sl 1 1 0 l2.length)), (6, vi x1), (7, vi e1), (8, vi x2), (16, .one (.sl 0 1 0 p2.length)), (17, vi ((p2.length : Nat) : Int)), (18, vi x1), (23, vi p1), (24, vi x2), (31, vb (y2 == (1 : Int)))] [0 ≤ y3 ∧ y3 < ((l2.length : Nat) : Int), ((eK .u8).els l2)[(0 + y3.toNat)]? = some [.s (.int .u8 e2)], (8 : Int) ≠ 0] (⟨Enc.inb' a25, ((eK .u8).get0 a25), by decide, trivial⟩) ?_
         rw [show ((IntKind.i64.wrap ((IntKind.i64.wrap (x1 * p1)) + x2)).tmod (8 : Int)) = y4 from Option.some.inj hy26]
         exact zyo 1 [] [0 ≤ y4] (⟨g27, trivial⟩) zyd
        refine zv [] 1 [0,5,6,7,16,17,18,23,24,32,38,48] [] [(0, vi p1), (5, .one (.sl 1 1 0 l2.length)), (6, vi x1), (7, vi e1), (16, .one (.sl 0 1 0 p2.length)), (17, vi ((p2.length : Nat) : Int)), (18, vi x1), (23, vi p1), (24, vi x2), (32, .one (.sl 1 1 0 l2.length)), (38, vi y3), (48, vk .u8 (IntKind.u8.wrap (BitVec.ofInt (IntKind.u8).bits e2 ||| BitVec.ofInt (IntKind.u8).bits (IntKind.u8.wrap ((1 : Int) * 2 ^ (min y4.toNat (IntKind.u8).bits)))).toNat))] [.arr 1 (eI.els p2), .arr 1 ((eK .u8).els l2)] ?_
        rw [show (IntKind.u8.wrap (BitVec.ofInt (IntKind.u8).bits e2 ||| BitVec.ofInt (IntKind.u8).bits (IntKind.u8.wrap ((1 : Int) * 2 ^ (min y4.toNat (IntKind.u8).bits)))).toNat) = y5 from Option.some.inj hy28]
        refine zp [] 2 [0,5,6,7,16,17,18,23,24] [[.s (.int .u8 e2)]] [(0, vi p1), (5, .one (.sl 1 1 0 l2.length)), (6, vi x1), (7, vi e1), (16, .one (.sl 0 1 0 p2.length)), (17, vi ((p2.length : Nat) : Int)), (18, vi x1), (23, vi p1), (24, vi x2)] [.arr 1 (eI.els p2), .arr 1 (((eK .u8).els l2).set (0 + y3.toNat) [.s (.int .u8 y5)])] [0 ≤ y3 ∧ y3 < ((l2.length : Nat) : Int), ((eK .u8).els l2)[(0 + y3.toNat)]? = some [.s (.int .u8 e2)]] (⟨Enc.inb' a25, ((eK .u8).get0 a25), trivial⟩) ?_
        rw [show ((eK .u8).els l2).set (0 + y3.toNat) [.s (.int .u8 y5)] = (eK .u8).els (l2.set y3.toNat y5) from (eK .u8).set0 _ _ y5]
        refine zd ?_
        exact hJ1 (l2.set y3.toNat y5) h _ _ (Sub.trans (Sub.pick (fr' := [(0, vi p1), (5, .one (.sl 1 1 0 l2.length)), (6, vi x1), (7, vi e1), (16, .one (.sl 0 1 0 p2.length)), (17, vi ((p2.length : Nat) : Int)), (18, vi x1), (23, vi p1), (24, vi x2)]) [0,5,6,7,16,17,18,23,24] (by kernel_rfl)) (Sub.frame (fr' := [(0, vi p1), (5, .one (.sl 1 1 0 (l2.set y3.toNat y5).length)), (6, vi x1), (7, vi e1), (16, .one (.sl 0 1 0 p2.length)), (17, vi ((p2.length : Nat) : Int)), (18, vi x1), (23, vi p1), (24, vi x2)]) ⟨.rfl _, ALe.of_eq (show (.one (.sl 1 1 0 l2.length) : AV) = .one (.sl 1 1 0 (l2.set y3.toNat y5).length) from by simp), .rfl _, .rfl _, .rfl _, .rfl _, .rfl _, .rfl _, .rfl _, trivial⟩))
       ·exact zs (hJ1 l2 h _ _ (zk [0,5,6,7,16,17,18,23,24]))
      ·exact zx 2 (hQ2 _ _ _ (hJ2 l2 h _ _ (zk [0,5,16,17,18])))
    exact XR.sub (zk [0,5,6,7,16,17,18,23,24]) (hL2 BIG l1 (0 : Int) h)
   ·exact zx 0 (hQ1 _ _ _ (hJ3 l1 h _ _ (zk [5])))
 exact XR.sub (Sub.trans (Sub.pick (fr' := [(0, vi p1), (5, .one (.sl 1 1 0 ((IntKind.i64.wrap (y1.tdiv (8 : Int))).toNat))), (16, .one (.sl 0 1 0 p2.length)), (17, vi ((p2.length : Nat) : Int)), (18, vi (0 : Int))]) [0,5,16,17,18] (by kernel_rfl)) (Sub.frame (fr' := [(0, vi p1), (5, .one (.sl 1 1 0 (List.replicate (IntKind.i64.wrap (y1.tdiv (8 : Int))).toNat (0 : Int)).length)), (16, .one (.sl 0 1 0 p2.length)), (17, vi ((p2.length : Nat) : Int)), (18, vi (0 : Int))]) ⟨.rfl _, ALe.of_eq (show (.one (.sl 1 1 0 ((IntKind.i64.wrap (y1.tdiv (8 : Int))).toNat)) : AV) = .one (.sl 1 1 0 (List.replicate (IntKind.i64.wrap (y1.tdiv (8 : Int))).toNat (0 : Int)).length) from by simp), .rfl _, .rfl _, .rfl _, trivial⟩)) (hL1 BIG (List.replicate (IntKind.i64.wrap (y1.tdiv (8 : Int))).toNat (0 : Int)) (0 : Int) h)

def bytes_Equal (p1 : (List Int)) (p2 : (List Int)) : Option Bool :=
    some ((strOfNums p1).toList == (strOfNums p2).toList)


theorem c_bytes_Equal (p1 : (List Int)) (p2 : (List Int)) (r : Bool) (h : bytes_Equal p1 p2 = some r) : PC Try.prog 26 [vl (eK .u8) p1, vl (eK .u8) p2] (vb r) := by
 unfold bytes_Equal at h
 refine zF 10 Try.f26 (zq fun K1 hK1 => zr (zg [] 1 [0,1] (zd (hK1 _ _ (zq fun K2 hK2 => zr ?_)))))
 refine zp [] 2 [1,6] [] [(1, vl (eK .u8) p2), (6, vs (strOfEls ((eK .u8).els p1)))] [] [bytesOk ((eK .u8).els p1)] (⟨bytesOk_eK _, trivial⟩) ?_
 rw [strOf_eK p1]
 refine zp [] 2 [6,8] [] [(6, vs (strOfNums p1)), (8, vs (strOfEls ((eK .u8).els p2)))] [] [bytesOk ((eK .u8).els p2)] (⟨bytesOk_eK _, trivial⟩) ?_
 rw [strOf_eK p2]
 refine zg [] 2 [4] (zd (hK2 _ _ (ze ?_)))
 obtain rfl := Option.some.inj h
 exact zf [vb ((strOfNums p1).toList == (strOfNums p2).toList)] (.one (.rfl _ rfl))

def column_unpack_j1 (rec1 : List Int → Int → Option ((List Int) × Bool)) (x1 : Int) (l3 : List Int) : Option ((List Int) × Bool) :=
    rec1 l3 (IntKind.i64.wrap (x1 + (1 : Int)))

def column_unpack_l2 (rec1 : List Int → Int → Option ((List Int) × Bool)) (p1 : Int) (p3 : (List Int)) (x1 : Int) : Nat → List Int → Int → Option ((List Int) × Bool)
  | 0, _, _ => none
  | k2 + 1, l2, x2 =>
    ift (decide (x2 < p1))
      (bnd (at? l2 x1) fun e1 =>
       bnd (some (IntKind.i64.wrap ((IntKind.i64.wrap ((IntKind.i64.wrap (x1 * p1)) + x2)).tdiv (8 : Int)))) fun y2 =>
       bnd (at? p3 y2) fun e2 =>
       bnd (some ((IntKind.i64.wrap ((IntKind.i64.wrap (x1 * p1)) + x2)).tmod (8 : Int))) fun y3 =>
       grd (0 ≤ y3) <|
       bnd (some (IntKind.u8.wrap (BitVec.ofInt (IntKind.u8).bits (e2.fdiv (2 ^ (min y3.toNat (IntKind.u8).bits))) &&& BitVec.ofInt (IntKind.u8).bits (1 : Int)).toNat)) fun y4 =>
       grd (0 ≤ x2) <|
       bnd (some (IntKind.i64.wrap ((IntKind.i64.wrap y4) * 2 ^ (min x2.toNat (IntKind.i64).bits)))) fun y5 =>
       bnd (some (IntKind.i64.wrap (BitVec.ofInt (IntKind.i64).bits e1 ||| BitVec.ofInt (IntKind.i64).bits y5).toNat)) fun y6 =>
       (column_unpack_l2 rec1 p1 p3 x1 k2) (l2.set x1.toNat y6) (IntKind.i64.wrap (x2 + (1 : Int))))
      (column_unpack_j1 rec1 x1 l2)

def column_unpack_j2 (p1 : Int) (p3 : (List Int)) (l4 : List Int) : Option ((List Int) × Bool) :=
    bnd (column_pack_s p1 l4) fun r1 =>
    grd (r1.2.length = l4.length) <|
    bnd (bytes_Equal r1.1 p3) fun r2 =>
    some (r1.2, r2)

def column_unpack_l1 (p1 : Int) (p2 : Int) (p3 : (List Int)) : Nat → List Int → Int → Option ((List Int) × Bool)
  | 0, _, _ => none
  | k1 + 1, l1, x1 =>
    ift (decide (x1 < ((p2.toNat : Nat) : Int)))
      (column_unpack_l2 (column_unpack_l1 p1 p2 p3 k1) p1 p3 x1 BIG l1 (0 : Int))
      (column_unpack_j2 p1 p3 l1)

def column_unpack (p1 : Int) (p2 : Int) (p3 : (List Int)) : Option ((List Int) × Bool) :=
    bnd (some (IntKind.i64.wrap ((IntKind.i64.wrap ((IntKind.i64.wrap (p2 * p1)) + (7 : Int))).tdiv (8 : Int)))) fun y1 =>
    ift ((p3.length : Int) != y1)
      (some ([], false))
      (grd (0 ≤ p2 ∧ p2 ≤ p2 ∧ p2 ≤ 4294967296) <|
       column_unpack_l1 p1 p2 p3 BIG (List.replicate p2.toNat (0 : Int)) (0 : Int))


theorem c_column_unpack (p1 : Int) (p2 : Int) (p3 : (List Int)) (r : ((List Int) × Bool)) (h : column_unpack p1 p2 p3 = some r) : MX Try.prog 117 [vi p1, vi p2, vl (eK .u8) p3] [] [] (.tp [.one (.sl 0 1 0 r.1.length), vb r.2]) [.arr 1 (eI.els r.1)] := by
 unfold column_unpack at h
 refine MX.of 0 1 rfl (n := 64) (fn := Try.f117) (c := cd Try.f117 []) (by kernel_rfl) (by kernel_rfl) (by kernel_rfl) (Nat.le_of_ble_eq_true rfl) rfl (zq fun K1 hK1 => zr (zg [] 2 [0,1,2] (zd (hK1 _ _ (zq fun K2 hK2 => zq fun K3 hK3 => ?_)))))
 obtain ⟨y1, hy4, h⟩ := zB h
 refine zr (zv [] 2 [0,1,2,12] [] [(0, vi p1), (1, vi p2), (2, vl (eK .u8) p3), (12, vi (((eK .u8).els p3).length : Int))] [] ?_)
 rw [(eK .u8).len p3]
 refine zp [] 5 [0,1,2,12,17] [] [(0, vi p1), (1, vi p2), (2, vl (eK .u8) p3), (12, vi (p3.length : Int)), (17, vi (IntKind.i64.wrap ((IntKind.i64.wrap ((IntKind.i64.wrap (p2 * p1)) + (7 : Int))).tdiv (8 : Int))))] [] [(8 : Int) ≠ 0] (⟨by decide, trivial⟩) ?_
 rw [show (IntKind.i64.wrap ((IntKind.i64.wrap ((IntKind.i64.wrap (p2 * p1)) + (7 : Int))).tdiv (8 : Int))) = y1 from Option.some.inj hy4]
 refine zg [] 1 [0,1,2,18] (zd (hK3 _ _ (zC h (fun b5 h => ?_) (fun b5 h => ?_))))
 ·refine zq fun K6 hK6 => zr (zv [] 2 [6,7] [] [(6, .one (.pv (.s (.slice none 0 0)))), (7, vb false)] [] (zd (hK6 _ _ (XW.sub (Sub.list (t := 6) (sz := 1) rfl) (ze ?_)))))
  obtain rfl := Option.some.inj h
  exact FinM.fin (.inr rfl) [] [.one (.sl 0 1 0 0), vb false] [] (by kernel_rfl) trivial (by kernel_rfl) (by kernel_rfl) (.tpc (.one (.rfl _ rfl)) (.tpc (.one (.rfl _ rfl)) (.tp0)))
 ·refine zs (hK2 _ _ (zq fun K7 hK7 => ?_))
  obtain ⟨g9, h⟩ := zG h
  refine zr (zp [] 2 [0,2,20] [] [(0, vi p1), (2, vl (eK .u8) p3), (20, .one (.sl 0 1 0 p2.toNat))] [.arr 1 (List.replicate p2.toNat [pi (0 : Int)])] [0 ≤ p2, p2 ≤ p2, p2 ≤ 4294967296] (⟨g9.1, g9.2.1, g9.2.2, trivial⟩) ?_)
  rw [show List.replicate p2.toNat [pi (0 : Int)] = eI.els (List.replicate p2.toNat (0 : Int)) from eI.rep _ (0 : Int)]
  refine zg [] 1 [0,2,8] (zd (hK7 _ _ (zq fun K10 hK10 => ?_)))
  have hJ2 : ∀ (l4 : List Int), column_unpack_j2 p1 p3 l4 = some r → ∀ fr1 st1, Sub 64 0 [] fr1 st1 [(0, vi p1), (2, vl (eK .u8) p3), (8, .one (.sl 0 1 0 l4.length))] [.arr 1 (eI.els l4)] → K10 fr1 st1 := by
   intro l4 h fr1 st1 hS
   unfold column_unpack_j2 at h
   refine hK10 _ _ (XW.sub hS ?_)
   refine zq fun K32 hK32 => ?_
   obtain ⟨r1, c33, h⟩ := zB h
   obtain ⟨g34, h⟩ := zG h
   obtain ⟨r2, c35, h⟩ := zB h
   refine zr (zv [] 3 [2,58,59,60] [] [(2, vl (eK .u8) p3), (58, .one (.sl 0 1 0 l4.length)), (59, vi p1), (60, .one (.sl 0 1 0 l4.length))] [.arr 1 (eI.els l4)] (XO.calm 72 [vi p1, .one (.sl 0 1 0 l4.length)] [.arr 1 (eI.els l4)] [.arr 1 (eI.els r1.2)] (vl (eK .u8) r1.1) [0] [(61, vl (eK .u8) r1.1), (2, vl (eK .u8) p3), (58, .one (.sl 0 1 0 l4.length)), (59, vi p1), (60, .one (.sl 0 1 0 l4.length))] [.arr 1 (eI.els r1.2)] (by kernel_rfl) (c_column_pack_s _ _ _ c33) (by kernel_rfl) (by kernel_rfl) (by kernel_rfl) (by kernel_rfl) ?_))
   refine XO.sub (Sub.frame (fr' := [(61, vl (eK .u8) r1.1), (2, vl (eK .u8) p3), (58, .one (.sl 0 1 0 r1.2.length)), (59, vi p1), (60, .one (.sl 0 1 0 r1.2.length))]) ⟨.rfl _, .rfl _, ALe.of_eq (show (.one (.sl 0 1 0 l4.length) : AV) = .one (.sl 0 1 0 r1.2.length) from by rw [g34]), .rfl _, ALe.of_eq (show (.one (.sl 0 1 0 l4.length) : AV) = .one (.sl 0 1 0 r1.2.length) from by rw [g34]), trivial⟩) (zg [] 1 [58,61,62] (za (c_bytes_Equal _ _ _ c35) (zv [] 2 [6,7] [] [(6, .one (.sl 0 1 0 r1.2.length)), (7, vb r2)] [.arr 1 (eI.els r1.2)] (zd (hK32 _ _ (ze ?_))))))
   obtain rfl := Option.some.inj h
   exact FinM.fin (.inr rfl) [] [.one (.sl 0 1 0 r1.2.length), vb r2] [] (by kernel_rfl) trivial (by kernel_rfl) (by kernel_rfl) (.tpc (.one (.rfl _ rfl)) (.tpc (.one (.rfl _ rfl)) (.tp0)))
  refine zq fun K11 hK11 => zr (zg [] 3 [0,2,8,22,23] (zd (hK11 _ _ (zb 0 (XW.rounds' BIG (x := cd Try.f117 [1,1,1,0,1,0,0]) (by kernel_rfl) fun Q1 hQ1 => ?_)))))
  have hL1 : ∀ (k1 : Nat) (l1 : List Int) (x1 : Int), column_unpack_l1 p1 p2 p3 k1 l1 x1 = some r → XR Try.prog 64 0 [] (cd Try.f117 [1,1,1,0,1,0,0]) Q1 k1 [(0, vi p1), (2, vl (eK .u8) p3), (8, .one (.sl 0 1 0 l1.length)), (22, vi ((p2.toNat : Nat) : Int)), (23, vi x1)] [.arr 1 (eI.els l1)] := by
   intro k1
   induction k1 with
   | zero => intro l1 x1 h; rw [column_unpack_l1.eq_1] at h; cases h
   | succ k1 ih1 =>
    intro l1 x1 h
    rw [column_unpack_l1.eq_2] at h
    refine zq fun K12 hK12 => zr (zg [] 1 [0,2,8,22,23,24] (zd (hK12 _ _ (zq fun K13 hK13 => zC h (fun b14 h => ?_) (fun b14 h => ?_)))))
    ·refine zs (hK13 _ _ (zq fun K15 hK15 => ?_))
     have hJ1 : ∀ (l3 : List Int), column_unpack_j1 (column_unpack_l1 p1 p2 p3 k1) x1 l3 = some r → ∀ fr1 st1, Sub 64 0 [] fr1 st1 [(0, vi p1), (2, vl (eK .u8) p3), (8, .one (.sl 0 1 0 l3.length)), (22, vi ((p2.toNat : Nat) : Int)), (23, vi x1)] [.arr 1 (eI.els l3)] → K15 fr1 st1 := by
      intro l3 h fr1 st1 hS
      unfold column_unpack_j1 at h
      refine hK15 _ _ (XW.sub hS ?_)
      exact zr (zg [] 2 [0,2,8,22,23] (zd (XR.sub (zk [0,2,8,22,23]) (ih1 l3 (IntKind.i64.wrap (x1 + (1 : Int))) h))))
     refine zb 1 (zq fun K16 hK16 => zr (zg [] 2 [0,2,8,9,22,23] (zd (hK16 _ _ (zq fun K17 hK17 => zr ?_)))))
     refine zv [] 2 [0,2,8,9,22,23,26,27] [] [(0, vi p1), (2, vl (eK .u8) p3), (8, .one (.sl 0 1 0 l1.length)), (9, vi x1), (22, vi ((p2.toNat : Nat) : Int)), (23, vi x1), (26, vi p1), (27, vi (0 : Int))] [.arr 1 (eI.els l1)] (zd (hK17 _ _ (zb 2 (XW.rounds' BIG (x := cd Try.f117 [1,1,1,0,1,0,0,1,1,0,0,1,1,0,0]) (by kernel_rfl) fun Q2 hQ2 => ?_))))
     have hL2 : ∀ (k2 : Nat) (l2 : List Int) (x2 : Int), column_unpack_l2 (column_unpack_l1 p1 p2 p3 k1) p1 p3 x1 k2 l2 x2 = some r → XR Try.prog 64 0 [] (cd Try.f117 [1,1,1,0,1,0,0,1,1,0,0,1,1,0,0]) Q2 k2 [(0, vi p1), (2, vl (eK .u8) p3), (8, .one (.sl 0 1 0 l2.length)), (9, vi x1), (22, vi ((p2.toNat : Nat) : Int)), (23, vi x1), (26, vi p1), (27, vi x2)] [.arr 1 (eI.els l2)] := by
      intro k2
      induction k2 with
      | zero => intro l2 x2 h; rw [column_unpack_l2.eq_1] at h; cases h
      | succ k2 ih2 =>
       intro l2 x2 h
       rw [column_unpack_l2.eq_2] at h
       refine zq fun K18 hK18 => zr (zg [] 1 [0,2,8,9,22,23,26,27,28] (zd (hK18 _ _ (zq fun K19 hK19 => zC h (fun b20 h => ?_) (fun b20 h => ?_)))))
       ·refine zs (hK19 _ _ (zq fun K21 hK21 => zb 3 (zq fun K22 hK22 => zr (zg [] 2 [0,2,8,9,10,22,23,26,27] (zd ?_)))))
        refine hK22 _ _ ?_
        obtain ⟨e1, a23, h⟩ := zB h
        obtain ⟨y2, hy24, h⟩ := zB h
        obtain ⟨e2, a25, h⟩ := zB h
        obtain ⟨y3, hy26, h⟩ := zB h
        obtain ⟨g27, h⟩ := zG h
        obtain ⟨y4, hy28, h⟩ := zB h
        obtain ⟨g29, h⟩ := zG h
        obtain ⟨y5, hy30, h⟩ := zB h
        obtain ⟨y6, hy31, h⟩ := zB h
        refine zw 24 [(53, vi y5), (52, vi x2), (51, vi (IntKind.i64.wrap y4)), (50, vk .u8 y4), (49, vk .u8 (e2.fdiv (2 ^ (min y3.toNat (IntKind.u8).bits)))), (48, vi y3), (47, vi (IntKind.i64.wrap ((IntKind.i64.wrap (x1 * p1)) + x2))), (46, vi x2), (45, vi (IntKind.i64.wrap (x1 * p1))), (44, vi p1), (43, vi x1), (42, vk .u8 e2), (41, .one (.pv (.rp ((eK .u8).els p3) y2.toNat 0))), (40, vi y2), (39, vi (IntKind.i64.wrap ((IntKind.i64.wrap (x1 * p1)) + x2))), (38, vi x2), (37, vi (IntKind.i64.wrap (x1 * p1))), (36, vi p1), (35, vi x1), (34, vl (eK .u8) p3), (33, vi e1), (32, .one (.pt 0 1 (0 + x1.toNat) 0)), (31, vi x1), (30, .one (.sl 0 1 0 l2.length)), (0, vi p1), (2, vl (eK .u8) p3), (8, .one (.sl 0 1 0 l2.length)), (9, vi x1), (10, vi x2), (22, vi ((p2.toNat : Nat) : Int)), (23, vi x1), (26, vi p1), (27, vi x2)] ?_ ?_
        ·refine zyp 11 [[pi e1]] [(40, vi (IntKind.i64.wrap ((IntKind.i64.wrap ((IntKind.i64.wrap (x1 * p1)) + x2)).tdiv (8 : Int)))), (39, vi (IntKind.i64.wrap ((IntKind.i64.wrap (x1 * p1)) + x2))), (38, vi x2), (37, vi (IntKind.i64.wrap (x1 * p1))), (36, vi p1), (35, vi x1), (34, vl (eK .u8) p3), (33, vi e1), (32, .one (.pt 0 1 (0 + x1.toNat) 0)), (31, vi x1), (30, .one (.sl 0 1 0 l2.length)), (0, vi p1), (2, vl (eK .u8) p3), (8, .one (.sl 0 1 0 l2.length)), (9, vi x1), (10, vi x2), (22, vi ((p2.toNat : Nat) : Int)), (23, vi x1), (26, vi p1), (27, vi x2)] [0 ≤ x1 ∧ x1 < ((l2.length : Nat) : Int), (eI.els l2)[(0 + x1.toNat)]? = some [pi e1], (8 : Int) ≠ 0] (⟨Enc.inb' a23, (eI.get0 a23), by decide, trivial⟩) ?_
         rw [show (IntKind.i64.wrap ((IntKind.i64.wrap ((IntKind.i64.wrap (x1 * p1)) + x2)).tdiv (8 : Int))) = y2 from Option.some.inj hy24]
         refine zyp 8 [[.s (.int .u8 e2)]] [(48, vi ((IntKind.i64.wrap ((IntKind.i64.wrap (x1 * p1)) + x2)).tmod (8 : Int))), (47, vi (IntKind.i64.wrap ((IntKind.i64.wrap (x1 * p1)) + x2))), (46, vi x2), (45, vi (IntKind.i64.wrap (x1 * p1))), (44, vi p1), (43, vi x1), (42, vk .u8 e2), (41, .one (.pv (.rp ((eK .u8).els p3) y2.toNat 0))), (40, vi y2), (39, vi (IntKind.i64.wrap ((IntKind.i64.wrap (x1 * p1)) + x2))), (38, vi x2), (37, vi (IntKind.i64.wrap (x1 * p1))), (36, vi p1), (35, vi x1), (34, vl (eK .u8) p3), (33, vi e1), (32, .one (.pt 0 1 (0 + x1.toNat) 0)), (31, vi x1), (30, .one (.sl 0 1 0 l2.length)), (0, vi p1), (2, vl (eK .u8) p3), (8, .one (.sl 0 1 0 l2.length)), (9, vi x1), (10, vi x2), (22, vi ((p2.toNat : Nat) : Int)), (23, vi x1), (26, vi p1), (27, vi x2)] [0 ≤ y2 ∧ y2 < (((eK .u8).els p3).length : Int) ∧ elemsOk 1 ((eK .u8).els p3), ((eK .u8).els p3)[y2.toNat]? = some [.s (.int .u8 e2)], (8 : Int) ≠ 0] (⟨(eK .u8).inb a25, ((eK .u8).get a25), by decide, trivial⟩) ?_
         rw [show ((IntKind.i64.wrap ((IntKind.i64.wrap (x1 * p1)) + x2)).tmod (8 : Int)) = y3 from Option.some.inj hy26]
         refine zyp 2 [] [(50, vk .u8 (IntKind.u8.wrap (BitVec.ofInt (IntKind.u8).bits (e2.fdiv (2 ^ (min y3.toNat (IntKind.u8).bits))) &&& BitVec.ofInt (IntKind.u8).bits (1 : Int)).toNat)), (49, vk .u8 (e2.fdiv (2 ^ (min y3.toNat (IntKind.u8).bits)))), (48, vi y3), (47, vi (IntKind.i64.wrap ((IntKind.i64.wrap (x1 * p1)) + x2))), (46, vi x2), (45, vi (IntKind.i64.wrap (x1 * p1))), (44, vi p1), (43, vi x1), (42, vk .u8 e2), (41, .one (.pv (.rp ((eK .u8).els p3) y2.toNat 0))), (40, vi y2), (39, vi (IntKind.i64.wrap ((IntKind.i64.wrap (x1 * p1)) + x2))), (38, vi x2), (37, vi (IntKind.i64.wrap (x1 * p1))), (36, vi p1), (35, vi x1), (34, vl (eK .u8) p3), (33, vi e1), (32, .one (.pt 0 1 (0 + x1.toNat) 0)), (31, vi x1), (30, .one (.sl 0 1 0 l2.length)), (0, vi p1), (2, vl (eK .u8) p3), (8, .one (.sl 0 1 0 l2.length)), (9, vi x1), (10, vi x2), (22, vi ((p2.toNat : Nat) : Int)), (23, vi x1), (26, vi p1), (27, vi x2)] [0 ≤ y3] (⟨g27, trivial⟩) ?_
         rw [show (IntKind.u8.wrap (BitVec.ofInt (IntKind.u8).bits (e2.fdiv (2 ^ (min y3.toNat (IntKind.u8).bits))) &&& BitVec.ofInt (IntKind.u8).bits (1 : Int)).toNat) = y4 from Option.some.inj hy28]
         refine zyp 3 [] [(53, vi (IntKind.i64.wrap ((IntKind.i64.wrap y4) * 2 ^ (min x2.toNat (IntKind.i64).bits)))), (52, vi x2), (51, vi (IntKind.i64.wrap y4)), (50, vk .u8 y4), (49, vk .u8 (e2.fdiv (2 ^ (min y3.toNat (IntKind.u8).bits)))), (48, vi y3), (47, vi (IntKind.i64.wrap ((IntKind.i64.wrap (x1 * p1)) + x2))), (46, vi x2), (45, vi (IntKind.i64.wrap (x1 * p1))), (44, vi p1), (43, vi x1), (42, vk .u8 e2), (41, .one (.pv (.rp ((eK .u8).els p3) y2.toNat 0))), (40, vi y2), (39, vi (IntKind.i64.wrap ((IntKind.i64.wrap (x1 * p1)) + x2))), (38, vi x2), (37, vi (IntKind.i64.wrap (x1 * p1))), (36, vi p1), (35, vi x1), (34, vl (eK .u8) p3), (33, vi e1), (32, .one (.pt 0 1 (0 + x1.toNat) 0)), (31, vi x1), (30, .one (.sl 0 1 0 l2.length)), (0, vi p1), (2, vl (eK .u8) p3), (8, .one (.sl 0 1 0 l2.length)), (9, vi x1), (10, vi x2), (22, vi ((p2.toNat : Nat) : Int)), (23, vi x1), (26, vi p1), (27, vi x2)] [0 ≤ x2] (⟨g29, trivial⟩) ?_
         rw [show (IntKind.i64.wrap ((IntKind.i64.wrap y4) * 2 ^ (min x2.toNat (IntKind.i64).bits))) = y5 from Option.some.inj hy30]
         exact zyd
        refine zv [] 1 [0,2,8,9,22,23,26,27,30,31,54] [] [(0, vi p1), (2, vl (eK .u8) p3), (8, .one (.sl 0 1 0 l2.length)), (9, vi x1), (22, vi ((p2.toNat : Nat) : Int)), (23, vi x1), (26, vi p1), (27, vi x2), (30, .one (.sl 0 1 0 l2.length)), (31, vi x1), (54, vi (IntKind.i64.wrap (BitVec.ofInt (IntKind.i64).bits e1 ||| BitVec.ofInt (IntKind.i64).bits y5).toNat))] [.arr 1 (eI.els l2)] ?_
        rw [show (IntKind.i64.wrap (BitVec.ofInt (IntKind.i64).bits e1 ||| BitVec.ofInt (IntKind.i64).bits y5).toNat) = y6 from Option.some.inj hy31]
        refine zp [] 2 [0,2,8,9,22,23,26,27] [[pi e1]] [(0, vi p1), (2, vl (eK .u8) p3), (8, .one (.sl 0 1 0 l2.length)), (9, vi x1), (22, vi ((p2.toNat : Nat) : Int)), (23, vi x1), (26, vi p1), (27, vi x2)] [.arr 1 ((eI.els l2).set (0 + x1.toNat) [pi y6])] [0 ≤ x1 ∧ x1 < ((l2.length : Nat) : Int), (eI.els l2)[(0 + x1.toNat)]? = some [pi e1]] (⟨Enc.inb' a23, (eI.get0 a23), trivial⟩) ?_
        rw [show (eI.els l2).set (0 + x1.toNat) [pi y6] = eI.els (l2.set x1.toNat y6) from eI.set0 _ _ y6]
        refine zd (hK21 _ _ (zr (zg [] 2 [0,2,8,9,22,23,26,27] (zd ?_))))
        exact XR.sub (Sub.trans (Sub.pick (fr' := [(0, vi p1), (2, vl (eK .u8) p3), (8, .one (.sl 0 1 0 l2.length)), (9, vi x1), (22, vi ((p2.toNat : Nat) : Int)), (23, vi x1), (26, vi p1), (27, vi (IntKind.i64.wrap (x2 + (1 : Int))))]) [0,2,8,9,22,23,26,27] (by kernel_rfl)) (Sub.frame (fr' := [(0, vi p1), (2, vl (eK .u8) p3), (8, .one (.sl 0 1 0 (l2.set x1.toNat y6).length)), (9, vi x1), (22, vi ((p2.toNat : Nat) : Int)), (23, vi x1), (26, vi p1), (27, vi (IntKind.i64.wrap (x2 + (1 : Int))))]) ⟨.rfl _, .rfl _, ALe.of_eq (show (.one (.sl 0 1 0 l2.length) : AV) = .one (.sl 0 1 0 (l2.set x1.toNat y6).length) from by simp), .rfl _, .rfl _, .rfl _, .rfl _, .rfl _, trivial⟩)) (ih2 (l2.set x1.toNat y6) (IntKind.i64.wrap (x2 + (1 : Int))) h)
       ·exact zx 2 (hQ2 _ _ _ (hJ1 l2 h _ _ (zk [0,2,8,22,23])))
     exact XR.sub (zk [0,2,8,9,22,23,26,27]) (hL2 BIG l1 (0 : Int) h)
    ·exact zx 0 (hQ1 _ _ _ (hJ2 l1 h _ _ (zk [0,2,8])))
  exact XR.sub (Sub.trans (Sub.pick (fr' := [(0, vi p1), (2, vl (eK .u8) p3), (8, .one (.sl 0 1 0 p2.toNat)), (22, vi ((p2.toNat : Nat) : Int)), (23, vi (0 : Int))]) [0,2,8,22,23] (by kernel_rfl)) (Sub.frame (fr' := [(0, vi p1), (2, vl (eK .u8) p3), (8, .one (.sl 0 1 0 (List.replicate p2.toNat (0 : Int)).length)), (22, vi ((p2.toNat : Nat) : Int)), (23, vi (0 : Int))]) ⟨.rfl _, .rfl _, ALe.of_eq (show (.one (.sl 0 1 0 p2.toNat) : AV) = .one (.sl 0 1 0 (List.replicate p2.toNat (0 : Int)).length) from by simp), .rfl _, .rfl _, trivial⟩)) (hL1 BIG (List.replicate p2.toNat (0 : Int)) (0 : Int) h)

def column_cursor_frames_j2 (r3 : ((List Int) × GCursor)) (r4 : ((List Int) × Bool)) (l2 : List Int) : Option ((List Int) × GCursor) :=
    some (l2, (GCursor.mk r3.2.b (!r4.2)))

def column_cursor_frames_l1 (r1 : (Int × GCursor)) (r3 : ((List Int) × GCursor)) (r4 : ((List Int) × Bool)) : Nat → List Int → Int → Option ((List Int) × GCursor)
  | 0, _, _ => none
  | k1 + 1, l1, x2 =>
    ift (decide (x2 < ((r4.1.length : Nat) : Int)))
      (bnd (at? l1 x2) fun e1 =>
       (column_cursor_frames_l1 r1 r3 r4 k1) (l1.set x2.toNat (IntKind.i64.wrap (e1 + r1.1))) (IntKind.i64.wrap (x2 + (1 : Int))))
      (column_cursor_frames_j2 r3 r4 l1)

def column_cursor_frames_j1 (p1 : Int) (r1 : (Int × GCursor)) (r2 : (Int × GCursor)) (x1 : Bool) : Option ((List Int) × GCursor) :=
    ift x1
      (some ([], (GCursor.mk r2.2.b true)))
      (bnd (column_cursor_take (r2.2.b.length : Int) r2.2) fun r3 =>
       bnd (column_unpack r2.1 p1 r3.1) fun r4 =>
       column_cursor_frames_l1 r1 r3 r4 BIG r4.1 (0 : Int))

def column_cursor_frames (p1 : Int) (p2 : GCursor) : Option ((List Int) × GCursor) :=
    ift (p1 == (0 : Int))
      (some ([], p2))
      (bnd (column_cursor_signed p2) fun r1 =>
       bnd (column_cursor_byte r1.2) fun r2 =>
       ift r2.2.bad
         (column_cursor_frames_j1 p1 r1 r2 true)
         (column_cursor_frames_j1 p1 r1 r2 (decide ((62 : Int) < r2.1))))

abbrev qa1464 (r2 : (Int × GCursor)) : List CV := [cl (eK .u8) r2.2.b, cb r2.2.bad]
abbrev qa1477 (p2 : GCursor) : St := [.box [cl (eK .u8) p2.b, cb p2.bad]]
abbrev qa1479 (r1 : (Int × GCursor)) : St := [.box [cl (eK .u8) r1.2.b, cb r1.2.bad]]

theorem c_column_cursor_frames (p1 : Int) (p2 : GCursor) (r : ((List Int) × GCursor)) (h : column_cursor_frames p1 p2 = some r) : MC Try.prog 92 [.one (.pt 0 0 0 0), vi p1] (qa1477 p2) (vl eI r.1) [.box [cl (eK .u8) r.2.b, cb r.2.bad]] := by
 unfold column_cursor_frames at h
 refine MC.of 1 (n := 59) (fn := Try.f92) (c := cd Try.f92 []) (by kernel_rfl) (by kernel_rfl) (by kernel_rfl) (Nat.le_of_ble_eq_true rfl) rfl (zq fun K1 hK1 => zr (zg [] 1 [0,1] (zd (hK1 _ _ (zq fun K2 hK2 => zq fun K3 hK3 => ?_)))))
 refine zr (zg [] 2 [0,1,11] (zd (hK3 _ _ (zC h (fun b4 h => ?_) (fun b4 h => ?_)))))
 ·refine zq fun K5 hK5 => zr (zv [] 1 [4] [] [(4, .one (.pv (.s (.slice none 0 0))))] (qa1477 p2) (zd (hK5 _ _ (ze ?_))))
  obtain rfl := Option.some.inj h
  exact FinM.fin (.inr rfl) [] [.one (.pv (.s (.slice none 0 0)))] [] (by kernel_rfl) trivial (by kernel_rfl) (by kernel_rfl) (.one (.nl))
 ·refine zs (hK2 _ _ (zq fun K6 hK6 => ?_))
  obtain ⟨r1, c7, h⟩ := zB h
  obtain ⟨r2, c8, h⟩ := zB h
  refine zr (zv [] 1 [0,1,12] [] [(0, .one (.pt 0 0 0 0)), (1, vi p1), (12, .one (.pt 0 0 0 0))] (qa1477 p2) (XO.calm 95 [.one (.pt 0 0 0 0)] (qa1477 p2) (qa1479 r1) (vi r1.1) [0] [(13, vi r1.1), (0, .one (.pt 0 0 0 0)), (1, vi p1), (12, .one (.pt 0 0 0 0))] (qa1479 r1) (by kernel_rfl) (c_column_cursor_signed _ _ c7) (by kernel_rfl) (by kernel_rfl) (by kernel_rfl) (by kernel_rfl) ?_))
  refine zv [] 1 [0,1,13,14] [] [(0, .one (.pt 0 0 0 0)), (1, vi p1), (13, vi r1.1), (14, .one (.pt 0 0 0 0))] (qa1479 r1) (XO.calm 116 [.one (.pt 0 0 0 0)] (qa1479 r1) [.box (qa1464 r2)] (vi r2.1) [0] [(15, vi r2.1), (0, .one (.pt 0 0 0 0)), (1, vi p1), (13, vi r1.1), (14, .one (.pt 0 0 0 0))] [.box (qa1464 r2)] (by kernel_rfl) (c_column_cursor_byte _ _ c8) (by kernel_rfl) (by kernel_rfl) (by kernel_rfl) (by kernel_rfl) (zg [] 2 [0,1,5,6] (zd (hK6 _ _ (zq fun K9 hK9 => zq fun K10 hK10 => ?_)))))
  have hJ1 : ∀ (x1 : Bool), column_cursor_frames_j1 p1 r1 r2 x1 = some r → ∀ fr1 st1, Sub 59 1 [] fr1 st1 [(0, .one (.pt 0 0 0 0)), (1, vi p1), (5, vi r1.1), (6, vi r2.1), (23, vb x1)] [.box (qa1464 r2)] → K10 fr1 st1 := by
   intro x1 h fr1 st1 hS
   unfold column_cursor_frames_j1 at h
   refine hK10 _ _ (XW.sub hS ?_)
   refine zC h (fun b12 h => ?_) (fun b12 h => ?_)
   ·refine zq fun K13 hK13 => zr (zg [] 4 [] (zd (hK13 _ _ (zq fun K14 hK14 => zr (zv [] 1 [4] [] [(4, .one (.pv (.s (.slice none 0 0))))] [.box [cl (eK .u8) r2.2.b, cb true]] ?_)))))
    refine zd (hK14 _ _ (ze ?_))
    obtain rfl := Option.some.inj h
    exact FinM.fin (.inr rfl) [] [.one (.pv (.s (.slice none 0 0)))] [] (by kernel_rfl) trivial (by kernel_rfl) (by kernel_rfl) (.one (.nl))
   ·refine zs (hK9 _ _ (zq fun K15 hK15 => ?_))
    obtain ⟨r3, c16, h⟩ := zB h
    obtain ⟨r4, c17, h⟩ := zB h
    refine zr (zv [] 8 [0,5,28,29,30,35] [] [(0, .one (.pt 0 0 0 0)), (5, vi r1.1), (28, vi r2.1), (29, vi p1), (30, .one (.pt 0 0 0 0)), (35, vi (((eK .u8).els r2.2.b).length : Int))] [.box [cl (eK .u8) r2.2.b, cb r2.2.bad]] ?_)
    rw [(eK .u8).len r2.2.b]
    refine XO.calm 118 [.one (.pt 0 0 0 0), vi (r2.2.b.length : Int)] [.box (qa1464 r2)] [.box [cl (eK .u8) r3.2.b, cb r3.2.bad]] (vl (eK .u8) r3.1) [0] [(36, vl (eK .u8) r3.1), (0, .one (.pt 0 0 0 0)), (5, vi r1.1), (28, vi r2.1), (29, vi p1), (30, .one (.pt 0 0 0 0)), (35, vi (r2.2.b.length : Int))] [.box [cl (eK .u8) r3.2.b, cb r3.2.bad]] (by kernel_rfl) (c_column_cursor_take _ _ _ c16) (by kernel_rfl) (by kernel_rfl) (by kernel_rfl) (by kernel_rfl) ?_
    refine XO.calx 117 [vi r2.1, vi p1, vl (eK .u8) r3.1] [] [.arr 1 (eI.els r4.1)] [] (.tp [.one (.sl 0 1 0 r4.1.length), vb r4.2]) [] [] [(37, .tp [.one (.sl 1 1 0 r4.1.length), vb r4.2]), (36, vl (eK .u8) r3.1), (0, .one (.pt 0 0 0 0)), (5, vi r1.1), (28, vi r2.1), (29, vi p1), (30, .one (.pt 0 0 0 0)), (35, vi (r2.2.b.length : Int))] [.box [cl (eK .u8) r3.2.b, cb r3.2.bad], .arr 1 (eI.els r4.1)] (by kernel_rfl) (c_column_unpack _ _ _ _ c17) (by kernel_rfl) (by kernel_rfl) (by kernel_rfl) (by kernel_rfl) (by kernel_rfl) (by kernel_rfl) (by kernel_rfl) (zg [] 5 [0,5,7,8] (zd (hK15 _ _ ?_)))
    refine zq fun K18 hK18 => zr (zg [] 6 [5,7] (zd (hK18 _ _ (zq fun K19 hK19 => ?_))))
    have hJ2 : ∀ (l2 : List Int), column_cursor_frames_j2 r3 r4 l2 = some r → ∀ fr1 st1, Sub 59 1 [] fr1 st1 [(7, .one (.sl 1 1 0 l2.length))] [.box [cl (eK .u8) r3.2.b, cb (!r4.2)], .arr 1 (eI.els l2)] → K19 fr1 st1 := by
     intro l2 h fr1 st1 hS
     unfold column_cursor_frames_j2 at h
     refine hK19 _ _ (XW.sub hS ?_)
     refine zq fun K27 hK27 => zr (zv [] 2 [4] [] [(4, .one (.sl 1 1 0 l2.length))] [.box [cl (eK .u8) r3.2.b, cb (!r4.2)], .arr 1 (eI.els l2)] (zd (hK27 _ _ (ze ?_))))
     obtain rfl := Option.some.inj h
     exact FinM.fin (.inr rfl) [] [.one (.sl 1 1 0 l2.length)] [] (by kernel_rfl) trivial (by kernel_rfl) (by kernel_rfl) (.one (cf_sl eI l2 rfl rfl rfl))
    refine zq fun K20 hK20 => zr (zv [] 3 [5,7,46,47] [] [(5, vi r1.1), (7, .one (.sl 1 1 0 r4.1.length)), (46, vi ((r4.1.length : Nat) : Int)), (47, vi (0 : Int))] [.box [cl (eK .u8) r3.2.b, cb (!r4.2)], .arr 1 (eI.els r4.1)] (zd (hK20 _ _ (zb 0 (XW.rounds' BIG (x := cd Try.f92 [1,1,1,1,1,1,0,1,0,0]) (by kernel_rfl) fun Q1 hQ1 => ?_)))))
    have hL1 : ∀ (k1 : Nat) (l1 : List Int) (x2 : Int), column_cursor_frames_l1 r1 r3 r4 k1 l1 x2 = some r → XR Try.prog 59 1 [] (cd Try.f92 [1,1,1,1,1,1,0,1,0,0]) Q1 k1 [(5, vi r1.1), (7, .one (.sl 1 1 0 l1.length)), (46, vi ((r4.1.length : Nat) : Int)), (47, vi x2)] [.box [cl (eK .u8) r3.2.b, cb (!r4.2)], .arr 1 (eI.els l1)] := by
     intro k1
     induction k1 with
     | zero => intro l1 x2 h; rw [column_cursor_frames_l1.eq_1] at h; cases h
     | succ k1 ih1 =>
      intro l1 x2 h
      rw [column_cursor_frames_l1.eq_2] at h
      refine zq fun K21 hK21 => zr (zg [] 1 [5,7,46,47,48] (zd (hK21 _ _ (zq fun K22 hK22 => zC h (fun b23 h => ?_) (fun b23 h => ?_)))))
      ·refine zs (hK22 _ _ (zq fun K24 hK24 => zb 1 (zq fun K25 hK25 => zr (zg [] 2 [5,7,9,46,47] (zd ?_)))))
       refine hK25 _ _ ?_
       obtain ⟨e1, a26, h⟩ := zB h
       refine zr (zp [] 8 [5,7,46,47] [[pi e1], [pi e1]] [(5, vi r1.1), (7, .one (.sl 1 1 0 l1.length)), (46, vi ((r4.1.length : Nat) : Int)), (47, vi x2)] [.box [cl (eK .u8) r3.2.b, cb (!r4.2)], .arr 1 ((eI.els l1).set (0 + x2.toNat) [pi (IntKind.i64.wrap (e1 + r1.1))])] [0 ≤ x2 ∧ x2 < ((l1.length : Nat) : Int), (eI.els l1)[(0 + x2.toNat)]? = some [pi e1], 0 ≤ x2 ∧ x2 < ((l1.length : Nat) : Int), (eI.els l1)[(0 + x2.toNat)]? = some [pi e1]] (⟨Enc.inb' a26, (eI.get0 a26), Enc.inb' a26, (eI.get0 a26), trivial⟩) ?_)
       rw [show (eI.els l1).set (0 + x2.toNat) [pi (IntKind.i64.wrap (e1 + r1.1))] = eI.els (l1.set x2.toNat (IntKind.i64.wrap (e1 + r1.1))) from eI.set0 _ _ (IntKind.i64.wrap (e1 + r1.1))]
       refine zd (hK24 _ _ (zr (zg [] 2 [5,7,46,47] (zd ?_))))
       exact XR.sub (Sub.trans (Sub.pick (fr' := [(5, vi r1.1), (7, .one (.sl 1 1 0 l1.length)), (46, vi ((r4.1.length : Nat) : Int)), (47, vi (IntKind.i64.wrap (x2 + (1 : Int))))]) [5,7,46,47] (by kernel_rfl)) (Sub.frame (fr' := [(5, vi r1.1), (7, .one (.sl 1 1 0 (l1.set x2.toNat (IntKind.i64.wrap (e1 + r1.1))).length)), (46, vi ((r4.1.length : Nat) : Int)), (47, vi (IntKind.i64.wrap (x2 + (1 : Int))))]) ⟨.rfl _, ALe.of_eq (show (.one (.sl 1 1 0 l1.length) : AV) = .one (.sl 1 1 0 (l1.set x2.toNat (IntKind.i64.wrap (e1 + r1.1))).length) from by simp), .rfl _, .rfl _, trivial⟩)) (ih1 (l1.set x2.toNat (IntKind.i64.wrap (e1 + r1.1))) (IntKind.i64.wrap (x2 + (1 : Int))) h)
      ·exact zx 0 (hQ1 _ _ _ (hJ2 l1 h _ _ (zk [7])))
    exact XR.sub (zk [5,7,46,47]) (hL1 BIG r4.1 (0 : Int) h)
  rcases zW h with ⟨b11, h⟩ | ⟨b11, h⟩
  ·exact zr (zg [] 5 [0,1,5,6,20] (zt 20 b11 (zv [] 3 [0,1,5,6,23] [] [(0, .one (.pt 0 0 0 0)), (1, vi p1), (5, vi r1.1), (6, vi r2.1), (23, vb true)] [.box (qa1464 r2)] (zd (hJ1 true h _ _ (zk [0,1,5,6,23]))))))
  ·exact zr (zg [] 5 [0,1,5,6,20] (zt 20 b11 (zg [] 3 [0,1,5,6,23] (zd (hJ1 (decide ((62 : Int) < r2.1)) h _ _ (zk [0,1,5,6,23]))))))

def column_picked_int_j1 (rec1 : List Int → Int → Option ((List Int) × GCursor)) (p1 : (List Int)) (p3 : GCursor) (l1 : List Int) (x1 : Int) (e1 : Int) (x2 : Bool) : Option ((List Int) × GCursor) :=
    ift x2
      (some ([], (GCursor.mk p3.b true)))
      (bnd (at? p1 e1) fun e2 =>
       grd (l1.length + 1 ≤ 4294967296) <|
       rec1 (l1 ++ [e2]) (IntKind.i64.wrap (x1 + (1 : Int))))

def column_picked_int_j2 (p3 : GCursor) (l2 : List Int) : Option ((List Int) × GCursor) :=
    some (l2, p3)

def column_picked_int_l1 (p1 : (List Int)) (p2 : (List Int)) (p3 : GCursor) : Nat → List Int → Int → Option ((List Int) × GCursor)
  | 0, _, _ => none
  | k1 + 1, l1, x1 =>
    ift (decide (x1 < (p2.length : Int)))
      (bnd (at? p2 x1) fun e1 =>
       ift (decide (e1 < (0 : Int)))
         (column_picked_int_j1 (column_picked_int_l1 p1 p2 p3 k1) p1 p3 l1 x1 e1 true)
         (column_picked_int_j1 (column_picked_int_l1 p1 p2 p3 k1) p1 p3 l1 x1 e1 (decide ((p1.length : Int) ≤ e1))))
      (column_picked_int_j2 p3 l1)

def column_picked_int (p1 : (List Int)) (p2 : (List Int)) (p3 : GCursor) : Option ((List Int) × GCursor) :=
    column_picked_int_l1 p1 p2 p3 BIG [] (0 : Int)

abbrev qa1486 (p3 : GCursor) : List CV := [cl (eK .u8) p3.b, cb p3.bad]

theorem c_column_picked_int (p1 : (List Int)) (p2 : (List Int)) (p3 : GCursor) (r : ((List Int) × GCursor)) (h : column_picked_int p1 p2 p3 = some r) : MC Try.prog 94 [.one (.pt 0 0 0 0), vl eI p1, vl eI p2] [.box (qa1486 p3)] (vl eI r.1) [.box [cl (eK .u8) r.2.b, cb r.2.bad]] := by
 unfold column_picked_int at h
 refine MC.of 1 (n := 36) (fn := Try.f94) (c := cd Try.f94 []) (by kernel_rfl) (by kernel_rfl) (by kernel_rfl) (Nat.le_of_ble_eq_true rfl) rfl (zq fun K1 hK1 => zr (zg [] 1 [0,1,2] (zd (hK1 _ _ (zq fun K2 hK2 => zr ?_)))))
 refine zg [] 1 [0,1,2,7] (zd (hK2 _ _ (zq fun K3 hK3 => ?_)))
 have hJ2 : ∀ (l2 : List Int), column_picked_int_j2 p3 l2 = some r → ∀ fr1 st1, Sub 36 1 [] fr1 st1 [(7, .one (.sl 1 1 0 l2.length))] [.box (qa1486 p3), .arr 1 (eI.els l2)] → K3 fr1 st1 := by
  intro l2 h fr1 st1 hS
  unfold column_picked_int_j2 at h
  refine hK3 _ _ (XW.sub hS ?_)
  refine zq fun K19 hK19 => zr (zv [] 2 [6] [] [(6, .one (.sl 1 1 0 l2.length))] [.box (qa1486 p3), .arr 1 (eI.els l2)] (zd (hK19 _ _ (ze ?_))))
  obtain rfl := Option.some.inj h
  exact FinM.fin (.inr rfl) [] [.one (.sl 1 1 0 l2.length)] [] (by kernel_rfl) trivial (by kernel_rfl) (by kernel_rfl) (.one (cf_sl eI l2 rfl rfl rfl))
 refine zq fun K4 hK4 => zr (zv [] 2 [0,1,7,10,11] [] [(0, .one (.pt 0 0 0 0)), (1, vl eI p1), (7, .one (.pv (.s (.slice none 0 0)))), (10, vl eI p2), (11, vi ((eI.els p2).length : Int))] [.box [cl (eK .u8) p3.b, cb p3.bad]] ?_)
 rw [eI.len p2]
 refine zv [] 1 [0,1,7,10,11,12] [] [(0, .one (.pt 0 0 0 0)), (1, vl eI p1), (7, .one (.pv (.s (.slice none 0 0)))), (10, vl eI p2), (11, vi (p2.length : Int)), (12, vi (0 : Int))] [.box [cl (eK .u8) p3.b, cb p3.bad]] (zd (hK4 _ _ (zb 0 (XW.sub (Sub.list (t := 7) (sz := 1) rfl) (XW.rounds' BIG (x := cd Try.f94 [1,1,0,1,0,0]) (by kernel_rfl) fun Q1 hQ1 => ?_)))))
 have hL1 : ∀ (k1 : Nat) (l1 : List Int) (x1 : Int), column_picked_int_l1 p1 p2 p3 k1 l1 x1 = some r → XR Try.prog 36 1 [] (cd Try.f94 [1,1,0,1,0,0]) Q1 k1 [(0, .one (.pt 0 0 0 0)), (1, vl eI p1), (7, .one (.sl 1 1 0 l1.length)), (10, vl eI p2), (11, vi (p2.length : Int)), (12, vi x1)] [.box (qa1486 p3), .arr 1 (eI.els l1)] := by
  intro k1
  induction k1 with
  | zero => intro l1 x1 h; rw [column_picked_int_l1.eq_1] at h; cases h
  | succ k1 ih1 =>
   intro l1 x1 h
   rw [column_picked_int_l1.eq_2] at h
   refine zq fun K5 hK5 => zr (zg [] 1 [0,1,7,10,11,12,13] (zd (hK5 _ _ (zq fun K6 hK6 => zC h (fun b7 h => ?_) (fun b7 h => ?_)))))
   ·refine zs (hK6 _ _ (zq fun K8 hK8 => zb 1 (zq fun K9 hK9 => ?_)))
    obtain ⟨e1, a10, h⟩ := zB h
    refine zr (zo [] 3 [0,1,7,9,10,11,12] [[pi e1]] [0 ≤ x1 ∧ x1 < ((eI.els p2).length : Int) ∧ elemsOk 1 (eI.els p2), (eI.els p2)[x1.toNat]? = some [pi e1]] (⟨eI.inb a10, (eI.get a10), trivial⟩) (zd (hK9 _ _ (zq fun K11 hK11 => zq fun K12 hK12 => ?_))))
    have hJ1 : ∀ (x2 : Bool), column_picked_int_j1 (column_picked_int_l1 p1 p2 p3 k1) p1 p3 l1 x1 e1 x2 = some r → ∀ fr1 st1, Sub 36 1 [] fr1 st1 [(0, .one (.pt 0 0 0 0)), (1, vl eI p1), (7, .one (.sl 1 1 0 l1.length)), (9, vi e1), (10, vl eI p2), (11, vi (p2.length : Int)), (12, vi x1), (23, vb x2)] [.box (qa1486 p3), .arr 1 (eI.els l1)] → K12 fr1 st1 := by
     intro x2 h fr1 st1 hS
     unfold column_picked_int_j1 at h
     refine hK12 _ _ (XW.sub hS ?_)
     refine zC h (fun b14 h => ?_) (fun b14 h => ?_)
     ·refine zq fun K15 hK15 => zr (zg [] 4 [] (zd (hK15 _ _ (zq fun K16 hK16 => zr (zv [] 1 [6] [] [(6, .one (.pv (.s (.slice none 0 0))))] [.box [cl (eK .u8) p3.b, cb true], .arr 1 (eI.els l1)] ?_)))))
      refine zd (hK16 _ _ (ze (hQ1 _ _ _ ?_)))
      obtain rfl := Option.some.inj h
      exact FinM.fin (.inr rfl) [] [.one (.pv (.s (.slice none 0 0)))] [] (by kernel_rfl) trivial (by kernel_rfl) (by kernel_rfl) (.one (.nl))
     ·refine zs (hK11 _ _ ?_)
      obtain ⟨e2, a17, h⟩ := zB h
      obtain ⟨g18, h⟩ := zG h
      refine zr (zp [] 7 [0,1,10,11,12,33] [[pi e2]] [(0, .one (.pt 0 0 0 0)), (1, vl eI p1), (10, vl eI p2), (11, vi (p2.length : Int)), (12, vi x1), (33, .one (.sl 1 1 0 (l1.length + (eI.els [e2]).length)))] [.box [cl (eK .u8) p3.b, cb p3.bad], .arr 1 (eI.els l1 ++ eI.els [e2])] [0 ≤ e1 ∧ e1 < ((eI.els p1).length : Int) ∧ elemsOk 1 (eI.els p1), (eI.els p1)[e1.toNat]? = some [pi e2], elemsOk 1 (eI.els [e2]), l1.length = (eI.els l1).length, l1.length + (eI.els [e2]).length ≤ 4294967296] (⟨eI.inb a17, (eI.get a17), eI.ok _, (eI.len l1).symm, g18, trivial⟩) ?_)
      rw [show l1.length + (eI.els [e2]).length = (l1 ++ [e2]).length from eI.lapp _ _]
      rw [show eI.els l1 ++ eI.els [e2] = eI.els (l1 ++ [e2]) from eI.app2 _ _]
      exact zg [] 1 [0,1,7,10,11,12] (zd (hK8 _ _ (zr (zg [] 2 [0,1,7,10,11,12] (zd (XR.sub (zk [0,1,7,10,11,12]) (ih1 (l1 ++ [e2]) (IntKind.i64.wrap (x1 + (1 : Int))) h)))))))
    rcases zW h with ⟨b13, h⟩ | ⟨b13, h⟩
    ·exact zr (zv [] 3 [0,1,7,9,10,11,12,18] [] [(0, .one (.pt 0 0 0 0)), (1, vl eI p1), (7, .one (.sl 1 1 0 l1.length)), (9, vi e1), (10, vl eI p2), (11, vi (p2.length : Int)), (12, vi x1), (18, vb (decide (e1 < (0 : Int))))] [.box (qa1486 p3), .arr 1 (eI.els l1)] (zt 18 b13 (zg [] 5 [0,1,7,9,10,11,12,23] (zd (hJ1 true h _ _ (zk [0,1,7,9,10,11,12,23]))))))
    ·refine zr (zg [] 3 [0,1,7,9,10,11,12,18] (zt 18 b13 (zv [] 3 [0,1,7,9,10,11,12,18,19,21] [] [(0, .one (.pt 0 0 0 0)), (1, vl eI p1), (7, .one (.sl 1 1 0 l1.length)), (9, vi e1), (10, vl eI p2), (11, vi (p2.length : Int)), (12, vi x1), (18, vb false), (19, vi e1), (21, vi ((eI.els p1).length : Int))] [.box [cl (eK .u8) p3.b, cb p3.bad], .arr 1 (eI.els l1)] ?_)))
     rw [eI.len p1]
     exact zg [] 2 [0,1,7,9,10,11,12,23] (zd (hJ1 (decide ((p1.length : Int) ≤ e1)) h _ _ (zk [0,1,7,9,10,11,12,23])))
   ·exact zx 0 (hQ1 _ _ _ (hJ2 l1 h _ _ (zk [7])))
 exact XR.sub (zk [0,1,7,10,11,12]) (hL1 BIG [] (0 : Int) h)

def column_cursor_numbers_j2 (l2 : List Int) (z3 : List Int) (z4 : Bool) : Option ((List Int) × GCursor) :=
    some (l2, (GCursor.mk z3 z4))

def column_cursor_numbers_j1 (rec1 : List Int → List Int → Bool → Option ((List Int) × GCursor)) (l1 : List Int) (z1 : List Int) (z2 : Bool) (x1 : Bool) : Option ((List Int) × GCursor) :=
    ift x1
      (bnd (column_cursor_signed (GCursor.mk z1 z2)) fun r8 =>
       grd (l1.length + 1 ≤ 4294967296) <|
       rec1 (l1 ++ [r8.1]) r8.2.b r8.2.bad)
      (column_cursor_numbers_j2 l1 z1 z2)

def column_cursor_numbers_l1 (p2 : Int) : Nat → List Int → List Int → Bool → Option ((List Int) × GCursor)
  | 0, _, _, _ => none
  | k1 + 1, l1, z1, z2 =>
    ift (decide (((l1.length : Nat) : Int) < p2))
      (column_cursor_numbers_j1 (column_cursor_numbers_l1 p2 k1) l1 z1 z2 (!z2))
      (column_cursor_numbers_j1 (column_cursor_numbers_l1 p2 k1) l1 z1 z2 false)

def column_cursor_numbers (p1 : Int) (p2 : Int) (p3 : GCursor) : Option ((List Int) × GCursor) :=
    ift (p1 == (1 : Int))
      (bnd (column_cursor_runs p2 p3) fun r1 =>
       some (r1.1, r1.2))
      (ift (p1 == (2 : Int))
         (bnd (column_cursor_deltas p2 p3) fun r2 =>
          some (r2.1, r2.2))
         (ift (p1 == (3 : Int))
            (bnd (column_cursor_frames p2 p3) fun r3 =>
             some (r3.1, r3.2))
            (ift (p1 == (4 : Int))
               (bnd (column_cursor_number p3) fun r4 =>
                ift (decide (p2 < r4.1))
                  (some ([], (GCursor.mk r4.2.b true)))
                  (bnd (column_cursor_deltas r4.1 r4.2) fun r5 =>
                   bnd (column_cursor_frames p2 r5.2) fun r6 =>
                   bnd (column_picked_int r5.1 r6.1 r6.2) fun r7 =>
                   some (r7.1, r7.2)))
               (column_cursor_numbers_l1 p2 BIG [] p3.b p3.bad))))

abbrev qa1501 (p3 : GCursor) : List CV := [cl (eK .u8) p3.b, cb p3.bad]
abbrev qa1541 (p3 : GCursor) : St := [.box (qa1501 p3)]
abbrev qa1546 (r4 : (Int × GCursor)) : St := [.box [cl (eK .u8) r4.2.b, cb r4.2.bad]]
abbrev qa1548 (r5 : ((List Int) × GCursor)) : St := [.box [cl (eK .u8) r5.2.b, cb r5.2.bad]]

theorem c_column_cursor_numbers (p1 : Int) (p2 : Int) (p3 : GCursor) (r : ((List Int) × GCursor)) (h : column_cursor_numbers p1 p2 p3 = some r) : MC Try.prog 66 [.one (.pt 0 0 0 0), vi p1, vi p2] (qa1541 p3) (vl eI r.1) [.box [cl (eK .u8) r.2.b, cb r.2.bad]] := by
 unfold column_cursor_numbers at h
 refine MC.of 1 (n := 62) (fn := Try.f66) (c := cd Try.f66 []) (by kernel_rfl) (by kernel_rfl) (by kernel_rfl) (Nat.le_of_ble_eq_true rfl) rfl (zq fun K1 hK1 => zr (zg [] 1 [0,1,2] (zd (hK1 _ _ (zq fun K2 hK2 => zq fun K3 hK3 => ?_)))))
 refine zr (zg [] 1 [0,2,10] (zd (hK3 _ _ (zb 0 (zq fun K4 hK4 => zr (zv [] 2 [0,2,10,11] [] [(0, .one (.pt 0 0 0 0)), (2, vi p2), (10, vi p1), (11, vb (p1 == (1 : Int)))] (qa1541 p3) ?_))))))
 refine zd (hK4 _ _ (zC h (fun b5 h => ?_) (fun b5 h => ?_)))
 ·refine zq fun K6 hK6 => ?_
  obtain ⟨r1, c7, h⟩ := zB h
  refine zr (zv [] 2 [13,14] [] [(13, .one (.pt 0 0 0 0)), (14, vi p2)] (qa1541 p3) (XO.calm 90 [.one (.pt 0 0 0 0), vi p2] (qa1541 p3) [.box [cl (eK .u8) r1.2.b, cb r1.2.bad]] (vl eI r1.1) [0] [(15, vl eI r1.1), (13, .one (.pt 0 0 0 0)), (14, vi p2)] [.box [cl (eK .u8) r1.2.b, cb r1.2.bad]] (by kernel_rfl) (c_column_cursor_runs _ _ _ c7) (by kernel_rfl) (by kernel_rfl) (by kernel_rfl) (by kernel_rfl) (zv [] 1 [6] [] [(6, vl eI r1.1)] [.box [cl (eK .u8) r1.2.b, cb r1.2.bad]] (zd (hK6 _ _ (ze ?_))))))
  obtain rfl := Option.some.inj h
  exact FinM.fin (.inr rfl) [] [vl eI r1.1] [] (by kernel_rfl) trivial (by kernel_rfl) (by kernel_rfl) (.one (.rfl _ rfl))
 ·refine zq fun K8 hK8 => zr (zg [] 2 [0,2,10,16] (zd (hK8 _ _ (zC h (fun b9 h => ?_) (fun b9 h => ?_)))))
  ·refine zq fun K10 hK10 => ?_
   obtain ⟨r2, c11, h⟩ := zB h
   refine zr (zv [] 2 [18,19] [] [(18, .one (.pt 0 0 0 0)), (19, vi p2)] (qa1541 p3) (XO.calm 91 [.one (.pt 0 0 0 0), vi p2] (qa1541 p3) [.box [cl (eK .u8) r2.2.b, cb r2.2.bad]] (vl eI r2.1) [0] [(20, vl eI r2.1), (18, .one (.pt 0 0 0 0)), (19, vi p2)] [.box [cl (eK .u8) r2.2.b, cb r2.2.bad]] (by kernel_rfl) (c_column_cursor_deltas _ _ _ c11) (by kernel_rfl) (by kernel_rfl) (by kernel_rfl) (by kernel_rfl) (zv [] 1 [6] [] [(6, vl eI r2.1)] [.box [cl (eK .u8) r2.2.b, cb r2.2.bad]] (zd (hK10 _ _ (ze ?_))))))
   obtain rfl := Option.some.inj h
   exact FinM.fin (.inr rfl) [] [vl eI r2.1] [] (by kernel_rfl) trivial (by kernel_rfl) (by kernel_rfl) (.one (.rfl _ rfl))
  ·refine zq fun K12 hK12 => zr (zg [] 2 [0,2,10,21] (zd (hK12 _ _ (zC h (fun b13 h => ?_) (fun b13 h => ?_)))))
   ·refine zq fun K14 hK14 => ?_
    obtain ⟨r3, c15, h⟩ := zB h
    refine zr (zv [] 2 [23,24] [] [(23, .one (.pt 0 0 0 0)), (24, vi p2)] (qa1541 p3) (XO.calm 92 [.one (.pt 0 0 0 0), vi p2] (qa1541 p3) [.box [cl (eK .u8) r3.2.b, cb r3.2.bad]] (vl eI r3.1) [0] [(25, vl eI r3.1), (23, .one (.pt 0 0 0 0)), (24, vi p2)] [.box [cl (eK .u8) r3.2.b, cb r3.2.bad]] (by kernel_rfl) (c_column_cursor_frames _ _ _ c15) (by kernel_rfl) (by kernel_rfl) (by kernel_rfl) (by kernel_rfl) (zv [] 1 [6] [] [(6, vl eI r3.1)] [.box [cl (eK .u8) r3.2.b, cb r3.2.bad]] (zd (hK14 _ _ (ze ?_))))))
    obtain rfl := Option.some.inj h
    exact FinM.fin (.inr rfl) [] [vl eI r3.1] [] (by kernel_rfl) trivial (by kernel_rfl) (by kernel_rfl) (.one (.rfl _ rfl))
   ·refine zq fun K16 hK16 => zr (zg [] 2 [0,2,26] (zd (hK16 _ _ (zC h (fun b17 h => ?_) (fun b17 h => ?_)))))
    ·refine zq fun K18 hK18 => ?_
     obtain ⟨r4, c19, h⟩ := zB h
     refine zr (zv [] 1 [0,2,28] [] [(0, .one (.pt 0 0 0 0)), (2, vi p2), (28, .one (.pt 0 0 0 0))] (qa1541 p3) (XO.calm 93 [.one (.pt 0 0 0 0)] (qa1541 p3) (qa1546 r4) (vi r4.1) [0] [(29, vi r4.1), (0, .one (.pt 0 0 0 0)), (2, vi p2), (28, .one (.pt 0 0 0 0))] (qa1546 r4) (by kernel_rfl) (c_column_cursor_number _ _ c19) (by kernel_rfl) (by kernel_rfl) (by kernel_rfl) (by kernel_rfl) (zg [] 1 [0,2,7] (zd (hK18 _ _ (zq fun K20 hK20 => zq fun K21 hK21 => ?_))))))
     refine zr (zg [] 3 [0,2,7,32] (zd (hK21 _ _ (zC h (fun b22 h => ?_) (fun b22 h => ?_)))))
     ·refine zq fun K23 hK23 => zr (zv [] 4 [] [] [] [.box [cl (eK .u8) r4.2.b, cb true]] (zd (hK23 _ _ (zq fun K24 hK24 => zr (zv [] 1 [6] [] [(6, .one (.pv (.s (.slice none 0 0))))] [.box [cl (eK .u8) r4.2.b, cb true]] ?_)))))
      refine zd (hK24 _ _ (ze ?_))
      obtain rfl := Option.some.inj h
      exact FinM.fin (.inr rfl) [] [.one (.pv (.s (.slice none 0 0)))] [] (by kernel_rfl) trivial (by kernel_rfl) (by kernel_rfl) (.one (.nl))
     ·refine zs (hK20 _ _ (zq fun K25 hK25 => ?_))
      obtain ⟨r5, c26, h⟩ := zB h
      refine zr (zv [] 2 [0,2,36,37] [] [(0, .one (.pt 0 0 0 0)), (2, vi p2), (36, .one (.pt 0 0 0 0)), (37, vi r4.1)] (qa1546 r4) (XO.calm 91 [.one (.pt 0 0 0 0), vi r4.1] (qa1546 r4) (qa1548 r5) (vl eI r5.1) [0] [(38, vl eI r5.1), (0, .one (.pt 0 0 0 0)), (2, vi p2), (36, .one (.pt 0 0 0 0)), (37, vi r4.1)] (qa1548 r5) (by kernel_rfl) (c_column_cursor_deltas _ _ _ c26) (by kernel_rfl) (by kernel_rfl) (by kernel_rfl) (by kernel_rfl) (zg [] 1 [0,2,8] (zd (hK25 _ _ ?_)))))
      refine zq fun K27 hK27 => ?_
      obtain ⟨r6, c28, h⟩ := zB h
      obtain ⟨r7, c29, h⟩ := zB h
      refine zr (zv [] 4 [39,40,41,42] [] [(39, .one (.pt 0 0 0 0)), (40, vl eI r5.1), (41, .one (.pt 0 0 0 0)), (42, vi p2)] (qa1548 r5) (XO.calm 92 [.one (.pt 0 0 0 0), vi p2] (qa1548 r5) [.box [cl (eK .u8) r6.2.b, cb r6.2.bad]] (vl eI r6.1) [0] [(43, vl eI r6.1), (39, .one (.pt 0 0 0 0)), (40, vl eI r5.1), (41, .one (.pt 0 0 0 0)), (42, vi p2)] [.box [cl (eK .u8) r6.2.b, cb r6.2.bad]] (by kernel_rfl) (c_column_cursor_frames _ _ _ c28) (by kernel_rfl) (by kernel_rfl) (by kernel_rfl) (by kernel_rfl) ?_))
      refine XO.calm 94 [.one (.pt 0 0 0 0), vl eI r5.1, vl eI r6.1] [.box [cl (eK .u8) r6.2.b, cb r6.2.bad]] [.box [cl (eK .u8) r7.2.b, cb r7.2.bad]] (vl eI r7.1) [0] [(44, vl eI r7.1), (43, vl eI r6.1), (39, .one (.pt 0 0 0 0)), (40, vl eI r5.1), (41, .one (.pt 0 0 0 0)), (42, vi p2)] [.box [cl (eK .u8) r7.2.b, cb r7.2.bad]] (by kernel_rfl) (c_column_picked_int _ _ _ _ c29) (by kernel_rfl) (by kernel_rfl) (by kernel_rfl) (by kernel_rfl) (zv [] 1 [6] [] [(6, vl eI r7.1)] [.box [cl (eK .u8) r7.2.b, cb r7.2.bad]] (zd (hK27 _ _ (ze ?_))))
      obtain rfl := Option.some.inj h
      exact FinM.fin (.inr rfl) [] [vl eI r7.1] [] (by kernel_rfl) trivial (by kernel_rfl) (by kernel_rfl) (.one (.rfl _ rfl))
    ·refine zs (hK2 _ _ (zq fun K30 hK30 => zr (zv [] 1 [0,2,9] [] [(0, .one (.pt 0 0 0 0)), (2, vi p2), (9, .one (.pv (.s (.slice none 0 0))))] (qa1541 p3) (zd (hK30 _ _ (zq fun K31 hK31 => ?_))))))
     have hJ2 : ∀ (l2 : List Int) (z3 : List Int) (z4 : Bool), column_cursor_numbers_j2 l2 z3 z4 = some r → ∀ fr1 st1, Sub 62 1 [] fr1 st1 [(9, .one (.sl 1 1 0 l2.length))] [.box [cl (eK .u8) z3, cb z4], .arr 1 (eI.els l2)] → K31 fr1 st1 := by
      intro l2 z3 z4 h fr1 st1 hS
      unfold column_cursor_numbers_j2 at h
      refine hK31 _ _ (XW.sub hS ?_)
      refine zq fun K38 hK38 => zr (zv [] 2 [6] [] [(6, .one (.sl 1 1 0 l2.length))] [.box [cl (eK .u8) z3, cb z4], .arr 1 (eI.els l2)] (zd (hK38 _ _ (ze ?_))))
      obtain rfl := Option.some.inj h
      exact FinM.fin (.inr rfl) [] [.one (.sl 1 1 0 l2.length)] [] (by kernel_rfl) trivial (by kernel_rfl) (by kernel_rfl) (.one (cf_sl eI l2 rfl rfl rfl))
     refine zb 1 (XW.sub (Sub.list (t := 9) (sz := 1) rfl) (XW.rounds' BIG (x := cd Try.f66 [1,1,1,0,0,0]) (by kernel_rfl) fun Q1 hQ1 => ?_))
     have hL1 : ∀ (k1 : Nat) (l1 : List Int) (z1 : List Int) (z2 : Bool), column_cursor_numbers_l1 p2 k1 l1 z1 z2 = some r → XR Try.prog 62 1 [] (cd Try.f66 [1,1,1,0,0,0]) Q1 k1 [(0, .one (.pt 0 0 0 0)), (2, vi p2), (9, .one (.sl 1 1 0 l1.length))] [.box [cl (eK .u8) z1, cb z2], .arr 1 (eI.els l1)] := by
      intro k1
      induction k1 with
      | zero => intro l1 z1 z2 h; rw [column_cursor_numbers_l1.eq_1] at h; cases h
      | succ k1 ih1 =>
       intro l1 z1 z2 h
       rw [column_cursor_numbers_l1.eq_2] at h
       refine zq fun K32 hK32 => zq fun K33 hK33 => ?_
       have hJ1 : ∀ (x1 : Bool), column_cursor_numbers_j1 (column_cursor_numbers_l1 p2 k1) l1 z1 z2 x1 = some r → ∀ fr1 st1, Sub 62 1 [] fr1 st1 [(0, .one (.pt 0 0 0 0)), (2, vi p2), (9, .one (.sl 1 1 0 l1.length)), (55, vb x1)] [.box [cl (eK .u8) z1, cb z2], .arr 1 (eI.els l1)] → K33 fr1 st1 := by
        intro x1 h fr1 st1 hS
        unfold column_cursor_numbers_j1 at h
        refine hK33 _ _ (XW.sub hS ?_)
        refine zC h (fun b35 h => ?_) (fun b35 h => ?_)
        ·refine zs (hK32 _ _ (zb 2 ?_))
         obtain ⟨r8, c36, h⟩ := zB h
         obtain ⟨g37, h⟩ := zG h
         refine zr (zv [] 2 [0,2,56,57] [] [(0, .one (.pt 0 0 0 0)), (2, vi p2), (56, .one (.sl 1 1 0 l1.length)), (57, .one (.pt 0 0 0 0))] [.box [cl (eK .u8) z1, cb z2], .arr 1 (eI.els l1)] (XO.calm 95 [.one (.pt 0 0 0 0)] [.box [cl (eK .u8) z1, cb z2]] [.box [cl (eK .u8) r8.2.b, cb r8.2.bad]] (vi r8.1) [0] [(58, vi r8.1), (0, .one (.pt 0 0 0 0)), (2, vi p2), (56, .one (.sl 1 1 0 l1.length)), (57, .one (.pt 0 0 0 0))] [.box [cl (eK .u8) r8.2.b, cb r8.2.bad], .arr 1 (eI.els l1)] (by kernel_rfl) (c_column_cursor_signed _ _ c36) (by kernel_rfl) (by kernel_rfl) (by kernel_rfl) (by kernel_rfl) ?_))
         refine zp [] 2 [0,2,60] [] [(0, .one (.pt 0 0 0 0)), (2, vi p2), (60, .one (.sl 1 1 0 (l1.length + (eI.els [r8.1]).length)))] [.box [cl (eK .u8) r8.2.b, cb r8.2.bad], .arr 1 (eI.els l1 ++ eI.els [r8.1])] [elemsOk 1 (eI.els [r8.1]), l1.length = (eI.els l1).length, l1.length + (eI.els [r8.1]).length ≤ 4294967296] (⟨eI.ok _, (eI.len l1).symm, g37, trivial⟩) ?_
         rw [show l1.length + (eI.els [r8.1]).length = (l1 ++ [r8.1]).length from eI.lapp _ _]
         rw [show eI.els l1 ++ eI.els [r8.1] = eI.els (l1 ++ [r8.1]) from eI.app2 _ _]
         exact zg [] 1 [0,2,9] (zd (XR.sub (zk [0,2,9]) (ih1 (l1 ++ [r8.1]) r8.2.b r8.2.bad h)))
        ·exact zx 1 (hQ1 _ _ _ (hJ2 l1 z1 z2 h _ _ (zk [9])))
       rcases zW h with ⟨b34, h⟩ | ⟨b34, h⟩
       ·exact zr (zg [] 5 [0,2,9,49] (zt 49 b34 (zg [] 6 [0,2,9,55] (zd (hJ1 (!z2) h _ _ (zk [0,2,9,55]))))))
       ·exact zr (zv [] 5 [0,2,9,49] [] [(0, .one (.pt 0 0 0 0)), (2, vi p2), (9, .one (.sl 1 1 0 l1.length)), (49, vb (decide (((l1.length : Nat) : Int) < p2)))] [.box [cl (eK .u8) z1, cb z2], .arr 1 (eI.els l1)] (zt 49 b34 (zg [] 6 [0,2,9,55] (zd (hJ1 false h _ _ (zk [0,2,9,55]))))))
     exact XR.sub (zk [0,2,9]) (hL1 BIG [] p3.b p3.bad h)

def slices_Clip_int_int (p1 : (List Int)) : Option (List Int) :=
    grd (0 ≤ (0 : Int) ∧ (0 : Int) ≤ (p1.length : Int) ∧ (p1.length : Int) ≤ (p1.length : Int) ∧ (p1.length : Int) ≤ (p1.length : Int)) <|
    some ((p1.drop (0 : Int).toNat).take ((p1.length : Int).toNat - (0 : Int).toNat))


theorem c_slices_Clip_int_int (p1 : (List Int)) (r : (List Int)) (h : slices_Clip_int_int p1 = some r) : PC Try.prog 67 [vl eI p1] (vl eI r) := by
 unfold slices_Clip_int_int at h
 refine zF 9 Try.f67 (zq fun K1 hK1 => zr (zg [] 1 [0] (zd (hK1 _ _ (zq fun K2 hK2 => ?_)))))
 obtain ⟨g3, h⟩ := zG h
 refine zr (zv [] 3 [0,3,5] [] [(0, vl eI p1), (3, vl eI p1), (5, vi ((eI.els p1).length : Int))] [] ?_)
 rw [eI.len p1]
 refine zv [] 2 [3,5,7] [] [(3, vl eI p1), (5, vi (p1.length : Int)), (7, vi ((eI.els p1).length : Int))] [] ?_
 rw [eI.len p1]
 refine zp [] 1 [8] [] [(8, .one (.pv (.ro (((eI.els p1).drop (0 : Int).toNat).take ((p1.length : Int).toNat - (0 : Int).toNat)))))] [] [(0 ≤ (0 : Int) ∧ (0 : Int) ≤ (p1.length : Int) ∧ (p1.length : Int) ≤ (p1.length : Int) ∧ (p1.length : Int) ≤ ((eI.els p1).length : Int)) ∧ elemsOk 1 (eI.els p1)] (⟨eI.cutMOk g3, trivial⟩) ?_
 rw [show ((eI.els p1).drop (0 : Int).toNat).take ((p1.length : Int).toNat - (0 : Int).toNat) = eI.els ((p1.drop (0 : Int).toNat).take ((p1.length : Int).toNat - (0 : Int).toNat)) from eI.cut _ _ _]
 refine zg [] 1 [2] (zd (hK2 _ _ (ze ?_)))
 obtain rfl := Option.some.inj h
 exact zf [vl eI ((p1.drop (0 : Int).toNat).take ((p1.length : Int).toNat - (0 : Int).toNat))] (.one (.rfl _ rfl))

def column_unnumbers_j1 (r1 : ((List Int) × GCursor)) (x1 : Bool) : Option ((List Int) × Bool) :=
    ift x1
      (some ([], false))
      (bnd (slices_Clip_int_int r1.1) fun r5 =>
       some (r5, true))

def column_unnumbers (p1 : Int) (p2 : Int) (p3 : (List Int)) : Option ((List Int) × Bool) :=
    bnd (column_cursor_numbers p1 p2 (GCursor.mk p3 false)) fun r1 =>
    ift r1.2.bad
      (column_unnumbers_j1 r1 true)
      (ift ((r1.1.length : Int) != p2)
         (column_unnumbers_j1 r1 true)
         (bnd (slices_ContainsFunc_int_int_of_column_outside r1.1) fun r2 =>
          ift r2
            (column_unnumbers_j1 r1 true)
            (bnd (column_numbers p1 r1.1) fun r3 =>
             bnd (bytes_Equal r3 p3) fun r4 =>
             column_unnumbers_j1 r1 (!r4))))

abbrev qa1567 (r1 : ((List Int) × GCursor)) : St := [.box [cl (eK .u8) r1.2.b, cb r1.2.bad]]

theorem c_column_unnumbers (p1 : Int) (p2 : Int) (p3 : (List Int)) (r : ((List Int) × Bool)) (h : column_unnumbers p1 p2 p3 = some r) : PC Try.prog 42 [vi p1, vi p2, vl (eK .u8) p3] (.tp [vl eI r.1, vb r.2]) := by
 unfold column_unnumbers at h
 refine zF 41 Try.f42 (zq fun K1 hK1 => zr (zg [12] 2 [0,1,2] (zd (hK1 _ _ (zq fun K2 hK2 => zr ?_)))))
 refine zg [12] 4 [0,1,2,8] (zd (hK2 _ _ (zq fun K3 hK3 => ?_)))
 obtain ⟨r1, c4, h⟩ := zB h
 refine zr (zv [12] 3 [0,1,2,8,13,14,15] [] [(0, vi p1), (1, vi p2), (2, vl (eK .u8) p3), (8, .one (.pt 0 0 0 0)), (13, .one (.pt 0 0 0 0)), (14, vi p1), (15, vi p2)] [.box [cl (eK .u8) p3, cb false]] ?_)
 refine XO.calm 66 [.one (.pt 0 0 0 0), vi p1, vi p2] [.box [cl (eK .u8) p3, cb false]] (qa1567 r1) (vl eI r1.1) [0] [(16, vl eI r1.1), (0, vi p1), (1, vi p2), (2, vl (eK .u8) p3), (8, .one (.pt 0 0 0 0)), (13, .one (.pt 0 0 0 0)), (14, vi p1), (15, vi p2)] (qa1567 r1) (by kernel_rfl) (c_column_cursor_numbers _ _ _ _ c4) (by kernel_rfl) (by kernel_rfl) (by kernel_rfl) (by kernel_rfl) (zg [12] 1 [0,1,2,8,9] (zd (hK3 _ _ (zq fun K5 hK5 => zq fun K6 hK6 => ?_))))
 have hJ1 : ∀ (x1 : Bool), column_unnumbers_j1 r1 x1 = some r → ∀ fr1 st1, Sub 41 0 [] fr1 st1 [(9, vl eI r1.1), (38, vb x1)] (qa1567 r1) → K6 fr1 st1 := by
  intro x1 h fr1 st1 hS
  unfold column_unnumbers_j1 at h
  refine hK6 _ _ (XW.sub hS ?_)
  refine zC h (fun b13 h => ?_) (fun b13 h => ?_)
  ·refine zq fun K14 hK14 => zr (zg [12] 2 [6,7] (zd (hK14 _ _ (ze ?_))))
   obtain rfl := Option.some.inj h
   exact zf [.one (.pv (.s (.slice none 0 0))), vb false] (.tpc (.one (.nl)) (.tpc (.one (.rfl _ rfl)) (.tp0)))
  ·refine zs (hK5 _ _ (zq fun K15 hK15 => ?_))
   obtain ⟨r5, c16, h⟩ := zB h
   refine zr (zg [12] 1 [39] (zl 67 [vl eI r1.1] (vl eI r5) [(40, vl eI r5), (39, vl eI r1.1)] (c_slices_Clip_int_int _ _ c16) (zg [12] 2 [6,7] (zd (hK15 _ _ (ze ?_))))))
   obtain rfl := Option.some.inj h
   exact zf [vl eI r5, vb true] (.tpc (.one (.rfl _ rfl)) (.tpc (.one (.rfl _ rfl)) (.tp0)))
 rcases zW h with ⟨b7, h⟩ | ⟨b7, h⟩
 ·exact zr (zg [12] 5 [0,1,2,9,21] (zt 21 b7 (zv [12] 17 [9,38] [] [(9, vl eI r1.1), (38, vb true)] (qa1567 r1) (zd (hJ1 true h _ _ (zk [9,38]))))))
 ·rcases zW h with ⟨b8, h⟩ | ⟨b8, h⟩
  ·refine zr (zg [12] 5 [0,1,2,9,21] (zt 21 b7 (zv [12] 2 [0,1,2,9,21,23] [] [(0, vi p1), (1, vi p2), (2, vl (eK .u8) p3), (9, vl eI r1.1), (21, vb false), (23, vi ((eI.els r1.1).length : Int))] [.box [cl (eK .u8) r1.2.b, cb r1.2.bad]] ?_)))
   rw [eI.len r1.1]
   exact zg [12] 4 [0,2,9,27] (zt 27 b8 (zg [12] 11 [9,38] (zd (hJ1 true h _ _ (zk [9,38])))))
  ·obtain ⟨r2, c9, h⟩ := zB h
   rcases zW h with ⟨b10, h⟩ | ⟨b10, h⟩
   ·refine zr (zv [12] 5 [0,1,2,9,21] [] [(0, vi p1), (1, vi p2), (2, vl (eK .u8) p3), (9, vl eI r1.1), (21, vb r1.2.bad)] [.box [cl (eK .u8) r1.2.b, cb r1.2.bad]] (zt 21 b7 (zv [12] 2 [0,1,2,9,21,23] [] [(0, vi p1), (1, vi p2), (2, vl (eK .u8) p3), (9, vl eI r1.1), (21, vb false), (23, vi ((eI.els r1.1).length : Int))] [.box [cl (eK .u8) r1.2.b, cb r1.2.bad]] ?_)))
    rw [eI.len r1.1]
    refine zg [12] 4 [0,2,9,27] (zt 27 b8 (zg [12] 1 [0,2,9,27,28] (zl 37 [vl eI r1.1, .one (.pv (.fn 38 []))] (vb r2) [(29, vb r2), (0, vi p1), (2, vl (eK .u8) p3), (9, vl eI r1.1), (27, vb false), (28, vl eI r1.1)] (c_slices_ContainsFunc_int_int_of_column_outside _ _ c9) (zg [12] 2 [0,2,9,31] (zt 31 b10 (zg [12] 7 [9,38] (zd ?_)))))))
    exact hJ1 true h _ _ (zk [9,38])
   ·obtain ⟨r3, c11, h⟩ := zB h
    obtain ⟨r4, c12, h⟩ := zB h
    refine zr (zv [12] 5 [0,1,2,9,21] [] [(0, vi p1), (1, vi p2), (2, vl (eK .u8) p3), (9, vl eI r1.1), (21, vb r1.2.bad)] [.box [cl (eK .u8) r1.2.b, cb r1.2.bad]] (zt 21 b7 (zv [12] 2 [0,1,2,9,21,23] [] [(0, vi p1), (1, vi p2), (2, vl (eK .u8) p3), (9, vl eI r1.1), (21, vb false), (23, vi ((eI.els r1.1).length : Int))] [.box [cl (eK .u8) r1.2.b, cb r1.2.bad]] ?_)))
    rw [eI.len r1.1]
    refine zg [12] 4 [0,2,9,27] (zt 27 b8 (zg [12] 1 [0,2,9,27,28] (zl 37 [vl eI r1.1, .one (.pv (.fn 38 []))] (vb r2) [(29, vb r2), (0, vi p1), (2, vl (eK .u8) p3), (9, vl eI r1.1), (27, vb false), (28, vl eI r1.1)] (c_slices_ContainsFunc_int_int_of_column_outside _ _ c9) (zg [12] 2 [0,2,9,31] (zt 31 b10 (zg [12] 2 [2,9,31,32,33] (zl 39 [vi p1, vl eI r1.1] (vl (eK .u8) r3) [(34, vl (eK .u8) r3), (2, vl (eK .u8) p3), (9, vl eI r1.1), (31, vb false), (32, vi p1), (33, vl eI r1.1)] (c_column_numbers _ _ _ c11) ?_)))))))
    exact zg [12] 1 [9,31,34,35] (za (c_bytes_Equal _ _ _ c12) (zv [12] 2 [9,38] [] [(9, vl eI r1.1), (38, vb (!r4))] (qa1567 r1) (zd (hJ1 (!r4) h _ _ (zk [9,38])))))

def column_Unnumbers_j1 (p1 : Int) (p2 : Int) (p3 : (List Int)) (x1 : Bool) : Option ((List Int) × Int) :=
    ift x1
      (some ([], (3 : Int)))
      (bnd (column_unnumbers p1 p2 p3) fun r1 =>
       ift (!r1.2)
         (some ([], (1 : Int)))
         (some (r1.1, (0 : Int))))

def column_Unnumbers (p1 : Int) (p2 : Int) (p3 : (List Int)) : Option ((List Int) × Int) :=
    ift (decide (p1 < (0 : Int)))
      (column_Unnumbers_j1 p1 p2 p3 true)
      (ift (decide ((4 : Int) < p1))
         (column_Unnumbers_j1 p1 p2 p3 true)
         (ift (decide (p2 < (0 : Int)))
            (column_Unnumbers_j1 p1 p2 p3 true)
            (column_Unnumbers_j1 p1 p2 p3 (decide ((1048576 : Int) < p2)))))


theorem c_column_Unnumbers (p1 : Int) (p2 : Int) (p3 : (List Int)) (r : ((List Int) × Int)) (h : column_Unnumbers p1 p2 p3 = some r) : PC Try.prog 23 [vi p1, vi p2, vl (eK .u8) p3] (.tp [vl eI r.1, vi r.2]) := by
 unfold column_Unnumbers at h
 refine zF 34 Try.f23 (zq fun K1 hK1 => zr (zg [] 2 [0,1,2] (zd (hK1 _ _ (zq fun K2 hK2 => zq fun K3 hK3 => ?_)))))
 have hJ1 : ∀ (x1 : Bool), column_Unnumbers_j1 p1 p2 p3 x1 = some r → ∀ fr1 st1, Sub 34 0 [] fr1 st1 [(0, vi p1), (1, vi p2), (2, vl (eK .u8) p3), (23, vb x1)] [] → K3 fr1 st1 := by
  intro x1 h fr1 st1 hS
  unfold column_Unnumbers_j1 at h
  refine hK3 _ _ (XW.sub hS ?_)
  refine zC h (fun b7 h => ?_) (fun b7 h => ?_)
  ·refine zq fun K8 hK8 => zr (zg [] 2 [6,7] (zd (hK8 _ _ (ze ?_))))
   obtain rfl := Option.some.inj h
   exact zf [.one (.pv (.s (.slice none 0 0))), vi (3 : Int)] (.tpc (.one (.nl)) (.tpc (.one (.rfl _ rfl)) (.tp0)))
  ·refine zs (hK2 _ _ (zq fun K9 hK9 => ?_))
   obtain ⟨r1, c10, h⟩ := zB h
   refine zr (zg [] 3 [25,26,27] (zl 42 [vi p1, vi p2, vl (eK .u8) p3] (.tp [vl eI r1.1, vb r1.2]) [(28, .tp [vl eI r1.1, vb r1.2]), (25, vi p1), (26, vi p2), (27, vl (eK .u8) p3)] (c_column_unnumbers _ _ _ _ c10) (zg [] 5 [8,9] (zd (hK9 _ _ (zq fun K11 hK11 => zq fun K12 hK12 => ?_))))))
   refine zr (zg [] 2 [8,32] (zd (hK12 _ _ (zC h (fun b13 h => ?_) (fun b13 h => ?_)))))
   ·refine zq fun K14 hK14 => zr (zv [] 2 [6,7] [] [(6, .one (.pv (.s (.slice none 0 0)))), (7, vi (1 : Int))] [] (zd (hK14 _ _ (ze ?_))))
    obtain rfl := Option.some.inj h
    exact zf [.one (.pv (.s (.slice none 0 0))), vi (1 : Int)] (.tpc (.one (.nl)) (.tpc (.one (.rfl _ rfl)) (.tp0)))
   ·refine zs (hK11 _ _ (zq fun K15 hK15 => zr (zg [] 3 [6,7] (zd (hK15 _ _ (ze ?_))))))
    obtain rfl := Option.some.inj h
    exact zf [vl eI r1.1, vi (0 : Int)] (.tpc (.one (.rfl _ rfl)) (.tpc (.one (.rfl _ rfl)) (.tp0)))
 rcases zW h with ⟨b4, h⟩ | ⟨b4, h⟩
 ·exact zr (zg [] 3 [0,1,2,12] (zt 12 b4 (zv [] 11 [0,1,2,23] [] [(0, vi p1), (1, vi p2), (2, vl (eK .u8) p3), (23, vb true)] [] (zd (hJ1 true h _ _ (zk [0,1,2,23]))))))
 ·rcases zW h with ⟨b5, h⟩ | ⟨b5, h⟩
  ·exact zr (zg [] 3 [0,1,2,12] (zt 12 b4 (zg [] 4 [0,1,2,16] (zt 16 b5 (zv [] 7 [0,1,2,23] [] [(0, vi p1), (1, vi p2), (2, vl (eK .u8) p3), (23, vb true)] [] (zd (hJ1 true h _ _ (zk [0,1,2,23]))))))))
  ·rcases zW h with ⟨b6, h⟩ | ⟨b6, h⟩
   ·refine zr (zg [] 3 [0,1,2,12] (zt 12 b4 (zg [] 4 [0,1,2,16] (zt 16 b5 (zv [] 4 [0,1,2,20] [] [(0, vi p1), (1, vi p2), (2, vl (eK .u8) p3), (20, vb (decide (p2 < (0 : Int))))] [] (zt 20 b6 (zg [] 3 [0,1,2,23] ?_)))))))
    exact zd (hJ1 true h _ _ (zk [0,1,2,23]))
   ·refine zr (zg [] 3 [0,1,2,12] (zt 12 b4 (zv [] 4 [0,1,2,16] [] [(0, vi p1), (1, vi p2), (2, vl (eK .u8) p3), (16, vb (decide ((4 : Int) < p1)))] [] (zt 16 b5 (zg [] 4 [0,1,2,20] (zt 20 b6 (zg [] 3 [0,1,2,23] ?_)))))))
    exact zd (hJ1 (decide ((1048576 : Int) < p2)) h _ _ (zk [0,1,2,23]))

def ref2_scan_byte (p1 : GScan) : Option (Int × GScan) :=
    ift ((p1.b.length : Int) == (0 : Int))
      (some ((0 : Int), (GScan.mk p1.b true)))
      (bnd (at? p1.b (0 : Int)) fun e1 =>
       grd (0 ≤ (1 : Int) ∧ (1 : Int) ≤ (p1.b.length : Int)) <|
       some (e1, (GScan.mk (p1.b.drop (1 : Int).toNat) p1.bad)))


theorem c_ref2_scan_byte (p1 : GScan) (r : (Int × GScan)) (h : ref2_scan_byte p1 = some r) : MC Try.prog 96 [.one (.pt 0 0 0 0)] [.box [cl (eK .u8) p1.b, cb p1.bad]] (vk .u8 r.1) [.box [cl (eK .u8) r.2.b, cb r.2.bad]] := by
 unfold ref2_scan_byte at h
 refine MC.of 1 (n := 28) (fn := Try.f96) (c := cd Try.f96 []) (by kernel_rfl) (by kernel_rfl) (by kernel_rfl) (Nat.le_of_ble_eq_true rfl) rfl (zq fun K1 hK1 => zr (zg [] 1 [0] (zd (hK1 _ _ (zq fun K2 hK2 => zq fun K3 hK3 => ?_)))))
 refine zr (zv [] 5 [0,8] [] [(0, .one (.pt 0 0 0 0)), (8, vi (((eK .u8).els p1.b).length : Int))] [.box [cl (eK .u8) p1.b, cb p1.bad]] ?_)
 rw [(eK .u8).len p1.b]
 refine zg [] 1 [0,9] (zd (hK3 _ _ (zC h (fun b4 h => ?_) (fun b4 h => ?_))))
 ·refine zq fun K5 hK5 => zr (zg [] 4 [] (zd (hK5 _ _ (zq fun K6 hK6 => zr (zv [] 1 [2] [] [(2, vk .u8 (0 : Int))] [.box [cl (eK .u8) p1.b, cb true]] ?_)))))
  refine zd (hK6 _ _ (ze ?_))
  obtain rfl := Option.some.inj h
  exact FinM.fin (.inr rfl) [] [vk .u8 (0 : Int)] [] (by kernel_rfl) trivial (by kernel_rfl) (by kernel_rfl) (.one (.rfl _ rfl))
 ·refine zs (hK2 _ _ (zq fun K7 hK7 => ?_))
  obtain ⟨e1, a8, h⟩ := zB h
  refine zr (zo [] 7 [0,3] [[.s (.int .u8 e1)]] [0 ≤ (0 : Int) ∧ (0 : Int) < (((eK .u8).els p1.b).length : Int) ∧ elemsOk 1 ((eK .u8).els p1.b), ((eK .u8).els p1.b)[(0 : Int).toNat]? = some [.s (.int .u8 e1)]] (⟨(eK .u8).inb a8, ((eK .u8).get a8), trivial⟩) (zd (hK7 _ _ (zq fun K9 hK9 => ?_))))
  obtain ⟨g10, h⟩ := zG h
  refine zr (zp [] 6 [3,19,24] [] [(3, vk .u8 e1), (19, .one (.pt 0 0 0 0)), (24, .one (.pv (.ro ((((eK .u8).els p1.b).drop (1 : Int).toNat).take (((eK .u8).els p1.b).length - (1 : Int).toNat)))))] [.box [cl (eK .u8) p1.b, cb p1.bad]] [(0 ≤ (1 : Int) ∧ (1 : Int) ≤ (((eK .u8).els p1.b).length : Int) ∧ (((eK .u8).els p1.b).length : Int) ≤ (((eK .u8).els p1.b).length : Int)) ∧ elemsOk 1 ((eK .u8).els p1.b)] (⟨(eK .u8).cutHiOk g10, trivial⟩) ?_)
  rw [show (((eK .u8).els p1.b).drop (1 : Int).toNat).take (((eK .u8).els p1.b).length - (1 : Int).toNat) = (eK .u8).els (p1.b.drop (1 : Int).toNat) from (eK .u8).cutHi _ _]
  refine zg [] 3 [3] (zd (hK9 _ _ (zq fun K11 hK11 => zr (zv [] 2 [2] [] [(2, vk .u8 e1)] [.box [cl (eK .u8) (p1.b.drop (1 : Int).toNat), cb p1.bad]] (zd (hK11 _ _ ?_))))))
  refine ze ?_
  obtain rfl := Option.some.inj h
  exact FinM.fin (.inr rfl) [] [vk .u8 e1] [] (by kernel_rfl) trivial (by kernel_rfl) (by kernel_rfl) (.one (.rfl _ rfl))

def ref2_scan_number_j1 (r1 : (Int × GScan)) (y1 : Int) (z1 : Bool) : Option (Int × GScan) :=
    some ((IntKind.i64.wrap ((0 : Int) + y1)), (GScan.mk r1.2.b z1))

def ref2_scan_number_j2 (y1 : Int) (r2 : (Int × GScan)) (y2 : Int) (z2 : Bool) : Option (Int × GScan) :=
    some ((IntKind.i64.wrap ((IntKind.i64.wrap ((0 : Int) + y1)) + y2)), (GScan.mk r2.2.b z2))

def ref2_scan_number_j3 (r3 : (Int × GScan)) (y4 : Int) (z3 : Bool) : Option (Int × GScan) :=
    some (y4, (GScan.mk r3.2.b z3))

def ref2_scan_number_j4 (y4 : Int) (r4 : (Int × GScan)) (y5 : Int) (z4 : Bool) : Option (Int × GScan) :=
    some ((IntKind.i64.wrap (y4 + y5)), (GScan.mk r4.2.b z4))

def ref2_scan_number_j5 (y4 : Int) (y5 : Int) (r5 : (Int × GScan)) (y6 : Int) (z5 : Bool) : Option (Int × GScan) :=
    some ((IntKind.i64.wrap ((IntKind.i64.wrap (y4 + y5)) + y6)), (GScan.mk r5.2.b z5))

def ref2_scan_number_j6 (r6 : (Int × GScan)) (y8 : Int) (z6 : Bool) : Option (Int × GScan) :=
    some (y8, (GScan.mk r6.2.b z6))

def ref2_scan_number_j7 (y8 : Int) (r7 : (Int × GScan)) (y9 : Int) (z7 : Bool) : Option (Int × GScan) :=
    some ((IntKind.i64.wrap (y8 + y9)), (GScan.mk r7.2.b z7))

def ref2_scan_number_j8 (y8 : Int) (y9 : Int) (r8 : (Int × GScan)) (y10 : Int) (z8 : Bool) : Option (Int × GScan) :=
    some ((IntKind.i64.wrap ((IntKind.i64.wrap (y8 + y9)) + y10)), (GScan.mk r8.2.b z8))

def ref2_scan_number_j9 (r9 : (Int × GScan)) (y12 : Int) (z9 : Bool) : Option (Int × GScan) :=
    some (y12, (GScan.mk r9.2.b z9))

def ref2_scan_number (p1 : GScan) : Option (Int × GScan) :=
    bnd (ref2_scan_byte p1) fun r1 =>
    bnd (some (IntKind.i64.wrap ((1 : Int) * (IntKind.i64.wrap (r1.1.tmod (128 : Int)))))) fun y1 =>
    ift (decide (r1.1 < (128 : Int)))
      (ift r1.2.bad
         (ref2_scan_number_j1 r1 y1 true)
         (ref2_scan_number_j1 r1 y1 false))
      (bnd (ref2_scan_byte r1.2) fun r2 =>
       bnd (some (IntKind.i64.wrap ((128 : Int) * (IntKind.i64.wrap (r2.1.tmod (128 : Int)))))) fun y2 =>
       ift (decide (r2.1 < (128 : Int)))
         (ift r2.2.bad
            (ref2_scan_number_j2 y1 r2 y2 true)
            (ref2_scan_number_j2 y1 r2 y2 (r2.1 == (0 : Int))))
         (bnd (ref2_scan_byte r2.2) fun r3 =>
          bnd (some (IntKind.i64.wrap ((16384 : Int) * (IntKind.i64.wrap (r3.1.tmod (128 : Int)))))) fun y3 =>
          bnd (some (IntKind.i64.wrap ((IntKind.i64.wrap ((IntKind.i64.wrap ((0 : Int) + y1)) + y2)) + y3))) fun y4 =>
          ift (decide (r3.1 < (128 : Int)))
            (ift r3.2.bad
               (ref2_scan_number_j3 r3 y4 true)
               (ref2_scan_number_j3 r3 y4 (r3.1 == (0 : Int))))
            (bnd (ref2_scan_byte r3.2) fun r4 =>
             bnd (some (IntKind.i64.wrap ((2097152 : Int) * (IntKind.i64.wrap (r4.1.tmod (128 : Int)))))) fun y5 =>
             ift (decide (r4.1 < (128 : Int)))
               (ift r4.2.bad
                  (ref2_scan_number_j4 y4 r4 y5 true)
                  (ref2_scan_number_j4 y4 r4 y5 (r4.1 == (0 : Int))))
               (bnd (ref2_scan_byte r4.2) fun r5 =>
                bnd (some (IntKind.i64.wrap ((268435456 : Int) * (IntKind.i64.wrap (r5.1.tmod (128 : Int)))))) fun y6 =>
                ift (decide (r5.1 < (128 : Int)))
                  (ift r5.2.bad
                     (ref2_scan_number_j5 y4 y5 r5 y6 true)
                     (ref2_scan_number_j5 y4 y5 r5 y6 (r5.1 == (0 : Int))))
                  (bnd (ref2_scan_byte r5.2) fun r6 =>
                   bnd (some (IntKind.i64.wrap ((34359738368 : Int) * (IntKind.i64.wrap (r6.1.tmod (128 : Int)))))) fun y7 =>
                   bnd (some (IntKind.i64.wrap ((IntKind.i64.wrap ((IntKind.i64.wrap (y4 + y5)) + y6)) + y7))) fun y8 =>
                   ift (decide (r6.1 < (128 : Int)))
                     (ift r6.2.bad
                        (ref2_scan_number_j6 r6 y8 true)
                        (ref2_scan_number_j6 r6 y8 (r6.1 == (0 : Int))))
                     (bnd (ref2_scan_byte r6.2) fun r7 =>
                      bnd (some (IntKind.i64.wrap ((4398046511104 : Int) * (IntKind.i64.wrap (r7.1.tmod (128 : Int)))))) fun y9 =>
                      ift (decide (r7.1 < (128 : Int)))
                        (ift r7.2.bad
                           (ref2_scan_number_j7 y8 r7 y9 true)
                           (ref2_scan_number_j7 y8 r7 y9 (r7.1 == (0 : Int))))
                        (bnd (ref2_scan_byte r7.2) fun r8 =>
                         bnd (some (IntKind.i64.wrap ((562949953421312 : Int) * (IntKind.i64.wrap (r8.1.tmod (128 : Int)))))) fun y10 =>
                         ift (decide (r8.1 < (128 : Int)))
                           (ift r8.2.bad
                              (ref2_scan_number_j8 y8 y9 r8 y10 true)
                              (ref2_scan_number_j8 y8 y9 r8 y10 (r8.1 == (0 : Int))))
                           (bnd (ref2_scan_byte r8.2) fun r9 =>
                            bnd (some (IntKind.i64.wrap ((72057594037927936 : Int) * (IntKind.i64.wrap (r9.1.tmod (128 : Int)))))) fun y11 =>
                            bnd (some (IntKind.i64.wrap ((IntKind.i64.wrap ((IntKind.i64.wrap (y8 + y9)) + y10)) + y11))) fun y12 =>
                            ift (decide (r9.1 < (128 : Int)))
                              (ift r9.2.bad
                                 (ref2_scan_number_j9 r9 y12 true)
                                 (ref2_scan_number_j9 r9 y12 (r9.1 == (0 : Int))))
                              (some ((0 : Int), (GScan.mk r9.2.b true)))))))))))

abbrev qa1589 (r1 : (Int × GScan)) : List CV := [cl (eK .u8) r1.2.b, cb r1.2.bad]
abbrev qa1599 (r2 : (Int × GScan)) : List CV := [cl (eK .u8) r2.2.b, cb r2.2.bad]
abbrev qa1609 (r3 : (Int × GScan)) : List CV := [cl (eK .u8) r3.2.b, cb r3.2.bad]
abbrev qa1619 (r4 : (Int × GScan)) : List CV := [cl (eK .u8) r4.2.b, cb r4.2.bad]
abbrev qa1629 (r5 : (Int × GScan)) : List CV := [cl (eK .u8) r5.2.b, cb r5.2.bad]
abbrev qa1639 (r6 : (Int × GScan)) : List CV := [cl (eK .u8) r6.2.b, cb r6.2.bad]
abbrev qa1649 (r7 : (Int × GScan)) : List CV := [cl (eK .u8) r7.2.b, cb r7.2.bad]
abbrev qa1659 (r8 : (Int × GScan)) : List CV := [cl (eK .u8) r8.2.b, cb r8.2.bad]
abbrev qa1669 (r9 : (Int × GScan)) : List CV := [cl (eK .u8) r9.2.b, cb r9.2.bad]
abbrev qa1680 (p1 : GScan) : St := [.box [cl (eK .u8) p1.b, cb p1.bad]]

theorem c_ref2_scan_number (p1 : GScan) (r : (Int × GScan)) (h : ref2_scan_number p1 = some r) : MC Try.prog 69 [.one (.pt 0 0 0 0)] (qa1680 p1) (vi r.1) [.box [cl (eK .u8) r.2.b, cb r.2.bad]] := by
 unfold ref2_scan_number at h
 refine MC.of 1 (n := 43) (fn := Try.f69) (c := cd Try.f69 []) (by kernel_rfl) (by kernel_rfl) (by kernel_rfl) (Nat.le_of_ble_eq_true rfl) rfl (zq fun K1 hK1 => zr (zg [] 1 [0] (zd (hK1 _ _ (zq fun K2 hK2 => zr ?_)))))
 refine zg [] 2 [0,3,4] (zd (hK2 _ _ (zq fun K3 hK3 => zq fun K4 hK4 => zr (zv [] 1 [0,3,4,5] [] [(0, .one (.pt 0 0 0 0)), (3, vi (0 : Int)), (4, vi (1 : Int)), (5, vi (0 : Int))] (qa1680 p1) (zd ?_)))))
 refine hK4 _ _ (zb 0 (XW.rounds' 10 (x := cd Try.f69 [1,1,0,1,0,0]) (by kernel_rfl) fun Q1 hQ1 => XR.one (zq fun K5 hK5 => zq fun K6 hK6 => zr (zg [] 2 [0,3,4,5,8] ?_))))
 refine zd (hK6 _ _ (zc true (fun _ => ?_) (fun hx => by cases hx)))
 refine zs (hK5 _ _ (zq fun K7 hK7 => zb 1 (zq fun K8 hK8 => ?_)))
 obtain ⟨r1, c9, h⟩ := zB h
 refine zr (zv [] 1 [0,3,4,5,11] [] [(0, .one (.pt 0 0 0 0)), (3, vi (0 : Int)), (4, vi (1 : Int)), (5, vi (0 : Int)), (11, .one (.pt 0 0 0 0))] (qa1680 p1) (XO.calm 96 [.one (.pt 0 0 0 0)] (qa1680 p1) [.box (qa1589 r1)] (vk .u8 r1.1) [0] [(12, vk .u8 r1.1), (0, .one (.pt 0 0 0 0)), (3, vi (0 : Int)), (4, vi (1 : Int)), (5, vi (0 : Int)), (11, .one (.pt 0 0 0 0))] [.box (qa1589 r1)] (by kernel_rfl) (c_ref2_scan_byte _ _ c9) (by kernel_rfl) (by kernel_rfl) (by kernel_rfl) (by kernel_rfl) ?_))
 refine zg [] 1 [0,3,4,5,6] (zd (hK8 _ _ (zq fun K10 hK10 => ?_)))
 obtain ⟨y1, hy11, h⟩ := zB h
 refine zr (zp [] 6 [0,4,5,6,13,18] [] [(0, .one (.pt 0 0 0 0)), (4, vi (1 : Int)), (5, vi (0 : Int)), (6, vk .u8 r1.1), (13, vi (0 : Int)), (18, vi (IntKind.i64.wrap ((1 : Int) * (IntKind.i64.wrap (r1.1.tmod (128 : Int))))))] [.box [cl (eK .u8) r1.2.b, cb r1.2.bad]] [(128 : Int) ≠ 0] (⟨by decide, trivial⟩) ?_)
 rw [show (IntKind.i64.wrap ((1 : Int) * (IntKind.i64.wrap (r1.1.tmod (128 : Int))))) = y1 from Option.some.inj hy11]
 refine zg [] 2 [0,3,4,5,6] (zd (hK10 _ _ (zq fun K12 hK12 => zq fun K13 hK13 => zr (zg [] 2 [0,3,4,5,6,21] (zd ?_)))))
 refine hK13 _ _ (zC h (fun b14 h => ?_) (fun b14 h => ?_))
 ·refine zq fun K15 hK15 => ?_
  have hJ1 : ∀ (z1 : Bool), ref2_scan_number_j1 r1 y1 z1 = some r → ∀ fr1 st1, Sub 43 1 [] fr1 st1 [(3, vi (IntKind.i64.wrap ((0 : Int) + y1)))] [.box [cl (eK .u8) r1.2.b, cb z1]] → K15 fr1 st1 := by
   intro z1 h fr1 st1 hS
   unfold ref2_scan_number_j1 at h
   refine hK15 _ _ (XW.sub hS ?_)
   refine zq fun K17 hK17 => zr (zv [] 2 [2] [] [(2, vi (IntKind.i64.wrap ((0 : Int) + y1)))] [.box [cl (eK .u8) r1.2.b, cb z1]] (zd (hK17 _ _ (ze (hQ1 _ _ _ ?_)))))
   obtain rfl := Option.some.inj h
   exact FinM.fin (.inr rfl) [] [vi (IntKind.i64.wrap ((0 : Int) + y1))] [] (by kernel_rfl) trivial (by kernel_rfl) (by kernel_rfl) (.one (.rfl _ rfl))
  rcases zW h with ⟨b16, h⟩ | ⟨b16, h⟩
  ·exact zr (zv [] 6 [3,5,6,22,27] [] [(3, vi (IntKind.i64.wrap ((0 : Int) + y1))), (5, vi (0 : Int)), (6, vk .u8 r1.1), (22, .one (.pt 0 0 0 0)), (27, vb r1.2.bad)] [.box (qa1589 r1)] (zt 27 b16 (zg [] 10 [3] (zd (hJ1 true h _ _ (zk [3]))))))
  ·exact zr (zg [] 6 [3,5,6,22,27] (zt 27 b16 (zv [] 10 [3] [] [(3, vi (IntKind.i64.wrap ((0 : Int) + y1)))] [.box [cl (eK .u8) r1.2.b, cb false]] (zd (hJ1 false h _ _ (zk [3]))))))
 ·refine zs (hK12 _ _ (zr (zv [] 3 [0,3,4,5] [] [(0, .one (.pt 0 0 0 0)), (3, vi (IntKind.i64.wrap ((0 : Int) + y1))), (4, vi (128 : Int)), (5, vi (0 : Int))] [.box (qa1589 r1)] (zd (hK7 _ _ (zr (zv [] 3 [0,3,4,5] [] [(0, .one (.pt 0 0 0 0)), (3, vi (IntKind.i64.wrap ((0 : Int) + y1))), (4, vi (128 : Int)), (5, vi (1 : Int))] [.box (qa1589 r1)] ?_)))))))
  refine zd (XR.one (zq fun K18 hK18 => zq fun K19 hK19 => zr (zg [] 2 [0,3,4,5,8] (zd (hK19 _ _ ?_)))))
  refine zc true (fun _ => ?_) (fun hx => by cases hx)
  refine zs (hK18 _ _ (zq fun K20 hK20 => zb 1 (zq fun K21 hK21 => ?_)))
  obtain ⟨r2, c22, h⟩ := zB h
  refine zr (zv [] 1 [0,3,4,5,11] [] [(0, .one (.pt 0 0 0 0)), (3, vi (IntKind.i64.wrap ((0 : Int) + y1))), (4, vi (128 : Int)), (5, vi (1 : Int)), (11, .one (.pt 0 0 0 0))] [.box (qa1589 r1)] ?_)
  refine XO.calm 96 [.one (.pt 0 0 0 0)] [.box (qa1589 r1)] [.box (qa1599 r2)] (vk .u8 r2.1) [0] [(12, vk .u8 r2.1), (0, .one (.pt 0 0 0 0)), (3, vi (IntKind.i64.wrap ((0 : Int) + y1))), (4, vi (128 : Int)), (5, vi (1 : Int)), (11, .one (.pt 0 0 0 0))] [.box (qa1599 r2)] (by kernel_rfl) (c_ref2_scan_byte _ _ c22) (by kernel_rfl) (by kernel_rfl) (by kernel_rfl) (by kernel_rfl) (zg [] 1 [0,3,4,5,6] (zd (hK21 _ _ (zq fun K23 hK23 => ?_))))
  obtain ⟨y2, hy24, h⟩ := zB h
  refine zr (zp [] 6 [0,4,5,6,13,18] [] [(0, .one (.pt 0 0 0 0)), (4, vi (128 : Int)), (5, vi (1 : Int)), (6, vk .u8 r2.1), (13, vi (IntKind.i64.wrap ((0 : Int) + y1))), (18, vi (IntKind.i64.wrap ((128 : Int) * (IntKind.i64.wrap (r2.1.tmod (128 : Int))))))] [.box [cl (eK .u8) r2.2.b, cb r2.2.bad]] [(128 : Int) ≠ 0] (⟨by decide, trivial⟩) ?_)
  rw [show (IntKind.i64.wrap ((128 : Int) * (IntKind.i64.wrap (r2.1.tmod (128 : Int))))) = y2 from Option.some.inj hy24]
  refine zg [] 2 [0,3,4,5,6] (zd (hK23 _ _ (zq fun K25 hK25 => zq fun K26 hK26 => zr (zg [] 2 [0,3,4,5,6,21] (zd ?_)))))
  refine hK26 _ _ (zC h (fun b27 h => ?_) (fun b27 h => ?_))
  ·refine zq fun K28 hK28 => ?_
   have hJ2 : ∀ (z2 : Bool), ref2_scan_number_j2 y1 r2 y2 z2 = some r → ∀ fr1 st1, Sub 43 1 [] fr1 st1 [(3, vi (IntKind.i64.wrap ((IntKind.i64.wrap ((0 : Int) + y1)) + y2)))] [.box [cl (eK .u8) r2.2.b, cb z2]] → K28 fr1 st1 := by
    intro z2 h fr1 st1 hS
    unfold ref2_scan_number_j2 at h
    refine hK28 _ _ (XW.sub hS ?_)
    refine zq fun K30 hK30 => zr (zv [] 2 [2] [] [(2, vi (IntKind.i64.wrap ((IntKind.i64.wrap ((0 : Int) + y1)) + y2)))] [.box [cl (eK .u8) r2.2.b, cb z2]] (zd (hK30 _ _ (ze (hQ1 _ _ _ ?_)))))
    obtain rfl := Option.some.inj h
    exact FinM.fin (.inr rfl) [] [vi (IntKind.i64.wrap ((IntKind.i64.wrap ((0 : Int) + y1)) + y2))] [] (by kernel_rfl) trivial (by kernel_rfl) (by kernel_rfl) (.one (.rfl _ rfl))
   rcases zW h with ⟨b29, h⟩ | ⟨b29, h⟩
   ·exact zr (zv [] 6 [3,5,6,22,27] [] [(3, vi (IntKind.i64.wrap ((IntKind.i64.wrap ((0 : Int) + y1)) + y2))), (5, vi (1 : Int)), (6, vk .u8 r2.1), (22, .one (.pt 0 0 0 0)), (27, vb r2.2.bad)] [.box (qa1599 r2)] (zt 27 b29 (zg [] 10 [3] (zd (hJ2 true h _ _ (zk [3]))))))
   ·exact zr (zg [] 6 [3,5,6,22,27] (zt 27 b29 (zv [] 10 [3] [] [(3, vi (IntKind.i64.wrap ((IntKind.i64.wrap ((0 : Int) + y1)) + y2)))] [.box [cl (eK .u8) r2.2.b, cb (r2.1 == (0 : Int))]] (zd (hJ2 (r2.1 == (0 : Int)) h _ _ (zk [3]))))))
  ·refine zs (hK25 _ _ (zr (zv [] 3 [0,3,4,5] [] [(0, .one (.pt 0 0 0 0)), (3, vi (IntKind.i64.wrap ((IntKind.i64.wrap ((0 : Int) + y1)) + y2))), (4, vi (16384 : Int)), (5, vi (1 : Int))] [.box (qa1599 r2)] (zd (hK20 _ _ (zr (zv [] 3 [0,3,4,5] [] [(0, .one (.pt 0 0 0 0)), (3, vi (IntKind.i64.wrap ((IntKind.i64.wrap ((0 : Int) + y1)) + y2))), (4, vi (16384 : Int)), (5, vi (2 : Int))] [.box (qa1599 r2)] ?_)))))))
   refine zd (XR.one (zq fun K31 hK31 => zq fun K32 hK32 => zr (zg [] 2 [0,3,4,5,8] (zd (hK32 _ _ ?_)))))
   refine zc true (fun _ => ?_) (fun hx => by cases hx)
   refine zs (hK31 _ _ (zq fun K33 hK33 => zb 1 (zq fun K34 hK34 => ?_)))
   obtain ⟨r3, c35, h⟩ := zB h
   refine zr (zv [] 1 [0,3,4,5,11] [] [(0, .one (.pt 0 0 0 0)), (3, vi (IntKind.i64.wrap ((IntKind.i64.wrap ((0 : Int) + y1)) + y2))), (4, vi (16384 : Int)), (5, vi (2 : Int)), (11, .one (.pt 0 0 0 0))] [.box (qa1599 r2)] ?_)
   refine XO.calm 96 [.one (.pt 0 0 0 0)] [.box (qa1599 r2)] [.box (qa1609 r3)] (vk .u8 r3.1) [0] [(12, vk .u8 r3.1), (0, .one (.pt 0 0 0 0)), (3, vi (IntKind.i64.wrap ((IntKind.i64.wrap ((0 : Int) + y1)) + y2))), (4, vi (16384 : Int)), (5, vi (2 : Int)), (11, .one (.pt 0 0 0 0))] [.box (qa1609 r3)] (by kernel_rfl) (c_ref2_scan_byte _ _ c35) (by kernel_rfl) (by kernel_rfl) (by kernel_rfl) (by kernel_rfl) (zg [] 1 [0,3,4,5,6] (zd (hK34 _ _ (zq fun K36 hK36 => ?_))))
   obtain ⟨y3, hy37, h⟩ := zB h
   obtain ⟨y4, hy38, h⟩ := zB h
   refine zr (zp [] 6 [0,4,5,6,13,18] [] [(0, .one (.pt 0 0 0 0)), (4, vi (16384 : Int)), (5, vi (2 : Int)), (6, vk .u8 r3.1), (13, vi (IntKind.i64.wrap ((IntKind.i64.wrap ((0 : Int) + y1)) + y2))), (18, vi (IntKind.i64.wrap ((16384 : Int) * (IntKind.i64.wrap (r3.1.tmod (128 : Int))))))] [.box [cl (eK .u8) r3.2.b, cb r3.2.bad]] [(128 : Int) ≠ 0] (⟨by decide, trivial⟩) ?_)
   rw [show (IntKind.i64.wrap ((16384 : Int) * (IntKind.i64.wrap (r3.1.tmod (128 : Int))))) = y3 from Option.some.inj hy37]
   refine zv [] 1 [0,4,5,6,19] [] [(0, .one (.pt 0 0 0 0)), (4, vi (16384 : Int)), (5, vi (2 : Int)), (6, vk .u8 r3.1), (19, vi (IntKind.i64.wrap ((IntKind.i64.wrap ((IntKind.i64.wrap ((0 : Int) + y1)) + y2)) + y3)))] [.box [cl (eK .u8) r3.2.b, cb r3.2.bad]] ?_
   rw [show (IntKind.i64.wrap ((IntKind.i64.wrap ((IntKind.i64.wrap ((0 : Int) + y1)) + y2)) + y3)) = y4 from Option.some.inj hy38]
   refine zg [] 1 [0,3,4,5,6] (zd (hK36 _ _ (zq fun K39 hK39 => zq fun K40 hK40 => zr (zg [] 2 [0,3,4,5,6,21] (zd ?_)))))
   refine hK40 _ _ (zC h (fun b41 h => ?_) (fun b41 h => ?_))
   ·refine zq fun K42 hK42 => ?_
    have hJ3 : ∀ (z3 : Bool), ref2_scan_number_j3 r3 y4 z3 = some r → ∀ fr1 st1, Sub 43 1 [] fr1 st1 [(3, vi y4)] [.box [cl (eK .u8) r3.2.b, cb z3]] → K42 fr1 st1 := by
     intro z3 h fr1 st1 hS
     unfold ref2_scan_number_j3 at h
     refine hK42 _ _ (XW.sub hS ?_)
     refine zq fun K44 hK44 => zr (zv [] 2 [2] [] [(2, vi y4)] [.box [cl (eK .u8) r3.2.b, cb z3]] (zd (hK44 _ _ (ze (hQ1 _ _ _ ?_)))))
     obtain rfl := Option.some.inj h
     exact FinM.fin (.inr rfl) [] [vi y4] [] (by kernel_rfl) trivial (by kernel_rfl) (by kernel_rfl) (.one (.rfl _ rfl))
    rcases zW h with ⟨b43, h⟩ | ⟨b43, h⟩
    ·exact zr (zv [] 6 [3,5,6,22,27] [] [(3, vi y4), (5, vi (2 : Int)), (6, vk .u8 r3.1), (22, .one (.pt 0 0 0 0)), (27, vb r3.2.bad)] [.box (qa1609 r3)] (zt 27 b43 (zg [] 10 [3] (zd (hJ3 true h _ _ (zk [3]))))))
    ·exact zr (zg [] 6 [3,5,6,22,27] (zt 27 b43 (zv [] 10 [3] [] [(3, vi y4)] [.box [cl (eK .u8) r3.2.b, cb (r3.1 == (0 : Int))]] (zd (hJ3 (r3.1 == (0 : Int)) h _ _ (zk [3]))))))
   ·refine zs (hK39 _ _ (zr (zv [] 3 [0,3,4,5] [] [(0, .one (.pt 0 0 0 0)), (3, vi y4), (4, vi (2097152 : Int)), (5, vi (2 : Int))] [.box (qa1609 r3)] (zd (hK33 _ _ (zr (zv [] 3 [0,3,4,5] [] [(0, .one (.pt 0 0 0 0)), (3, vi y4), (4, vi (2097152 : Int)), (5, vi (3 : Int))] [.box (qa1609 r3)] ?_)))))))
    refine zd (XR.one (zq fun K45 hK45 => zq fun K46 hK46 => zr (zg [] 2 [0,3,4,5,8] (zd (hK46 _ _ ?_)))))
    refine zc true (fun _ => ?_) (fun hx => by cases hx)
    refine zs (hK45 _ _ (zq fun K47 hK47 => zb 1 (zq fun K48 hK48 => ?_)))
    obtain ⟨r4, c49, h⟩ := zB h
    refine zr (zv [] 1 [0,3,4,5,11] [] [(0, .one (.pt 0 0 0 0)), (3, vi y4), (4, vi (2097152 : Int)), (5, vi (3 : Int)), (11, .one (.pt 0 0 0 0))] [.box (qa1609 r3)] (XO.calm 96 [.one (.pt 0 0 0 0)] [.box (qa1609 r3)] [.box (qa1619 r4)] (vk .u8 r4.1) [0] [(12, vk .u8 r4.1), (0, .one (.pt 0 0 0 0)), (3, vi y4), (4, vi (2097152 : Int)), (5, vi (3 : Int)), (11, .one (.pt 0 0 0 0))] [.box (qa1619 r4)] (by kernel_rfl) (c_ref2_scan_byte _ _ c49) (by kernel_rfl) (by kernel_rfl) (by kernel_rfl) (by kernel_rfl) ?_))
    refine zg [] 1 [0,3,4,5,6] (zd (hK48 _ _ (zq fun K50 hK50 => ?_)))
    obtain ⟨y5, hy51, h⟩ := zB h
    refine zr (zp [] 6 [0,4,5,6,13,18] [] [(0, .one (.pt 0 0 0 0)), (4, vi (2097152 : Int)), (5, vi (3 : Int)), (6, vk .u8 r4.1), (13, vi y4), (18, vi (IntKind.i64.wrap ((2097152 : Int) * (IntKind.i64.wrap (r4.1.tmod (128 : Int))))))] [.box [cl (eK .u8) r4.2.b, cb r4.2.bad]] [(128 : Int) ≠ 0] (⟨by decide, trivial⟩) ?_)
    rw [show (IntKind.i64.wrap ((2097152 : Int) * (IntKind.i64.wrap (r4.1.tmod (128 : Int))))) = y5 from Option.some.inj hy51]
    refine zg [] 2 [0,3,4,5,6] (zd (hK50 _ _ (zq fun K52 hK52 => zq fun K53 hK53 => zr (zg [] 2 [0,3,4,5,6,21] (zd ?_)))))
    refine hK53 _ _ (zC h (fun b54 h => ?_) (fun b54 h => ?_))
    ·refine zq fun K55 hK55 => ?_
     have hJ4 : ∀ (z4 : Bool), ref2_scan_number_j4 y4 r4 y5 z4 = some r → ∀ fr1 st1, Sub 43 1 [] fr1 st1 [(3, vi (IntKind.i64.wrap (y4 + y5)))] [.box [cl (eK .u8) r4.2.b, cb z4]] → K55 fr1 st1 := by
      intro z4 h fr1 st1 hS
      unfold ref2_scan_number_j4 at h
      refine hK55 _ _ (XW.sub hS ?_)
      refine zq fun K57 hK57 => zr (zv [] 2 [2] [] [(2, vi (IntKind.i64.wrap (y4 + y5)))] [.box [cl (eK .u8) r4.2.b, cb z4]] (zd (hK57 _ _ (ze (hQ1 _ _ _ ?_)))))
      obtain rfl := Option.some.inj h
      exact FinM.fin (.inr rfl) [] [vi (IntKind.i64.wrap (y4 + y5))] [] (by kernel_rfl) trivial (by kernel_rfl) (by kernel_rfl) (.one (.rfl _ rfl))
     rcases zW h with ⟨b56, h⟩ | ⟨b56, h⟩
     ·exact zr (zv [] 6 [3,5,6,22,27] [] [(3, vi (IntKind.i64.wrap (y4 + y5))), (5, vi (3 : Int)), (6, vk .u8 r4.1), (22, .one (.pt 0 0 0 0)), (27, vb r4.2.bad)] [.box (qa1619 r4)] (zt 27 b56 (zg [] 10 [3] (zd (hJ4 true h _ _ (zk [3]))))))
     ·exact zr (zg [] 6 [3,5,6,22,27] (zt 27 b56 (zv [] 10 [3] [] [(3, vi (IntKind.i64.wrap (y4 + y5)))] [.box [cl (eK .u8) r4.2.b, cb (r4.1 == (0 : Int))]] (zd (hJ4 (r4.1 == (0 : Int)) h _ _ (zk [3]))))))
    ·refine zs (hK52 _ _ (zr (zv [] 3 [0,3,4,5] [] [(0, .one (.pt 0 0 0 0)), (3, vi (IntKind.i64.wrap (y4 + y5))), (4, vi (268435456 : Int)), (5, vi (3 : Int))] [.box (qa1619 r4)] (zd (hK47 _ _ (zr (zv [] 3 [0,3,4,5] [] [(0, .one (.pt 0 0 0 0)), (3, vi (IntKind.i64.wrap (y4 + y5))), (4, vi (268435456 : Int)), (5, vi (4 : Int))] [.box (qa1619 r4)] ?_)))))))
     refine zd (XR.one (zq fun K58 hK58 => zq fun K59 hK59 => zr (zg [] 2 [0,3,4,5,8] (zd (hK59 _ _ ?_)))))
     refine zc true (fun _ => ?_) (fun hx => by cases hx)
     refine zs (hK58 _ _ (zq fun K60 hK60 => zb 1 (zq fun K61 hK61 => ?_)))
     obtain ⟨r5, c62, h⟩ := zB h
     refine zr (zv [] 1 [0,3,4,5,11] [] [(0, .one (.pt 0 0 0 0)), (3, vi (IntKind.i64.wrap (y4 + y5))), (4, vi (268435456 : Int)), (5, vi (4 : Int)), (11, .one (.pt 0 0 0 0))] [.box (qa1619 r4)] ?_)
     refine XO.calm 96 [.one (.pt 0 0 0 0)] [.box (qa1619 r4)] [.box (qa1629 r5)] (vk .u8 r5.1) [0] [(12, vk .u8 r5.1), (0, .one (.pt 0 0 0 0)), (3, vi (IntKind.i64.wrap (y4 + y5))), (4, vi (268435456 : Int)), (5, vi (4 : Int)), (11, .one (.pt 0 0 0 0))] [.box (qa1629 r5)] (by kernel_rfl) (c_ref2_scan_byte _ _ c62) (by kernel_rfl) (by kernel_rfl) (by kernel_rfl) (by kernel_rfl) (zg [] 1 [0,3,4,5,6] (zd (hK61 _ _ (zq fun K63 hK63 => ?_))))
     obtain ⟨y6, hy64, h⟩ := zB h
     refine zr (zp [] 6 [0,4,5,6,13,18] [] [(0, .one (.pt 0 0 0 0)), (4, vi (268435456 : Int)), (5, vi (4 : Int)), (6, vk .u8 r5.1), (13, vi (IntKind.i64.wrap (y4 + y5))), (18, vi (IntKind.i64.wrap ((268435456 : Int) * (IntKind.i64.wrap (r5.1.tmod (128 : Int))))))] [.box [cl (eK .u8) r5.2.b, cb r5.2.bad]] [(128 : Int) ≠ 0] (⟨by decide, trivial⟩) ?_)
     rw [show (IntKind.i64.wrap ((268435456 : Int) * (IntKind.i64.wrap (r5.1.tmod (128 : Int))))) = y6 from Option.some.inj hy64]
     refine zg [] 2 [0,3,4,5,6] (zd (hK63 _ _ (zq fun K65 hK65 => zq fun K66 hK66 => zr (zg [] 2 [0,3,4,5,6,21] (zd ?_)))))
     refine hK66 _ _ (zC h (fun b67 h => ?_) (fun b67 h => ?_))
     ·refine zq fun K68 hK68 => ?_
      have hJ5 : ∀ (z5 : Bool), ref2_scan_number_j5 y4 y5 r5 y6 z5 = some r → ∀ fr1 st1, Sub 43 1 [] fr1 st1 [(3, vi (IntKind.i64.wrap ((IntKind.i64.wrap (y4 + y5)) + y6)))] [.box [cl (eK .u8) r5.2.b, cb z5]] → K68 fr1 st1 := by
       intro z5 h fr1 st1 hS
       unfold ref2_scan_number_j5 at h
       refine hK68 _ _ (XW.sub hS ?_)
       refine zq fun K70 hK70 => zr (zv [] 2 [2] [] [(2, vi (IntKind.i64.wrap ((IntKind.i64.wrap (y4 + y5)) + y6)))] [.box [cl (eK .u8) r5.2.b, cb z5]] (zd (hK70 _ _ (ze (hQ1 _ _ _ ?_)))))
       obtain rfl := Option.some.inj h
       exact FinM.fin (.inr rfl) [] [vi (IntKind.i64.wrap ((IntKind.i64.wrap (y4 + y5)) + y6))] [] (by kernel_rfl) trivial (by kernel_rfl) (by kernel_rfl) (.one (.rfl _ rfl))
      rcases zW h with ⟨b69, h⟩ | ⟨b69, h⟩
      ·exact zr (zv [] 6 [3,5,6,22,27] [] [(3, vi (IntKind.i64.wrap ((IntKind.i64.wrap (y4 + y5)) + y6))), (5, vi (4 : Int)), (6, vk .u8 r5.1), (22, .one (.pt 0 0 0 0)), (27, vb r5.2.bad)] [.box (qa1629 r5)] (zt 27 b69 (zg [] 10 [3] (zd (hJ5 true h _ _ (zk [3]))))))
      ·exact zr (zg [] 6 [3,5,6,22,27] (zt 27 b69 (zv [] 10 [3] [] [(3, vi (IntKind.i64.wrap ((IntKind.i64.wrap (y4 + y5)) + y6)))] [.box [cl (eK .u8) r5.2.b, cb (r5.1 == (0 : Int))]] (zd (hJ5 (r5.1 == (0 : Int)) h _ _ (zk [3]))))))
     ·refine zs (hK65 _ _ (zr (zv [] 3 [0,3,4,5] [] [(0, .one (.pt 0 0 0 0)), (3, vi (IntKind.i64.wrap ((IntKind.i64.wrap (y4 + y5)) + y6))), (4, vi (34359738368 : Int)), (5, vi (4 : Int))] [.box (qa1629 r5)] (zd (hK60 _ _ (zr (zv [] 3 [0,3,4,5] [] [(0, .one (.pt 0 0 0 0)), (3, vi (IntKind.i64.wrap ((IntKind.i64.wrap (y4 + y5)) + y6))), (4, vi (34359738368 : Int)), (5, vi (5 : Int))] [.box (qa1629 r5)] ?_)))))))
      refine zd (XR.one (zq fun K71 hK71 => zq fun K72 hK72 => zr (zg [] 2 [0,3,4,5,8] (zd (hK72 _ _ ?_)))))
      refine zc true (fun _ => ?_) (fun hx => by cases hx)
      refine zs (hK71 _ _ (zq fun K73 hK73 => zb 1 (zq fun K74 hK74 => ?_)))
      obtain ⟨r6, c75, h⟩ := zB h
      refine zr (zv [] 1 [0,3,4,5,11] [] [(0, .one (.pt 0 0 0 0)), (3, vi (IntKind.i64.wrap ((IntKind.i64.wrap (y4 + y5)) + y6))), (4, vi (34359738368 : Int)), (5, vi (5 : Int)), (11, .one (.pt 0 0 0 0))] [.box (qa1629 r5)] ?_)
      refine XO.calm 96 [.one (.pt 0 0 0 0)] [.box (qa1629 r5)] [.box (qa1639 r6)] (vk .u8 r6.1) [0] [(12, vk .u8 r6.1), (0, .one (.pt 0 0 0 0)), (3, vi (IntKind.i64.wrap ((IntKind.i64.wrap (y4 + y5)) + y6))), (4, vi (34359738368 : Int)), (5, vi (5 : Int)), (11, .one (.pt 0 0 0 0))] [.box (qa1639 r6)] (by kernel_rfl) (c_ref2_scan_byte _ _ c75) (by kernel_rfl) (by kernel_rfl) (by kernel_rfl) (by kernel_rfl) (zg [] 1 [0,3,4,5,6] (zd (hK74 _ _ (zq fun K76 hK76 => ?_))))
      obtain ⟨y7, hy77, h⟩ := zB h
      obtain ⟨y8, hy78, h⟩ := zB h
      refine zr (zp [] 6 [0,4,5,6,13,18] [] [(0, .one (.pt 0 0 0 0)), (4, vi (34359738368 : Int)), (5, vi (5 : Int)), (6, vk .u8 r6.1), (13, vi (IntKind.i64.wrap ((IntKind.i64.wrap (y4 + y5)) + y6))), (18, vi (IntKind.i64.wrap ((34359738368 : Int) * (IntKind.i64.wrap (r6.1.tmod (128 : Int))))))] [.box [cl (eK .u8) r6.2.b, cb r6.2.bad]] [(128 : Int) ≠ 0] (⟨by decide, trivial⟩) ?_)
      rw [show (IntKind.i64.wrap ((34359738368 : Int) * (IntKind.i64.wrap (r6.1.tmod (128 : Int))))) = y7 from Option.some.inj hy77]
      refine zv [] 1 [0,4,5,6,19] [] [(0, .one (.pt 0 0 0 0)), (4, vi (34359738368 : Int)), (5, vi (5 : Int)), (6, vk .u8 r6.1), (19, vi (IntKind.i64.wrap ((IntKind.i64.wrap ((IntKind.i64.wrap (y4 + y5)) + y6)) + y7)))] [.box [cl (eK .u8) r6.2.b, cb r6.2.bad]] ?_
      rw [show (IntKind.i64.wrap ((IntKind.i64.wrap ((IntKind.i64.wrap (y4 + y5)) + y6)) + y7)) = y8 from Option.some.inj hy78]
      refine zg [] 1 [0,3,4,5,6] (zd (hK76 _ _ (zq fun K79 hK79 => zq fun K80 hK80 => zr (zg [] 2 [0,3,4,5,6,21] (zd ?_)))))
      refine hK80 _ _ (zC h (fun b81 h => ?_) (fun b81 h => ?_))
      ·refine zq fun K82 hK82 => ?_
       have hJ6 : ∀ (z6 : Bool), ref2_scan_number_j6 r6 y8 z6 = some r → ∀ fr1 st1, Sub 43 1 [] fr1 st1 [(3, vi y8)] [.box [cl (eK .u8) r6.2.b, cb z6]] → K82 fr1 st1 := by
        intro z6 h fr1 st1 hS
        unfold ref2_scan_number_j6 at h
        refine hK82 _ _ (XW.sub hS ?_)
        refine zq fun K84 hK84 => zr (zv [] 2 [2] [] [(2, vi y8)] [.box [cl (eK .u8) r6.2.b, cb z6]] (zd (hK84 _ _ (ze (hQ1 _ _ _ ?_)))))
        obtain rfl := Option.some.inj h
        exact FinM.fin (.inr rfl) [] [vi y8] [] (by kernel_rfl) trivial (by kernel_rfl) (by kernel_rfl) (.one (.rfl _ rfl))
       rcases zW h with ⟨b83, h⟩ | ⟨b83, h⟩
       ·exact zr (zv [] 6 [3,5,6,22,27] [] [(3, vi y8), (5, vi (5 : Int)), (6, vk .u8 r6.1), (22, .one (.pt 0 0 0 0)), (27, vb r6.2.bad)] [.box (qa1639 r6)] (zt 27 b83 (zg [] 10 [3] (zd (hJ6 true h _ _ (zk [3]))))))
       ·exact zr (zg [] 6 [3,5,6,22,27] (zt 27 b83 (zv [] 10 [3] [] [(3, vi y8)] [.box [cl (eK .u8) r6.2.b, cb (r6.1 == (0 : Int))]] (zd (hJ6 (r6.1 == (0 : Int)) h _ _ (zk [3]))))))
      ·refine zs (hK79 _ _ (zr (zv [] 3 [0,3,4,5] [] [(0, .one (.pt 0 0 0 0)), (3, vi y8), (4, vi (4398046511104 : Int)), (5, vi (5 : Int))] [.box (qa1639 r6)] (zd (hK73 _ _ (zr (zv [] 3 [0,3,4,5] [] [(0, .one (.pt 0 0 0 0)), (3, vi y8), (4, vi (4398046511104 : Int)), (5, vi (6 : Int))] [.box (qa1639 r6)] ?_)))))))
       refine zd (XR.one (zq fun K85 hK85 => zq fun K86 hK86 => zr (zg [] 2 [0,3,4,5,8] (zd (hK86 _ _ ?_)))))
       refine zc true (fun _ => ?_) (fun hx => by cases hx)
       refine zs (hK85 _ _ (zq fun K87 hK87 => zb 1 (zq fun K88 hK88 => ?_)))
       obtain ⟨r7, c89, h⟩ := zB h
       refine zr (zv [] 1 [0,3,4,5,11] [] [(0, .one (.pt 0 0 0 0)), (3, vi y8), (4, vi (4398046511104 : Int)), (5, vi (6 : Int)), (11, .one (.pt 0 0 0 0))] [.box (qa1639 r6)] ?_)
       refine XO.calm 96 [.one (.pt 0 0 0 0)] [.box (qa1639 r6)] [.box (qa1649 r7)] (vk .u8 r7.1) [0] [(12, vk .u8 r7.1), (0, .one (.pt 0 0 0 0)), (3, vi y8), (4, vi (4398046511104 : Int)), (5, vi (6 : Int)), (11, .one (.pt 0 0 0 0))] [.box (qa1649 r7)] (by kernel_rfl) (c_ref2_scan_byte _ _ c89) (by kernel_rfl) (by kernel_rfl) (by kernel_rfl) (by kernel_rfl) (zg [] 1 [0,3,4,5,6] (zd (hK88 _ _ (zq fun K90 hK90 => ?_))))
       obtain ⟨y9, hy91, h⟩ := zB h
       refine zr (zp [] 6 [0,4,5,6,13,18] [] [(0, .one (.pt 0 0 0 0)), (4, vi (4398046511104 : Int)), (5, vi (6 : Int)), (6, vk .u8 r7.1), (13, vi y8), (18, vi (IntKind.i64.wrap ((4398046511104 : Int) * (IntKind.i64.wrap (r7.1.tmod (128 : Int))))))] [.box [cl (eK .u8) r7.2.b, cb r7.2.bad]] [(128 : Int) ≠ 0] (⟨by decide, trivial⟩) ?_)
       rw [show (IntKind.i64.wrap ((4398046511104 : Int) * (IntKind.i64.wrap (r7.1.tmod (128 : Int))))) = y9 from Option.some.inj hy91]
       refine zg [] 2 [0,3,4,5,6] (zd (hK90 _ _ (zq fun K92 hK92 => zq fun K93 hK93 => zr (zg [] 2 [0,3,4,5,6,21] (zd ?_)))))
       refine hK93 _ _ (zC h (fun b94 h => ?_) (fun b94 h => ?_))
       ·refine zq fun K95 hK95 => ?_
        have hJ7 : ∀ (z7 : Bool), ref2_scan_number_j7 y8 r7 y9 z7 = some r → ∀ fr1 st1, Sub 43 1 [] fr1 st1 [(3, vi (IntKind.i64.wrap (y8 + y9)))] [.box [cl (eK .u8) r7.2.b, cb z7]] → K95 fr1 st1 := by
         intro z7 h fr1 st1 hS
         unfold ref2_scan_number_j7 at h
         refine hK95 _ _ (XW.sub hS ?_)
         refine zq fun K97 hK97 => zr (zv [] 2 [2] [] [(2, vi (IntKind.i64.wrap (y8 + y9)))] [.box [cl (eK .u8) r7.2.b, cb z7]] (zd (hK97 _ _ (ze (hQ1 _ _ _ ?_)))))
         obtain rfl := Option.some.inj h
         exact FinM.fin (.inr rfl) [] [vi (IntKind.i64.wrap (y8 + y9))] [] (by kernel_rfl) trivial (by kernel_rfl) (by kernel_rfl) (.one (.rfl _ rfl))
        rcases zW h with ⟨b96, h⟩ | ⟨b96, h⟩
        ·exact zr (zv [] 6 [3,5,6,22,27] [] [(3, vi (IntKind.i64.wrap (y8 + y9))), (5, vi (6 : Int)), (6, vk .u8 r7.1), (22, .one (.pt 0 0 0 0)), (27, vb r7.2.bad)] [.box (qa1649 r7)] (zt 27 b96 (zg [] 10 [3] (zd (hJ7 true h _ _ (zk [3]))))))
        ·exact zr (zg [] 6 [3,5,6,22,27] (zt 27 b96 (zv [] 10 [3] [] [(3, vi (IntKind.i64.wrap (y8 + y9)))] [.box [cl (eK .u8) r7.2.b, cb (r7.1 == (0 : Int))]] (zd (hJ7 (r7.1 == (0 : Int)) h _ _ (zk [3]))))))
       ·refine zs (hK92 _ _ (zr (zv [] 3 [0,3,4,5] [] [(0, .one (.pt 0 0 0 0)), (3, vi (IntKind.i64.wrap (y8 + y9))), (4, vi (562949953421312 : Int)), (5, vi (6 : Int))] [.box (qa1649 r7)] (zd (hK87 _ _ (zr (zv [] 3 [0,3,4,5] [] [(0, .one (.pt 0 0 0 0)), (3, vi (IntKind.i64.wrap (y8 + y9))), (4, vi (562949953421312 : Int)), (5, vi (7 : Int))] [.box (qa1649 r7)] ?_)))))))
        refine zd (XR.one (zq fun K98 hK98 => zq fun K99 hK99 => zr (zg [] 2 [0,3,4,5,8] (zd (hK99 _ _ ?_)))))
        refine zc true (fun _ => ?_) (fun hx => by cases hx)
        refine zs (hK98 _ _ (zq fun K100 hK100 => zb 1 (zq fun K101 hK101 => ?_)))
        obtain ⟨r8, c102, h⟩ := zB h
        refine zr (zv [] 1 [0,3,4,5,11] [] [(0, .one (.pt 0 0 0 0)), (3, vi (IntKind.i64.wrap (y8 + y9))), (4, vi (562949953421312 : Int)), (5, vi (7 : Int)), (11, .one (.pt 0 0 0 0))] [.box (qa1649 r7)] ?_)
        refine XO.calm 96 [.one (.pt 0 0 0 0)] [.box (qa1649 r7)] [.box (qa1659 r8)] (vk .u8 r8.1) [0] [(12, vk .u8 r8.1), (0, .one (.pt 0 0 0 0)), (3, vi (IntKind.i64.wrap (y8 + y9))), (4, vi (562949953421312 : Int)), (5, vi (7 : Int)), (11, .one (.pt 0 0 0 0))] [.box (qa1659 r8)] (by kernel_rfl) (c_ref2_scan_byte _ _ c102) (by kernel_rfl) (by kernel_rfl) (by kernel_rfl) (by kernel_rfl) (zg [] 1 [0,3,4,5,6] (zd (hK101 _ _ (zq fun K103 hK103 => ?_))))
        obtain ⟨y10, hy104, h⟩ := zB h
        refine zr (zp [] 6 [0,4,5,6,13,18] [] [(0, .one (.pt 0 0 0 0)), (4, vi (562949953421312 : Int)), (5, vi (7 : Int)), (6, vk .u8 r8.1), (13, vi (IntKind.i64.wrap (y8 + y9))), (18, vi (IntKind.i64.wrap ((562949953421312 : Int) * (IntKind.i64.wrap (r8.1.tmod (128 : Int))))))] [.box [cl (eK .u8) r8.2.b, cb r8.2.bad]] [(128 : Int) ≠ 0] (⟨by decide, trivial⟩) ?_)
        rw [show (IntKind.i64.wrap ((562949953421312 : Int) * (IntKind.i64.wrap (r8.1.tmod (128 : Int))))) = y10 from Option.some.inj hy104]
        refine zg [] 2 [0,3,4,5,6] (zd (hK103 _ _ (zq fun K105 hK105 => zq fun K106 hK106 => zr (zg [] 2 [0,3,4,5,6,21] (zd ?_)))))
        refine hK106 _ _ (zC h (fun b107 h => ?_) (fun b107 h => ?_))
        ·refine zq fun K108 hK108 => ?_
         have hJ8 : ∀ (z8 : Bool), ref2_scan_number_j8 y8 y9 r8 y10 z8 = some r → ∀ fr1 st1, Sub 43 1 [] fr1 st1 [(3, vi (IntKind.i64.wrap ((IntKind.i64.wrap (y8 + y9)) + y10)))] [.box [cl (eK .u8) r8.2.b, cb z8]] → K108 fr1 st1 := by
          intro z8 h fr1 st1 hS
          unfold ref2_scan_number_j8 at h
          refine hK108 _ _ (XW.sub hS ?_)
          refine zq fun K110 hK110 => zr (zv [] 2 [2] [] [(2, vi (IntKind.i64.wrap ((IntKind.i64.wrap (y8 + y9)) + y10)))] [.box [cl (eK .u8) r8.2.b, cb z8]] (zd (hK110 _ _ (ze (hQ1 _ _ _ ?_)))))
          obtain rfl := Option.some.inj h
          exact FinM.fin (.inr rfl) [] [vi (IntKind.i64.wrap ((IntKind.i64.wrap (y8 + y9)) + y10))] [] (by kernel_rfl) trivial (by kernel_rfl) (by kernel_rfl) (.one (.rfl _ rfl))
         rcases zW h with ⟨b109, h⟩ | ⟨b109, h⟩
         ·exact zr (zv [] 6 [3,5,6,22,27] [] [(3, vi (IntKind.i64.wrap ((IntKind.i64.wrap (y8 + y9)) + y10))), (5, vi (7 : Int)), (6, vk .u8 r8.1), (22, .one (.pt 0 0 0 0)), (27, vb r8.2.bad)] [.box (qa1659 r8)] (zt 27 b109 (zg [] 10 [3] (zd (hJ8 true h _ _ (zk [3]))))))
         ·exact zr (zg [] 6 [3,5,6,22,27] (zt 27 b109 (zv [] 10 [3] [] [(3, vi (IntKind.i64.wrap ((IntKind.i64.wrap (y8 + y9)) + y10)))] [.box [cl (eK .u8) r8.2.b, cb (r8.1 == (0 : Int))]] (zd (hJ8 (r8.1 == (0 : Int)) h _ _ (zk [3]))))))
        ·refine zs (hK105 _ _ (zr (zv [] 3 [0,3,4,5] [] [(0, .one (.pt 0 0 0 0)), (3, vi (IntKind.i64.wrap ((IntKind.i64.wrap (y8 + y9)) + y10))), (4, vi (72057594037927936 : Int)), (5, vi (7 : Int))] [.box (qa1659 r8)] (zd (hK100 _ _ (zr (zv [] 3 [0,3,4,5] [] [(0, .one (.pt 0 0 0 0)), (3, vi (IntKind.i64.wrap ((IntKind.i64.wrap (y8 + y9)) + y10))), (4, vi (72057594037927936 : Int)), (5, vi (8 : Int))] [.box (qa1659 r8)] ?_)))))))
         refine zd (XR.one (zq fun K111 hK111 => zq fun K112 hK112 => zr (zg [] 2 [0,3,4,5,8] (zd (hK112 _ _ ?_)))))
         refine zc true (fun _ => ?_) (fun hx => by cases hx)
         refine zs (hK111 _ _ (zq fun K113 hK113 => zb 1 (zq fun K114 hK114 => ?_)))
         obtain ⟨r9, c115, h⟩ := zB h
         refine zr (zv [] 1 [0,3,4,5,11] [] [(0, .one (.pt 0 0 0 0)), (3, vi (IntKind.i64.wrap ((IntKind.i64.wrap (y8 + y9)) + y10))), (4, vi (72057594037927936 : Int)), (5, vi (8 : Int)), (11, .one (.pt 0 0 0 0))] [.box (qa1659 r8)] ?_)
         refine XO.calm 96 [.one (.pt 0 0 0 0)] [.box (qa1659 r8)] [.box (qa1669 r9)] (vk .u8 r9.1) [0] [(12, vk .u8 r9.1), (0, .one (.pt 0 0 0 0)), (3, vi (IntKind.i64.wrap ((IntKind.i64.wrap (y8 + y9)) + y10))), (4, vi (72057594037927936 : Int)), (5, vi (8 : Int)), (11, .one (.pt 0 0 0 0))] [.box (qa1669 r9)] (by kernel_rfl) (c_ref2_scan_byte _ _ c115) (by kernel_rfl) (by kernel_rfl) (by kernel_rfl) (by kernel_rfl) (zg [] 1 [0,3,4,5,6] (zd (hK114 _ _ (zq fun K116 hK116 => ?_))))
         obtain ⟨y11, hy117, h⟩ := zB h
         obtain ⟨y12, hy118, h⟩ := zB h
         refine zr (zp [] 6 [0,4,5,6,13,18] [] [(0, .one (.pt 0 0 0 0)), (4, vi (72057594037927936 : Int)), (5, vi (8 : Int)), (6, vk .u8 r9.1), (13, vi (IntKind.i64.wrap ((IntKind.i64.wrap (y8 + y9)) + y10))), (18, vi (IntKind.i64.wrap ((72057594037927936 : Int) * (IntKind.i64.wrap (r9.1.tmod (128 : Int))))))] [.box [cl (eK .u8) r9.2.b, cb r9.2.bad]] [(128 : Int) ≠ 0] (⟨by decide, trivial⟩) ?_)
         rw [show (IntKind.i64.wrap ((72057594037927936 : Int) * (IntKind.i64.wrap (r9.1.tmod (128 : Int))))) = y11 from Option.some.inj hy117]
         refine zv [] 1 [0,4,5,6,19] [] [(0, .one (.pt 0 0 0 0)), (4, vi (72057594037927936 : Int)), (5, vi (8 : Int)), (6, vk .u8 r9.1), (19, vi (IntKind.i64.wrap ((IntKind.i64.wrap ((IntKind.i64.wrap (y8 + y9)) + y10)) + y11)))] [.box [cl (eK .u8) r9.2.b, cb r9.2.bad]] ?_
         rw [show (IntKind.i64.wrap ((IntKind.i64.wrap ((IntKind.i64.wrap (y8 + y9)) + y10)) + y11)) = y12 from Option.some.inj hy118]
         refine zg [] 1 [0,3,4,5,6] (zd (hK116 _ _ (zq fun K119 hK119 => zq fun K120 hK120 => zr (zg [] 2 [0,3,4,5,6,21] (zd ?_)))))
         refine hK120 _ _ (zC h (fun b121 h => ?_) (fun b121 h => ?_))
         ·refine zq fun K122 hK122 => ?_
          have hJ9 : ∀ (z9 : Bool), ref2_scan_number_j9 r9 y12 z9 = some r → ∀ fr1 st1, Sub 43 1 [] fr1 st1 [(3, vi y12)] [.box [cl (eK .u8) r9.2.b, cb z9]] → K122 fr1 st1 := by
           intro z9 h fr1 st1 hS
           unfold ref2_scan_number_j9 at h
           refine hK122 _ _ (XW.sub hS ?_)
           refine zq fun K124 hK124 => zr (zv [] 2 [2] [] [(2, vi y12)] [.box [cl (eK .u8) r9.2.b, cb z9]] (zd (hK124 _ _ (ze (hQ1 _ _ _ ?_)))))
           obtain rfl := Option.some.inj h
           exact FinM.fin (.inr rfl) [] [vi y12] [] (by kernel_rfl) trivial (by kernel_rfl) (by kernel_rfl) (.one (.rfl _ rfl))
          rcases zW h with ⟨b123, h⟩ | ⟨b123, h⟩
          ·exact zr (zv [] 6 [3,5,6,22,27] [] [(3, vi y12), (5, vi (8 : Int)), (6, vk .u8 r9.1), (22, .one (.pt 0 0 0 0)), (27, vb r9.2.bad)] [.box (qa1669 r9)] (zt 27 b123 (zg [] 10 [3] (zd (hJ9 true h _ _ (zk [3]))))))
          ·exact zr (zg [] 6 [3,5,6,22,27] (zt 27 b123 (zv [] 10 [3] [] [(3, vi y12)] [.box [cl (eK .u8) r9.2.b, cb (r9.1 == (0 : Int))]] (zd (hJ9 (r9.1 == (0 : Int)) h _ _ (zk [3]))))))
         ·refine zs (hK119 _ _ (zr (zv [] 3 [0,3,4,5] [] [(0, .one (.pt 0 0 0 0)), (3, vi y12), (4, vi (-9223372036854775808 : Int)), (5, vi (8 : Int))] [.box (qa1669 r9)] (zd (hK113 _ _ (zr (zv [] 3 [0,3,4,5] [] [(0, .one (.pt 0 0 0 0)), (3, vi y12), (4, vi (-9223372036854775808 : Int)), (5, vi (9 : Int))] [.box (qa1669 r9)] ?_)))))))
          refine zd (XR.one (zq fun K125 hK125 => zq fun K126 hK126 => zr (zg [] 2 [0,3,4,5,8] (zd (hK126 _ _ ?_)))))
          refine zc false (fun hx => by cases hx) (fun _ => ?_)
          refine zx 0 (hQ1 _ _ _ (hK3 _ _ (zq fun K127 hK127 => zr (zg [] 4 [] (zd (hK127 _ _ ?_))))))
          refine zq fun K128 hK128 => zr (zv [] 1 [2] [] [(2, vi (0 : Int))] [.box [cl (eK .u8) r9.2.b, cb true]] (zd (hK128 _ _ (ze ?_))))
          obtain rfl := Option.some.inj h
          exact FinM.fin (.inr rfl) [] [vi (0 : Int)] [] (by kernel_rfl) trivial (by kernel_rfl) (by kernel_rfl) (.one (.rfl _ rfl))

def ref2_scan_signed (p1 : GScan) : Option (Int × GScan) :=
    bnd (ref2_scan_number p1) fun r1 =>
    ift ((r1.1.tmod (2 : Int)) == (1 : Int))
      (bnd (some (IntKind.i64.wrap ((IntKind.i64.wrap (0 - (IntKind.i64.wrap (r1.1.tdiv (2 : Int))))) - (1 : Int)))) fun y1 =>
       some (y1, r1.2))
      (some ((IntKind.i64.wrap (r1.1.tdiv (2 : Int))), r1.2))

abbrev qa1719 (r1 : (Int × GScan)) : St := [.box [cl (eK .u8) r1.2.b, cb r1.2.bad]]

theorem c_ref2_scan_signed (p1 : GScan) (r : (Int × GScan)) (h : ref2_scan_signed p1 = some r) : MC Try.prog 68 [.one (.pt 0 0 0 0)] [.box [cl (eK .u8) p1.b, cb p1.bad]] (vi r.1) [.box [cl (eK .u8) r.2.b, cb r.2.bad]] := by
 unfold ref2_scan_signed at h
 refine MC.of 1 (n := 15) (fn := Try.f68) (c := cd Try.f68 []) (by kernel_rfl) (by kernel_rfl) (by kernel_rfl) (Nat.le_of_ble_eq_true rfl) rfl (zq fun K1 hK1 => zr (zg [] 1 [0] (zd (hK1 _ _ (zq fun K2 hK2 => ?_)))))
 obtain ⟨r1, c3, h⟩ := zB h
 refine zr (zv [] 1 [4] [] [(4, .one (.pt 0 0 0 0))] [.box [cl (eK .u8) p1.b, cb p1.bad]] (XO.calm 69 [.one (.pt 0 0 0 0)] [.box [cl (eK .u8) p1.b, cb p1.bad]] (qa1719 r1) (vi r1.1) [0] [(5, vi r1.1), (4, .one (.pt 0 0 0 0))] (qa1719 r1) (by kernel_rfl) (c_ref2_scan_number _ _ c3) (by kernel_rfl) (by kernel_rfl) (by kernel_rfl) (by kernel_rfl) (zg [] 1 [3] (zd (hK2 _ _ (zq fun K4 hK4 => zq fun K5 hK5 => ?_))))))
 refine zr (zo [] 3 [3,8] [] [(2 : Int) ≠ 0] (⟨by decide, trivial⟩) (zd (hK5 _ _ (zC h (fun b6 h => ?_) (fun b6 h => ?_)))))
 ·refine zq fun K7 hK7 => ?_
  obtain ⟨y1, hy8, h⟩ := zB h
  refine zr (zp [] 4 [12] [] [(12, vi (IntKind.i64.wrap ((IntKind.i64.wrap (0 - (IntKind.i64.wrap (r1.1.tdiv (2 : Int))))) - (1 : Int))))] [.box [cl (eK .u8) r1.2.b, cb r1.2.bad]] [(2 : Int) ≠ 0] (⟨by decide, trivial⟩) ?_)
  rw [show (IntKind.i64.wrap ((IntKind.i64.wrap (0 - (IntKind.i64.wrap (r1.1.tdiv (2 : Int))))) - (1 : Int))) = y1 from Option.some.inj hy8]
  refine zv [] 1 [2] [] [(2, vi y1)] (qa1719 r1) (zd (hK7 _ _ (ze ?_)))
  obtain rfl := Option.some.inj h
  exact FinM.fin (.inr rfl) [] [vi y1] [] (by kernel_rfl) trivial (by kernel_rfl) (by kernel_rfl) (.one (.rfl _ rfl))
 ·refine zs (hK4 _ _ (zq fun K9 hK9 => zr (zp [] 3 [2] [] [(2, vi (IntKind.i64.wrap (r1.1.tdiv (2 : Int))))] (qa1719 r1) [(2 : Int) ≠ 0] (⟨by decide, trivial⟩) (zd (hK9 _ _ (ze ?_))))))
  obtain rfl := Option.some.inj h
  exact FinM.fin (.inr rfl) [] [vi (IntKind.i64.wrap (r1.1.tdiv (2 : Int)))] [] (by kernel_rfl) trivial (by kernel_rfl) (by kernel_rfl) (.one (.rfl _ rfl))

def ref2_scan_take_j1 (p1 : Int) (p2 : GScan) (x1 : Bool) : Option ((List Int) × GScan) :=
    ift x1
      (some ([], (GScan.mk p2.b true)))
      (grd (0 ≤ (0 : Int) ∧ (0 : Int) ≤ p1 ∧ p1 ≤ (p2.b.length : Int)) <|
       grd (0 ≤ p1 ∧ p1 ≤ (p2.b.length : Int)) <|
       some (((p2.b.drop (0 : Int).toNat).take (p1.toNat - (0 : Int).toNat)), (GScan.mk (p2.b.drop p1.toNat) p2.bad)))

def ref2_scan_take (p1 : Int) (p2 : GScan) : Option ((List Int) × GScan) :=
    ift p2.bad
      (ref2_scan_take_j1 p1 p2 true)
      (ift (decide (p1 < (0 : Int)))
         (ref2_scan_take_j1 p1 p2 true)
         (ref2_scan_take_j1 p1 p2 (decide ((p2.b.length : Int) < p1))))

abbrev qa1728 (p2 : GScan) : St := [.box [cl (eK .u8) p2.b, cb p2.bad]]

theorem c_ref2_scan_take (p1 : Int) (p2 : GScan) (r : ((List Int) × GScan)) (h : ref2_scan_take p1 p2 = some r) : MC Try.prog 97 [.one (.pt 0 0 0 0), vi p1] (qa1728 p2) (vl (eK .u8) r.1) [.box [cl (eK .u8) r.2.b, cb r.2.bad]] := by
 unfold ref2_scan_take at h
 refine MC.of 1 (n := 42) (fn := Try.f97) (c := cd Try.f97 []) (by kernel_rfl) (by kernel_rfl) (by kernel_rfl) (Nat.le_of_ble_eq_true rfl) rfl (zq fun K1 hK1 => zr (zg [] 1 [0,1] (zd (hK1 _ _ (zq fun K2 hK2 => zq fun K3 hK3 => ?_)))))
 have hJ1 : ∀ (x1 : Bool), ref2_scan_take_j1 p1 p2 x1 = some r → ∀ fr1 st1, Sub 42 1 [] fr1 st1 [(0, .one (.pt 0 0 0 0)), (1, vi p1), (22, vb x1)] (qa1728 p2) → K3 fr1 st1 := by
  intro x1 h fr1 st1 hS
  unfold ref2_scan_take_j1 at h
  refine hK3 _ _ (XW.sub hS ?_)
  refine zC h (fun b6 h => ?_) (fun b6 h => ?_)
  ·refine zq fun K7 hK7 => zr (zg [] 4 [] (zd (hK7 _ _ (zq fun K8 hK8 => zr (zv [] 1 [4] [] [(4, .one (.pv (.s (.slice none 0 0))))] [.box [cl (eK .u8) p2.b, cb true]] ?_)))))
   refine zd (hK8 _ _ (ze ?_))
   obtain rfl := Option.some.inj h
   exact FinM.fin (.inr rfl) [] [.one (.pv (.s (.slice none 0 0)))] [] (by kernel_rfl) trivial (by kernel_rfl) (by kernel_rfl) (.one (.nl))
  ·refine zs (hK2 _ _ (zq fun K9 hK9 => ?_))
   obtain ⟨g10, h⟩ := zG h
   refine zr (zp [] 6 [0,1,31] [] [(0, .one (.pt 0 0 0 0)), (1, vi p1), (31, .one (.pv (.ro ((((eK .u8).els p2.b).drop (0 : Int).toNat).take (p1.toNat - (0 : Int).toNat)))))] [.box [cl (eK .u8) p2.b, cb p2.bad]] [(0 ≤ (0 : Int) ∧ (0 : Int) ≤ p1 ∧ p1 ≤ (((eK .u8).els p2.b).length : Int)) ∧ elemsOk 1 ((eK .u8).els p2.b)] (⟨(eK .u8).cutOk g10, trivial⟩) ?_)
   rw [show (((eK .u8).els p2.b).drop (0 : Int).toNat).take (p1.toNat - (0 : Int).toNat) = (eK .u8).els ((p2.b.drop (0 : Int).toNat).take (p1.toNat - (0 : Int).toNat)) from (eK .u8).cut _ _ _]
   refine zg [] 1 [0,1,5] (zd (hK9 _ _ (zq fun K11 hK11 => ?_)))
   obtain ⟨g12, h⟩ := zG h
   refine zr (zp [] 7 [5,32,38] [] [(5, vl (eK .u8) ((p2.b.drop (0 : Int).toNat).take (p1.toNat - (0 : Int).toNat))), (32, .one (.pt 0 0 0 0)), (38, .one (.pv (.ro ((((eK .u8).els p2.b).drop p1.toNat).take (((eK .u8).els p2.b).length - p1.toNat)))))] [.box [cl (eK .u8) p2.b, cb p2.bad]] [(0 ≤ p1 ∧ p1 ≤ (((eK .u8).els p2.b).length : Int) ∧ (((eK .u8).els p2.b).length : Int) ≤ (((eK .u8).els p2.b).length : Int)) ∧ elemsOk 1 ((eK .u8).els p2.b)] (⟨(eK .u8).cutHiOk g12, trivial⟩) ?_)
   rw [show (((eK .u8).els p2.b).drop p1.toNat).take (((eK .u8).els p2.b).length - p1.toNat) = (eK .u8).els (p2.b.drop p1.toNat) from (eK .u8).cutHi _ _]
   refine zg [] 3 [5] (zd (hK11 _ _ (zq fun K13 hK13 => zr (zv [] 2 [4] [] [(4, vl (eK .u8) ((p2.b.drop (0 : Int).toNat).take (p1.toNat - (0 : Int).toNat)))] [.box [cl (eK .u8) (p2.b.drop p1.toNat), cb p2.bad]] (zd (hK13 _ _ ?_))))))
   refine ze ?_
   obtain rfl := Option.some.inj h
   exact FinM.fin (.inr rfl) [] [vl (eK .u8) ((p2.b.drop (0 : Int).toNat).take (p1.toNat - (0 : Int).toNat))] [] (by kernel_rfl) trivial (by kernel_rfl) (by kernel_rfl) (.one (.rfl _ rfl))
 rcases zW h with ⟨b4, h⟩ | ⟨b4, h⟩
 ·exact zr (zg [] 5 [0,1,10] (zt 10 b4 (zv [] 12 [0,1,22] [] [(0, .one (.pt 0 0 0 0)), (1, vi p1), (22, vb true)] (qa1728 p2) (zd (hJ1 true h _ _ (zk [0,1,22]))))))
 ·rcases zW h with ⟨b5, h⟩ | ⟨b5, h⟩
  ·exact zr (zg [] 5 [0,1,10] (zt 10 b4 (zg [] 4 [0,1,14] (zt 14 b5 (zv [] 8 [0,1,22] [] [(0, .one (.pt 0 0 0 0)), (1, vi p1), (22, vb true)] (qa1728 p2) (zd (hJ1 true h _ _ (zk [0,1,22]))))))))
  ·refine zr (zg [] 5 [0,1,10] (zt 10 b4 (zg [] 4 [0,1,14] (zt 14 b5 (zv [] 6 [0,1,14,15,20] [] [(0, .one (.pt 0 0 0 0)), (1, vi p1), (14, vb false), (15, vi p1), (20, vi (((eK .u8).els p2.b).length : Int))] [.box [cl (eK .u8) p2.b, cb p2.bad]] ?_)))))
   rw [(eK .u8).len p2.b]
   exact zg [] 2 [0,1,22] (zd (hJ1 (decide ((p2.b.length : Int) < p1)) h _ _ (zk [0,1,22])))

def ref2_unpack_j1 (rec1 : List Int → Int → Option (List Int)) (x1 : Int) (l3 : List Int) : Option (List Int) :=
    rec1 l3 (IntKind.i64.wrap (x1 + (1 : Int)))

def ref2_unpack_l2 (rec1 : List Int → Int → Option (List Int)) (p1 : Int) (p3 : (List Int)) (x1 : Int) : Nat → List Int → Int → Option (List Int)
  | 0, _, _ => none
  | k2 + 1, l2, x2 =>
    ift (decide ((0 : Int) ≤ x2))
      (bnd (at? l2 x1) fun e1 =>
       bnd (some (IntKind.i64.wrap ((IntKind.i64.wrap ((IntKind.i64.wrap (x1 * p1)) + x2)).tdiv (8 : Int)))) fun y1 =>
       bnd (at? p3 y1) fun e2 =>
       bnd (some ((IntKind.i64.wrap ((IntKind.i64.wrap (x1 * p1)) + x2)).tmod (8 : Int))) fun y2 =>
       grd (0 ≤ y2) <|
       bnd (some ((IntKind.i64.wrap (e2.fdiv (2 ^ (min y2.toNat (IntKind.u8).bits)))).tmod (2 : Int))) fun y3 =>
       (ref2_unpack_l2 rec1 p1 p3 x1 k2) (l2.set x1.toNat (IntKind.i64.wrap ((IntKind.i64.wrap ((2 : Int) * e1)) + y3))) (IntKind.i64.wrap (x2 - (1 : Int))))
      (ref2_unpack_j1 rec1 x1 l2)

def ref2_unpack_j2 (l4 : List Int) : Option (List Int) :=
    some l4

def ref2_unpack_l1 (p1 : Int) (p2 : Int) (p3 : (List Int)) : Nat → List Int → Int → Option (List Int)
  | 0, _, _ => none
  | k1 + 1, l1, x1 =>
    ift (decide (x1 < ((p2.toNat : Nat) : Int)))
      (ref2_unpack_l2 (ref2_unpack_l1 p1 p2 p3 k1) p1 p3 x1 BIG l1 (IntKind.i64.wrap (p1 - (1 : Int))))
      (ref2_unpack_j2 l1)

def ref2_unpack (p1 : Int) (p2 : Int) (p3 : (List Int)) : Option (List Int) :=
    grd (0 ≤ p2 ∧ p2 ≤ p2 ∧ p2 ≤ 4294967296) <|
    ref2_unpack_l1 p1 p2 p3 BIG (List.replicate p2.toNat (0 : Int)) (0 : Int)


theorem c_ref2_unpack (p1 : Int) (p2 : Int) (p3 : (List Int)) (r : (List Int)) (h : ref2_unpack p1 p2 p3 = some r) : MX Try.prog 98 [vi p1, vi p2, vl (eK .u8) p3] [] [] (.one (.sl 0 1 0 r.length)) [.arr 1 (eI.els r)] := by
 unfold ref2_unpack at h
 refine MX.of 0 1 rfl (n := 50) (fn := Try.f98) (c := cd Try.f98 []) (by kernel_rfl) (by kernel_rfl) (by kernel_rfl) (Nat.le_of_ble_eq_true rfl) rfl (zq fun K1 hK1 => zr (zg [] 1 [0,1,2] (zd (hK1 _ _ (zq fun K2 hK2 => ?_)))))
 obtain ⟨g4, h⟩ := zG h
 refine zr (zp [] 2 [0,2,12] [] [(0, vi p1), (2, vl (eK .u8) p3), (12, .one (.sl 0 1 0 p2.toNat))] [.arr 1 (List.replicate p2.toNat [pi (0 : Int)])] [0 ≤ p2, p2 ≤ p2, p2 ≤ 4294967296] (⟨g4.1, g4.2.1, g4.2.2, trivial⟩) ?_)
 rw [show List.replicate p2.toNat [pi (0 : Int)] = eI.els (List.replicate p2.toNat (0 : Int)) from eI.rep _ (0 : Int)]
 refine zg [] 1 [0,2,7] (zd (hK2 _ _ (zq fun K5 hK5 => ?_)))
 have hJ2 : ∀ (l4 : List Int), ref2_unpack_j2 l4 = some r → ∀ fr1 st1, Sub 50 0 [] fr1 st1 [(7, .one (.sl 0 1 0 l4.length))] [.arr 1 (eI.els l4)] → K5 fr1 st1 := by
  intro l4 h fr1 st1 hS
  unfold ref2_unpack_j2 at h
  refine hK5 _ _ (XW.sub hS ?_)
  refine zq fun K24 hK24 => zr (zv [] 2 [6] [] [(6, .one (.sl 0 1 0 l4.length))] [.arr 1 (eI.els l4)] (zd (hK24 _ _ (ze ?_))))
  obtain rfl := Option.some.inj h
  exact FinM.fin (.inr rfl) [] [.one (.sl 0 1 0 l4.length)] [] (by kernel_rfl) trivial (by kernel_rfl) (by kernel_rfl) (.one (.rfl _ rfl))
 refine zq fun K6 hK6 => zr (zg [] 3 [0,2,7,14,15] (zd (hK6 _ _ (zb 0 (XW.rounds' BIG (x := cd Try.f98 [1,1,0,1,0,0]) (by kernel_rfl) fun Q1 hQ1 => ?_)))))
 have hL1 : ∀ (k1 : Nat) (l1 : List Int) (x1 : Int), ref2_unpack_l1 p1 p2 p3 k1 l1 x1 = some r → XR Try.prog 50 0 [] (cd Try.f98 [1,1,0,1,0,0]) Q1 k1 [(0, vi p1), (2, vl (eK .u8) p3), (7, .one (.sl 0 1 0 l1.length)), (14, vi ((p2.toNat : Nat) : Int)), (15, vi x1)] [.arr 1 (eI.els l1)] := by
  intro k1
  induction k1 with
  | zero => intro l1 x1 h; rw [ref2_unpack_l1.eq_1] at h; cases h
  | succ k1 ih1 =>
   intro l1 x1 h
   rw [ref2_unpack_l1.eq_2] at h
   refine zq fun K7 hK7 => zr (zg [] 1 [0,2,7,14,15,16] (zd (hK7 _ _ (zq fun K8 hK8 => zC h (fun b9 h => ?_) (fun b9 h => ?_)))))
   ·refine zs (hK8 _ _ (zq fun K10 hK10 => ?_))
    have hJ1 : ∀ (l3 : List Int), ref2_unpack_j1 (ref2_unpack_l1 p1 p2 p3 k1) x1 l3 = some r → ∀ fr1 st1, Sub 50 0 [] fr1 st1 [(0, vi p1), (2, vl (eK .u8) p3), (7, .one (.sl 0 1 0 l3.length)), (14, vi ((p2.toNat : Nat) : Int)), (15, vi x1)] [.arr 1 (eI.els l3)] → K10 fr1 st1 := by
     intro l3 h fr1 st1 hS
     unfold ref2_unpack_j1 at h
     refine hK10 _ _ (XW.sub hS ?_)
     exact zr (zg [] 2 [0,2,7,14,15] (zd (XR.sub (zk [0,2,7,14,15]) (ih1 l3 (IntKind.i64.wrap (x1 + (1 : Int))) h))))
    refine zb 1 (zq fun K11 hK11 => zr (zg [] 2 [0,2,7,8,14,15] (zd (hK11 _ _ (zq fun K12 hK12 => zr ?_)))))
    refine zv [] 3 [0,2,7,8,9,14,15] [] [(0, vi p1), (2, vl (eK .u8) p3), (7, .one (.sl 0 1 0 l1.length)), (8, vi x1), (9, vi (IntKind.i64.wrap (p1 - (1 : Int)))), (14, vi ((p2.toNat : Nat) : Int)), (15, vi x1)] [.arr 1 (eI.els l1)] (zd (hK12 _ _ (zb 2 (XW.rounds' BIG (x := cd Try.f98 [1,1,0,1,0,0,1,1,0,0,1,1,0,0]) (by kernel_rfl) fun Q2 hQ2 => ?_))))
    have hL2 : ∀ (k2 : Nat) (l2 : List Int) (x2 : Int), ref2_unpack_l2 (ref2_unpack_l1 p1 p2 p3 k1) p1 p3 x1 k2 l2 x2 = some r → XR Try.prog 50 0 [] (cd Try.f98 [1,1,0,1,0,0,1,1,0,0,1,1,0,0]) Q2 k2 [(0, vi p1), (2, vl (eK .u8) p3), (7, .one (.sl 0 1 0 l2.length)), (8, vi x1), (9, vi x2), (14, vi ((p2.toNat : Nat) : Int)), (15, vi x1)] [.arr 1 (eI.els l2)] := by
     intro k2
     induction k2 with
     | zero => intro l2 x2 h; rw [ref2_unpack_l2.eq_1] at h; cases h
     | succ k2 ih2 =>
      intro l2 x2 h
      rw [ref2_unpack_l2.eq_2] at h
      refine zq fun K13 hK13 => zq fun K14 hK14 => zr (zg [] 2 [0,2,7,8,9,14,15,21] (zd (hK14 _ _ (zC h (fun b15 h => ?_) (fun b15 h => ?_)))))
      ·refine zs (hK13 _ _ (zq fun K16 hK16 => zb 3 (zq fun K17 hK17 => zr (zg [] 6 [0,2,7,8,9,10,14,15] (zd ?_)))))
       refine hK17 _ _ ?_
       obtain ⟨e1, a18, h⟩ := zB h
       obtain ⟨y1, hy19, h⟩ := zB h
       obtain ⟨e2, a20, h⟩ := zB h
       obtain ⟨y2, hy21, h⟩ := zB h
       obtain ⟨g22, h⟩ := zG h
       obtain ⟨y3, hy23, h⟩ := zB h
       refine zw 18 [(46, vi (IntKind.i64.wrap ((IntKind.i64.wrap ((2 : Int) * e1)) + y3))), (45, vi y3), (44, vi (IntKind.i64.wrap (e2.fdiv (2 ^ (min y2.toNat (IntKind.u8).bits))))), (43, vk .u8 (e2.fdiv (2 ^ (min y2.toNat (IntKind.u8).bits)))), (42, vi y2), (41, vi (IntKind.i64.wrap ((IntKind.i64.wrap (x1 * p1)) + x2))), (40, vk .u8 e2), (39, .one (.pv (.rp ((eK .u8).els p3) y1.toNat 0))), (38, vi y1), (37, vi (IntKind.i64.wrap ((IntKind.i64.wrap (x1 * p1)) + x2))), (36, vl (eK .u8) p3), (35, vi (IntKind.i64.wrap ((2 : Int) * e1))), (34, vi e1), (33, .one (.pt 0 1 (0 + x1.toNat) 0)), (32, vi x1), (31, .one (.sl 0 1 0 l2.length)), (30, vi x1), (29, .one (.sl 0 1 0 l2.length)), (0, vi p1), (2, vl (eK .u8) p3), (7, .one (.sl 0 1 0 l2.length)), (8, vi x1), (9, vi x2), (10, vi (IntKind.i64.wrap ((IntKind.i64.wrap (x1 * p1)) + x2))), (14, vi ((p2.toNat : Nat) : Int)), (15, vi x1)] ?_ ?_
       ·refine zyp 10 [[pi e1]] [(38, vi (IntKind.i64.wrap ((IntKind.i64.wrap ((IntKind.i64.wrap (x1 * p1)) + x2)).tdiv (8 : Int)))), (37, vi (IntKind.i64.wrap ((IntKind.i64.wrap (x1 * p1)) + x2))), (36, vl (eK .u8) p3), (35, vi (IntKind.i64.wrap ((2 : Int) * e1))), (34, vi e1), (33, .one (.pt 0 1 (0 + x1.toNat) 0)), (32, vi x1), (31, .one (.sl 0 1 0 l2.length)), (30, vi x1), (29, .one (.sl 0 1 0 l2.length)), (0, vi p1), (2, vl (eK .u8) p3), (7, .one (.sl 0 1 0 l2.length)), (8, vi x1), (9, vi x2), (10, vi (IntKind.i64.wrap ((IntKind.i64.wrap (x1 * p1)) + x2))), (14, vi ((p2.toNat : Nat) : Int)), (15, vi x1)] [0 ≤ x1 ∧ x1 < ((l2.length : Nat) : Int), (eI.els l2)[(0 + x1.toNat)]? = some [pi e1], (8 : Int) ≠ 0] (⟨Enc.inb' a18, (eI.get0 a18), by decide, trivial⟩) ?_
        rw [show (IntKind.i64.wrap ((IntKind.i64.wrap ((IntKind.i64.wrap (x1 * p1)) + x2)).tdiv (8 : Int))) = y1 from Option.some.inj hy19]
        refine zyp 4 [[.s (.int .u8 e2)]] [(42, vi ((IntKind.i64.wrap ((IntKind.i64.wrap (x1 * p1)) + x2)).tmod (8 : Int))), (41, vi (IntKind.i64.wrap ((IntKind.i64.wrap (x1 * p1)) + x2))), (40, vk .u8 e2), (39, .one (.pv (.rp ((eK .u8).els p3) y1.toNat 0))), (38, vi y1), (37, vi (IntKind.i64.wrap ((IntKind.i64.wrap (x1 * p1)) + x2))), (36, vl (eK .u8) p3), (35, vi (IntKind.i64.wrap ((2 : Int) * e1))), (34, vi e1), (33, .one (.pt 0 1 (0 + x1.toNat) 0)), (32, vi x1), (31, .one (.sl 0 1 0 l2.length)), (30, vi x1), (29, .one (.sl 0 1 0 l2.length)), (0, vi p1), (2, vl (eK .u8) p3), (7, .one (.sl 0 1 0 l2.length)), (8, vi x1), (9, vi x2), (10, vi (IntKind.i64.wrap ((IntKind.i64.wrap (x1 * p1)) + x2))), (14, vi ((p2.toNat : Nat) : Int)), (15, vi x1)] [0 ≤ y1 ∧ y1 < (((eK .u8).els p3).length : Int) ∧ elemsOk 1 ((eK .u8).els p3), ((eK .u8).els p3)[y1.toNat]? = some [.s (.int .u8 e2)], (8 : Int) ≠ 0] (⟨(eK .u8).inb a20, ((eK .u8).get a20), by decide, trivial⟩) ?_
        rw [show ((IntKind.i64.wrap ((IntKind.i64.wrap (x1 * p1)) + x2)).tmod (8 : Int)) = y2 from Option.some.inj hy21]
        refine zyp 3 [] [(45, vi ((IntKind.i64.wrap (e2.fdiv (2 ^ (min y2.toNat (IntKind.u8).bits)))).tmod (2 : Int))), (44, vi (IntKind.i64.wrap (e2.fdiv (2 ^ (min y2.toNat (IntKind.u8).bits))))), (43, vk .u8 (e2.fdiv (2 ^ (min y2.toNat (IntKind.u8).bits)))), (42, vi y2), (41, vi (IntKind.i64.wrap ((IntKind.i64.wrap (x1 * p1)) + x2))), (40, vk .u8 e2), (39, .one (.pv (.rp ((eK .u8).els p3) y1.toNat 0))), (38, vi y1), (37, vi (IntKind.i64.wrap ((IntKind.i64.wrap (x1 * p1)) + x2))), (36, vl (eK .u8) p3), (35, vi (IntKind.i64.wrap ((2 : Int) * e1))), (34, vi e1), (33, .one (.pt 0 1 (0 + x1.toNat) 0)), (32, vi x1), (31, .one (.sl 0 1 0 l2.length)), (30, vi x1), (29, .one (.sl 0 1 0 l2.length)), (0, vi p1), (2, vl (eK .u8) p3), (7, .one (.sl 0 1 0 l2.length)), (8, vi x1), (9, vi x2), (10, vi (IntKind.i64.wrap ((IntKind.i64.wrap (x1 * p1)) + x2))), (14, vi ((p2.toNat : Nat) : Int)), (15, vi x1)] [0 ≤ y2, (2 : Int) ≠ 0] (⟨g22, by decide, trivial⟩) ?_
        rw [show ((IntKind.i64.wrap (e2.fdiv (2 ^ (min y2.toNat (IntKind.u8).bits)))).tmod (2 : Int)) = y3 from Option.some.inj hy23]
        exact zyg 1 zyd
       refine zp [] 2 [0,2,7,8,9,14,15] [[pi e1]] [(0, vi p1), (2, vl (eK .u8) p3), (7, .one (.sl 0 1 0 l2.length)), (8, vi x1), (9, vi x2), (14, vi ((p2.toNat : Nat) : Int)), (15, vi x1)] [.arr 1 ((eI.els l2).set (0 + x1.toNat) [pi (IntKind.i64.wrap ((IntKind.i64.wrap ((2 : Int) * e1)) + y3))])] [0 ≤ x1 ∧ x1 < ((l2.length : Nat) : Int), (eI.els l2)[(0 + x1.toNat)]? = some [pi e1]] (⟨Enc.inb' a18, (eI.get0 a18), trivial⟩) ?_
       rw [show (eI.els l2).set (0 + x1.toNat) [pi (IntKind.i64.wrap ((IntKind.i64.wrap ((2 : Int) * e1)) + y3))] = eI.els (l2.set x1.toNat (IntKind.i64.wrap ((IntKind.i64.wrap ((2 : Int) * e1)) + y3))) from eI.set0 _ _ (IntKind.i64.wrap ((IntKind.i64.wrap ((2 : Int) * e1)) + y3))]
       refine zd (hK16 _ _ (zr (zg [] 3 [0,2,7,8,9,14,15] (zd ?_))))
       exact XR.sub (Sub.trans (Sub.pick (fr' := [(0, vi p1), (2, vl (eK .u8) p3), (7, .one (.sl 0 1 0 l2.length)), (8, vi x1), (9, vi (IntKind.i64.wrap (x2 - (1 : Int)))), (14, vi ((p2.toNat : Nat) : Int)), (15, vi x1)]) [0,2,7,8,9,14,15] (by kernel_rfl)) (Sub.frame (fr' := [(0, vi p1), (2, vl (eK .u8) p3), (7, .one (.sl 0 1 0 (l2.set x1.toNat (IntKind.i64.wrap ((IntKind.i64.wrap ((2 : Int) * e1)) + y3))).length)), (8, vi x1), (9, vi (IntKind.i64.wrap (x2 - (1 : Int)))), (14, vi ((p2.toNat : Nat) : Int)), (15, vi x1)]) ⟨.rfl _, .rfl _, ALe.of_eq (show (.one (.sl 0 1 0 l2.length) : AV) = .one (.sl 0 1 0 (l2.set x1.toNat (IntKind.i64.wrap ((IntKind.i64.wrap ((2 : Int) * e1)) + y3))).length) from by simp), .rfl _, .rfl _, .rfl _, .rfl _, trivial⟩)) (ih2 (l2.set x1.toNat (IntKind.i64.wrap ((IntKind.i64.wrap ((2 : Int) * e1)) + y3))) (IntKind.i64.wrap (x2 - (1 : Int))) h)
      ·exact zx 2 (hQ2 _ _ _ (hJ1 l2 h _ _ (zk [0,2,7,14,15])))
    exact XR.sub (zk [0,2,7,8,9,14,15]) (hL2 BIG l1 (IntKind.i64.wrap (p1 - (1 : Int))) h)
   ·exact zx 0 (hQ1 _ _ _ (hJ2 l1 h _ _ (zk [7])))
 exact XR.sub (Sub.trans (Sub.pick (fr' := [(0, vi p1), (2, vl (eK .u8) p3), (7, .one (.sl 0 1 0 p2.toNat)), (14, vi ((p2.toNat : Nat) : Int)), (15, vi (0 : Int))]) [0,2,7,14,15] (by kernel_rfl)) (Sub.frame (fr' := [(0, vi p1), (2, vl (eK .u8) p3), (7, .one (.sl 0 1 0 (List.replicate p2.toNat (0 : Int)).length)), (14, vi ((p2.toNat : Nat) : Int)), (15, vi (0 : Int))]) ⟨.rfl _, .rfl _, ALe.of_eq (show (.one (.sl 0 1 0 p2.toNat) : AV) = .one (.sl 0 1 0 (List.replicate p2.toNat (0 : Int)).length) from by simp), .rfl _, .rfl _, trivial⟩)) (hL1 BIG (List.replicate p2.toNat (0 : Int)) (0 : Int) h)

def ref2_unframe_j1 (rec1 : List Int → Int → Option ((List Int) × GScan)) (r1 : (Int × GScan)) (r3 : ((List Int) × GScan)) (l1 : List Int) (x1 : Int) (x2 : Bool) : Option ((List Int) × GScan) :=
    ift x2
      (some ([], (GScan.mk r3.2.b true)))
      (bnd (at? l1 x1) fun e2 =>
       rec1 (l1.set x1.toNat (IntKind.i64.wrap (e2 + r1.1))) (IntKind.i64.wrap (x1 + (1 : Int))))

def ref2_unframe_j2 (r3 : ((List Int) × GScan)) (l2 : List Int) : Option ((List Int) × GScan) :=
    some (l2, r3.2)

def ref2_unframe_l1 (r1 : (Int × GScan)) (r3 : ((List Int) × GScan)) (r4 : (List Int)) : Nat → List Int → Int → Option ((List Int) × GScan)
  | 0, _, _ => none
  | k1 + 1, l1, x1 =>
    ift (decide (x1 < ((r4.length : Nat) : Int)))
      (ift (decide (r1.1 < (-2000000000000000000 : Int)))
         (ref2_unframe_j1 (ref2_unframe_l1 r1 r3 r4 k1) r1 r3 l1 x1 true)
         (bnd (at? l1 x1) fun e1 =>
          bnd (some (decide ((IntKind.i64.wrap ((2000000000000000000 : Int) - r1.1)) < e1))) fun y2 =>
          ift y2
            (ref2_unframe_j1 (ref2_unframe_l1 r1 r3 r4 k1) r1 r3 l1 x1 (decide ((0 : Int) < r1.1)))
            (ref2_unframe_j1 (ref2_unframe_l1 r1 r3 r4 k1) r1 r3 l1 x1 false)))
      (ref2_unframe_j2 r3 l1)

def ref2_unframe (p1 : Int) (p2 : GScan) : Option ((List Int) × GScan) :=
    ift (p1 == (0 : Int))
      (some ([], p2))
      (bnd (ref2_scan_signed p2) fun r1 =>
       bnd (ref2_scan_byte r1.2) fun r2 =>
       ift (decide ((62 : Int) < (IntKind.i64.wrap r2.1)))
         (some ([], (GScan.mk r2.2.b true)))
         (bnd (some (IntKind.i64.wrap ((IntKind.i64.wrap (p1 * (IntKind.i64.wrap r2.1))) + (7 : Int)))) fun y1 =>
          bnd (ref2_scan_take (IntKind.i64.wrap (y1.tdiv (8 : Int))) r2.2) fun r3 =>
          ift r3.2.bad
            (some ([], r3.2))
            (bnd (ref2_unpack (IntKind.i64.wrap r2.1) p1 r3.1) fun r4 =>
             ref2_unframe_l1 r1 r3 r4 BIG r4 (0 : Int))))

abbrev qa1745 : Fr := [(4, .one (.pv (.s (.slice none 0 0))))]
abbrev qa1754 (r3 : ((List Int) × GScan)) : List CV := [cl (eK .u8) r3.2.b, cb r3.2.bad]
abbrev qa1764 (r1 : (Int × GScan)) (r4 : (List Int)) (l1 : List Int) (x1 : Int) : Fr := [(1, .one (.pt 0 0 0 0)), (5, vi r1.1), (8, .one (.sl 1 1 0 l1.length)), (9, vi x1), (38, vi ((r4.length : Nat) : Int)), (39, vi x1), (44, vb (decide (r1.1 < (-2000000000000000000 : Int))))]
abbrev qa1765 (p2 : GScan) : St := [.box [cl (eK .u8) p2.b, cb p2.bad]]
abbrev qa1767 (r1 : (Int × GScan)) : St := [.box [cl (eK .u8) r1.2.b, cb r1.2.bad]]
abbrev qa1768 (r2 : (Int × GScan)) : St := [.box [cl (eK .u8) r2.2.b, cb r2.2.bad]]

theorem c_ref2_unframe (p1 : Int) (p2 : GScan) (r : ((List Int) × GScan)) (h : ref2_unframe p1 p2 = some r) : MC Try.prog 70 [vi p1, .one (.pt 0 0 0 0)] (qa1765 p2) (vl eI r.1) [.box [cl (eK .u8) r.2.b, cb r.2.bad]] := by
 unfold ref2_unframe at h
 refine MC.of 1 (n := 69) (fn := Try.f70) (c := cd Try.f70 []) (by kernel_rfl) (by kernel_rfl) (by kernel_rfl) (Nat.le_of_ble_eq_true rfl) rfl (zq fun K1 hK1 => zr (zg [] 1 [0,1] (zd (hK1 _ _ (zq fun K2 hK2 => zq fun K3 hK3 => ?_)))))
 refine zr (zg [] 2 [0,1,11] (zd (hK3 _ _ (zC h (fun b4 h => ?_) (fun b4 h => ?_)))))
 ·refine zq fun K5 hK5 => zr (zv [] 1 [4] [] qa1745 (qa1765 p2) (zd (hK5 _ _ (ze ?_))))
  obtain rfl := Option.some.inj h
  exact FinM.fin (.inr rfl) [] [.one (.pv (.s (.slice none 0 0)))] [] (by kernel_rfl) trivial (by kernel_rfl) (by kernel_rfl) (.one (.nl))
 ·refine zs (hK2 _ _ (zq fun K6 hK6 => ?_))
  obtain ⟨r1, c7, h⟩ := zB h
  obtain ⟨r2, c8, h⟩ := zB h
  refine zr (zv [] 1 [0,1,12] [] [(0, vi p1), (1, .one (.pt 0 0 0 0)), (12, .one (.pt 0 0 0 0))] (qa1765 p2) (XO.calm 68 [.one (.pt 0 0 0 0)] (qa1765 p2) (qa1767 r1) (vi r1.1) [0] [(13, vi r1.1), (0, vi p1), (1, .one (.pt 0 0 0 0)), (12, .one (.pt 0 0 0 0))] (qa1767 r1) (by kernel_rfl) (c_ref2_scan_signed _ _ c7) (by kernel_rfl) (by kernel_rfl) (by kernel_rfl) (by kernel_rfl) ?_))
  refine zv [] 1 [0,1,13,14] [] [(0, vi p1), (1, .one (.pt 0 0 0 0)), (13, vi r1.1), (14, .one (.pt 0 0 0 0))] (qa1767 r1) (XO.calm 96 [.one (.pt 0 0 0 0)] (qa1767 r1) (qa1768 r2) (vk .u8 r2.1) [0] [(15, vk .u8 r2.1), (0, vi p1), (1, .one (.pt 0 0 0 0)), (13, vi r1.1), (14, .one (.pt 0 0 0 0))] (qa1768 r2) (by kernel_rfl) (c_ref2_scan_byte _ _ c8) (by kernel_rfl) (by kernel_rfl) (by kernel_rfl) (by kernel_rfl) (zg [] 3 [0,1,5,6] (zd (hK6 _ _ (zq fun K9 hK9 => ?_)))))
  refine zq fun K10 hK10 => zr (zg [] 2 [0,1,5,6,18] (zd (hK10 _ _ (zC h (fun b11 h => ?_) (fun b11 h => ?_)))))
  ·refine zq fun K12 hK12 => zr (zv [] 4 [] [] [] [.box [cl (eK .u8) r2.2.b, cb true]] (zd (hK12 _ _ (zq fun K13 hK13 => zr (zv [] 1 [4] [] qa1745 [.box [cl (eK .u8) r2.2.b, cb true]] ?_)))))
   refine zd (hK13 _ _ (ze ?_))
   obtain rfl := Option.some.inj h
   exact FinM.fin (.inr rfl) [] [.one (.pv (.s (.slice none 0 0)))] [] (by kernel_rfl) trivial (by kernel_rfl) (by kernel_rfl) (.one (.nl))
  ·refine zs (hK9 _ _ (zq fun K14 hK14 => ?_))
   obtain ⟨y1, hy15, h⟩ := zB h
   obtain ⟨r3, c16, h⟩ := zB h
   refine zr (zv [] 5 [0,1,5,6,22,26] [] [(0, vi p1), (1, .one (.pt 0 0 0 0)), (5, vi r1.1), (6, vi (IntKind.i64.wrap r2.1)), (22, .one (.pt 0 0 0 0)), (26, vi (IntKind.i64.wrap ((IntKind.i64.wrap (p1 * (IntKind.i64.wrap r2.1))) + (7 : Int))))] [.box [cl (eK .u8) r2.2.b, cb r2.2.bad]] ?_)
   rw [show (IntKind.i64.wrap ((IntKind.i64.wrap (p1 * (IntKind.i64.wrap r2.1))) + (7 : Int))) = y1 from Option.some.inj hy15]
   refine zp [] 1 [0,1,5,6,22,27] [] [(0, vi p1), (1, .one (.pt 0 0 0 0)), (5, vi r1.1), (6, vi (IntKind.i64.wrap r2.1)), (22, .one (.pt 0 0 0 0)), (27, vi (IntKind.i64.wrap (y1.tdiv (8 : Int))))] (qa1768 r2) [(8 : Int) ≠ 0] (⟨by decide, trivial⟩) ?_
   refine XO.calm 97 [.one (.pt 0 0 0 0), vi (IntKind.i64.wrap (y1.tdiv (8 : Int)))] (qa1768 r2) [.box (qa1754 r3)] (vl (eK .u8) r3.1) [0] [(28, vl (eK .u8) r3.1), (0, vi p1), (1, .one (.pt 0 0 0 0)), (5, vi r1.1), (6, vi (IntKind.i64.wrap r2.1)), (22, .one (.pt 0 0 0 0)), (27, vi (IntKind.i64.wrap (y1.tdiv (8 : Int))))] [.box (qa1754 r3)] (by kernel_rfl) (c_ref2_scan_take _ _ _ c16) (by kernel_rfl) (by kernel_rfl) (by kernel_rfl) (by kernel_rfl) (zg [] 1 [0,1,5,6,7] (zd (hK14 _ _ (zq fun K17 hK17 => zq fun K18 hK18 => ?_))))
   refine zr (zg [] 4 [0,1,5,6,7,32] (zd (hK18 _ _ (zC h (fun b19 h => ?_) (fun b19 h => ?_)))))
   ·refine zq fun K20 hK20 => zr (zv [] 1 [4] [] qa1745 [.box (qa1754 r3)] (zd (hK20 _ _ (ze ?_))))
    obtain rfl := Option.some.inj h
    exact FinM.fin (.inr rfl) [] [.one (.pv (.s (.slice none 0 0)))] [] (by kernel_rfl) trivial (by kernel_rfl) (by kernel_rfl) (.one (.nl))
   ·refine zs (hK17 _ _ (zq fun K21 hK21 => ?_))
    obtain ⟨r4, c22, h⟩ := zB h
    refine zr (zv [] 3 [1,5,33,34,35] [] [(1, .one (.pt 0 0 0 0)), (5, vi r1.1), (33, vi (IntKind.i64.wrap r2.1)), (34, vi p1), (35, vl (eK .u8) r3.1)] [.box (qa1754 r3)] ?_)
    refine XO.calx 98 [vi (IntKind.i64.wrap r2.1), vi p1, vl (eK .u8) r3.1] [] [.arr 1 (eI.els r4)] [] (.one (.sl 0 1 0 r4.length)) [] [] [(36, .one (.sl 1 1 0 r4.length)), (1, .one (.pt 0 0 0 0)), (5, vi r1.1), (33, vi (IntKind.i64.wrap r2.1)), (34, vi p1), (35, vl (eK .u8) r3.1)] [.box (qa1754 r3), .arr 1 (eI.els r4)] (by kernel_rfl) (c_ref2_unpack _ _ _ _ c22) (by kernel_rfl) (by kernel_rfl) (by kernel_rfl) (by kernel_rfl) (by kernel_rfl) (by kernel_rfl) (by kernel_rfl) (zg [] 1 [1,5,8] (zd (hK21 _ _ (zq fun K23 hK23 => ?_))))
    have hJ2 : ∀ (l2 : List Int), ref2_unframe_j2 r3 l2 = some r → ∀ fr1 st1, Sub 69 1 [] fr1 st1 [(8, .one (.sl 1 1 0 l2.length))] [.box (qa1754 r3), .arr 1 (eI.els l2)] → K23 fr1 st1 := by
     intro l2 h fr1 st1 hS
     unfold ref2_unframe_j2 at h
     refine hK23 _ _ (XW.sub hS ?_)
     refine zq fun K40 hK40 => zr (zv [] 2 [4] [] [(4, .one (.sl 1 1 0 l2.length))] [.box (qa1754 r3), .arr 1 (eI.els l2)] (zd (hK40 _ _ (ze ?_))))
     obtain rfl := Option.some.inj h
     exact FinM.fin (.inr rfl) [] [.one (.sl 1 1 0 l2.length)] [] (by kernel_rfl) trivial (by kernel_rfl) (by kernel_rfl) (.one (cf_sl eI l2 rfl rfl rfl))
    refine zq fun K24 hK24 => zr (zg [] 3 [1,5,8,38,39] (zd (hK24 _ _ (zb 0 (XW.rounds' BIG (x := cd Try.f70 [1,1,1,1,1,1,1,0,1,0,0]) (by kernel_rfl) fun Q1 hQ1 => ?_)))))
    have hL1 : ∀ (k1 : Nat) (l1 : List Int) (x1 : Int), ref2_unframe_l1 r1 r3 r4 k1 l1 x1 = some r → XR Try.prog 69 1 [] (cd Try.f70 [1,1,1,1,1,1,1,0,1,0,0]) Q1 k1 [(1, .one (.pt 0 0 0 0)), (5, vi r1.1), (8, .one (.sl 1 1 0 l1.length)), (38, vi ((r4.length : Nat) : Int)), (39, vi x1)] [.box (qa1754 r3), .arr 1 (eI.els l1)] := by
     intro k1
     induction k1 with
     | zero => intro l1 x1 h; rw [ref2_unframe_l1.eq_1] at h; cases h
     | succ k1 ih1 =>
      intro l1 x1 h
      rw [ref2_unframe_l1.eq_2] at h
      refine zq fun K25 hK25 => zr (zg [] 1 [1,5,8,38,39,40] (zd (hK25 _ _ (zq fun K26 hK26 => zC h (fun b27 h => ?_) (fun b27 h => ?_)))))
      ·refine zs (hK26 _ _ (zq fun K28 hK28 => zb 1 (zq fun K29 hK29 => zr (zg [] 2 [1,5,8,9,38,39] (zd ?_)))))
       refine hK29 _ _ (zq fun K30 hK30 => zq fun K31 hK31 => ?_)
       have hJ1 : ∀ (x2 : Bool), ref2_unframe_j1 (ref2_unframe_l1 r1 r3 r4 k1) r1 r3 l1 x1 x2 = some r → ∀ fr1 st1, Sub 69 1 [] fr1 st1 [(1, .one (.pt 0 0 0 0)), (5, vi r1.1), (8, .one (.sl 1 1 0 l1.length)), (9, vi x1), (38, vi ((r4.length : Nat) : Int)), (39, vi x1), (56, vb x2)] [.box (qa1754 r3), .arr 1 (eI.els l1)] → K31 fr1 st1 := by
        intro x2 h fr1 st1 hS
        unfold ref2_unframe_j1 at h
        refine hK31 _ _ (XW.sub hS ?_)
        refine zC h (fun b36 h => ?_) (fun b36 h => ?_)
        ·refine zq fun K37 hK37 => zr (zg [] 4 [] (zd (hK37 _ _ (zq fun K38 hK38 => zr (zv [] 1 [4] [] qa1745 [.box [cl (eK .u8) r3.2.b, cb true], .arr 1 (eI.els l1)] ?_)))))
         refine zd (hK38 _ _ (ze (hQ1 _ _ _ ?_)))
         obtain rfl := Option.some.inj h
         exact FinM.fin (.inr rfl) [] [.one (.pv (.s (.slice none 0 0)))] [] (by kernel_rfl) trivial (by kernel_rfl) (by kernel_rfl) (.one (.nl))
        ·refine zs (hK30 _ _ ?_)
         obtain ⟨e2, a39, h⟩ := zB h
         refine zr (zp [] 8 [1,5,8,38,39] [[pi e2], [pi e2]] [(1, .one (.pt 0 0 0 0)), (5, vi r1.1), (8, .one (.sl 1 1 0 l1.length)), (38, vi ((r4.length : Nat) : Int)), (39, vi x1)] [.box [cl (eK .u8) r3.2.b, cb r3.2.bad], .arr 1 ((eI.els l1).set (0 + x1.toNat) [pi (IntKind.i64.wrap (e2 + r1.1))])] [0 ≤ x1 ∧ x1 < ((l1.length : Nat) : Int), (eI.els l1)[(0 + x1.toNat)]? = some [pi e2], 0 ≤ x1 ∧ x1 < ((l1.length : Nat) : Int), (eI.els l1)[(0 + x1.toNat)]? = some [pi e2]] (⟨Enc.inb' a39, (eI.get0 a39), Enc.inb' a39, (eI.get0 a39), trivial⟩) ?_)
         rw [show (eI.els l1).set (0 + x1.toNat) [pi (IntKind.i64.wrap (e2 + r1.1))] = eI.els (l1.set x1.toNat (IntKind.i64.wrap (e2 + r1.1))) from eI.set0 _ _ (IntKind.i64.wrap (e2 + r1.1))]
         refine zd (hK28 _ _ (zr (zg [] 2 [1,5,8,38,39] (zd ?_))))
         exact XR.sub (Sub.trans (Sub.pick (fr' := [(1, .one (.pt 0 0 0 0)), (5, vi r1.1), (8, .one (.sl 1 1 0 l1.length)), (38, vi ((r4.length : Nat) : Int)), (39, vi (IntKind.i64.wrap (x1 + (1 : Int))))]) [1,5,8,38,39] (by kernel_rfl)) (Sub.frame (fr' := [(1, .one (.pt 0 0 0 0)), (5, vi r1.1), (8, .one (.sl 1 1 0 (l1.set x1.toNat (IntKind.i64.wrap (e2 + r1.1))).length)), (38, vi ((r4.length : Nat) : Int)), (39, vi (IntKind.i64.wrap (x1 + (1 : Int))))]) ⟨.rfl _, .rfl _, ALe.of_eq (show (.one (.sl 1 1 0 l1.length) : AV) = .one (.sl 1 1 0 (l1.set x1.toNat (IntKind.i64.wrap (e2 + r1.1))).length) from by simp), .rfl _, .rfl _, trivial⟩)) (ih1 (l1.set x1.toNat (IntKind.i64.wrap (e2 + r1.1))) (IntKind.i64.wrap (x1 + (1 : Int))) h)
       rcases zW h with ⟨b32, h⟩ | ⟨b32, h⟩
       ·exact zr (zv [] 3 [1,5,8,9,38,39,44] [] (qa1764 r1 r4 l1 x1) [.box (qa1754 r3), .arr 1 (eI.els l1)] (zt 44 b32 (zg [] 12 [1,5,8,9,38,39,56] (zd (hJ1 true h _ _ (zk [1,5,8,9,38,39,56]))))))
       ·obtain ⟨e1, a33, h⟩ := zB h
        obtain ⟨y2, hy34, h⟩ := zB h
        rcases zW h with ⟨b35, h⟩ | ⟨b35, h⟩
        ·refine zr (zg [] 3 [1,5,8,9,38,39,44] (zt 44 b32 (zp [] 7 [1,5,8,9,38,39,44,51] [[pi e1]] [(1, .one (.pt 0 0 0 0)), (5, vi r1.1), (8, .one (.sl 1 1 0 l1.length)), (9, vi x1), (38, vi ((r4.length : Nat) : Int)), (39, vi x1), (44, vb false), (51, vb (decide ((IntKind.i64.wrap ((2000000000000000000 : Int) - r1.1)) < e1)))] [.box [cl (eK .u8) r3.2.b, cb r3.2.bad], .arr 1 (eI.els l1)] [0 ≤ x1 ∧ x1 < ((l1.length : Nat) : Int), (eI.els l1)[(0 + x1.toNat)]? = some [pi e1]] (⟨Enc.inb' a33, (eI.get0 a33), trivial⟩) ?_)))
         rw [show (decide ((IntKind.i64.wrap ((2000000000000000000 : Int) - r1.1)) < e1)) = y2 from Option.some.inj hy34]
         exact zg [] 1 [1,5,8,9,38,39,44,52] (zt 52 b35 (zg [] 4 [1,5,8,9,38,39,56] (zd (hJ1 (decide ((0 : Int) < r1.1)) h _ _ (zk [1,5,8,9,38,39,56])))))
        ·refine zr (zv [] 3 [1,5,8,9,38,39,44] [] (qa1764 r1 r4 l1 x1) [.box (qa1754 r3), .arr 1 (eI.els l1)] (zt 44 b32 ?_))
         refine zp [] 7 [1,5,8,9,38,39,44,51] [[pi e1]] [(1, .one (.pt 0 0 0 0)), (5, vi r1.1), (8, .one (.sl 1 1 0 l1.length)), (9, vi x1), (38, vi ((r4.length : Nat) : Int)), (39, vi x1), (44, vb false), (51, vb (decide ((IntKind.i64.wrap ((2000000000000000000 : Int) - r1.1)) < e1)))] [.box [cl (eK .u8) r3.2.b, cb r3.2.bad], .arr 1 (eI.els l1)] [0 ≤ x1 ∧ x1 < ((l1.length : Nat) : Int), (eI.els l1)[(0 + x1.toNat)]? = some [pi e1]] (⟨Enc.inb' a33, (eI.get0 a33), trivial⟩) ?_
         rw [show (decide ((IntKind.i64.wrap ((2000000000000000000 : Int) - r1.1)) < e1)) = y2 from Option.some.inj hy34]
         exact zg [] 1 [1,5,8,9,38,39,44,52] (zt 52 b35 (zg [] 4 [1,5,8,9,38,39,56] (zd (hJ1 false h _ _ (zk [1,5,8,9,38,39,56])))))
      ·exact zx 0 (hQ1 _ _ _ (hJ2 l1 h _ _ (zk [8])))
    exact XR.sub (zk [1,5,8,38,39]) (hL1 BIG r4 (0 : Int) h)

def ref2_unnumbers_j10 (l6 : List Int) (z8 : List Int) (z9 : Bool) : Option ((List Int) × GScan) :=
    some (l6, (GScan.mk z8 z9))

def ref2_unnumbers_j1 (rec1 : List Int → List Int → Bool → Int → Option ((List Int) × GScan)) (l1 : List Int) (z1 : List Int) (z2 : Bool) (x1 : Int) (x2 : Bool) : Option ((List Int) × GScan) :=
    ift x2
      (bnd (ref2_scan_signed (GScan.mk z1 z2)) fun r1 =>
       grd (l1.length + 1 ≤ 4294967296) <|
       rec1 (l1 ++ [r1.1]) r1.2.b r1.2.bad (IntKind.i64.wrap (x1 + (1 : Int))))
      (ref2_unnumbers_j10 l1 z1 z2)

def ref2_unnumbers_l1 (p2 : Int) : Nat → List Int → List Int → Bool → Int → Option ((List Int) × GScan)
  | 0, _, _, _, _ => none
  | k1 + 1, l1, z1, z2, x1 =>
    ift (decide (x1 < p2))
      (ref2_unnumbers_j1 (ref2_unnumbers_l1 p2 k1) l1 z1 z2 x1 (!z2))
      (ref2_unnumbers_j1 (ref2_unnumbers_l1 p2 k1) l1 z1 z2 x1 false)

def ref2_unnumbers_j5 (rec2 : List Int → List Int → Bool → Option ((List Int) × GScan)) (rec3 : List Int → Int → Option ((List Int) × GScan)) (r3 : (Int × GScan)) (z5 : Bool) (l3 : List Int) (x5 : Int) (x6 : Bool) : Option ((List Int) × GScan) :=
    ift x6
      (grd (l3.length + 1 ≤ 4294967296) <|
       rec3 (l3 ++ [r3.1]) (IntKind.i64.wrap (x5 + (1 : Int))))
      (rec2 l3 r3.2.b z5)

def ref2_unnumbers_l3 (rec2 : List Int → List Int → Bool → Option ((List Int) × GScan)) (r2 : (Int × GScan)) (r3 : (Int × GScan)) (z5 : Bool) : Nat → List Int → Int → Option ((List Int) × GScan)
  | 0, _, _ => none
  | k3 + 1, l3, x5 =>
    ift (decide (x5 < r2.1))
      (ref2_unnumbers_j5 rec2 (ref2_unnumbers_l3 rec2 r2 r3 z5 k3) r3 z5 l3 x5 (!z5))
      (ref2_unnumbers_j5 rec2 (ref2_unnumbers_l3 rec2 r2 r3 z5 k3) r3 z5 l3 x5 false)

def ref2_unnumbers_j4 (rec2 : List Int → List Int → Bool → Option ((List Int) × GScan)) (l2 : List Int) (r2 : (Int × GScan)) (r3 : (Int × GScan)) (z5 : Bool) : Option ((List Int) × GScan) :=
    ref2_unnumbers_l3 rec2 r2 r3 z5 BIG l2 (0 : Int)

def ref2_unnumbers_j3 (rec2 : List Int → List Int → Bool → Option ((List Int) × GScan)) (l2 : List Int) (r2 : (Int × GScan)) (r3 : (Int × GScan)) (x4 : Bool) : Option ((List Int) × GScan) :=
    ift x4
      (ref2_unnumbers_j4 rec2 l2 r2 r3 true)
      (ref2_unnumbers_j4 rec2 l2 r2 r3 r3.2.bad)

def ref2_unnumbers_j2 (rec2 : List Int → List Int → Bool → Option ((List Int) × GScan)) (p2 : Int) (l2 : List Int) (z3 : List Int) (z4 : Bool) (x3 : Bool) : Option ((List Int) × GScan) :=
    ift x3
      (bnd (ref2_scan_number (GScan.mk z3 z4)) fun r2 =>
       bnd (ref2_scan_signed r2.2) fun r3 =>
       ift (decide (r2.1 < (1 : Int)))
         (ref2_unnumbers_j3 rec2 l2 r2 r3 true)
         (ref2_unnumbers_j3 rec2 l2 r2 r3 (decide ((IntKind.i64.wrap (p2 - ((l2.length : Nat) : Int))) < r2.1))))
      (ref2_unnumbers_j10 l2 z3 z4)

def ref2_unnumbers_l2 (p2 : Int) : Nat → List Int → List Int → Bool → Option ((List Int) × GScan)
  | 0, _, _, _ => none
  | k2 + 1, l2, z3, z4 =>
    ift (decide (((l2.length : Nat) : Int) < p2))
      (ref2_unnumbers_j2 (ref2_unnumbers_l2 p2 k2) p2 l2 z3 z4 (!z4))
      (ref2_unnumbers_j2 (ref2_unnumbers_l2 p2 k2) p2 l2 z3 z4 false)

def ref2_unnumbers_j8 (rec4 : List Int → List Int → Bool → Int → Int → Option ((List Int) × GScan)) (l4 : List Int) (x7 : Int) (x8 : Int) (r4 : (Int × GScan)) (x11 : Bool) : Option ((List Int) × GScan) :=
    ift x11
      (some ([], (GScan.mk r4.2.b true)))
      (grd (l4.length + 1 ≤ 4294967296) <|
       rec4 (l4 ++ [(IntKind.i64.wrap (x7 + r4.1))]) r4.2.b r4.2.bad (IntKind.i64.wrap (x7 + r4.1)) (IntKind.i64.wrap (x8 + (1 : Int))))

def ref2_unnumbers_j7 (rec4 : List Int → List Int → Bool → Int → Int → Option ((List Int) × GScan)) (l4 : List Int) (x7 : Int) (x8 : Int) (r4 : (Int × GScan)) (x10 : Bool) : Option ((List Int) × GScan) :=
    ift x10
      (some ([], (GScan.mk r4.2.b true)))
      (bnd (some (decide ((IntKind.i64.wrap (x7 + r4.1)) < (-2000000000000000000 : Int)))) fun y1 =>
       ift y1
         (ref2_unnumbers_j8 rec4 l4 x7 x8 r4 true)
         (bnd (some (decide ((2000000000000000000 : Int) < (IntKind.i64.wrap (x7 + r4.1))))) fun y2 =>
          ref2_unnumbers_j8 rec4 l4 x7 x8 r4 y2))

def ref2_unnumbers_j6 (rec4 : List Int → List Int → Bool → Int → Int → Option ((List Int) × GScan)) (l4 : List Int) (z6 : List Int) (z7 : Bool) (x7 : Int) (x8 : Int) (x9 : Bool) : Option ((List Int) × GScan) :=
    ift x9
      (bnd (ref2_scan_signed (GScan.mk z6 z7)) fun r4 =>
       ift (decide (r4.1 < (-4000000000000000000 : Int)))
         (ref2_unnumbers_j7 rec4 l4 x7 x8 r4 true)
         (ref2_unnumbers_j7 rec4 l4 x7 x8 r4 (decide ((4000000000000000000 : Int) < r4.1))))
      (ref2_unnumbers_j10 l4 z6 z7)

def ref2_unnumbers_l4 (p2 : Int) : Nat → List Int → List Int → Bool → Int → Int → Option ((List Int) × GScan)
  | 0, _, _, _, _, _ => none
  | k4 + 1, l4, z6, z7, x7, x8 =>
    ift (decide (x8 < p2))
      (ref2_unnumbers_j6 (ref2_unnumbers_l4 p2 k4) l4 z6 z7 x7 x8 (!z7))
      (ref2_unnumbers_j6 (ref2_unnumbers_l4 p2 k4) l4 z6 z7 x7 x8 false)

def ref2_unnumbers_j9 (rec5 : List Int → Int → Option ((List Int) × GScan)) (r7 : ((List Int) × GScan)) (r8 : ((List Int) × GScan)) (l5 : List Int) (x12 : Int) (e1 : Int) (x13 : Bool) : Option ((List Int) × GScan) :=
    ift x13
      (some ([], (GScan.mk r8.2.b true)))
      (bnd (at? r7.1 e1) fun e2 =>
       grd (l5.length + 1 ≤ 4294967296) <|
       rec5 (l5 ++ [e2]) (IntKind.i64.wrap (x12 + (1 : Int))))

def ref2_unnumbers_l5 (r7 : ((List Int) × GScan)) (r8 : ((List Int) × GScan)) : Nat → List Int → Int → Option ((List Int) × GScan)
  | 0, _, _ => none
  | k5 + 1, l5, x12 =>
    ift (decide (x12 < (r8.1.length : Int)))
      (bnd (at? r8.1 x12) fun e1 =>
       ift (decide (e1 < (0 : Int)))
         (ref2_unnumbers_j9 (ref2_unnumbers_l5 r7 r8 k5) r7 r8 l5 x12 e1 true)
         (ref2_unnumbers_j9 (ref2_unnumbers_l5 r7 r8 k5) r7 r8 l5 x12 e1 (decide ((r7.1.length : Int) ≤ e1))))
      (ref2_unnumbers_j10 l5 r8.2.b r8.2.bad)

def ref2_unnumbers : Nat → Int → Int → GScan → Option ((List Int) × GScan)
  | 0, _, _, _ => none
  | k0 + 1, p1, p2, p3 =>
    ift (p1 == (0 : Int))
      (ref2_unnumbers_l1 p2 BIG [] p3.b p3.bad (0 : Int))
      (ift (p1 == (1 : Int))
         (ref2_unnumbers_l2 p2 BIG [] p3.b p3.bad)
         (ift (p1 == (2 : Int))
            (ref2_unnumbers_l4 p2 BIG [] p3.b p3.bad (0 : Int) (0 : Int))
            (ift (p1 == (3 : Int))
               (bnd (ref2_unframe p2 p3) fun r5 =>
                some (r5.1, r5.2))
               (bnd (ref2_scan_number p3) fun r6 =>
                ift (decide (p2 < r6.1))
                  (some ([], (GScan.mk r6.2.b true)))
                  (bnd ((ref2_unnumbers k0) (2 : Int) r6.1 r6.2) fun r7 =>
                   bnd (ref2_unframe p2 r7.2) fun r8 =>
                   ref2_unnumbers_l5 r7 r8 BIG [] (0 : Int))))))

abbrev qa1775 (p3 : GScan) : List CV := [cl (eK .u8) p3.b, cb p3.bad]
abbrev qa1811 (r4 : (Int × GScan)) : List CV := [cl (eK .u8) r4.2.b, cb r4.2.bad]
abbrev qa1814 : Fr := [(6, .one (.pv (.s (.slice none 0 0))))]
abbrev qa1831 (r8 : ((List Int) × GScan)) : List CV := [cl (eK .u8) r8.2.b, cb r8.2.bad]
abbrev qa1859 (r6 : (Int × GScan)) : St := [.box [cl (eK .u8) r6.2.b, cb r6.2.bad]]
abbrev qa1861 (r7 : ((List Int) × GScan)) : St := [.box [cl (eK .u8) r7.2.b, cb r7.2.bad]]

theorem c_ref2_unnumbers : ∀ (k0 : Nat) (p1 : Int) (p2 : Int) (p3 : GScan) (r : ((List Int) × GScan)), ref2_unnumbers k0 p1 p2 p3 = some r → MC Try.prog 43 [vi p1, vi p2, .one (.pt 0 0 0 0)] [.box (qa1775 p3)] (vl eI r.1) [.box [cl (eK .u8) r.2.b, cb r.2.bad]]
 | 0, _, _, _, r, h => by rw [ref2_unnumbers.eq_1] at h; cases h
 | k0 + 1, p1, p2, p3, r, h => by
  rw [ref2_unnumbers.eq_2] at h
  refine MC.of 1 (n := 170) (fn := Try.f43) (c := cd Try.f43 []) (by kernel_rfl) (by kernel_rfl) (by kernel_rfl) (Nat.le_of_ble_eq_true rfl) rfl (zq fun K1 hK1 => zr (zg [] 1 [0,1,2] (zd (hK1 _ _ (zq fun K2 hK2 => zr ?_)))))
  refine zg [] 1 [0,1,2,7] (zd (hK2 _ _ (zq fun K3 hK3 => ?_)))
  have hJ10 : ∀ (l6 : List Int) (z8 : List Int) (z9 : Bool), ref2_unnumbers_j10 l6 z8 z9 = some r → ∀ fr1 st1, Sub 170 1 [] fr1 st1 [(7, .one (.sl 1 1 0 l6.length))] [.box [cl (eK .u8) z8, cb z9], .arr 1 (eI.els l6)] → K3 fr1 st1 := by
   intro l6 z8 z9 h fr1 st1 hS
   unfold ref2_unnumbers_j10 at h
   refine hK3 _ _ (XW.sub hS ?_)
   refine zq fun K92 hK92 => zr (zv [] 2 [6] [] [(6, .one (.sl 1 1 0 l6.length))] [.box [cl (eK .u8) z8, cb z9], .arr 1 (eI.els l6)] (zd (hK92 _ _ (ze ?_))))
   obtain rfl := Option.some.inj h
   exact FinM.fin (.inr rfl) [] [.one (.sl 1 1 0 l6.length)] [] (by kernel_rfl) trivial (by kernel_rfl) (by kernel_rfl) (.one (cf_sl eI l6 rfl rfl rfl))
  refine zq fun K4 hK4 => zr (zv [] 1 [1,2,7,19] [] [(1, vi p2), (2, .one (.pt 0 0 0 0)), (7, .one (.pv (.s (.slice none 0 0)))), (19, vi p1)] [.box (qa1775 p3)] (zd (hK4 _ _ (zb 0 (zq fun K5 hK5 => zr ?_)))))
  refine zg [] 2 [1,2,7,19,58] (zd (hK5 _ _ (zC h (fun b6 h => ?_) (fun b6 h => ?_))))
  ·refine zq fun K7 hK7 => zr (zv [] 1 [1,2,7,8] [] [(1, vi p2), (2, .one (.pt 0 0 0 0)), (7, .one (.pv (.s (.slice none 0 0)))), (8, vi (0 : Int))] [.box [cl (eK .u8) p3.b, cb p3.bad]] (zd (hK7 _ _ (zb 3 (XW.sub (Sub.list (t := 7) (sz := 1) rfl) (XW.rounds' BIG (x := cd Try.f43 [1,1,0,1,0,1,0,1,0,0]) (by kernel_rfl) fun Q1 hQ1 => ?_))))))
   have hL1 : ∀ (k1 : Nat) (l1 : List Int) (z1 : List Int) (z2 : Bool) (x1 : Int), ref2_unnumbers_l1 p2 k1 l1 z1 z2 x1 = some r → XR Try.prog 170 1 [] (cd Try.f43 [1,1,0,1,0,1,0,1,0,0]) Q1 k1 [(1, vi p2), (2, .one (.pt 0 0 0 0)), (7, .one (.sl 1 1 0 l1.length)), (8, vi x1)] [.box [cl (eK .u8) z1, cb z2], .arr 1 (eI.els l1)] := by
    intro k1
    induction k1 with
    | zero => intro l1 z1 z2 x1 h; rw [ref2_unnumbers_l1.eq_1] at h; cases h
    | succ k1 ih1 =>
     intro l1 z1 z2 x1 h
     rw [ref2_unnumbers_l1.eq_2] at h
     refine zq fun K8 hK8 => zq fun K9 hK9 => ?_
     have hJ1 : ∀ (x2 : Bool), ref2_unnumbers_j1 (ref2_unnumbers_l1 p2 k1) l1 z1 z2 x1 x2 = some r → ∀ fr1 st1, Sub 170 1 [] fr1 st1 [(1, vi p2), (2, .one (.pt 0 0 0 0)), (7, .one (.sl 1 1 0 l1.length)), (8, vi x1), (69, vb x2)] [.box [cl (eK .u8) z1, cb z2], .arr 1 (eI.els l1)] → K9 fr1 st1 := by
      intro x2 h fr1 st1 hS
      unfold ref2_unnumbers_j1 at h
      refine hK9 _ _ (XW.sub hS ?_)
      refine zC h (fun b11 h => ?_) (fun b11 h => ?_)
      ·refine zs (hK8 _ _ (zq fun K12 hK12 => zb 4 ?_))
       obtain ⟨r1, c13, h⟩ := zB h
       obtain ⟨g14, h⟩ := zG h
       refine zr (zv [] 2 [1,2,8,72,73] [] [(1, vi p2), (2, .one (.pt 0 0 0 0)), (8, vi x1), (72, .one (.sl 1 1 0 l1.length)), (73, .one (.pt 0 0 0 0))] [.box [cl (eK .u8) z1, cb z2], .arr 1 (eI.els l1)] ?_)
       refine XO.calm 68 [.one (.pt 0 0 0 0)] [.box [cl (eK .u8) z1, cb z2]] [.box [cl (eK .u8) r1.2.b, cb r1.2.bad]] (vi r1.1) [0] [(74, vi r1.1), (1, vi p2), (2, .one (.pt 0 0 0 0)), (8, vi x1), (72, .one (.sl 1 1 0 l1.length)), (73, .one (.pt 0 0 0 0))] [.box [cl (eK .u8) r1.2.b, cb r1.2.bad], .arr 1 (eI.els l1)] (by kernel_rfl) (c_ref2_scan_signed _ _ c13) (by kernel_rfl) (by kernel_rfl) (by kernel_rfl) (by kernel_rfl) ?_
       refine zp [] 2 [1,2,8,76] [] [(1, vi p2), (2, .one (.pt 0 0 0 0)), (8, vi x1), (76, .one (.sl 1 1 0 (l1.length + (eI.els [r1.1]).length)))] [.box [cl (eK .u8) r1.2.b, cb r1.2.bad], .arr 1 (eI.els l1 ++ eI.els [r1.1])] [elemsOk 1 (eI.els [r1.1]), l1.length = (eI.els l1).length, l1.length + (eI.els [r1.1]).length ≤ 4294967296] (⟨eI.ok _, (eI.len l1).symm, g14, trivial⟩) ?_
       rw [show l1.length + (eI.els [r1.1]).length = (l1 ++ [r1.1]).length from eI.lapp _ _]
       rw [show eI.els l1 ++ eI.els [r1.1] = eI.els (l1 ++ [r1.1]) from eI.app2 _ _]
       exact zg [] 1 [1,2,7,8] (zd (hK12 _ _ (zr (zg [] 3 [1,2,7,8] (zd (XR.sub (zk [1,2,7,8]) (ih1 (l1 ++ [r1.1]) r1.2.b r1.2.bad (IntKind.i64.wrap (x1 + (1 : Int))) h)))))))
      ·exact zx 3 (hQ1 _ _ _ (hJ10 l1 z1 z2 h _ _ (zk [7])))
     rcases zW h with ⟨b10, h⟩ | ⟨b10, h⟩
     ·exact zr (zg [] 4 [1,2,7,8,63] (zt 63 b10 (zg [] 6 [1,2,7,8,69] (zd (hJ1 (!z2) h _ _ (zk [1,2,7,8,69]))))))
     ·exact zr (zv [] 4 [1,2,7,8,63] [] [(1, vi p2), (2, .one (.pt 0 0 0 0)), (7, .one (.sl 1 1 0 l1.length)), (8, vi x1), (63, vb (decide (x1 < p2)))] [.box [cl (eK .u8) z1, cb z2], .arr 1 (eI.els l1)] (zt 63 b10 (zg [] 6 [1,2,7,8,69] (zd (hJ1 false h _ _ (zk [1,2,7,8,69]))))))
   exact XR.sub (zk [1,2,7,8]) (hL1 BIG [] p3.b p3.bad (0 : Int) h)
  ·refine zq fun K15 hK15 => zr (zg [] 2 [1,2,7,19,77] (zd (hK15 _ _ (zC h (fun b16 h => ?_) (fun b16 h => ?_)))))
   ·refine zb 5 (XW.sub (Sub.list (t := 7) (sz := 1) rfl) (XW.rounds' BIG (x := cd Try.f43 [1,1,0,1,0,1,1,1,0,0,0]) (by kernel_rfl) fun Q2 hQ2 => ?_))
    have hL2 : ∀ (k2 : Nat) (l2 : List Int) (z3 : List Int) (z4 : Bool), ref2_unnumbers_l2 p2 k2 l2 z3 z4 = some r → XR Try.prog 170 1 [] (cd Try.f43 [1,1,0,1,0,1,1,1,0,0,0]) Q2 k2 [(1, vi p2), (2, .one (.pt 0 0 0 0)), (7, .one (.sl 1 1 0 l2.length))] [.box [cl (eK .u8) z3, cb z4], .arr 1 (eI.els l2)] := by
     intro k2
     induction k2 with
     | zero => intro l2 z3 z4 h; rw [ref2_unnumbers_l2.eq_1] at h; cases h
     | succ k2 ih2 =>
      intro l2 z3 z4 h
      rw [ref2_unnumbers_l2.eq_2] at h
      refine zq fun K17 hK17 => zq fun K18 hK18 => ?_
      have hJ2 : ∀ (x3 : Bool), ref2_unnumbers_j2 (ref2_unnumbers_l2 p2 k2) p2 l2 z3 z4 x3 = some r → ∀ fr1 st1, Sub 170 1 [] fr1 st1 [(1, vi p2), (2, .one (.pt 0 0 0 0)), (7, .one (.sl 1 1 0 l2.length)), (89, vb x3)] [.box [cl (eK .u8) z3, cb z4], .arr 1 (eI.els l2)] → K18 fr1 st1 := by
       intro x3 h fr1 st1 hS
       unfold ref2_unnumbers_j2 at h
       refine hK18 _ _ (XW.sub hS ?_)
       refine zC h (fun b20 h => ?_) (fun b20 h => ?_)
       ·refine zs (hK17 _ _ (zb 6 (zq fun K21 hK21 => ?_)))
        obtain ⟨r2, c22, h⟩ := zB h
        refine zr (zv [] 1 [1,2,7,90] [] [(1, vi p2), (2, .one (.pt 0 0 0 0)), (7, .one (.sl 1 1 0 l2.length)), (90, .one (.pt 0 0 0 0))] [.box [cl (eK .u8) z3, cb z4], .arr 1 (eI.els l2)] (XO.calm 69 [.one (.pt 0 0 0 0)] [.box [cl (eK .u8) z3, cb z4]] [.box [cl (eK .u8) r2.2.b, cb r2.2.bad]] (vi r2.1) [0] [(91, vi r2.1), (1, vi p2), (2, .one (.pt 0 0 0 0)), (7, .one (.sl 1 1 0 l2.length)), (90, .one (.pt 0 0 0 0))] [.box [cl (eK .u8) r2.2.b, cb r2.2.bad], .arr 1 (eI.els l2)] (by kernel_rfl) (c_ref2_scan_number _ _ c22) (by kernel_rfl) (by kernel_rfl) (by kernel_rfl) (by kernel_rfl) ?_))
        refine zg [] 1 [1,2,7,9] (zd (hK21 _ _ (zq fun K23 hK23 => ?_)))
        obtain ⟨r3, c24, h⟩ := zB h
        refine zr (zv [] 1 [1,2,7,9,92] [] [(1, vi p2), (2, .one (.pt 0 0 0 0)), (7, .one (.sl 1 1 0 l2.length)), (9, vi r2.1), (92, .one (.pt 0 0 0 0))] [.box [cl (eK .u8) r2.2.b, cb r2.2.bad], .arr 1 (eI.els l2)] ?_)
        refine XO.calm 68 [.one (.pt 0 0 0 0)] [.box [cl (eK .u8) r2.2.b, cb r2.2.bad]] [.box [cl (eK .u8) r3.2.b, cb r3.2.bad]] (vi r3.1) [0] [(93, vi r3.1), (1, vi p2), (2, .one (.pt 0 0 0 0)), (7, .one (.sl 1 1 0 l2.length)), (9, vi r2.1), (92, .one (.pt 0 0 0 0))] [.box [cl (eK .u8) r3.2.b, cb r3.2.bad], .arr 1 (eI.els l2)] (by kernel_rfl) (c_ref2_scan_signed _ _ c24) (by kernel_rfl) (by kernel_rfl) (by kernel_rfl) (by kernel_rfl) (zg [] 1 [1,2,7,9,10] (zd (hK23 _ _ (zq fun K25 hK25 => ?_))))
        have hJ4 : ∀ (z5 : Bool), ref2_unnumbers_j4 (ref2_unnumbers_l2 p2 k2) l2 r2 r3 z5 = some r → ∀ fr1 st1, Sub 170 1 [] fr1 st1 [(1, vi p2), (2, .one (.pt 0 0 0 0)), (7, .one (.sl 1 1 0 l2.length)), (9, vi r2.1), (10, vi r3.1)] [.box [cl (eK .u8) r3.2.b, cb z5], .arr 1 (eI.els l2)] → K25 fr1 st1 := by
         intro z5 h fr1 st1 hS
         unfold ref2_unnumbers_j4 at h
         refine hK25 _ _ (XW.sub hS ?_)
         refine zq fun K29 hK29 => zr (zg [] 1 [1,2,7,9,10,11] (zd (hK29 _ _ (zb 7 (XW.rounds' BIG (x := cd Try.f43 [1,1,0,1,0,1,1,1,0,0,0,1,0,1,1,1,1,0,0]) (by kernel_rfl) fun Q3 hQ3 => ?_)))))
         have hL3 : ∀ (k3 : Nat) (l3 : List Int) (x5 : Int), ref2_unnumbers_l3 (ref2_unnumbers_l2 p2 k2) r2 r3 z5 k3 l3 x5 = some r → XR Try.prog 170 1 [] (cd Try.f43 [1,1,0,1,0,1,1,1,0,0,0,1,0,1,1,1,1,0,0]) Q3 k3 [(1, vi p2), (2, .one (.pt 0 0 0 0)), (7, .one (.sl 1 1 0 l3.length)), (9, vi r2.1), (10, vi r3.1), (11, vi x5)] [.box [cl (eK .u8) r3.2.b, cb z5], .arr 1 (eI.els l3)] := by
          intro k3
          induction k3 with
          | zero => intro l3 x5 h; rw [ref2_unnumbers_l3.eq_1] at h; cases h
          | succ k3 ih3 =>
           intro l3 x5 h
           rw [ref2_unnumbers_l3.eq_2] at h
           refine zq fun K30 hK30 => zq fun K31 hK31 => ?_
           have hJ5 : ∀ (x6 : Bool), ref2_unnumbers_j5 (ref2_unnumbers_l2 p2 k2) (ref2_unnumbers_l3 (ref2_unnumbers_l2 p2 k2) r2 r3 z5 k3) r3 z5 l3 x5 x6 = some r → ∀ fr1 st1, Sub 170 1 [] fr1 st1 [(1, vi p2), (2, .one (.pt 0 0 0 0)), (7, .one (.sl 1 1 0 l3.length)), (9, vi r2.1), (10, vi r3.1), (11, vi x5), (116, vb x6)] [.box [cl (eK .u8) r3.2.b, cb z5], .arr 1 (eI.els l3)] → K31 fr1 st1 := by
            intro x6 h fr1 st1 hS
            unfold ref2_unnumbers_j5 at h
            refine hK31 _ _ (XW.sub hS ?_)
            refine zC h (fun b33 h => ?_) (fun b33 h => ?_)
            ·refine zs (hK30 _ _ (zq fun K34 hK34 => zb 8 ?_))
             obtain ⟨g35, h⟩ := zG h
             refine zr (zp [] 4 [1,2,9,10,11,122] [] [(1, vi p2), (2, .one (.pt 0 0 0 0)), (9, vi r2.1), (10, vi r3.1), (11, vi x5), (122, .one (.sl 1 1 0 (l3.length + (eI.els [r3.1]).length)))] [.box [cl (eK .u8) r3.2.b, cb z5], .arr 1 (eI.els l3 ++ eI.els [r3.1])] [elemsOk 1 (eI.els [r3.1]), l3.length = (eI.els l3).length, l3.length + (eI.els [r3.1]).length ≤ 4294967296] (⟨eI.ok _, (eI.len l3).symm, g35, trivial⟩) ?_)
             rw [show l3.length + (eI.els [r3.1]).length = (l3 ++ [r3.1]).length from eI.lapp _ _]
             rw [show eI.els l3 ++ eI.els [r3.1] = eI.els (l3 ++ [r3.1]) from eI.app2 _ _]
             exact zg [] 1 [1,2,7,9,10,11] (zd (hK34 _ _ (zr (zg [] 3 [1,2,7,9,10,11] (zd (XR.sub (zk [1,2,7,9,10,11]) (ih3 (l3 ++ [r3.1]) (IntKind.i64.wrap (x5 + (1 : Int))) h)))))))
            ·exact zx 7 (hQ3 _ _ _ (XR.sub (zk [1,2,7]) (ih2 l3 r3.2.b z5 h)))
           rcases zW h with ⟨b32, h⟩ | ⟨b32, h⟩
           ·exact zr (zg [] 4 [1,2,7,9,10,11,110] (zt 110 b32 (zg [] 6 [1,2,7,9,10,11,116] (zd (hJ5 (!z5) h _ _ (zk [1,2,7,9,10,11,116]))))))
           ·exact zr (zv [] 4 [1,2,7,9,10,11,110] [] [(1, vi p2), (2, .one (.pt 0 0 0 0)), (7, .one (.sl 1 1 0 l3.length)), (9, vi r2.1), (10, vi r3.1), (11, vi x5), (110, vb (decide (x5 < r2.1)))] [.box [cl (eK .u8) r3.2.b, cb z5], .arr 1 (eI.els l3)] (zt 110 b32 (zg [] 6 [1,2,7,9,10,11,116] (zd (hJ5 false h _ _ (zk [1,2,7,9,10,11,116]))))))
         exact XR.sub (zk [1,2,7,9,10,11]) (hL3 BIG l2 (0 : Int) h)
        refine zq fun K26 hK26 => ?_
        have hJ3 : ∀ (x4 : Bool), ref2_unnumbers_j3 (ref2_unnumbers_l2 p2 k2) l2 r2 r3 x4 = some r → ∀ fr1 st1, Sub 170 1 [] fr1 st1 [(1, vi p2), (2, .one (.pt 0 0 0 0)), (7, .one (.sl 1 1 0 l2.length)), (9, vi r2.1), (10, vi r3.1), (103, vb x4)] [.box [cl (eK .u8) r3.2.b, cb r3.2.bad], .arr 1 (eI.els l2)] → K26 fr1 st1 := by
         intro x4 h fr1 st1 hS
         unfold ref2_unnumbers_j3 at h
         refine hK26 _ _ (XW.sub hS ?_)
         refine zC h (fun b28 h => ?_) (fun b28 h => ?_)
         ·exact zr (zg [] 4 [1,2,7,9,10] (zd (hJ4 true h _ _ (zk [1,2,7,9,10]))))
         ·exact zs (hJ4 r3.2.bad h _ _ (zk [1,2,7,9,10]))
        rcases zW h with ⟨b27, h⟩ | ⟨b27, h⟩
        ·exact zr (zg [] 3 [1,2,7,9,10,96] (zt 96 b27 (zv [] 7 [1,2,7,9,10,103] [] [(1, vi p2), (2, .one (.pt 0 0 0 0)), (7, .one (.sl 1 1 0 l2.length)), (9, vi r2.1), (10, vi r3.1), (103, vb true)] [.box [cl (eK .u8) r3.2.b, cb r3.2.bad], .arr 1 (eI.els l2)] (zd (hJ3 true h _ _ (zk [1,2,7,9,10,103]))))))
        ·exact zr (zg [] 3 [1,2,7,9,10,96] (zt 96 b27 (zg [] 7 [1,2,7,9,10,103] (zd (hJ3 (decide ((IntKind.i64.wrap (p2 - ((l2.length : Nat) : Int))) < r2.1)) h _ _ (zk [1,2,7,9,10,103]))))))
       ·exact zx 5 (hQ2 _ _ _ (hJ10 l2 z3 z4 h _ _ (zk [7])))
      rcases zW h with ⟨b19, h⟩ | ⟨b19, h⟩
      ·exact zr (zg [] 5 [1,2,7,83] (zt 83 b19 (zg [] 6 [1,2,7,89] (zd (hJ2 (!z4) h _ _ (zk [1,2,7,89]))))))
      ·exact zr (zv [] 5 [1,2,7,83] [] [(1, vi p2), (2, .one (.pt 0 0 0 0)), (7, .one (.sl 1 1 0 l2.length)), (83, vb (decide (((l2.length : Nat) : Int) < p2)))] [.box [cl (eK .u8) z3, cb z4], .arr 1 (eI.els l2)] (zt 83 b19 (zg [] 6 [1,2,7,89] (zd (hJ2 false h _ _ (zk [1,2,7,89]))))))
    exact XR.sub (zk [1,2,7]) (hL2 BIG [] p3.b p3.bad h)
   ·refine zq fun K36 hK36 => zr (zg [] 2 [1,2,7,19,123] (zd (hK36 _ _ (zC h (fun b37 h => ?_) (fun b37 h => ?_)))))
    ·refine zq fun K38 hK38 => zr (zv [] 1 [1,2,7,12] [] [(1, vi p2), (2, .one (.pt 0 0 0 0)), (7, .one (.pv (.s (.slice none 0 0)))), (12, vi (0 : Int))] [.box (qa1775 p3)] (zd (hK38 _ _ (zq fun K39 hK39 => zr (zv [] 1 [1,2,7,12,13] [] [(1, vi p2), (2, .one (.pt 0 0 0 0)), (7, .one (.pv (.s (.slice none 0 0)))), (12, vi (0 : Int)), (13, vi (0 : Int))] [.box (qa1775 p3)] ?_)))))
     refine zd (hK39 _ _ (zb 9 (XW.sub (Sub.list (t := 7) (sz := 1) rfl) (XW.rounds' BIG (x := cd Try.f43 [1,1,0,1,0,1,1,1,1,1,0,1,1,0,0]) (by kernel_rfl) fun Q4 hQ4 => ?_))))
     have hL4 : ∀ (k4 : Nat) (l4 : List Int) (z6 : List Int) (z7 : Bool) (x7 : Int) (x8 : Int), ref2_unnumbers_l4 p2 k4 l4 z6 z7 x7 x8 = some r → XR Try.prog 170 1 [] (cd Try.f43 [1,1,0,1,0,1,1,1,1,1,0,1,1,0,0]) Q4 k4 [(1, vi p2), (2, .one (.pt 0 0 0 0)), (7, .one (.sl 1 1 0 l4.length)), (12, vi x7), (13, vi x8)] [.box [cl (eK .u8) z6, cb z7], .arr 1 (eI.els l4)] := by
      intro k4
      induction k4 with
      | zero => intro l4 z6 z7 x7 x8 h; rw [ref2_unnumbers_l4.eq_1] at h; cases h
      | succ k4 ih4 =>
       intro l4 z6 z7 x7 x8 h
       rw [ref2_unnumbers_l4.eq_2] at h
       refine zq fun K40 hK40 => zq fun K41 hK41 => ?_
       have hJ6 : ∀ (x9 : Bool), ref2_unnumbers_j6 (ref2_unnumbers_l4 p2 k4) l4 z6 z7 x7 x8 x9 = some r → ∀ fr1 st1, Sub 170 1 [] fr1 st1 [(1, vi p2), (2, .one (.pt 0 0 0 0)), (7, .one (.sl 1 1 0 l4.length)), (12, vi x7), (13, vi x8), (134, vb x9)] [.box [cl (eK .u8) z6, cb z7], .arr 1 (eI.els l4)] → K41 fr1 st1 := by
        intro x9 h fr1 st1 hS
        unfold ref2_unnumbers_j6 at h
        refine hK41 _ _ (XW.sub hS ?_)
        refine zC h (fun b43 h => ?_) (fun b43 h => ?_)
        ·refine zs (hK40 _ _ (zq fun K44 hK44 => zb 10 (zq fun K45 hK45 => ?_)))
         obtain ⟨r4, c46, h⟩ := zB h
         refine zr (zv [] 1 [1,2,7,12,13,137] [] [(1, vi p2), (2, .one (.pt 0 0 0 0)), (7, .one (.sl 1 1 0 l4.length)), (12, vi x7), (13, vi x8), (137, .one (.pt 0 0 0 0))] [.box [cl (eK .u8) z6, cb z7], .arr 1 (eI.els l4)] ?_)
         refine XO.calm 68 [.one (.pt 0 0 0 0)] [.box [cl (eK .u8) z6, cb z7]] [.box (qa1811 r4)] (vi r4.1) [0] [(138, vi r4.1), (1, vi p2), (2, .one (.pt 0 0 0 0)), (7, .one (.sl 1 1 0 l4.length)), (12, vi x7), (13, vi x8), (137, .one (.pt 0 0 0 0))] [.box (qa1811 r4), .arr 1 (eI.els l4)] (by kernel_rfl) (c_ref2_scan_signed _ _ c46) (by kernel_rfl) (by kernel_rfl) (by kernel_rfl) (by kernel_rfl) (zg [] 1 [1,2,7,12,13,14] (zd (hK45 _ _ (zq fun K47 hK47 => zq fun K48 hK48 => ?_))))
         have hJ7 : ∀ (x10 : Bool), ref2_unnumbers_j7 (ref2_unnumbers_l4 p2 k4) l4 x7 x8 r4 x10 = some r → ∀ fr1 st1, Sub 170 1 [] fr1 st1 [(1, vi p2), (2, .one (.pt 0 0 0 0)), (7, .one (.sl 1 1 0 l4.length)), (12, vi x7), (13, vi x8), (14, vi r4.1), (144, vb x10)] [.box (qa1811 r4), .arr 1 (eI.els l4)] → K48 fr1 st1 := by
          intro x10 h fr1 st1 hS
          unfold ref2_unnumbers_j7 at h
          refine hK48 _ _ (XW.sub hS ?_)
          refine zC h (fun b50 h => ?_) (fun b50 h => ?_)
          ·refine zq fun K51 hK51 => zr (zg [] 4 [] (zd (hK51 _ _ (zq fun K52 hK52 => zr (zv [] 1 [6] [] qa1814 [.box [cl (eK .u8) r4.2.b, cb true], .arr 1 (eI.els l4)] ?_)))))
           refine zd (hK52 _ _ (ze (hQ4 _ _ _ ?_)))
           obtain rfl := Option.some.inj h
           exact FinM.fin (.inr rfl) [] [.one (.pv (.s (.slice none 0 0)))] [] (by kernel_rfl) trivial (by kernel_rfl) (by kernel_rfl) (.one (.nl))
          ·refine zs (hK47 _ _ (zq fun K53 hK53 => zr (zg [] 4 [1,2,7,12,13] (zd (hK53 _ _ (zq fun K54 hK54 => ?_))))))
           refine zq fun K55 hK55 => ?_
           have hJ8 : ∀ (x11 : Bool), ref2_unnumbers_j8 (ref2_unnumbers_l4 p2 k4) l4 x7 x8 r4 x11 = some r → ∀ fr1 st1, Sub 170 1 [] fr1 st1 [(1, vi p2), (2, .one (.pt 0 0 0 0)), (7, .one (.sl 1 1 0 l4.length)), (12, vi (IntKind.i64.wrap (x7 + r4.1))), (13, vi x8), (156, vb x11)] [.box (qa1811 r4), .arr 1 (eI.els l4)] → K55 fr1 st1 := by
            intro x11 h fr1 st1 hS
            unfold ref2_unnumbers_j8 at h
            refine hK55 _ _ (XW.sub hS ?_)
            refine zC h (fun b59 h => ?_) (fun b59 h => ?_)
            ·refine zq fun K60 hK60 => zr (zg [] 4 [] (zd (hK60 _ _ (zq fun K61 hK61 => zr (zv [] 1 [6] [] qa1814 [.box [cl (eK .u8) r4.2.b, cb true], .arr 1 (eI.els l4)] ?_)))))
             refine zd (hK61 _ _ (ze (hQ4 _ _ _ ?_)))
             obtain rfl := Option.some.inj h
             exact FinM.fin (.inr rfl) [] [.one (.pv (.s (.slice none 0 0)))] [] (by kernel_rfl) trivial (by kernel_rfl) (by kernel_rfl) (.one (.nl))
            ·refine zs (hK54 _ _ ?_)
             obtain ⟨g62, h⟩ := zG h
             refine zr (zp [] 4 [1,2,12,13,163] [] [(1, vi p2), (2, .one (.pt 0 0 0 0)), (12, vi (IntKind.i64.wrap (x7 + r4.1))), (13, vi x8), (163, .one (.sl 1 1 0 (l4.length + (eI.els [(IntKind.i64.wrap (x7 + r4.1))]).length)))] [.box [cl (eK .u8) r4.2.b, cb r4.2.bad], .arr 1 (eI.els l4 ++ eI.els [(IntKind.i64.wrap (x7 + r4.1))])] [elemsOk 1 (eI.els [(IntKind.i64.wrap (x7 + r4.1))]), l4.length = (eI.els l4).length, l4.length + (eI.els [(IntKind.i64.wrap (x7 + r4.1))]).length ≤ 4294967296] (⟨eI.ok _, (eI.len l4).symm, g62, trivial⟩) ?_)
             rw [show l4.length + (eI.els [(IntKind.i64.wrap (x7 + r4.1))]).length = (l4 ++ [(IntKind.i64.wrap (x7 + r4.1))]).length from eI.lapp _ _]
             rw [show eI.els l4 ++ eI.els [(IntKind.i64.wrap (x7 + r4.1))] = eI.els (l4 ++ [(IntKind.i64.wrap (x7 + r4.1))]) from eI.app2 _ _]
             exact zg [] 1 [1,2,7,12,13] (zd (hK44 _ _ (zr (zg [] 3 [1,2,7,12,13] (zd (XR.sub (zk [1,2,7,12,13]) (ih4 (l4 ++ [(IntKind.i64.wrap (x7 + r4.1))]) r4.2.b r4.2.bad (IntKind.i64.wrap (x7 + r4.1)) (IntKind.i64.wrap (x8 + (1 : Int))) h)))))))
           obtain ⟨y1, hy56, h⟩ := zB h
           rcases zW h with ⟨b57, h⟩ | ⟨b57, h⟩
           ·refine zr (zv [] 2 [1,2,7,12,13,152] [] [(1, vi p2), (2, .one (.pt 0 0 0 0)), (7, .one (.sl 1 1 0 l4.length)), (12, vi (IntKind.i64.wrap (x7 + r4.1))), (13, vi x8), (152, vb (decide ((IntKind.i64.wrap (x7 + r4.1)) < (-2000000000000000000 : Int))))] [.box [cl (eK .u8) r4.2.b, cb r4.2.bad], .arr 1 (eI.els l4)] ?_)
            rw [show (decide ((IntKind.i64.wrap (x7 + r4.1)) < (-2000000000000000000 : Int))) = y1 from Option.some.inj hy56]
            exact zg [] 1 [1,2,7,12,13,153] (zt 153 b57 (zg [] 3 [1,2,7,12,13,156] (zd (hJ8 true h _ _ (zk [1,2,7,12,13,156])))))
           ·obtain ⟨y2, hy58, h⟩ := zB h
            refine zr (zv [] 2 [1,2,7,12,13,152] [] [(1, vi p2), (2, .one (.pt 0 0 0 0)), (7, .one (.sl 1 1 0 l4.length)), (12, vi (IntKind.i64.wrap (x7 + r4.1))), (13, vi x8), (152, vb (decide ((IntKind.i64.wrap (x7 + r4.1)) < (-2000000000000000000 : Int))))] [.box [cl (eK .u8) r4.2.b, cb r4.2.bad], .arr 1 (eI.els l4)] ?_)
            rw [show (decide ((IntKind.i64.wrap (x7 + r4.1)) < (-2000000000000000000 : Int))) = y1 from Option.some.inj hy56]
            refine zg [] 1 [1,2,7,12,13,153] (zt 153 b57 (zv [] 2 [1,2,7,12,13,153,155] [] [(1, vi p2), (2, .one (.pt 0 0 0 0)), (7, .one (.sl 1 1 0 l4.length)), (12, vi (IntKind.i64.wrap (x7 + r4.1))), (13, vi x8), (153, vb false), (155, vb (decide ((2000000000000000000 : Int) < (IntKind.i64.wrap (x7 + r4.1)))))] [.box [cl (eK .u8) r4.2.b, cb r4.2.bad], .arr 1 (eI.els l4)] ?_))
            rw [show (decide ((2000000000000000000 : Int) < (IntKind.i64.wrap (x7 + r4.1)))) = y2 from Option.some.inj hy58]
            exact zg [] 1 [1,2,7,12,13,156] (zd (hJ8 y2 h _ _ (zk [1,2,7,12,13,156])))
         rcases zW h with ⟨b49, h⟩ | ⟨b49, h⟩
         ·exact zr (zg [] 3 [1,2,7,12,13,14,141] (zt 141 b49 (zv [] 3 [1,2,7,12,13,14,144] [] [(1, vi p2), (2, .one (.pt 0 0 0 0)), (7, .one (.sl 1 1 0 l4.length)), (12, vi x7), (13, vi x8), (14, vi r4.1), (144, vb true)] [.box (qa1811 r4), .arr 1 (eI.els l4)] (zd (hJ7 true h _ _ (zk [1,2,7,12,13,14,144]))))))
         ·exact zr (zg [] 3 [1,2,7,12,13,14,141] (zt 141 b49 (zg [] 3 [1,2,7,12,13,14,144] (zd (hJ7 (decide ((4000000000000000000 : Int) < r4.1)) h _ _ (zk [1,2,7,12,13,14,144]))))))
        ·exact zx 9 (hQ4 _ _ _ (hJ10 l4 z6 z7 h _ _ (zk [7])))
       rcases zW h with ⟨b42, h⟩ | ⟨b42, h⟩
       ·exact zr (zg [] 4 [1,2,7,12,13,128] (zt 128 b42 (zg [] 6 [1,2,7,12,13,134] (zd (hJ6 (!z7) h _ _ (zk [1,2,7,12,13,134]))))))
       ·exact zr (zv [] 4 [1,2,7,12,13,128] [] [(1, vi p2), (2, .one (.pt 0 0 0 0)), (7, .one (.sl 1 1 0 l4.length)), (12, vi x7), (13, vi x8), (128, vb (decide (x8 < p2)))] [.box [cl (eK .u8) z6, cb z7], .arr 1 (eI.els l4)] (zt 128 b42 (zg [] 6 [1,2,7,12,13,134] (zd (hJ6 false h _ _ (zk [1,2,7,12,13,134]))))))
     exact XR.sub (zk [1,2,7,12,13]) (hL4 BIG [] p3.b p3.bad (0 : Int) (0 : Int) h)
    ·refine zq fun K63 hK63 => zr (zg [] 2 [1,2,7,164] (zd (hK63 _ _ (zC h (fun b64 h => ?_) (fun b64 h => ?_)))))
     ·refine zq fun K65 hK65 => ?_
      obtain ⟨r5, c66, h⟩ := zB h
      refine zr (zv [] 2 [166,167] [] [(166, vi p2), (167, .one (.pt 0 0 0 0))] [.box (qa1775 p3)] (XO.calm 70 [vi p2, .one (.pt 0 0 0 0)] [.box (qa1775 p3)] [.box [cl (eK .u8) r5.2.b, cb r5.2.bad]] (vl eI r5.1) [0] [(168, vl eI r5.1), (166, vi p2), (167, .one (.pt 0 0 0 0))] [.box [cl (eK .u8) r5.2.b, cb r5.2.bad]] (by kernel_rfl) (c_ref2_unframe _ _ _ c66) (by kernel_rfl) (by kernel_rfl) (by kernel_rfl) (by kernel_rfl) (zv [] 1 [6] [] [(6, vl eI r5.1)] [.box [cl (eK .u8) r5.2.b, cb r5.2.bad]] (zd (hK65 _ _ (ze ?_))))))
      obtain rfl := Option.some.inj h
      exact FinM.fin (.inr rfl) [] [vl eI r5.1] [] (by kernel_rfl) trivial (by kernel_rfl) (by kernel_rfl) (.one (.rfl _ rfl))
     ·refine zq fun K67 hK67 => ?_
      obtain ⟨r6, c68, h⟩ := zB h
      refine zr (zv [] 1 [1,2,7,20] [] [(1, vi p2), (2, .one (.pt 0 0 0 0)), (7, .one (.pv (.s (.slice none 0 0)))), (20, .one (.pt 0 0 0 0))] [.box (qa1775 p3)] (XO.calm 69 [.one (.pt 0 0 0 0)] [.box (qa1775 p3)] (qa1859 r6) (vi r6.1) [0] [(21, vi r6.1), (1, vi p2), (2, .one (.pt 0 0 0 0)), (7, .one (.pv (.s (.slice none 0 0)))), (20, .one (.pt 0 0 0 0))] (qa1859 r6) (by kernel_rfl) (c_ref2_scan_number _ _ c68) (by kernel_rfl) (by kernel_rfl) (by kernel_rfl) (by kernel_rfl) (zg [] 1 [1,2,7,15] (zd ?_))))
      refine hK67 _ _ (zq fun K69 hK69 => zq fun K70 hK70 => zr (zg [] 3 [1,2,7,15,24] (zd (hK70 _ _ (zC h (fun b71 h => ?_) (fun b71 h => ?_))))))
      ·refine zq fun K72 hK72 => zr (zv [] 4 [] [] [] [.box [cl (eK .u8) r6.2.b, cb true]] (zd (hK72 _ _ (zq fun K73 hK73 => zr (zv [] 1 [6] [] qa1814 [.box [cl (eK .u8) r6.2.b, cb true]] ?_)))))
       refine zd (hK73 _ _ (ze ?_))
       obtain rfl := Option.some.inj h
       exact FinM.fin (.inr rfl) [] [.one (.pv (.s (.slice none 0 0)))] [] (by kernel_rfl) trivial (by kernel_rfl) (by kernel_rfl) (.one (.nl))
      ·refine zs (hK69 _ _ (zq fun K74 hK74 => ?_))
       obtain ⟨r7, c75, h⟩ := zB h
       refine zr (zv [] 2 [1,2,7,28,29] [] [(1, vi p2), (2, .one (.pt 0 0 0 0)), (7, .one (.pv (.s (.slice none 0 0)))), (28, vi r6.1), (29, .one (.pt 0 0 0 0))] (qa1859 r6) ?_)
       refine XO.calm 43 [vi (2 : Int), vi r6.1, .one (.pt 0 0 0 0)] (qa1859 r6) (qa1861 r7) (vl eI r7.1) [0] [(30, vl eI r7.1), (1, vi p2), (2, .one (.pt 0 0 0 0)), (7, .one (.pv (.s (.slice none 0 0)))), (28, vi r6.1), (29, .one (.pt 0 0 0 0))] (qa1861 r7) (by kernel_rfl) (c_ref2_unnumbers k0 _ _ _ _ c75) (by kernel_rfl) (by kernel_rfl) (by kernel_rfl) (by kernel_rfl) (zg [] 1 [1,2,7,16] (zd (hK74 _ _ (zq fun K76 hK76 => ?_))))
       obtain ⟨r8, c77, h⟩ := zB h
       refine zr (zv [] 2 [2,7,16,31,32] [] [(2, .one (.pt 0 0 0 0)), (7, .one (.pv (.s (.slice none 0 0)))), (16, vl eI r7.1), (31, vi p2), (32, .one (.pt 0 0 0 0))] (qa1861 r7) ?_)
       refine XO.calm 70 [vi p2, .one (.pt 0 0 0 0)] (qa1861 r7) [.box (qa1831 r8)] (vl eI r8.1) [0] [(33, vl eI r8.1), (2, .one (.pt 0 0 0 0)), (7, .one (.pv (.s (.slice none 0 0)))), (16, vl eI r7.1), (31, vi p2), (32, .one (.pt 0 0 0 0))] [.box (qa1831 r8)] (by kernel_rfl) (c_ref2_unframe _ _ _ c77) (by kernel_rfl) (by kernel_rfl) (by kernel_rfl) (by kernel_rfl) ?_
       refine zv [] 1 [2,7,16,33,34] [] [(2, .one (.pt 0 0 0 0)), (7, .one (.pv (.s (.slice none 0 0)))), (16, vl eI r7.1), (33, vl eI r8.1), (34, vi ((eI.els r8.1).length : Int))] [.box [cl (eK .u8) r8.2.b, cb r8.2.bad]] ?_
       rw [eI.len r8.1]
       refine zv [] 1 [2,7,16,33,34,35] [] [(2, .one (.pt 0 0 0 0)), (7, .one (.pv (.s (.slice none 0 0)))), (16, vl eI r7.1), (33, vl eI r8.1), (34, vi (r8.1.length : Int)), (35, vi (0 : Int))] [.box [cl (eK .u8) r8.2.b, cb r8.2.bad]] (zd (hK76 _ _ (zb 1 (XW.sub (Sub.list (t := 7) (sz := 1) rfl) (XW.rounds' BIG (x := cd Try.f43 [1,1,0,1,0,1,1,1,1,1,1,1,1,1,1,1,1,0,0]) (by kernel_rfl) fun Q5 hQ5 => ?_)))))
       have hL5 : ∀ (k5 : Nat) (l5 : List Int) (x12 : Int), ref2_unnumbers_l5 r7 r8 k5 l5 x12 = some r → XR Try.prog 170 1 [] (cd Try.f43 [1,1,0,1,0,1,1,1,1,1,1,1,1,1,1,1,1,0,0]) Q5 k5 [(2, .one (.pt 0 0 0 0)), (7, .one (.sl 1 1 0 l5.length)), (16, vl eI r7.1), (33, vl eI r8.1), (34, vi (r8.1.length : Int)), (35, vi x12)] [.box (qa1831 r8), .arr 1 (eI.els l5)] := by
        intro k5
        induction k5 with
        | zero => intro l5 x12 h; rw [ref2_unnumbers_l5.eq_1] at h; cases h
        | succ k5 ih5 =>
         intro l5 x12 h
         rw [ref2_unnumbers_l5.eq_2] at h
         refine zq fun K78 hK78 => zr (zg [] 1 [2,7,16,33,34,35,36] (zd (hK78 _ _ (zq fun K79 hK79 => zC h (fun b80 h => ?_) (fun b80 h => ?_)))))
         ·refine zs (hK79 _ _ (zq fun K81 hK81 => zb 2 (zq fun K82 hK82 => ?_)))
          obtain ⟨e1, a83, h⟩ := zB h
          refine zr (zo [] 3 [2,7,16,18,33,34,35] [[pi e1]] [0 ≤ x12 ∧ x12 < ((eI.els r8.1).length : Int) ∧ elemsOk 1 (eI.els r8.1), (eI.els r8.1)[x12.toNat]? = some [pi e1]] (⟨eI.inb a83, (eI.get a83), trivial⟩) (zd (hK82 _ _ (zq fun K84 hK84 => zq fun K85 hK85 => ?_))))
          have hJ9 : ∀ (x13 : Bool), ref2_unnumbers_j9 (ref2_unnumbers_l5 r7 r8 k5) r7 r8 l5 x12 e1 x13 = some r → ∀ fr1 st1, Sub 170 1 [] fr1 st1 [(2, .one (.pt 0 0 0 0)), (7, .one (.sl 1 1 0 l5.length)), (16, vl eI r7.1), (18, vi e1), (33, vl eI r8.1), (34, vi (r8.1.length : Int)), (35, vi x12), (46, vb x13)] [.box (qa1831 r8), .arr 1 (eI.els l5)] → K85 fr1 st1 := by
           intro x13 h fr1 st1 hS
           unfold ref2_unnumbers_j9 at h
           refine hK85 _ _ (XW.sub hS ?_)
           refine zC h (fun b87 h => ?_) (fun b87 h => ?_)
           ·refine zq fun K88 hK88 => zr (zg [] 4 [] (zd (hK88 _ _ (zq fun K89 hK89 => zr (zv [] 1 [6] [] qa1814 [.box [cl (eK .u8) r8.2.b, cb true], .arr 1 (eI.els l5)] ?_)))))
            refine zd (hK89 _ _ (ze (hQ5 _ _ _ ?_)))
            obtain rfl := Option.some.inj h
            exact FinM.fin (.inr rfl) [] [.one (.pv (.s (.slice none 0 0)))] [] (by kernel_rfl) trivial (by kernel_rfl) (by kernel_rfl) (.one (.nl))
           ·refine zs (hK84 _ _ ?_)
            obtain ⟨e2, a90, h⟩ := zB h
            obtain ⟨g91, h⟩ := zG h
            refine zr (zp [] 7 [2,16,33,34,35,56] [[pi e2]] [(2, .one (.pt 0 0 0 0)), (16, vl eI r7.1), (33, vl eI r8.1), (34, vi (r8.1.length : Int)), (35, vi x12), (56, .one (.sl 1 1 0 (l5.length + (eI.els [e2]).length)))] [.box [cl (eK .u8) r8.2.b, cb r8.2.bad], .arr 1 (eI.els l5 ++ eI.els [e2])] [0 ≤ e1 ∧ e1 < ((eI.els r7.1).length : Int) ∧ elemsOk 1 (eI.els r7.1), (eI.els r7.1)[e1.toNat]? = some [pi e2], elemsOk 1 (eI.els [e2]), l5.length = (eI.els l5).length, l5.length + (eI.els [e2]).length ≤ 4294967296] (⟨eI.inb a90, (eI.get a90), eI.ok _, (eI.len l5).symm, g91, trivial⟩) ?_)
            rw [show l5.length + (eI.els [e2]).length = (l5 ++ [e2]).length from eI.lapp _ _]
            rw [show eI.els l5 ++ eI.els [e2] = eI.els (l5 ++ [e2]) from eI.app2 _ _]
            exact zg [] 1 [2,7,16,33,34,35] (zd (hK81 _ _ (zr (zg [] 2 [2,7,16,33,34,35] (zd (XR.sub (zk [2,7,16,33,34,35]) (ih5 (l5 ++ [e2]) (IntKind.i64.wrap (x12 + (1 : Int))) h)))))))
          rcases zW h with ⟨b86, h⟩ | ⟨b86, h⟩
          ·exact zr (zv [] 3 [2,7,16,18,33,34,35,41] [] [(2, .one (.pt 0 0 0 0)), (7, .one (.sl 1 1 0 l5.length)), (16, vl eI r7.1), (18, vi e1), (33, vl eI r8.1), (34, vi (r8.1.length : Int)), (35, vi x12), (41, vb (decide (e1 < (0 : Int))))] [.box (qa1831 r8), .arr 1 (eI.els l5)] (zt 41 b86 (zg [] 5 [2,7,16,18,33,34,35,46] (zd (hJ9 true h _ _ (zk [2,7,16,18,33,34,35,46]))))))
          ·refine zr (zg [] 3 [2,7,16,18,33,34,35,41] (zt 41 b86 (zv [] 3 [2,7,16,18,33,34,35,41,42,44] [] [(2, .one (.pt 0 0 0 0)), (7, .one (.sl 1 1 0 l5.length)), (16, vl eI r7.1), (18, vi e1), (33, vl eI r8.1), (34, vi (r8.1.length : Int)), (35, vi x12), (41, vb false), (42, vi e1), (44, vi ((eI.els r7.1).length : Int))] [.box [cl (eK .u8) r8.2.b, cb r8.2.bad], .arr 1 (eI.els l5)] ?_)))
           rw [eI.len r7.1]
           exact zg [] 2 [2,7,16,18,33,34,35,46] (zd (hJ9 (decide ((r7.1.length : Int) ≤ e1)) h _ _ (zk [2,7,16,18,33,34,35,46])))
         ·exact zx 1 (hQ5 _ _ _ (hJ10 l5 r8.2.b r8.2.bad h _ _ (zk [7])))
       exact XR.sub (zk [2,7,16,33,34,35]) (hL5 BIG [] (0 : Int) h)

def ref2_sameBytes (p1 : (List Int)) (p2 : (List Int)) : Option Bool :=
    some ((strOfNums p1).toList == (strOfNums p2).toList)


theorem c_ref2_sameBytes (p1 : (List Int)) (p2 : (List Int)) (r : Bool) (h : ref2_sameBytes p1 p2 = some r) : PC Try.prog 44 [vl (eK .u8) p1, vl (eK .u8) p2] (vb r) := by
 unfold ref2_sameBytes at h
 refine zF 10 Try.f44 (zq fun K1 hK1 => zr (zg [] 1 [0,1] (zd (hK1 _ _ (zq fun K2 hK2 => zr ?_)))))
 refine zp [] 2 [1,6] [] [(1, vl (eK .u8) p2), (6, vs (strOfEls ((eK .u8).els p1)))] [] [bytesOk ((eK .u8).els p1)] (⟨bytesOk_eK _, trivial⟩) ?_
 rw [strOf_eK p1]
 refine zp [] 2 [6,8] [] [(6, vs (strOfNums p1)), (8, vs (strOfEls ((eK .u8).els p2)))] [] [bytesOk ((eK .u8).els p2)] (⟨bytesOk_eK _, trivial⟩) ?_
 rw [strOf_eK p2]
 refine zg [] 2 [4] (zd (hK2 _ _ (ze ?_)))
 obtain rfl := Option.some.inj h
 exact zf [vb ((strOfNums p1).toList == (strOfNums p2).toList)] (.one (.rfl _ rfl))

def ref2_Unnumbers_j2 (r1 : ((List Int) × GScan)) (x2 : Bool) : Option ((List Int) × Int) :=
    ift x2
      (some ([], (1 : Int)))
      (some (r1.1, (0 : Int)))

def ref2_Unnumbers_j1 (p1 : Int) (p2 : Int) (p3 : (List Int)) (x1 : Bool) : Option ((List Int) × Int) :=
    ift x1
      (some ([], (3 : Int)))
      (bnd (ref2_unnumbers BIG p1 p2 (GScan.mk p3 false)) fun r1 =>
       ift r1.2.bad
         (ref2_Unnumbers_j2 r1 true)
         (ift ((r1.1.length : Int) != p2)
            (ref2_Unnumbers_j2 r1 true)
            (bnd (ref2_inRange r1.1) fun r2 =>
             ift (!r2)
               (ref2_Unnumbers_j2 r1 true)
               (bnd (ref2_numbers BIG p1 r1.1) fun r3 =>
                bnd (ref2_sameBytes r3 p3) fun r4 =>
                ref2_Unnumbers_j2 r1 (!r4)))))

def ref2_Unnumbers (p1 : Int) (p2 : Int) (p3 : (List Int)) : Option ((List Int) × Int) :=
    ift (decide (p1 < (0 : Int)))
      (ref2_Unnumbers_j1 p1 p2 p3 true)
      (ift (decide ((4 : Int) < p1))
         (ref2_Unnumbers_j1 p1 p2 p3 true)
         (ift (decide (p2 < (0 : Int)))
            (ref2_Unnumbers_j1 p1 p2 p3 true)
            (ref2_Unnumbers_j1 p1 p2 p3 (decide ((1048576 : Int) < p2)))))

abbrev qa1868 (r1 : ((List Int) × GScan)) : List CV := [cl (eK .u8) r1.2.b, cb r1.2.bad]

theorem c_ref2_Unnumbers (p1 : Int) (p2 : Int) (p3 : (List Int)) (r : ((List Int) × Int)) (h : ref2_Unnumbers p1 p2 p3 = some r) : PC Try.prog 24 [vi p1, vi p2, vl (eK .u8) p3] (.tp [vl eI r.1, vi r.2]) := by
 unfold ref2_Unnumbers at h
 refine zF 55 Try.f24 (zq fun K1 hK1 => zr (zg [26] 2 [0,1,2] (zd (hK1 _ _ (zq fun K2 hK2 => zq fun K3 hK3 => ?_)))))
 have hJ1 : ∀ (x1 : Bool), ref2_Unnumbers_j1 p1 p2 p3 x1 = some r → ∀ fr1 st1, Sub 55 0 [] fr1 st1 [(0, vi p1), (1, vi p2), (2, vl (eK .u8) p3), (23, vb x1)] [] → K3 fr1 st1 := by
  intro x1 h fr1 st1 hS
  unfold ref2_Unnumbers_j1 at h
  refine hK3 _ _ (XW.sub hS ?_)
  refine zC h (fun b7 h => ?_) (fun b7 h => ?_)
  ·refine zq fun K8 hK8 => zr (zg [26] 2 [6,7] (zd (hK8 _ _ (ze ?_))))
   obtain rfl := Option.some.inj h
   exact zf [.one (.pv (.s (.slice none 0 0))), vi (3 : Int)] (.tpc (.one (.nl)) (.tpc (.one (.rfl _ rfl)) (.tp0)))
  ·refine zs (hK2 _ _ (zq fun K9 hK9 => zr (zg [26] 4 [0,1,2,8] (zd (hK9 _ _ (zq fun K10 hK10 => ?_))))))
   obtain ⟨r1, c11, h⟩ := zB h
   refine zr (zv [26] 3 [0,1,2,8,27,28,29] [] [(0, vi p1), (1, vi p2), (2, vl (eK .u8) p3), (8, .one (.pt 0 0 0 0)), (27, vi p1), (28, vi p2), (29, .one (.pt 0 0 0 0))] [.box [cl (eK .u8) p3, cb false]] ?_)
   refine XO.calm 43 [vi p1, vi p2, .one (.pt 0 0 0 0)] [.box [cl (eK .u8) p3, cb false]] [.box (qa1868 r1)] (vl eI r1.1) [0] [(30, vl eI r1.1), (0, vi p1), (1, vi p2), (2, vl (eK .u8) p3), (8, .one (.pt 0 0 0 0)), (27, vi p1), (28, vi p2), (29, .one (.pt 0 0 0 0))] [.box (qa1868 r1)] (by kernel_rfl) (c_ref2_unnumbers BIG _ _ _ _ c11) (by kernel_rfl) (by kernel_rfl) (by kernel_rfl) (by kernel_rfl) (zg [26] 1 [0,1,2,8,9] (zd (hK10 _ _ (zq fun K12 hK12 => zq fun K13 hK13 => ?_))))
   have hJ2 : ∀ (x2 : Bool), ref2_Unnumbers_j2 r1 x2 = some r → ∀ fr1 st1, Sub 55 0 [] fr1 st1 [(9, vl eI r1.1), (53, vb x2)] [.box (qa1868 r1)] → K13 fr1 st1 := by
    intro x2 h fr1 st1 hS
    unfold ref2_Unnumbers_j2 at h
    refine hK13 _ _ (XW.sub hS ?_)
    refine zC h (fun b20 h => ?_) (fun b20 h => ?_)
    ·refine zq fun K21 hK21 => zr (zg [26] 2 [6,7] (zd (hK21 _ _ (ze ?_))))
     obtain rfl := Option.some.inj h
     exact zf [.one (.pv (.s (.slice none 0 0))), vi (1 : Int)] (.tpc (.one (.nl)) (.tpc (.one (.rfl _ rfl)) (.tp0)))
    ·refine zs (hK12 _ _ (zq fun K22 hK22 => zr (zg [26] 3 [6,7] (zd (hK22 _ _ (ze ?_))))))
     obtain rfl := Option.some.inj h
     exact zf [vl eI r1.1, vi (0 : Int)] (.tpc (.one (.rfl _ rfl)) (.tpc (.one (.rfl _ rfl)) (.tp0)))
   rcases zW h with ⟨b14, h⟩ | ⟨b14, h⟩
   ·exact zr (zg [26] 5 [0,1,2,9,35] (zt 35 b14 (zv [26] 18 [9,53] [] [(9, vl eI r1.1), (53, vb true)] [.box (qa1868 r1)] (zd (hJ2 true h _ _ (zk [9,53]))))))
   ·rcases zW h with ⟨b15, h⟩ | ⟨b15, h⟩
    ·refine zr (zg [26] 5 [0,1,2,9,35] (zt 35 b14 (zv [26] 2 [0,1,2,9,35,37] [] [(0, vi p1), (1, vi p2), (2, vl (eK .u8) p3), (9, vl eI r1.1), (35, vb false), (37, vi ((eI.els r1.1).length : Int))] [.box [cl (eK .u8) r1.2.b, cb r1.2.bad]] ?_)))
     rw [eI.len r1.1]
     exact zg [26] 4 [0,2,9,41] (zt 41 b15 (zg [26] 12 [9,53] (zd (hJ2 true h _ _ (zk [9,53])))))
    ·obtain ⟨r2, c16, h⟩ := zB h
     rcases zW h with ⟨b17, h⟩ | ⟨b17, h⟩
     ·refine zr (zv [26] 5 [0,1,2,9,35] [] [(0, vi p1), (1, vi p2), (2, vl (eK .u8) p3), (9, vl eI r1.1), (35, vb r1.2.bad)] [.box [cl (eK .u8) r1.2.b, cb r1.2.bad]] (zt 35 b14 (zv [26] 2 [0,1,2,9,35,37] [] [(0, vi p1), (1, vi p2), (2, vl (eK .u8) p3), (9, vl eI r1.1), (35, vb false), (37, vi ((eI.els r1.1).length : Int))] [.box [cl (eK .u8) r1.2.b, cb r1.2.bad]] ?_)))
      rw [eI.len r1.1]
      refine zg [26] 4 [0,2,9,41] (zt 41 b15 (zg [26] 1 [0,2,9,41,42] (zl 40 [vl eI r1.1] (vb r2) [(43, vb r2), (0, vi p1), (2, vl (eK .u8) p3), (9, vl eI r1.1), (41, vb false), (42, vl eI r1.1)] (c_ref2_inRange _ _ c16) (zg [26] 3 [0,2,9,46] (zt 46 b17 (zg [26] 7 [9,53] (zd ?_)))))))
      exact hJ2 true h _ _ (zk [9,53])
     ·obtain ⟨r3, c18, h⟩ := zB h
      obtain ⟨r4, c19, h⟩ := zB h
      refine zr (zv [26] 5 [0,1,2,9,35] [] [(0, vi p1), (1, vi p2), (2, vl (eK .u8) p3), (9, vl eI r1.1), (35, vb r1.2.bad)] [.box [cl (eK .u8) r1.2.b, cb r1.2.bad]] (zt 35 b14 (zv [26] 2 [0,1,2,9,35,37] [] [(0, vi p1), (1, vi p2), (2, vl (eK .u8) p3), (9, vl eI r1.1), (35, vb false), (37, vi ((eI.els r1.1).length : Int))] [.box [cl (eK .u8) r1.2.b, cb r1.2.bad]] ?_)))
      rw [eI.len r1.1]
      refine zg [26] 4 [0,2,9,41] (zt 41 b15 (zg [26] 1 [0,2,9,41,42] (zl 40 [vl eI r1.1] (vb r2) [(43, vb r2), (0, vi p1), (2, vl (eK .u8) p3), (9, vl eI r1.1), (41, vb false), (42, vl eI r1.1)] (c_ref2_inRange _ _ c16) (zg [26] 3 [0,2,9,46] (zt 46 b17 (zg [26] 2 [2,9,46,47,48] (zl 41 [vi p1, vl eI r1.1] (vl (eK .u8) r3) [(49, vl (eK .u8) r3), (2, vl (eK .u8) p3), (9, vl eI r1.1), (46, vb false), (47, vi p1), (48, vl eI r1.1)] (c_ref2_numbers BIG _ _ _ c18) ?_)))))))
      exact zg [26] 1 [9,46,49,50] (za (c_ref2_sameBytes _ _ _ c19) (zv [26] 2 [9,53] [] [(9, vl eI r1.1), (53, vb (!r4))] [.box (qa1868 r1)] (zd (hJ2 (!r4) h _ _ (zk [9,53])))))
 rcases zW h with ⟨b4, h⟩ | ⟨b4, h⟩
 ·exact zr (zg [26] 3 [0,1,2,12] (zt 12 b4 (zv [26] 11 [0,1,2,23] [] [(0, vi p1), (1, vi p2), (2, vl (eK .u8) p3), (23, vb true)] [] (zd (hJ1 true h _ _ (zk [0,1,2,23]))))))
 ·rcases zW h with ⟨b5, h⟩ | ⟨b5, h⟩
  ·exact zr (zg [26] 3 [0,1,2,12] (zt 12 b4 (zg [26] 4 [0,1,2,16] (zt 16 b5 (zv [26] 7 [0,1,2,23] [] [(0, vi p1), (1, vi p2), (2, vl (eK .u8) p3), (23, vb true)] [] (zd (hJ1 true h _ _ (zk [0,1,2,23]))))))))
  ·rcases zW h with ⟨b6, h⟩ | ⟨b6, h⟩
   ·refine zr (zg [26] 3 [0,1,2,12] (zt 12 b4 (zg [26] 4 [0,1,2,16] (zt 16 b5 (zv [26] 4 [0,1,2,20] [] [(0, vi p1), (1, vi p2), (2, vl (eK .u8) p3), (20, vb (decide (p2 < (0 : Int))))] [] (zt 20 b6 (zg [26] 3 [0,1,2,23] ?_)))))))
    exact zd (hJ1 true h _ _ (zk [0,1,2,23]))
   ·refine zr (zg [26] 3 [0,1,2,12] (zt 12 b4 (zv [26] 4 [0,1,2,16] [] [(0, vi p1), (1, vi p2), (2, vl (eK .u8) p3), (16, vb (decide ((4 : Int) < p1)))] [] (zt 16 b5 (zg [26] 4 [0,1,2,20] (zt 20 b6 (zg [26] 3 [0,1,2,23] ?_)))))))
    exact zd (hJ1 (decide ((1048576 : Int) < p2)) h _ _ (zk [0,1,2,23]))

def column_Pack_1_s_j1 (x1 : Bool) : Option Bool :=
    some x1

def column_Pack_1_s (p1 : Int) (p2 : Int) : Option Bool :=
    ift (decide (p1 < (0 : Int)))
      (column_Pack_1_s_j1 true)
      (grd (0 ≤ p2) <|
       bnd (some (IntKind.i64.wrap ((1 : Int) * 2 ^ (min p2.toNat (IntKind.i64).bits)))) fun y1 =>
       column_Pack_1_s_j1 (decide (y1 ≤ p1)))


theorem c_column_Pack_1_s (p1 : Int) (p2 : Int) (r : Bool) (h : column_Pack_1_s p1 p2 = some r) : PC Try.prog 71 [vi p1, .one (.pv (.rp [[pi p2]] 0 0))] (vb r) := by
 unfold column_Pack_1_s at h
 refine zF 12 Try.f71 (zq fun K1 hK1 => zr (zg [] 1 [0,1] (zd (hK1 _ _ (zq fun K2 hK2 => ?_)))))
 have hJ1 : ∀ (x1 : Bool), column_Pack_1_s_j1 x1 = some r → ∀ fr1 st1, Sub 12 0 [] fr1 st1 [(3, vb x1)] [] → K2 fr1 st1 := by
  intro x1 h fr1 st1 hS
  unfold column_Pack_1_s_j1 at h
  refine hK2 _ _ (XW.sub hS ?_)
  refine ze ?_
  obtain rfl := Option.some.inj h
  exact zf [vb x1] (.one (.rfl _ rfl))
 rcases zW h with ⟨b3, h⟩ | ⟨b3, h⟩
 ·exact zr (zg [] 3 [0,1,6] (zt 6 b3 (zv [] 6 [3] [] [(3, vb true)] [] (zd (hJ1 true h _ _ (zk [3]))))))
 ·obtain ⟨g4, h⟩ := zG h
  obtain ⟨y1, hy5, h⟩ := zB h
  refine zr (zg [] 3 [0,1,6] (zt 6 b3 (zp [] 3 [6,7,9] [[pi p2]] [(6, vb false), (7, vi p1), (9, vi (IntKind.i64.wrap ((1 : Int) * 2 ^ (min p2.toNat (IntKind.i64).bits))))] [] [([[pi p2]] : List (List PV))[0]? = some [pi p2], 0 ≤ p2] (⟨rfl, g4, trivial⟩) ?_)))
  rw [show (IntKind.i64.wrap ((1 : Int) * 2 ^ (min p2.toNat (IntKind.i64).bits))) = y1 from Option.some.inj hy5]
  exact zg [] 3 [3] (zd (hJ1 (decide (y1 ≤ p1)) h _ _ (zk [3])))

def slices_IndexFunc_int_int_of_column_Pack_1_j1 : Option Int :=
    some (-1 : Int)

def slices_IndexFunc_int_int_of_column_Pack_1_l1 (p1 : (List Int)) (p2 : Int) : Nat → Int → Option Int
  | 0, _ => none
  | k1 + 1, x1 =>
    ift (decide (x1 < (p1.length : Int)))
      (bnd (at? p1 x1) fun e1 =>
       bnd (column_Pack_1_s e1 p2) fun r1 =>
       ift r1
         (some x1)
         ((slices_IndexFunc_int_int_of_column_Pack_1_l1 p1 p2 k1) (IntKind.i64.wrap (x1 + (1 : Int)))))
      (slices_IndexFunc_int_int_of_column_Pack_1_j1)

def slices_IndexFunc_int_int_of_column_Pack_1 (p1 : (List Int)) (p2 : Int) : Option Int :=
    slices_IndexFunc_int_int_of_column_Pack_1_l1 p1 p2 BIG (0 : Int)


theorem c_slices_IndexFunc_int_int_of_column_Pack_1 (p1 : (List Int)) (p2 : Int) (r : Int) (h : slices_IndexFunc_int_int_of_column_Pack_1 p1 p2 = some r) : PC Try.prog 51 [vl eI p1, .one (.fn 71 [.pv (.rp [[pi p2]] 0 0)])] (vi r) := by
 unfold slices_IndexFunc_int_int_of_column_Pack_1 at h
 refine zF 19 Try.f51 (zq fun K1 hK1 => zr (zg [] 1 [0,1] (zd (hK1 _ _ (zq fun K2 hK2 => ?_)))))
 have hJ1 : ∀ (_ : Unit), slices_IndexFunc_int_int_of_column_Pack_1_j1 = some r → ∀ fr1 st1, Sub 19 0 [] fr1 st1 [] [] → K2 fr1 st1 := by
  intro _ h fr1 st1 hS
  unfold slices_IndexFunc_int_int_of_column_Pack_1_j1 at h
  refine hK2 _ _ (XW.sub hS ?_)
  refine zq fun K14 hK14 => zr (zg [] 1 [4] (zd (hK14 _ _ (ze ?_))))
  obtain rfl := Option.some.inj h
  exact zf [vi (-1 : Int)] (.one (.rfl _ rfl))
 refine zq fun K3 hK3 => zr (zv [] 2 [0,1,7] [] [(0, vl eI p1), (1, .one (.fn 71 [.pv (.rp [[pi p2]] 0 0)])), (7, vi ((eI.els p1).length : Int))] [] ?_)
 rw [eI.len p1]
 refine zg [] 1 [0,1,7,8] (zd (hK3 _ _ (zb 0 (XW.rounds' BIG (x := cd Try.f51 [1,0,1,0,0]) (by kernel_rfl) fun Q1 hQ1 => ?_))))
 have hL1 : ∀ (k1 : Nat) (x1 : Int), slices_IndexFunc_int_int_of_column_Pack_1_l1 p1 p2 k1 x1 = some r → XR Try.prog 19 0 [] (cd Try.f51 [1,0,1,0,0]) Q1 k1 [(0, vl eI p1), (1, .one (.fn 71 [.pv (.rp [[pi p2]] 0 0)])), (7, vi (p1.length : Int)), (8, vi x1)] [] := by
  intro k1
  induction k1 with
  | zero => intro x1 h; rw [slices_IndexFunc_int_int_of_column_Pack_1_l1.eq_1] at h; cases h
  | succ k1 ih1 =>
   intro x1 h
   rw [slices_IndexFunc_int_int_of_column_Pack_1_l1.eq_2] at h
   refine zq fun K4 hK4 => zr (zg [] 1 [0,1,7,8,9] (zd (hK4 _ _ (zq fun K5 hK5 => zC h (fun b6 h => ?_) (fun b6 h => ?_)))))
   ·refine zs (hK5 _ _ (zq fun K7 hK7 => zb 1 (zq fun K8 hK8 => zr (zg [] 2 [0,1,5,7,8] (zd ?_)))))
    refine hK8 _ _ (zq fun K9 hK9 => ?_)
    obtain ⟨e1, a10, h⟩ := zB h
    obtain ⟨r1, c11, h⟩ := zB h
    refine zr (zp [] 5 [0,1,5,7,8,11,15] [[pi e1]] [(0, vl eI p1), (1, .one (.fn 71 [.pv (.rp [[pi p2]] 0 0)])), (5, vi x1), (7, vi (p1.length : Int)), (8, vi x1), (11, .one (.fn 71 [.pv (.rp [[pi p2]] 0 0)])), (15, vi e1)] [] [0 ≤ x1 ∧ x1 < ((eI.els p1).length : Int) ∧ elemsOk 1 (eI.els p1), (eI.els p1)[x1.toNat]? = some [pi e1]] (⟨eI.inb a10, (eI.get a10), trivial⟩) (za (c_column_Pack_1_s _ _ _ c11) (zd (hK9 _ _ (zC h (fun b12 h => ?_) (fun b12 h => ?_))))))
    ·refine zq fun K13 hK13 => zr (zg [] 2 [4] (zd (hK13 _ _ (ze (hQ1 _ _ _ ?_)))))
     obtain rfl := Option.some.inj h
     exact zf [vi x1] (.one (.rfl _ rfl))
    ·exact zs (hK7 _ _ (zr (zv [] 2 [0,1,7,8] [] [(0, vl eI p1), (1, .one (.fn 71 [.pv (.rp [[pi p2]] 0 0)])), (7, vi (p1.length : Int)), (8, vi (IntKind.i64.wrap (x1 + (1 : Int))))] [] (zd (XR.sub (zk [0,1,7,8]) (ih1 (IntKind.i64.wrap (x1 + (1 : Int))) h))))))
   ·exact zx 0 (hQ1 _ _ _ (hJ1 () h _ _ (zk [])))
 exact XR.sub (zk [0,1,7,8]) (hL1 BIG (0 : Int) h)

def slices_ContainsFunc_int_int_of_column_Pack_1 (p1 : (List Int)) (p2 : Int) : Option Bool :=
    bnd (slices_IndexFunc_int_int_of_column_Pack_1 p1 p2) fun r1 =>
    some (decide ((0 : Int) ≤ r1))


theorem c_slices_ContainsFunc_int_int_of_column_Pack_1 (p1 : (List Int)) (p2 : Int) (r : Bool) (h : slices_ContainsFunc_int_int_of_column_Pack_1 p1 p2 = some r) : PC Try.prog 37 [vl eI p1, .one (.fn 71 [.pv (.rp [[pi p2]] 0 0)])] (vb r) := by
 unfold slices_ContainsFunc_int_int_of_column_Pack_1 at h
 refine zF 9 Try.f37 (zq fun K1 hK1 => zr (zg [] 1 [0,1] (zd (hK1 _ _ (zq fun K2 hK2 => ?_)))))
 obtain ⟨r1, c3, h⟩ := zB h
 refine zr (zg [] 2 [5,6] (zl 51 [vl eI p1, .one (.fn 71 [.pv (.rp [[pi p2]] 0 0)])] (vi r1) [(7, vi r1), (5, vl eI p1), (6, .one (.fn 71 [.pv (.rp [[pi p2]] 0 0)]))] (c_slices_IndexFunc_int_int_of_column_Pack_1 _ _ _ c3) (zg [] 2 [4] (zd (hK2 _ _ (ze ?_))))))
 obtain rfl := Option.some.inj h
 exact zf [vb (decide ((0 : Int) ≤ r1))] (.one (.rfl _ rfl))

def column_Pack_j1 (p1 : Int) (p2 : (List Int)) (x1 : Bool) : Option ((List Int) × Int) :=
    ift x1
      (some ([], (3 : Int)))
      (bnd (column_pack p1 p2) fun r2 =>
       some (r2, (0 : Int)))

def column_Pack (p1 : Int) (p2 : (List Int)) : Option ((List Int) × Int) :=
    ift (decide (p1 < (0 : Int)))
      (column_Pack_j1 p1 p2 true)
      (ift (decide ((62 : Int) < p1))
         (column_Pack_j1 p1 p2 true)
         (bnd (slices_ContainsFunc_int_int_of_column_Pack_1 p2 p1) fun r1 =>
          column_Pack_j1 p1 p2 r1))


theorem c_column_Pack (p1 : Int) (p2 : (List Int)) (r : ((List Int) × Int)) (h : column_Pack p1 p2 = some r) : PC Try.prog 45 [vi p1, vl eI p2] (.tp [vl (eK .u8) r.1, vi r.2]) := by
 unfold column_Pack at h
 refine zF 20 Try.f45 (zq fun K1 hK1 => zr (zg [] 3 [1,2] (zd (hK1 _ _ (zq fun K2 hK2 => zq fun K3 hK3 => ?_)))))
 have hJ1 : ∀ (x1 : Bool), column_Pack_j1 p1 p2 x1 = some r → ∀ fr1 st1, Sub 20 0 [] fr1 st1 [(1, vl eI p2), (2, .one (.pv (.rp [[pi p1]] 0 0))), (16, vb x1)] [] → K3 fr1 st1 := by
  intro x1 h fr1 st1 hS
  unfold column_Pack_j1 at h
  refine hK3 _ _ (XW.sub hS ?_)
  refine zC h (fun b7 h => ?_) (fun b7 h => ?_)
  ·refine zq fun K8 hK8 => zr (zg [] 2 [4,5] (zd (hK8 _ _ (ze ?_))))
   obtain rfl := Option.some.inj h
   exact zf [.one (.pv (.s (.slice none 0 0))), vi (3 : Int)] (.tpc (.one (.nl)) (.tpc (.one (.rfl _ rfl)) (.tp0)))
  ·refine zs (hK2 _ _ (zq fun K9 hK9 => ?_))
   obtain ⟨r2, c10, h⟩ := zB h
   refine zr (zu [] 2 [17,18] [[pi p1]] (zl 72 [vi p1, vl eI p2] (vl (eK .u8) r2) [(19, vl (eK .u8) r2), (17, vi p1), (18, vl eI p2)] (c_column_pack _ _ _ c10) (zg [] 2 [4,5] (zd (hK9 _ _ (ze ?_))))))
   obtain rfl := Option.some.inj h
   exact zf [vl (eK .u8) r2, vi (0 : Int)] (.tpc (.one (.rfl _ rfl)) (.tpc (.one (.rfl _ rfl)) (.tp0)))
 rcases zW h with ⟨b4, h⟩ | ⟨b4, h⟩
 ·exact zr (zu [] 3 [1,2,8] [[pi p1]] (zt 8 b4 (zv [] 8 [1,2,16] [] [(1, vl eI p2), (2, .one (.pv (.rp [[pi p1]] 0 0))), (16, vb true)] [] (zd (hJ1 true h _ _ (zk [1,2,16]))))))
 ·rcases zW h with ⟨b5, h⟩ | ⟨b5, h⟩
  ·exact zr (zu [] 3 [1,2,8] [[pi p1]] (zt 8 b4 (zu [] 4 [1,2,12] [[pi p1]] (zt 12 b5 (zv [] 4 [1,2,16] [] [(1, vl eI p2), (2, .one (.pv (.rp [[pi p1]] 0 0))), (16, vb true)] [] (zd (hJ1 true h _ _ (zk [1,2,16]))))))))
  ·obtain ⟨r1, c6, h⟩ := zB h
   refine zr (zu [] 3 [1,2,8] [[pi p1]] (zt 8 b4 (zu [] 4 [1,2,12] [[pi p1]] (zt 12 b5 (zv [] 2 [1,2,12,13,14] [] [(1, vl eI p2), (2, .one (.pv (.rp [[pi p1]] 0 0))), (12, vb false), (13, vl eI p2), (14, .one (.fn 71 [.pv (.rp [[pi p1]] 0 0)]))] [] (za (c_slices_ContainsFunc_int_int_of_column_Pack_1 _ _ _ c6) (zg [] 1 [1,2,16] ?_)))))))
   exact zd (hJ1 r1 h _ _ (zk [1,2,16]))

def law2_packs_j1 (x1 : Bool) : Option Bool :=
    some x1

def law2_packs : Option Bool :=
    bnd (column_Pack (2 : Int) [(1 : Int), (2 : Int), (3 : Int)]) fun r1 =>
    ift (r1.2 == (0 : Int))
      (bnd (bytes_Equal r1.1 [(57 : Int)]) fun r2 =>
       law2_packs_j1 r2)
      (law2_packs_j1 false)


theorem c_law2_packs (r : Bool) (h : law2_packs = some r) : PC Try.prog 25 [] (vb r) := by
 unfold law2_packs at h
 refine zF 15 Try.f25 (zq fun K1 hK1 => zr (zg [] 1 [] (zd (hK1 _ _ (zq fun K2 hK2 => ?_)))))
 obtain ⟨r1, c3, h⟩ := zB h
 refine zr (zg [] 1 [4] (zl 45 [vi (2 : Int), vl eI [(1 : Int), (2 : Int), (3 : Int)]] (.tp [vl (eK .u8) r1.1, vi r1.2]) [(5, .tp [vl (eK .u8) r1.1, vi r1.2]), (4, vl eI [(1 : Int), (2 : Int), (3 : Int)])] (c_column_Pack _ _ _ c3) (zg [] 5 [1,2] (zd (hK2 _ _ (zq fun K4 hK4 => ?_))))))
 have hJ1 : ∀ (x1 : Bool), law2_packs_j1 x1 = some r → ∀ fr1 st1, Sub 15 0 [] fr1 st1 [(0, vb x1)] [] → K4 fr1 st1 := by
  intro x1 h fr1 st1 hS
  unfold law2_packs_j1 at h
  refine hK4 _ _ (XW.sub hS ?_)
  refine ze ?_
  obtain rfl := Option.some.inj h
  exact zf [vb x1] (.one (.rfl _ rfl))
 rcases zW h with ⟨b5, h⟩ | ⟨b5, h⟩
 ·obtain ⟨r2, c6, h⟩ := zB h
  exact zr (zg [] 3 [1,10] (zt 10 b5 (zv [] 2 [10,11,12] [] [(10, vb true), (11, vl (eK .u8) r1.1), (12, vl (eK .u8) [(57 : Int)])] [] (za (c_bytes_Equal _ _ _ c6) (zg [] 2 [0] (zd (hJ1 r2 h _ _ (zk [0]))))))))
 ·exact zr (zv [] 3 [1,10] [] [(1, vl (eK .u8) r1.1), (10, vb (r1.2 == (0 : Int)))] [] (zt 10 b5 (zg [] 5 [0] (zd (hJ1 false h _ _ (zk [0]))))))

def law2_ints_j1 : Option Bool :=
    some true

def law2_ints_l1 (p1 : (List Int)) (p2 : (List Int)) : Nat → Int → Option Bool
  | 0, _ => none
  | k1 + 1, x1 =>
    ift (decide (x1 < (p1.length : Int)))
      (bnd (at? p1 x1) fun e1 =>
       bnd (at? p2 x1) fun e2 =>
       ift (e1 != e2)
         (some false)
         ((law2_ints_l1 p1 p2 k1) (IntKind.i64.wrap (x1 + (1 : Int)))))
      (law2_ints_j1)

def law2_ints (p1 : (List Int)) (p2 : (List Int)) : Option Bool :=
    ift ((p1.length : Int) != (p2.length : Int))
      (some false)
      (law2_ints_l1 p1 p2 BIG (0 : Int))

abbrev qa1900 (p1 : (List Int)) (p2 : (List Int)) (x1 : Int) (e1 : Int) (e2 : Int) : Fr := [(23, vi e2), (22, .one (.pv (.rp (eI.els p2) x1.toNat 0))), (21, vi x1), (20, vl eI p2), (19, vi e1), (18, .one (.pv (.rp (eI.els p1) x1.toNat 0))), (17, vi x1), (16, vl eI p1), (0, vl eI p1), (1, vl eI p2), (5, vi x1), (12, vi (p1.length : Int)), (13, vi x1)]

theorem c_law2_ints (p1 : (List Int)) (p2 : (List Int)) (r : Bool) (h : law2_ints p1 p2 = some r) : PC Try.prog 27 [vl eI p1, vl eI p2] (vb r) := by
 unfold law2_ints at h
 refine zF 26 Try.f27 (zq fun K1 hK1 => zr (zg [] 1 [0,1] (zd (hK1 _ _ (zq fun K2 hK2 => zq fun K3 hK3 => ?_)))))
 refine zr (zv [] 2 [0,1,7] [] [(0, vl eI p1), (1, vl eI p2), (7, vi ((eI.els p1).length : Int))] [] ?_)
 rw [eI.len p1]
 refine zv [] 2 [0,1,7,9] [] [(0, vl eI p1), (1, vl eI p2), (7, vi (p1.length : Int)), (9, vi ((eI.els p2).length : Int))] [] ?_
 rw [eI.len p2]
 refine zg [] 1 [0,1,10] (zd (hK3 _ _ (zC h (fun b4 h => ?_) (fun b4 h => ?_))))
 ·refine zq fun K5 hK5 => zr (zg [] 1 [4] (zd (hK5 _ _ (ze ?_))))
  obtain rfl := Option.some.inj h
  exact zf [vb false] (.one (.rfl _ rfl))
 ·refine zs (hK2 _ _ (zq fun K6 hK6 => ?_))
  have hJ1 : ∀ (_ : Unit), law2_ints_j1 = some r → ∀ fr1 st1, Sub 26 0 [] fr1 st1 [] [] → K6 fr1 st1 := by
   intro _ h fr1 st1 hS
   unfold law2_ints_j1 at h
   refine hK6 _ _ (XW.sub hS ?_)
   refine zq fun K18 hK18 => zr (zg [] 1 [4] (zd (hK18 _ _ (ze ?_))))
   obtain rfl := Option.some.inj h
   exact zf [vb true] (.one (.rfl _ rfl))
  refine zq fun K7 hK7 => zr (zv [] 2 [0,1,12] [] [(0, vl eI p1), (1, vl eI p2), (12, vi ((eI.els p1).length : Int))] [] ?_)
  rw [eI.len p1]
  refine zg [] 1 [0,1,12,13] (zd (hK7 _ _ (zb 0 (XW.rounds' BIG (x := cd Try.f27 [1,1,0,1,0,0]) (by kernel_rfl) fun Q1 hQ1 => ?_))))
  have hL1 : ∀ (k1 : Nat) (x1 : Int), law2_ints_l1 p1 p2 k1 x1 = some r → XR Try.prog 26 0 [] (cd Try.f27 [1,1,0,1,0,0]) Q1 k1 [(0, vl eI p1), (1, vl eI p2), (12, vi (p1.length : Int)), (13, vi x1)] [] := by
   intro k1
   induction k1 with
   | zero => intro x1 h; rw [law2_ints_l1.eq_1] at h; cases h
   | succ k1 ih1 =>
    intro x1 h
    rw [law2_ints_l1.eq_2] at h
    refine zq fun K8 hK8 => zr (zg [] 1 [0,1,12,13,14] (zd (hK8 _ _ (zq fun K9 hK9 => zC h (fun b10 h => ?_) (fun b10 h => ?_)))))
    ·refine zs (hK9 _ _ (zq fun K11 hK11 => zb 1 (zq fun K12 hK12 => zr (zg [] 2 [0,1,5,12,13] (zd ?_)))))
     refine hK12 _ _ (zq fun K13 hK13 => ?_)
     obtain ⟨e1, a14, h⟩ := zB h
     obtain ⟨e2, a15, h⟩ := zB h
     refine zw 8 (qa1900 p1 p2 x1 e1 e2) ?_ ?_
     ·exact zyp 8 [[pi e1], [pi e2]] (qa1900 p1 p2 x1 e1 e2) [0 ≤ x1 ∧ x1 < ((eI.els p1).length : Int) ∧ elemsOk 1 (eI.els p1), (eI.els p1)[x1.toNat]? = some [pi e1], 0 ≤ x1 ∧ x1 < ((eI.els p2).length : Int) ∧ elemsOk 1 (eI.els p2), (eI.els p2)[x1.toNat]? = some [pi e2]] (⟨eI.inb a14, (eI.get a14), eI.inb a15, (eI.get a15), trivial⟩) zyd
     refine zv [] 1 [0,1,12,13,24] [] [(0, vl eI p1), (1, vl eI p2), (12, vi (p1.length : Int)), (13, vi x1), (24, vb (e1 != e2))] [] (zd (hK13 _ _ (zC h (fun b16 h => ?_) (fun b16 h => ?_))))
     ·refine zq fun K17 hK17 => zr (zg [] 1 [4] (zd (hK17 _ _ (ze (hQ1 _ _ _ ?_)))))
      obtain rfl := Option.some.inj h
      exact zf [vb false] (.one (.rfl _ rfl))
     ·exact zs (hK11 _ _ (zr (zg [] 2 [0,1,12,13] (zd (XR.sub (zk [0,1,12,13]) (ih1 (IntKind.i64.wrap (x1 + (1 : Int))) h))))))
    ·exact zx 0 (hQ1 _ _ _ (hJ1 () h _ _ (zk [])))
  exact XR.sub (zk [0,1,12,13]) (hL1 BIG (0 : Int) h)

def law2_ColumnNumbersMatchSpec_j1 (x1 : Bool) : Option Bool :=
    some x1

def law2_ColumnNumbersMatchSpec (p1 : Int) (p2 : Int) (p3 : (List Int)) (p4 : (List Int)) : Option Bool :=
    bnd (column_Numbers p1 p3) fun r1 =>
    bnd (ref2_Numbers p1 p3) fun r2 =>
    bnd (column_Unnumbers p1 p2 p4) fun r3 =>
    bnd (ref2_Unnumbers p1 p2 p4) fun r4 =>
    bnd (law2_packs) fun r5 =>
    ift r5
      (ift (r1.2 == r2.2)
         (bnd (bytes_Equal r1.1 r2.1) fun r6 =>
          ift r6
            (ift (r3.2 == r4.2)
               (bnd (law2_ints r3.1 r4.1) fun r7 =>
                law2_ColumnNumbersMatchSpec_j1 r7)
               (law2_ColumnNumbersMatchSpec_j1 false))
            (law2_ColumnNumbersMatchSpec_j1 false))
         (law2_ColumnNumbersMatchSpec_j1 false))
      (law2_ColumnNumbersMatchSpec_j1 false)

abbrev qa1909 (r1 : ((List Int) × Int)) (r2 : ((List Int) × Int)) (r3 : ((List Int) × Int)) (r4 : ((List Int) × Int)) (r5 : Bool) : Fr := [(9, vl (eK .u8) r1.1), (10, vi r1.2), (11, vl (eK .u8) r2.1), (12, vi r2.2), (13, vl eI r3.1), (14, vi r3.2), (15, vl eI r4.1), (16, vi r4.2), (44, vb r5)]

theorem c_law2_ColumnNumbersMatchSpec (p1 : Int) (p2 : Int) (p3 : (List Int)) (p4 : (List Int)) (r : Bool) (h : law2_ColumnNumbersMatchSpec p1 p2 p3 p4 = some r) : PC Try.prog 4 [vi p1, vi p2, vl eI p3, vl (eK .u8) p4] (vb r) := by
 unfold law2_ColumnNumbersMatchSpec at h
 refine zF 64 Try.f4 (zq fun K1 hK1 => zr (zg [] 1 [0,1,2,3] (zd (hK1 _ _ (zq fun K2 hK2 => ?_)))))
 obtain ⟨r1, c3, h⟩ := zB h
 refine zr (zg [] 2 [0,1,2,3,18,19] (zl 21 [vi p1, vl eI p3] (.tp [vl (eK .u8) r1.1, vi r1.2]) [(20, .tp [vl (eK .u8) r1.1, vi r1.2]), (0, vi p1), (1, vi p2), (2, vl eI p3), (3, vl (eK .u8) p4), (18, vi p1), (19, vl eI p3)] (c_column_Numbers _ _ _ c3) (zg [] 5 [0,1,2,3,9,10] (zd (hK2 _ _ (zq fun K4 hK4 => ?_))))))
 obtain ⟨r2, c5, h⟩ := zB h
 refine zr (zg [] 2 [0,1,3,9,10,24,25] (zl 22 [vi p1, vl eI p3] (.tp [vl (eK .u8) r2.1, vi r2.2]) [(26, .tp [vl (eK .u8) r2.1, vi r2.2]), (0, vi p1), (1, vi p2), (3, vl (eK .u8) p4), (9, vl (eK .u8) r1.1), (10, vi r1.2), (24, vi p1), (25, vl eI p3)] (c_ref2_Numbers _ _ _ c5) (zg [] 5 [0,1,3,9,10,11,12] (zd (hK4 _ _ (zq fun K6 hK6 => ?_))))))
 obtain ⟨r3, c7, h⟩ := zB h
 refine zr (zg [] 3 [0,1,3,9,10,11,12,30,31,32] (zl 23 [vi p1, vi p2, vl (eK .u8) p4] (.tp [vl eI r3.1, vi r3.2]) [(33, .tp [vl eI r3.1, vi r3.2]), (0, vi p1), (1, vi p2), (3, vl (eK .u8) p4), (9, vl (eK .u8) r1.1), (10, vi r1.2), (11, vl (eK .u8) r2.1), (12, vi r2.2), (30, vi p1), (31, vi p2), (32, vl (eK .u8) p4)] (c_column_Unnumbers _ _ _ _ c7) (zg [] 5 [0,1,3,9,10,11,12,13,14] (zd (hK6 _ _ (zq fun K8 hK8 => ?_))))))
 obtain ⟨r4, c9, h⟩ := zB h
 refine zr (zg [] 3 [9,10,11,12,13,14,37,38,39] (zl 24 [vi p1, vi p2, vl (eK .u8) p4] (.tp [vl eI r4.1, vi r4.2]) [(40, .tp [vl eI r4.1, vi r4.2]), (9, vl (eK .u8) r1.1), (10, vi r1.2), (11, vl (eK .u8) r2.1), (12, vi r2.2), (13, vl eI r3.1), (14, vi r3.2), (37, vi p1), (38, vi p2), (39, vl (eK .u8) p4)] (c_ref2_Unnumbers _ _ _ _ c9) (zg [] 5 [9,10,11,12,13,14,15,16] (zd (hK8 _ _ (zq fun K10 hK10 => ?_))))))
 have hJ1 : ∀ (x1 : Bool), law2_ColumnNumbersMatchSpec_j1 x1 = some r → ∀ fr1 st1, Sub 64 0 [] fr1 st1 [(8, vb x1)] [] → K10 fr1 st1 := by
  intro x1 h fr1 st1 hS
  unfold law2_ColumnNumbersMatchSpec_j1 at h
  refine hK10 _ _ (XW.sub hS ?_)
  refine ze ?_
  obtain rfl := Option.some.inj h
  exact zf [vb x1] (.one (.rfl _ rfl))
 obtain ⟨r5, c11, h⟩ := zB h
 rcases zW h with ⟨b12, h⟩ | ⟨b12, h⟩
 ·rcases zW h with ⟨b13, h⟩ | ⟨b13, h⟩
  ·obtain ⟨r6, c14, h⟩ := zB h
   rcases zW h with ⟨b15, h⟩ | ⟨b15, h⟩
   ·rcases zW h with ⟨b16, h⟩ | ⟨b16, h⟩
    ·obtain ⟨r7, c17, h⟩ := zB h
     refine zr (za (c_law2_packs _ c11) (zv [] 1 [9,10,11,12,13,14,15,16,44] [] (qa1909 r1 r2 r3 r4 r5) [] (zt 44 b12 (zg [] 5 [9,11,13,14,15,16,49] (zt 49 b13 (zg [] 2 [13,14,15,16,49,50,51] (zl 26 [vl (eK .u8) r1.1, vl (eK .u8) r2.1] (vb r6) [(52, vb r6), (13, vl eI r3.1), (14, vi r3.2), (15, vl eI r4.1), (16, vi r4.2), (49, vb true), (50, vl (eK .u8) r1.1), (51, vl (eK .u8) r2.1)] (c_bytes_Equal _ _ _ c14) ?_)))))))
     refine zg [] 2 [13,14,15,16,54] (zt 54 b15 (zg [] 5 [13,15,59] (zt 59 b16 (zv [] 2 [59,60,61] [] [(59, vb true), (60, vl eI r3.1), (61, vl eI r4.1)] [] (za (c_law2_ints _ _ _ c17) (zg [] 2 [8] (zd ?_)))))))
     exact hJ1 r7 h _ _ (zk [8])
    ·refine zr (zl 25 [] (vb r5) [(43, vb r5), (9, vl (eK .u8) r1.1), (10, vi r1.2), (11, vl (eK .u8) r2.1), (12, vi r2.2), (13, vl eI r3.1), (14, vi r3.2), (15, vl eI r4.1), (16, vi r4.2)] (c_law2_packs _ c11) (zg [] 1 [9,10,11,12,13,14,15,16,44] (zt 44 b12 (zg [] 5 [9,11,13,14,15,16,49] (zt 49 b13 (zv [] 2 [13,14,15,16,49,50,51] [] [(13, vl eI r3.1), (14, vi r3.2), (15, vl eI r4.1), (16, vi r4.2), (49, vb true), (50, vl (eK .u8) r1.1), (51, vl (eK .u8) r2.1)] [] (za (c_bytes_Equal _ _ _ c14) ?_)))))))
     exact zg [] 2 [13,14,15,16,54] (zt 54 b15 (zv [] 5 [13,15,59] [] [(13, vl eI r3.1), (15, vl eI r4.1), (59, vb (r3.2 == r4.2))] [] (zt 59 b16 (zg [] 5 [8] (zd (hJ1 false h _ _ (zk [8])))))))
   ·refine zr (za (c_law2_packs _ c11) (zv [] 1 [9,10,11,12,13,14,15,16,44] [] (qa1909 r1 r2 r3 r4 r5) [] (zt 44 b12 (zg [] 5 [9,11,13,14,15,16,49] (zt 49 b13 (zg [] 2 [13,14,15,16,49,50,51] (zl 26 [vl (eK .u8) r1.1, vl (eK .u8) r2.1] (vb r6) [(52, vb r6), (13, vl eI r3.1), (14, vi r3.2), (15, vl eI r4.1), (16, vi r4.2), (49, vb true), (50, vl (eK .u8) r1.1), (51, vl (eK .u8) r2.1)] (c_bytes_Equal _ _ _ c14) ?_)))))))
    exact zg [] 2 [13,14,15,16,54] (zt 54 b15 (zg [] 10 [8] (zd (hJ1 false h _ _ (zk [8])))))
  ·refine zr (za (c_law2_packs _ c11) (zv [] 1 [9,10,11,12,13,14,15,16,44] [] (qa1909 r1 r2 r3 r4 r5) [] (zt 44 b12 (zg [] 5 [9,11,13,14,15,16,49] (zt 49 b13 (zg [] 15 [8] (zd ?_)))))))
   exact hJ1 false h _ _ (zk [8])
 ·exact zr (za (c_law2_packs _ c11) (zv [] 1 [9,10,11,12,13,14,15,16,44] [] (qa1909 r1 r2 r3 r4 r5) [] (zt 44 b12 (zg [] 20 [8] (zd (hJ1 false h _ _ (zk [8])))))))


end Go.Proofs.Ytmaemlebpjnmoaa
namespace Go.Proofs.Ytmaemlebpjnmoaa
open Go.SX Go
set_option linter.unusedVariables false
set_option linter.unusedSimpArgs false
set_option maxRecDepth 100000
set_option maxHeartbeats 8000000

end Go.Proofs.Ytmaemlebpjnmoaa
