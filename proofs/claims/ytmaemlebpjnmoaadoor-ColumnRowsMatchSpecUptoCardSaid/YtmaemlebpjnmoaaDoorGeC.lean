/- Printed by a program: what the functions compute, and the proofs of their contracts. Printed by a program: what the functions compute, and the proofs of their contracts. -/
import Derived.Test.YtmaemlebpjnmoaaDoorGeB
namespace Go.Proofs.YtmaemlebpjnmoaaDoor
open Go.SX Go
open Go.IntKind (i64 u64 u8 i32 u32)
set_option linter.unusedVariables false
set_option linter.unusedSimpArgs false
set_option maxRecDepth 100000
set_option maxHeartbeats 8000000
def ref2_CheckRow_j1 (rec1 : Int → Option Int) (x1 : Int) (x2 : Bool) : Option Int := ift x2 (some (9 : Int)) (rec1 (i64.wrap (x1 + (1 : Int))))
def ref2_CheckRow_j2 : Option Int := some (0 : Int)
def ref2_CheckRow_l1 (p1 : (List GField)) (p2 : (List GValue)) : Nat → Int → Option Int
 | 0, _ => none
 | k1 + 1, x1 => ift (decide (x1 < (p1.length : Int))) (bnd (at? p1 x1) fun e1 => bnd (at? p2 x1) fun e2 => bnd (ref1_Check e1.type e2) fun r1 => ift (r1 != (0 : Int)) (some r1) (ift e1.need (ref2_CheckRow_j1 (ref2_CheckRow_l1 p1 p2 k1) x1 (e2.kind == (0 : Int))) (ref2_CheckRow_j1 (ref2_CheckRow_l1 p1 p2 k1) x1 false))) (ref2_CheckRow_j2)
def ref2_CheckRow (p1 : (List GField)) (p2 : (List GValue)) : Option Int := ift ((p2.length : Int) != (p1.length : Int)) (some (1 : Int)) (ref2_CheckRow_l1 p1 p2 BIG (0 : Int))
abbrev qa2218 (p1 : (List GField)) (p2 : (List GValue)) (x1 : Int) (e1 : GField) (e2 : GValue) : Fr := [(25, .ag (qa1518 e2)), (24, .one (.pv (.rp (eValue.els p2) x1.toNat 0))), (23, vi x1), (22, vl eValue p2), (21, .ag (qa1367 e1)), (20, .one (.pv (.rp (eField.els p1) x1.toNat 3))), (19, .one (.pv (.rp (eField.els p1) x1.toNat 0))), (18, vi x1), (17, vl eField p1), (0, vl eField p1), (1, vl eValue p2), (5, vi x1), (13, vi (p1.length : Int)), (14, vi x1)]
theorem c_ref2_CheckRow (p1 : (List GField)) (p2 : (List GValue)) (r : Int) (h : ref2_CheckRow p1 p2 = some r) : PC Tryd.prog 29 [vl eField p1, vl eValue p2] (vi r) := by
 unfold ref2_CheckRow at h
 refine zF 44 Tryd.f29 (zq fun K1 m1 => zr (zg [] 1 [0,1] (zd (m1 _ _ (zq fun K2 m2 => zq fun K3 m3 => ?_)))))
 refine zr (zv [] 2 [0,1,8] [] [(0, vl eField p1), (1, vl eValue p2), (8, vi ((eValue.els p2).length : Int))] [] ?_)
 rw [eValue.len p2]
 refine zv [] 2 [0,1,8,10] [] [(0, vl eField p1), (1, vl eValue p2), (8, vi (p2.length : Int)), (10, vi ((eField.els p1).length : Int))] [] ?_
 rw [eField.len p1]
 refine zg [] 1 [0,1,11] (zd (m3 _ _ (zC h (fun b4 h => ?_) (fun b4 h => ?_))))
 ·refine zq fun K5 m5 => zr (zg [] 1 [4] (zd (m5 _ _ (ze ?_))))
  obtain rfl := zj h
  exact zf [vi 1] (.one (.rfl _ rfl))
 ·refine zs (m2 _ _ (zq fun K6 m6 => ?_))
  have j2 : ∀ (_ : Unit), ref2_CheckRow_j2 = some r → ∀ w0 w1, Sub 44 0 [] w0 w1 [] [] → K6 w0 w1 := by
   intro _ h w0 w1 hS
   unfold ref2_CheckRow_j2 at h
   refine m6 _ _ (XW.sub hS ?_)
   refine zq fun K25 m25 => zr (zg [] 1 [4] (zd (m25 _ _ (ze ?_))))
   obtain rfl := zj h
   exact zf [vi 0] (.one (.rfl _ rfl))
  refine zq fun K7 m7 => zr (zv [] 2 [0,1,13] [] [(0, vl eField p1), (1, vl eValue p2), (13, vi ((eField.els p1).length : Int))] [] ?_)
  rw [eField.len p1]
  refine zg [] 1 [0,1,13,14] (zd (m7 _ _ (zb 0 (XW.rounds' BIG (x := cd Tryd.f29 [1,1,0,1,0,0]) (by kernel_rfl) fun Q1 hQ1 => ?_))))
  have hL1 : ∀ (k1 : Nat) (x1 : Int), ref2_CheckRow_l1 p1 p2 k1 x1 = some r → XR Tryd.prog 44 0 [] (cd Tryd.f29 [1,1,0,1,0,0]) Q1 k1 [(0, vl eField p1), (1, vl eValue p2), (13, vi (p1.length : Int)), (14, vi x1)] [] := by
   intro k1
   induction k1 with
   | zero => intro x1 h; rw [ref2_CheckRow_l1.eq_1] at h; cases h
   | succ k1 ih1 =>
    intro x1 h
    rw [ref2_CheckRow_l1.eq_2] at h
    refine zq fun K8 m8 => zr (zg [] 1 [0,1,13,14,15] (zd (m8 _ _ (zq fun K9 m9 => zC h (fun b10 h => ?_) (fun b10 h => ?_)))))
    ·refine zs (m9 _ _ (zq fun K11 m11 => zb 1 (zq fun K12 m12 => zr (zg [] 2 [0,1,5,13,14] (zd ?_)))))
     refine m12 _ _ (zq fun K13 m13 => zq fun K14 m14 => ?_)
     obtain ⟨e1, a15, h⟩ := zB h
     obtain ⟨e2, a16, h⟩ := zB h
     obtain ⟨r1, c17, h⟩ := zB h
     refine zw 9 (qa2218 p1 p2 x1 e1 e2) ?_ ?_
     ·refine zyp 9 [(qa1299 e1), (qa1467 e2)] (qa2218 p1 p2 x1 e1 e2) [0 ≤ x1 ∧ x1 < ((eField.els p1).length : Int) ∧ elemsOk 6 (eField.els p1), (eField.els p1)[x1.toNat]? = some (qa1299 e1), 0 ≤ x1 ∧ x1 < ((eValue.els p2).length : Int) ∧ elemsOk 5 (eValue.els p2), (eValue.els p2)[x1.toNat]? = some (qa1467 e2)] (⟨eField.inb a15, ((eField.get a15).trans (by rcases e1 with ⟨_, _, _, ⟨_, _, _⟩⟩; rfl)), eValue.inb a16, ((eValue.get a16).trans (by cases e2; rfl)), trivial⟩) ?_
      exact zyd
     refine zl 57 [.ag (qa1367 e1), .ag (qa1518 e2)] (vi r1) [(26, vi r1), (25, .ag (qa1518 e2)), (24, .one (.pv (.rp (eValue.els p2) x1.toNat 0))), (23, vi x1), (22, vl eValue p2), (21, .ag (qa1367 e1)), (20, .one (.pv (.rp (eField.els p1) x1.toNat 3))), (19, .one (.pv (.rp (eField.els p1) x1.toNat 0))), (18, vi x1), (17, vl eField p1), (0, vl eField p1), (1, vl eValue p2), (5, vi x1), (13, vi (p1.length : Int)), (14, vi x1)] (c_ref1_Check _ _ _ c17) ?_
     refine zg [] 1 [0,1,5,6,13,14] (zd (m14 _ _ (zq fun K18 m18 => zr (zg [] 2 [0,1,5,6,13,14,28] (zd (m18 _ _ ?_))))))
     refine zC h (fun b19 h => ?_) (fun b19 h => ?_)
     ·refine zq fun K20 m20 => zr (zv [] 2 [4] [] [(4, vi r1)] [] (zd (m20 _ _ (ze (hQ1 _ _ _ ?_)))))
      obtain rfl := zj h
      exact zf [vi r1] (.one (.rfl _ rfl))
     ·refine zs (m13 _ _ (zq fun K21 m21 => ?_))
      have j1 : ∀ (x2 : Bool), ref2_CheckRow_j1 (ref2_CheckRow_l1 p1 p2 k1) x1 x2 = some r → ∀ w0 w1, Sub 44 0 [] w0 w1 [(0, vl eField p1), (1, vl eValue p2), (13, vi (p1.length : Int)), (14, vi x1), (42, vb x2)] [] → K21 w0 w1 := by
       intro x2 h w0 w1 hS
       unfold ref2_CheckRow_j1 at h
       refine m21 _ _ (XW.sub hS ?_)
       refine zC h (fun b23 h => ?_) (fun b23 h => ?_)
       ·refine zq fun K24 m24 => zr (zg [] 1 [4] (zd (m24 _ _ (ze (hQ1 _ _ _ ?_)))))
        obtain rfl := zj h
        exact zf [vi 9] (.one (.rfl _ rfl))
       ·exact zs (m11 _ _ (zr (zg [] 2 [0,1,13,14] (zd (XR.sub (zk [0,1,13,14]) (ih1 (i64.wrap (x1 + (1 : Int))) h))))))
      rcases zW h with ⟨b22, h⟩ | ⟨b22, h⟩
      ·refine zr (zo [] 6 [0,1,5,13,14,35] [(qa1299 e1)] [0 ≤ x1 ∧ x1 < ((eField.els p1).length : Int) ∧ elemsOk 6 (eField.els p1), (eField.els p1)[x1.toNat]? = some (qa1299 e1)] (⟨eField.inb a15, ((eField.get a15).trans (by rcases e1 with ⟨_, _, _, ⟨_, _, _⟩⟩; rfl)), trivial⟩) (zt 35 b22 ?_))
       exact zo [] 7 [0,1,13,14,42] [(qa1467 e2)] [0 ≤ x1 ∧ x1 < ((eValue.els p2).length : Int) ∧ elemsOk 5 (eValue.els p2), (eValue.els p2)[x1.toNat]? = some (qa1467 e2)] (⟨eValue.inb a16, ((eValue.get a16).trans (by cases e2; rfl)), trivial⟩) (zd (j1 (e2.kind == (0 : Int)) h _ _ (zk [0,1,13,14,42])))
      ·refine zr ?_
       refine zp [] 6 [0,1,5,13,14,35] [(qa1299 e1)] [(0, vl eField p1), (1, vl eValue p2), (5, vi x1), (13, vi (p1.length : Int)), (14, vi x1), (35, vb e1.need)] [] [0 ≤ x1 ∧ x1 < ((eField.els p1).length : Int) ∧ elemsOk 6 (eField.els p1), (eField.els p1)[x1.toNat]? = some (qa1299 e1)] (⟨eField.inb a15, ((eField.get a15).trans (by rcases e1 with ⟨_, _, _, ⟨_, _, _⟩⟩; rfl)), trivial⟩) ?_
       exact zt 35 b22 (zg [] 7 [0,1,13,14,42] (zd (j1 false h _ _ (zk [0,1,13,14,42]))))
    ·exact zx 0 (hQ1 _ _ _ (j2 () h _ _ (zk [])))
  exact XR.sub (zk [0,1,13,14]) (hL1 BIG (0 : Int) h)
def ref2_CheckRows_j1 : Option Int := some (0 : Int)
def ref2_CheckRows_l1 (p1 : (List GField)) (p2 : (List (List GValue))) : Nat → Int → Option Int
 | 0, _ => none
 | k1 + 1, x1 => ift (decide (x1 < (p2.length : Int))) (bnd (at? p2 x1) fun e1 => bnd (ref2_CheckRow p1 e1) fun r2 => ift (r2 != (0 : Int)) (some r2) ((ref2_CheckRows_l1 p1 p2 k1) (i64.wrap (x1 + (1 : Int))))) (ref2_CheckRows_j1)
def ref2_CheckRows (p1 : (List GField)) (p2 : (List (List GValue))) : Option Int := bnd (ref1_CheckSchema p1) fun r1 => ift (r1 != (0 : Int)) (some r1) (ift (decide ((2000 : Int) < (p2.length : Int))) (some (7 : Int)) (ref2_CheckRows_l1 p1 p2 BIG (0 : Int)))
theorem c_ref2_CheckRows (p1 : (List GField)) (p2 : (List (List GValue))) (r : Int) (h : ref2_CheckRows p1 p2 = some r) : PC Tryd.prog 9 [vl eField p1, vl (eL eValue) p2] (vi r) := by
 unfold ref2_CheckRows at h
 refine zF 30 Tryd.f9 (zq fun K1 m1 => zr (zg [] 1 [0,1] (zd (m1 _ _ (zq fun K2 m2 => zq fun K3 m3 => ?_)))))
 obtain ⟨r1, c4, h⟩ := zB h
 refine zr (zg [] 1 [0,1,9] (zl 26 [vl eField p1] (vi r1) [(10, vi r1), (0, vl eField p1), (1, vl (eL eValue) p2), (9, vl eField p1)] (c_ref1_CheckSchema _ _ c4) (zg [] 1 [0,1,5] (zd (m3 _ _ (zq fun K5 m5 => zr ?_))))))
 refine zg [] 2 [0,1,5,12] (zd (m5 _ _ (zC h (fun b6 h => ?_) (fun b6 h => ?_))))
 ·refine zq fun K7 m7 => zr (zv [] 2 [4] [] [(4, vi r1)] [] (zd (m7 _ _ (ze ?_))))
  obtain rfl := zj h
  exact zf [vi r1] (.one (.rfl _ rfl))
 ·refine zs (m2 _ _ (zq fun K8 m8 => zq fun K9 m9 => zr (zv [] 2 [0,1,15] [] [(0, vl eField p1), (1, vl (eL eValue) p2), (15, vi (((eL eValue).els p2).length : Int))] [] ?_)))
  rw [(eL eValue).len p2]
  refine zg [] 1 [0,1,16] (zd (m9 _ _ (zC h (fun b10 h => ?_) (fun b10 h => ?_))))
  ·refine zq fun K11 m11 => zr (zg [] 1 [4] (zd (m11 _ _ (ze ?_))))
   obtain rfl := zj h
   exact zf [vi 7] (.one (.rfl _ rfl))
  ·refine zs (m8 _ _ (zq fun K12 m12 => ?_))
   have j1 : ∀ (_ : Unit), ref2_CheckRows_j1 = some r → ∀ w0 w1, Sub 30 0 [] w0 w1 [] [] → K12 w0 w1 := by
    intro _ h w0 w1 hS
    unfold ref2_CheckRows_j1 at h
    refine m12 _ _ (XW.sub hS ?_)
    refine zq fun K25 m25 => zr (zg [] 1 [4] (zd (m25 _ _ (ze ?_))))
    obtain rfl := zj h
    exact zf [vi 0] (.one (.rfl _ rfl))
   refine zq fun K13 m13 => zr (zv [] 2 [0,17,18] [] [(0, vl eField p1), (17, vl (eL eValue) p2), (18, vi (((eL eValue).els p2).length : Int))] [] ?_)
   rw [(eL eValue).len p2]
   refine zg [] 1 [0,17,18,19] (zd (m13 _ _ (zb 0 (XW.rounds' BIG (x := cd Tryd.f9 [1,1,1,0,1,0,0]) (by kernel_rfl) fun Q1 hQ1 => ?_))))
   have hL1 : ∀ (k1 : Nat) (x1 : Int), ref2_CheckRows_l1 p1 p2 k1 x1 = some r → XR Tryd.prog 30 0 [] (cd Tryd.f9 [1,1,1,0,1,0,0]) Q1 k1 [(0, vl eField p1), (17, vl (eL eValue) p2), (18, vi (p2.length : Int)), (19, vi x1)] [] := by
    intro k1
    induction k1 with
    | zero => intro x1 h; rw [ref2_CheckRows_l1.eq_1] at h; cases h
    | succ k1 ih1 =>
     intro x1 h
     rw [ref2_CheckRows_l1.eq_2] at h
     refine zq fun K14 m14 => zr (zg [] 1 [0,17,18,19,20] (zd (m14 _ _ (zq fun K15 m15 => zC h (fun b16 h => ?_) (fun b16 h => ?_)))))
     ·refine zs (m15 _ _ (zq fun K17 m17 => zb 1 (zq fun K18 m18 => ?_)))
      obtain ⟨e1, a19, h⟩ := zB h
      refine zr (zo [] 3 [0,7,17,18,19] [[.ro (eValue.els e1)]] [0 ≤ x1 ∧ x1 < (((eL eValue).els p2).length : Int) ∧ elemsOk 1 ((eL eValue).els p2), ((eL eValue).els p2)[x1.toNat]? = some [.ro (eValue.els e1)]] (⟨(eL eValue).inb a19, ((eL eValue).get a19), trivial⟩) (zd (m18 _ _ (zq fun K20 m20 => ?_))))
      obtain ⟨r2, c21, h⟩ := zB h
      refine zr (zv [] 2 [0,17,18,19,23,24] [] [(0, vl eField p1), (17, vl (eL eValue) p2), (18, vi (p2.length : Int)), (19, vi x1), (23, vl eField p1), (24, vl eValue e1)] [] (za (c_ref2_CheckRow _ _ _ c21) (zg [] 1 [0,8,17,18,19] (zd (m20 _ _ (zq fun K22 m22 => zr ?_))))))
      refine zv [] 2 [0,8,17,18,19,27] [] [(0, vl eField p1), (8, vi r2), (17, vl (eL eValue) p2), (18, vi (p2.length : Int)), (19, vi x1), (27, vb (r2 != (0 : Int)))] [] (zd (m22 _ _ (zC h (fun b23 h => ?_) (fun b23 h => ?_))))
      ·refine zq fun K24 m24 => zr (zg [] 2 [4] (zd (m24 _ _ (ze (hQ1 _ _ _ ?_)))))
       obtain rfl := zj h
       exact zf [vi r2] (.one (.rfl _ rfl))
      ·exact zs (m17 _ _ (zr (zg [] 2 [0,17,18,19] (zd (XR.sub (zk [0,17,18,19]) (ih1 (i64.wrap (x1 + (1 : Int))) h))))))
     ·exact zx 0 (hQ1 _ _ _ (j1 () h _ _ (zk [])))
   exact XR.sub (zk [0,17,18,19]) (hL1 BIG (0 : Int) h)
def law2_ints_j1 : Option Bool := some true
def law2_ints_l1 (p1 : (List Int)) (p2 : (List Int)) : Nat → Int → Option Bool
 | 0, _ => none
 | k1 + 1, x1 => ift (decide (x1 < (p1.length : Int))) (bnd (at? p1 x1) fun e1 => bnd (at? p2 x1) fun e2 => ift (e1 != e2) (some false) ((law2_ints_l1 p1 p2 k1) (i64.wrap (x1 + (1 : Int))))) (law2_ints_j1)
def law2_ints (p1 : (List Int)) (p2 : (List Int)) : Option Bool := ift ((p1.length : Int) != (p2.length : Int)) (some false) (law2_ints_l1 p1 p2 BIG (0 : Int))
abbrev qa2227 (p1 : (List Int)) (p2 : (List Int)) (x1 : Int) (e1 : Int) (e2 : Int) : Fr := [(23, vi e2), (22, .one (.pv (.rp (eI.els p2) x1.toNat 0))), (21, vi x1), (20, vl eI p2), (19, vi e1), (18, .one (.pv (.rp (eI.els p1) x1.toNat 0))), (17, vi x1), (16, vl eI p1), (0, vl eI p1), (1, vl eI p2), (5, vi x1), (12, vi (p1.length : Int)), (13, vi x1)]
theorem c_law2_ints (p1 : (List Int)) (p2 : (List Int)) (r : Bool) (h : law2_ints p1 p2 = some r) : PC Tryd.prog 10 [vl eI p1, vl eI p2] (vb r) := by
 unfold law2_ints at h
 refine zF 26 Tryd.f10 (zq fun K1 m1 => zr (zg [] 1 [0,1] (zd (m1 _ _ (zq fun K2 m2 => zq fun K3 m3 => ?_)))))
 refine zr (zv [] 2 [0,1,7] [] [(0, vl eI p1), (1, vl eI p2), (7, vi ((eI.els p1).length : Int))] [] ?_)
 rw [eI.len p1]
 refine zv [] 2 [0,1,7,9] [] [(0, vl eI p1), (1, vl eI p2), (7, vi (p1.length : Int)), (9, vi ((eI.els p2).length : Int))] [] ?_
 rw [eI.len p2]
 refine zg [] 1 [0,1,10] (zd (m3 _ _ (zC h (fun b4 h => ?_) (fun b4 h => ?_))))
 ·refine zq fun K5 m5 => zr (zg [] 1 [4] (zd (m5 _ _ (ze ?_))))
  obtain rfl := zj h
  exact zf [vb false] (.one (.rfl _ rfl))
 ·refine zs (m2 _ _ (zq fun K6 m6 => ?_))
  have j1 : ∀ (_ : Unit), law2_ints_j1 = some r → ∀ w0 w1, Sub 26 0 [] w0 w1 [] [] → K6 w0 w1 := by
   intro _ h w0 w1 hS
   unfold law2_ints_j1 at h
   refine m6 _ _ (XW.sub hS ?_)
   refine zq fun K18 m18 => zr (zg [] 1 [4] (zd (m18 _ _ (ze ?_))))
   obtain rfl := zj h
   exact zf [vb true] (.one (.rfl _ rfl))
  refine zq fun K7 m7 => zr (zv [] 2 [0,1,12] [] [(0, vl eI p1), (1, vl eI p2), (12, vi ((eI.els p1).length : Int))] [] ?_)
  rw [eI.len p1]
  refine zg [] 1 [0,1,12,13] (zd (m7 _ _ (zb 0 (XW.rounds' BIG (x := cd Tryd.f10 [1,1,0,1,0,0]) (by kernel_rfl) fun Q1 hQ1 => ?_))))
  have hL1 : ∀ (k1 : Nat) (x1 : Int), law2_ints_l1 p1 p2 k1 x1 = some r → XR Tryd.prog 26 0 [] (cd Tryd.f10 [1,1,0,1,0,0]) Q1 k1 [(0, vl eI p1), (1, vl eI p2), (12, vi (p1.length : Int)), (13, vi x1)] [] := by
   intro k1
   induction k1 with
   | zero => intro x1 h; rw [law2_ints_l1.eq_1] at h; cases h
   | succ k1 ih1 =>
    intro x1 h
    rw [law2_ints_l1.eq_2] at h
    refine zq fun K8 m8 => zr (zg [] 1 [0,1,12,13,14] (zd (m8 _ _ (zq fun K9 m9 => zC h (fun b10 h => ?_) (fun b10 h => ?_)))))
    ·refine zs (m9 _ _ (zq fun K11 m11 => zb 1 (zq fun K12 m12 => zr (zg [] 2 [0,1,5,12,13] (zd ?_)))))
     refine m12 _ _ (zq fun K13 m13 => ?_)
     obtain ⟨e1, a14, h⟩ := zB h
     obtain ⟨e2, a15, h⟩ := zB h
     refine zw 8 (qa2227 p1 p2 x1 e1 e2) ?_ ?_
     ·exact zyp 8 [[pi e1], [pi e2]] (qa2227 p1 p2 x1 e1 e2) [0 ≤ x1 ∧ x1 < ((eI.els p1).length : Int) ∧ elemsOk 1 (eI.els p1), (eI.els p1)[x1.toNat]? = some [pi e1], 0 ≤ x1 ∧ x1 < ((eI.els p2).length : Int) ∧ elemsOk 1 (eI.els p2), (eI.els p2)[x1.toNat]? = some [pi e2]] (⟨eI.inb a14, (eI.get a14), eI.inb a15, (eI.get a15), trivial⟩) zyd
     refine zv [] 1 [0,1,12,13,24] [] [(0, vl eI p1), (1, vl eI p2), (12, vi (p1.length : Int)), (13, vi x1), (24, vb (e1 != e2))] [] (zd (m13 _ _ (zC h (fun b16 h => ?_) (fun b16 h => ?_))))
     ·refine zq fun K17 m17 => zr (zg [] 1 [4] (zd (m17 _ _ (ze (hQ1 _ _ _ ?_)))))
      obtain rfl := zj h
      exact zf [vb false] (.one (.rfl _ rfl))
     ·exact zs (m11 _ _ (zr (zg [] 2 [0,1,12,13] (zd (XR.sub (zk [0,1,12,13]) (ih1 (i64.wrap (x1 + (1 : Int))) h))))))
    ·exact zx 0 (hQ1 _ _ _ (j1 () h _ _ (zk [])))
  exact XR.sub (zk [0,1,12,13]) (hL1 BIG (0 : Int) h)
def ref1_SameType_j2 (rec1 : Int → Option Bool) (x2 : Int) (x3 : Bool) : Option Bool := ift x3 (some false) (rec1 (i64.wrap (x2 + (1 : Int))))
def ref1_SameType_j3 : Option Bool := some true
def ref1_SameType_l1 (q_ref1_SameType : GType → GType → Option Bool) (p1 : GType) (p2 : GType) : Nat → Int → Option Bool
 | 0, _ => none
 | k1 + 1, x2 => ift (decide (x2 < (p1.fields.length : Int))) (bnd (at? p1.fields x2) fun e1 => bnd (at? p2.fields x2) fun e2 => ift (!(e1.name.toList == e2.name.toList)) (ref1_SameType_j2 (ref1_SameType_l1 q_ref1_SameType p1 p2 k1) x2 true) (ift (!(e1.need == e2.need)) (ref1_SameType_j2 (ref1_SameType_l1 q_ref1_SameType p1 p2 k1) x2 true) (bnd (q_ref1_SameType e1.type e2.type) fun r1 => ref1_SameType_j2 (ref1_SameType_l1 q_ref1_SameType p1 p2 k1) x2 (!r1)))) (ref1_SameType_j3)
def ref1_SameType_j1 (q_ref1_SameType : GType → GType → Option Bool) (p1 : GType) (p2 : GType) (x1 : Bool) : Option Bool := ift x1 (some false) (ref1_SameType_l1 q_ref1_SameType p1 p2 BIG (0 : Int))
def ref1_SameType : Nat → GType → GType → Option Bool
 | 0, _, _ => none
 | k0 + 1, p1, p2 => ift (p1.kind != p2.kind) (ref1_SameType_j1 (ref1_SameType k0) p1 p2 true) (ift (p1.scale != p2.scale) (ref1_SameType_j1 (ref1_SameType k0) p1 p2 true) (ref1_SameType_j1 (ref1_SameType k0) p1 p2 ((p1.fields.length : Int) != (p2.fields.length : Int))))
abbrev qa2246 (p1 : GType) (p2 : GType) (x2 : Int) (e1 : GField) (e2 : GField) : Fr := [(7, vq 1), (6, vq 0), (44, .ag (qa1305 e2)), (43, .one (.pv (.rp (eField.els p2.fields) x2.toNat 0))), (42, vi x2), (41, vl eField p2.fields), (40, .one (.pv (.rp [(qa1274 p2)] 0 2))), (39, .ag (qa1305 e1)), (38, .one (.pv (.rp (eField.els p1.fields) x2.toNat 0))), (37, vi x2), (36, vl eField p1.fields), (35, .one (.pv (.rp [(qa1274 p1)] 0 2))), (2, vR (qa1274 p1)), (3, vR (qa1274 p2)), (5, vi x2), (31, vi (p1.fields.length : Int)), (32, vi x2)]
abbrev qa2253 (p1 : GType) (p2 : GType) (x2 : Int) : Fr := [(2, vR (qa1274 p1)), (3, vR (qa1274 p2)), (31, vi (p1.fields.length : Int)), (32, vi (i64.wrap (x2 + (1 : Int))))]
abbrev qa2254 (p1 : GType) (p2 : GType) (x2 : Int) : Fr := [(2, vR (qa1274 p1)), (3, vR (qa1274 p2)), (31, vi (p1.fields.length : Int)), (32, vi x2), (64, vb true)]
abbrev qa2257 (p1 : GType) (p2 : GType) (x2 : Int) (r1 : Bool) : Fr := [(2, vR (qa1274 p1)), (3, vR (qa1274 p2)), (31, vi (p1.fields.length : Int)), (32, vi x2), (64, vb (!r1))]
theorem c_ref1_SameType : ∀ (k0 : Nat) (p1 : GType) (p2 : GType) (r : Bool), ref1_SameType k0 p1 p2 = some r → PC Tryd.prog 11 [.ag [ci p1.kind, ci p1.scale, cl eField p1.fields], .ag [ci p2.kind, ci p2.scale, cl eField p2.fields]] (vb r)
 | 0, _, _, r, h => by rw [ref1_SameType.eq_1] at h; cases h
 | k0 + 1, p1, p2, r, h => by
  rw [ref1_SameType.eq_2] at h
  refine zF 66 Tryd.f11 (zq fun K1 m1 => zr (zg [6, 7] 3 [2,3] (zd (m1 _ _ (zq fun K2 m2 => zq fun K3 m3 => ?_)))))
  have j1 : ∀ (x1 : Bool), ref1_SameType_j1 (ref1_SameType k0) p1 p2 x1 = some r → ∀ w0 w1, Sub 66 0 [] w0 w1 [(2, vR (qa1274 p1)), (3, vR (qa1274 p2)), (28, vb x1)] [] → K3 w0 w1 := by
   intro x1 h w0 w1 hS
   unfold ref1_SameType_j1 at h
   refine m3 _ _ (XW.sub hS ?_)
   refine zC h (fun b6 h => ?_) (fun b6 h => ?_)
   ·refine zq fun K7 m7 => zr (zg [6, 7] 1 [4] (zd (m7 _ _ (ze ?_))))
    obtain rfl := zj h
    exact zf [vb false] (.one (.rfl _ rfl))
   ·refine zs (m2 _ _ (zq fun K8 m8 => ?_))
    have j3 : ∀ (_ : Unit), ref1_SameType_j3 = some r → ∀ w0 w1, Sub 66 0 [] w0 w1 [] [] → K8 w0 w1 := by
     intro _ h w0 w1 hS
     unfold ref1_SameType_j3 at h
     refine m8 _ _ (XW.sub hS ?_)
     refine zq fun K24 m24 => zr (zg [6, 7] 1 [4] (zd (m24 _ _ (ze ?_))))
     obtain rfl := zj h
     exact zf [vb true] (.one (.rfl _ rfl))
    refine zq fun K9 m9 => zr (zv [6, 7] 3 [2,3,31] [[pi p1.kind, pi p1.scale, .ro (eField.els p1.fields)]] [(2, vR [pi p1.kind, pi p1.scale, .ro (eField.els p1.fields)]), (3, vR [pi p2.kind, pi p2.scale, .ro (eField.els p2.fields)]), (31, vi ((eField.els p1.fields).length : Int))] [] ?_)
    rw [eField.len p1.fields]
    refine zg [6, 7] 1 [2,3,31,32] (zd (m9 _ _ (zb 0 (XW.rounds' BIG (x := cd Tryd.f11 [1,1,0,1,0,0]) (by kernel_rfl) fun Q1 hQ1 => ?_))))
    have hL1 : ∀ (k1 : Nat) (x2 : Int), ref1_SameType_l1 (ref1_SameType k0) p1 p2 k1 x2 = some r → XR Tryd.prog 66 0 [] (cd Tryd.f11 [1,1,0,1,0,0]) Q1 k1 [(2, vR (qa1274 p1)), (3, vR (qa1274 p2)), (31, vi (p1.fields.length : Int)), (32, vi x2)] [] := by
     intro k1
     induction k1 with
     | zero => intro x2 h; rw [ref1_SameType_l1.eq_1] at h; cases h
     | succ k1 ih1 =>
      intro x2 h
      rw [ref1_SameType_l1.eq_2] at h
      refine zq fun K10 m10 => zr (zg [6, 7] 1 [2,3,31,32,33] (zd (m10 _ _ (zq fun K11 m11 => zC h (fun b12 h => ?_) (fun b12 h => ?_)))))
      ·refine zs (m11 _ _ (zq fun K13 m13 => zb 1 (zq fun K14 m14 => zr (zv [6, 7] 2 [2,3,5,31,32] [] [(2, vR (qa1274 p1)), (3, vR (qa1274 p2)), (5, vi x2), (31, vi (p1.fields.length : Int)), (32, vi x2)] [] (zd ?_)))))
       refine m14 _ _ (zq fun K15 m15 => ?_)
       obtain ⟨e1, a16, h⟩ := zB h
       obtain ⟨e2, a17, h⟩ := zB h
       refine XW.sub (Sub.dead 2) ?_
       refine XW.drwG 13 [0, 1, 2] [([], []), ([], []), ([], []), ([], []), ([], []), ([], []), ([], []), ([], []), ([], []), ([], []), ([0, 1000], [0, 1000]), ([1, 1001], [1, 1001]), ([0, 1000], [0])] (qa2246 p1 p2 x2 e1 e2) [.box (qa1305 e1), .box qa1619] (by kernel_rfl) (by kernel_rfl) ?_ ?_
       ·refine GY.go 10 [(qa1274 p1), (qa1299 e1), (qa1274 p2), (qa1299 e2)] [(44, .ag (qa1305 e2)), (43, .one (.pv (.rp (eField.els p2.fields) x2.toNat 0))), (42, vi x2), (41, vl eField p2.fields), (40, .one (.pv (.rp [(qa1274 p2)] 0 2))), (39, .ag (qa1305 e1)), (38, .one (.pv (.rp (eField.els p1.fields) x2.toNat 0))), (37, vi x2), (36, vl eField p1.fields), (35, .one (.pv (.rp [(qa1274 p1)] 0 2))), (2, vR (qa1274 p1)), (3, vR (qa1274 p2)), (5, vi x2), (31, vi (p1.fields.length : Int)), (32, vi x2)] [([(qa1274 p1)] : List (List PV))[0]? = some (qa1274 p1), 0 ≤ x2 ∧ x2 < ((eField.els p1.fields).length : Int) ∧ elemsOk 6 (eField.els p1.fields), (eField.els p1.fields)[x2.toNat]? = some (qa1299 e1), ([(qa1274 p2)] : List (List PV))[0]? = some (qa1274 p2), 0 ≤ x2 ∧ x2 < ((eField.els p2.fields).length : Int) ∧ elemsOk 6 (eField.els p2.fields), (eField.els p2.fields)[x2.toNat]? = some (qa1299 e2)] (by kernel_rfl) (⟨rfl, eField.inb a16, ((eField.get a16).trans (by rcases e1 with ⟨_, _, _, ⟨_, _, _⟩⟩; rfl)), rfl, eField.inb a17, ((eField.get a17).trans (by rcases e2 with ⟨_, _, _, ⟨_, _, _⟩⟩; rfl)), trivial⟩) ?_
        refine GY.new true 0 [] [(6, vq 0), (44, .ag (qa1305 e2)), (43, .one (.pv (.rp (eField.els p2.fields) x2.toNat 0))), (42, vi x2), (41, vl eField p2.fields), (40, .one (.pv (.rp [(qa1274 p2)] 0 2))), (39, .ag (qa1305 e1)), (38, .one (.pv (.rp (eField.els p1.fields) x2.toNat 0))), (37, vi x2), (36, vl eField p1.fields), (35, .one (.pv (.rp [(qa1274 p1)] 0 2))), (2, vR (qa1274 p1)), (3, vR (qa1274 p2)), (5, vi x2), (31, vi (p1.fields.length : Int)), (32, vi x2)] [0] [.box qa1619, .dead] [] (by kernel_rfl) (by kernel_rfl) trivial (by kernel_rfl) ?_
        refine GY.new true 1 [] (qa2246 p1 p2 x2 e1 e2) [1] [.box qa1619, .box qa1619] [] (by kernel_rfl) (by kernel_rfl) trivial (by kernel_rfl) ?_
        refine GY.wr [] (qa2246 p1 p2 x2 e1 e2) [0] [] [.box (qa1305 e1), .box qa1619] [] (by kernel_rfl) (by kernel_rfl) trivial (by kernel_rfl) ?_
        exact GY.done (by kernel_rfl) (by kernel_rfl)
       refine zg [6, 7] 1 [2,3,6,7,31,32] (zd (m15 _ _ (zq fun K18 m18 => ?_)))
       have j2 : ∀ (x3 : Bool), ref1_SameType_j2 (ref1_SameType_l1 (ref1_SameType k0) p1 p2 k1) x2 x3 = some r → ∀ w0 w1, Sub 66 0 [] w0 w1 [(2, vR (qa1274 p1)), (3, vR (qa1274 p2)), (31, vi (p1.fields.length : Int)), (32, vi x2), (64, vb x3)] [.dead, .dead] → K18 w0 w1 := by
        intro x3 h w0 w1 hS
        unfold ref1_SameType_j2 at h
        refine m18 _ _ (XW.sub hS ?_)
        refine zC h (fun b22 h => ?_) (fun b22 h => ?_)
        ·refine zq fun K23 m23 => zr (zg [6, 7] 1 [4] (zd (m23 _ _ (ze (hQ1 _ _ _ ?_)))))
         obtain rfl := zj h
         exact zf [vb false] (.one (.rfl _ rfl))
        ·refine zs (m13 _ _ (zr (zg [6, 7] 2 [2,3,31,32] (zd ?_))))
         exact XR.sub (Sub.trans (Sub.pick (fr' := (qa2253 p1 p2 x2)) [2,3,31,32] (by kernel_rfl)) (Sub.take (fr' := (qa2253 p1 p2 x2)) 0 (Nat.zero_le _) (by kernel_rfl) (by kernel_rfl))) (ih1 (i64.wrap (x2 + (1 : Int))) h)
       rcases zW h with ⟨b19, h⟩ | ⟨b19, h⟩
       ·refine zr (zg [6, 7] 6 [2,3,6,7,31,32,50] (zt 50 b19 (zv [6, 7] 14 [2,3,31,32,64] [] (qa2254 p1 p2 x2) [.box (qa1305 e1), .box (qa1305 e2)] (zd ?_))))
        exact j2 true h _ _ (Sub.trans (Sub.pick (fr' := (qa2254 p1 p2 x2)) [2,3,31,32,64] (by kernel_rfl)) (Sub.only (fr' := (qa2254 p1 p2 x2)) (st' := [.dead, .dead]) [] 2 (by kernel_rfl) (by kernel_rfl) (by kernel_rfl) (by kernel_rfl)))
       ·rcases zW h with ⟨b20, h⟩ | ⟨b20, h⟩
        ·refine zr (zg [6, 7] 6 [2,3,6,7,31,32,50] (zt 50 b19 (zg [6, 7] 7 [2,3,6,7,31,32,57] (zt 57 b20 (zv [6, 7] 7 [2,3,31,32,64] [] (qa2254 p1 p2 x2) [.box (qa1305 e1), .box (qa1305 e2)] (zd ?_))))))
         exact j2 true h _ _ (Sub.trans (Sub.pick (fr' := (qa2254 p1 p2 x2)) [2,3,31,32,64] (by kernel_rfl)) (Sub.only (fr' := (qa2254 p1 p2 x2)) (st' := [.dead, .dead]) [] 2 (by kernel_rfl) (by kernel_rfl) (by kernel_rfl) (by kernel_rfl)))
        ·obtain ⟨r1, c21, h⟩ := zB h
         refine zr (zg [6, 7] 6 [2,3,6,7,31,32,50] (zt 50 b19 (zg [6, 7] 7 [2,3,6,7,31,32,57] (zt 57 b20 ?_))))
         refine zv [6, 7] 4 [2,3,31,32,57,59,61] [] [(2, vR (qa1274 p1)), (3, vR (qa1274 p2)), (31, vi (p1.fields.length : Int)), (32, vi x2), (57, vb false), (59, .ag [ci e1.type.kind, ci e1.type.scale, cl eField e1.type.fields]), (61, .ag [ci e2.type.kind, ci e2.type.scale, cl eField e2.type.fields])] [.box (qa1305 e1), .box (qa1305 e2)] ?_
         refine za (c_ref1_SameType k0 _ _ _ c21) (zg [6, 7] 2 [2,3,31,32,64] (zd ?_))
         exact j2 (!r1) h _ _ (Sub.trans (Sub.pick (fr' := (qa2257 p1 p2 x2 r1)) [2,3,31,32,64] (by kernel_rfl)) (Sub.only (fr' := (qa2257 p1 p2 x2 r1)) (st' := [.dead, .dead]) [] 2 (by kernel_rfl) (by kernel_rfl) (by kernel_rfl) (by kernel_rfl)))
      ·exact zx 0 (hQ1 _ _ _ (j3 () h _ _ (zk [])))
    exact XR.sub (zk [2,3,31,32]) (hL1 BIG (0 : Int) h)
  rcases zW h with ⟨b4, h⟩ | ⟨b4, h⟩
  ·exact zr (zu [6, 7] 6 [2,3,13] [(qa1274 p1), (qa1274 p2)] (zt 13 b4 (zv [6, 7] 15 [2,3,28] [] [(2, vR (qa1274 p1)), (3, vR (qa1274 p2)), (28, vb true)] [] (zd (j1 true h _ _ (zk [2,3,28]))))))
  ·rcases zW h with ⟨b5, h⟩ | ⟨b5, h⟩
   ·exact zr (zu [6, 7] 6 [2,3,13] [(qa1274 p1), (qa1274 p2)] (zt 13 b4 (zu [6, 7] 7 [2,3,20] [(qa1274 p1), (qa1274 p2)] (zt 20 b5 (zv [6, 7] 8 [2,3,28] [] [(2, vR (qa1274 p1)), (3, vR (qa1274 p2)), (28, vb true)] [] (zd (j1 true h _ _ (zk [2,3,28]))))))))
   ·refine zr (zu [6, 7] 6 [2,3,13] [(qa1274 p1), (qa1274 p2)] (zt 13 b4 (zu [6, 7] 7 [2,3,20] [(qa1274 p1), (qa1274 p2)] (zt 20 b5 ?_))))
    refine zv [6, 7] 3 [2,3,20,23] [[pi p1.kind, pi p1.scale, .ro (eField.els p1.fields)]] [(2, vR [pi p1.kind, pi p1.scale, .ro (eField.els p1.fields)]), (3, vR [pi p2.kind, pi p2.scale, .ro (eField.els p2.fields)]), (20, vb false), (23, vi ((eField.els p1.fields).length : Int))] [] ?_
    rw [eField.len p1.fields]
    refine zv [6, 7] 3 [2,3,20,23,26] [[pi p2.kind, pi p2.scale, .ro (eField.els p2.fields)]] [(2, vR [pi p1.kind, pi p1.scale, .ro (eField.els p1.fields)]), (3, vR [pi p2.kind, pi p2.scale, .ro (eField.els p2.fields)]), (20, vb false), (23, vi (p1.fields.length : Int)), (26, vi ((eField.els p2.fields).length : Int))] [] ?_
    rw [eField.len p2.fields]
    exact zg [6, 7] 2 [2,3,28] (zd (j1 ((p1.fields.length : Int) != (p2.fields.length : Int)) h _ _ (zk [2,3,28])))
def ref2_entries_j2 (rec1 : List Int → List Int → List GValue → Int → Option (Unit × GColumn)) (q_ref2_entries : (List GField) → GValue → Int → Int → Int → GColumn → Option (Unit × GColumn)) (p1 : (List GField)) (p2 : GValue) (p5 : Int) (x1 : Int) (l1 : List Int) (l2 : List Int) (l3 : List GValue) (x2 : Int) (x3 : Int) : Option (Unit × GColumn) := grd (0 ≤ (1 : Int) ∧ (1 : Int) ≤ (p1.length : Int)) <| bnd (at? p2.items x2) fun e2 => bnd (q_ref2_entries (p1.drop (1 : Int).toNat) e2 x3 (i64.wrap (x1 + (1 : Int))) (i64.wrap (p5 + (1 : Int))) (GColumn.mk l1 l2 l3)) fun r1 => rec1 r1.2.reps r1.2.defs r1.2.values (i64.wrap (x2 + (1 : Int)))
def ref2_entries_l1 (q_ref2_entries : (List GField) → GValue → Int → Int → Int → GColumn → Option (Unit × GColumn)) (p1 : (List GField)) (p2 : GValue) (p3 : Int) (p5 : Int) (x1 : Int) : Nat → List Int → List Int → List GValue → Int → Option (Unit × GColumn)
 | 0, _, _, _, _ => none
 | k1 + 1, l1, l2, l3, x2 => ift (decide (x2 < (p2.items.length : Int))) (ift (decide ((0 : Int) < x2)) (ref2_entries_j2 (ref2_entries_l1 q_ref2_entries p1 p2 p3 p5 x1 k1) q_ref2_entries p1 p2 p5 x1 l1 l2 l3 x2 (i64.wrap (p5 + (1 : Int)))) (ref2_entries_j2 (ref2_entries_l1 q_ref2_entries p1 p2 p3 p5 x1 k1) q_ref2_entries p1 p2 p5 x1 l1 l2 l3 x2 p3)) (some ((), (GColumn.mk l1 l2 l3)))
def ref2_entries_j3 (rec2 : List Int → List Int → List GValue → Int → Option (Unit × GColumn)) (x4 : Int) (l7 : List Int) (l8 : List Int) (l9 : List GValue) : Option (Unit × GColumn) := rec2 l7 l8 l9 (i64.wrap (x4 + (1 : Int)))
def ref2_entries_l2 (q_ref2_entries : (List GField) → GValue → Int → Int → Int → GColumn → Option (Unit × GColumn)) (p1 : (List GField)) (p2 : GValue) (p3 : Int) (p5 : Int) (e1 : GField) (x1 : Int) : Nat → List Int → List Int → List GValue → Int → Option (Unit × GColumn)
 | 0, _, _, _, _ => none
 | k2 + 1, l4, l5, l6, x4 => ift (decide (x4 < (e1.type.fields.length : Int))) (bnd (at? e1.type.fields x4) fun e3 => bnd (at? p1 (1 : Int)) fun e4 => ift (e3.id == e4.id) (grd (0 ≤ (1 : Int) ∧ (1 : Int) ≤ (p1.length : Int)) <| bnd (at? p2.items x4) fun e5 => bnd (q_ref2_entries (p1.drop (1 : Int).toNat) e5 p3 x1 p5 (GColumn.mk l4 l5 l6)) fun r2 => ref2_entries_j3 (ref2_entries_l2 q_ref2_entries p1 p2 p3 p5 e1 x1 k2) x4 r2.2.reps r2.2.defs r2.2.values) (ref2_entries_j3 (ref2_entries_l2 q_ref2_entries p1 p2 p3 p5 e1 x1 k2) x4 l4 l5 l6)) (some ((), (GColumn.mk l4 l5 l6)))
def ref2_entries_j1 (q_ref2_entries : (List GField) → GValue → Int → Int → Int → GColumn → Option (Unit × GColumn)) (p1 : (List GField)) (p2 : GValue) (p3 : Int) (p5 : Int) (p6 : GColumn) (e1 : GField) (x1 : Int) : Option (Unit × GColumn) := ift (e1.type.kind == (6 : Int)) (ift ((p2.items.length : Int) == (0 : Int)) (grd (p6.reps.length + 1 ≤ 4294967296) <| grd (p6.defs.length + 1 ≤ 4294967296) <| some ((), (GColumn.mk (p6.reps ++ [p3]) (p6.defs ++ [x1]) p6.values))) (ref2_entries_l1 q_ref2_entries p1 p2 p3 p5 x1 BIG p6.reps p6.defs p6.values (0 : Int))) (ift (e1.type.kind == (7 : Int)) (ref2_entries_l2 q_ref2_entries p1 p2 p3 p5 e1 x1 BIG p6.reps p6.defs p6.values (0 : Int)) (grd (p6.reps.length + 1 ≤ 4294967296) <| grd (p6.defs.length + 1 ≤ 4294967296) <| grd (p6.values.length + 1 ≤ 4294967296) <| some ((), (GColumn.mk (p6.reps ++ [p3]) (p6.defs ++ [x1]) (p6.values ++ [p2])))))
def ref2_entries : Nat → (List GField) → GValue → Int → Int → Int → GColumn → Option (Unit × GColumn)
 | 0, _, _, _, _, _, _ => none
 | k0 + 1, p1, p2, p3, p4, p5, p6 => bnd (at? p1 (0 : Int)) fun e1 => ift (!e1.need) (ift (p2.kind == (0 : Int)) (grd (p6.reps.length + 1 ≤ 4294967296) <| grd (p6.defs.length + 1 ≤ 4294967296) <| some ((), (GColumn.mk (p6.reps ++ [p3]) (p6.defs ++ [p4]) p6.values))) (ref2_entries_j1 (ref2_entries k0) p1 p2 p3 p5 p6 e1 (i64.wrap (p4 + (1 : Int))))) (ref2_entries_j1 (ref2_entries k0) p1 p2 p3 p5 p6 e1 p4)
abbrev qa2260 (p6 : GColumn) : List CV := [.sl 1 1 0 p6.reps.length, .sl 2 1 0 p6.defs.length, .sl 3 5 0 p6.values.length]
abbrev qa2265 (p3 : Int) (p6 : GColumn) : List CV := [.sl 5 1 0 ((p6.reps ++ [p3]).length), .sl 2 1 0 p6.defs.length, .sl 3 5 0 p6.values.length]
abbrev qa2266 (p3 : Int) (p6 : GColumn) (x1 : Int) : List CV := [.sl 5 1 0 ((p6.reps ++ [p3]).length), .sl 6 1 0 ((p6.defs ++ [x1]).length), .sl 3 5 0 p6.values.length]
abbrev qa2269 (l1 : List Int) (l2 : List Int) (l3 : List GValue) : List CV := [.sl 1 1 0 l1.length, .sl 2 1 0 l2.length, .sl 3 5 0 l3.length]
abbrev qa2291 (p6 : GColumn) (e1 : GField) : St := [.box (qa2260 p6), .arr 1 (eI.els p6.reps), .arr 1 (eI.els p6.defs), .arr 5 (eValue.els p6.values), .box (qa1305 e1)]
abbrev qa2292 (p1 : (List GField)) (p2 : GValue) (p3 : Int) (p5 : Int) (p6 : GColumn) (x1 : Int) : Fr := [(104, vq 0), (103, vq 0), (102, .one (.sl 6 1 0 ((p6.defs ++ [x1]).length))), (101, vl eI [x1]), (100, vi x1), (99, .one (.sl 2 1 0 p6.defs.length)), (98, .one (.pt 0 0 0 1)), (97, vq 0), (96, vq 0), (95, .one (.sl 5 1 0 ((p6.reps ++ [p3]).length))), (94, vl eI [p3]), (93, vi p3), (92, .one (.sl 1 1 0 p6.reps.length)), (91, vq 0), (90, vq 0), (89, vq 0), (88, vq 0), (87, vq 0), (0, vq 0), (1, vl eField p1), (3, vi p3), (4, vi x1), (5, vi p5), (8, vR (qa1467 p2)), (86, vb ((p2.items.length : Int) == (0 : Int)))]
abbrev qa2293 (p3 : Int) (p6 : GColumn) (e1 : GField) (x1 : Int) : St := [.box (qa2265 p3 p6), .dead, .dead, .arr 5 (eValue.els p6.values), .box (qa1305 e1), .arr 1 (eI.els (p6.reps ++ [p3])), .arr 1 (eI.els (p6.defs ++ [x1]))]
abbrev qa2300 (l1 : List Int) (l2 : List Int) (l3 : List GValue) : St := [.box (qa2269 l1 l2 l3), .arr 1 (eI.els l1), .arr 1 (eI.els l2), .arr 5 (eValue.els l3), .dead]
abbrev qa2308 (p1 : (List GField)) (p2 : GValue) (p3 : Int) (p5 : Int) (x1 : Int) : Fr := [(0, vq 0), (1, vl eField p1), (3, vi p3), (4, vi x1), (5, vi p5), (8, vR (qa1467 p2)), (109, vi (p2.items.length : Int)), (110, vi 0)]
abbrev qa2309 (p6 : GColumn) : St := [.box (qa2260 p6), .arr 1 (eI.els p6.reps), .arr 1 (eI.els p6.defs), .arr 5 (eValue.els p6.values), .dead]
abbrev qa2310 (p1 : (List GField)) (p2 : GValue) (p3 : Int) (p5 : Int) (e1 : GField) (x1 : Int) (x4 : Int) : Fr := [(0, vq 0), (1, vl eField p1), (3, vi p3), (4, vi x1), (5, vi p5), (8, vR (qa1467 p2)), (137, vl eField e1.type.fields), (138, vi (e1.type.fields.length : Int)), (139, vi x4)]
abbrev qa2313 (p1 : (List GField)) (p2 : GValue) (p3 : Int) (p5 : Int) (e1 : GField) (x1 : Int) (x4 : Int) (e3 : GField) (e4 : GField) : Fr := [(149, vi e4.id), (148, .one (.pv (.rp (eField.els p1) ((1 : Int).toNat) 0))), (147, .one (.pv (.rp (eField.els p1) ((1 : Int).toNat) 0))), (146, vl eField p1), (145, vi e3.id), (144, vq 5), (0, vq 0), (1, vl eField p1), (3, vi p3), (4, vi x1), (5, vi p5), (8, vR (qa1467 p2)), (15, vi x4), (16, vq 5), (137, vl eField e1.type.fields), (138, vi (e1.type.fields.length : Int)), (139, vi x4)]
abbrev qa2321 (p1 : (List GField)) (p2 : GValue) (p3 : Int) (p5 : Int) (e1 : GField) (x1 : Int) : Fr := [(0, vq 0), (1, vl eField p1), (3, vi p3), (4, vi x1), (5, vi p5), (8, vR (qa1467 p2)), (137, vl eField e1.type.fields), (138, vi (e1.type.fields.length : Int)), (139, vi 0)]
abbrev qa2322 (p1 : (List GField)) (p2 : GValue) (p3 : Int) (p5 : Int) (p6 : GColumn) (e1 : GField) (x1 : Int) : Fr := [(78, .one (.pt 0 0 0 1)), (77, vq 0), (76, vq 0), (75, vq 0), (74, .one (.sl 7 5 0 ((p6.values ++ [p2]).length))), (73, vl eValue [p2]), (72, .ag (qa1518 p2)), (71, .one (.sl 3 5 0 p6.values.length)), (70, .one (.pt 0 0 0 2)), (69, vq 0), (68, vq 0), (67, .one (.sl 6 1 0 ((p6.defs ++ [x1]).length))), (66, vl eI [x1]), (65, vi x1), (64, .one (.sl 2 1 0 p6.defs.length)), (63, .one (.pt 0 0 0 1)), (62, vq 0), (61, vq 0), (60, .one (.sl 5 1 0 ((p6.reps ++ [p3]).length))), (59, vl eI [p3]), (58, vi p3), (57, .one (.sl 1 1 0 p6.reps.length)), (56, vq 0), (55, vq 0), (54, vq 0), (53, vq 0), (52, vq 0), (51, vq 0), (0, vq 0), (1, vl eField p1), (3, vi p3), (4, vi x1), (5, vi p5), (8, vR (qa1467 p2)), (12, vq 4), (133, vb (e1.type.kind == (7 : Int)))]
abbrev qa2323 (p2 : GValue) (p3 : Int) (p6 : GColumn) (e1 : GField) (x1 : Int) : St := [.box (qa2266 p3 p6 x1), .dead, .dead, .dead, .box (qa1305 e1), .arr 1 (eI.els (p6.reps ++ [p3])), .arr 1 (eI.els (p6.defs ++ [x1])), .arr 5 (eValue.els (p6.values ++ [p2]))]
abbrev qa2326 (p1 : (List GField)) (p2 : GValue) (p3 : Int) (p5 : Int) (p6 : GColumn) (e1 : GField) (x1 : Int) : Fr := [(76, vq 0), (75, vq 0), (74, .one (.sl 7 5 0 ((p6.values ++ [p2]).length))), (73, vl eValue [p2]), (72, .ag (qa1518 p2)), (71, .one (.sl 3 5 0 p6.values.length)), (70, .one (.pt 0 0 0 2)), (69, vq 0), (68, vq 0), (67, .one (.sl 6 1 0 ((p6.defs ++ [x1]).length))), (66, vl eI [x1]), (65, vi x1), (64, .one (.sl 2 1 0 p6.defs.length)), (63, .one (.pt 0 0 0 1)), (62, vq 0), (61, vq 0), (60, .one (.sl 5 1 0 ((p6.reps ++ [p3]).length))), (59, vl eI [p3]), (58, vi p3), (57, .one (.sl 1 1 0 p6.reps.length)), (56, vq 0), (55, vq 0), (54, vq 0), (53, vq 0), (52, vq 0), (51, vq 0), (0, vq 0), (1, vl eField p1), (3, vi p3), (4, vi x1), (5, vi p5), (8, vR (qa1467 p2)), (12, vq 4), (133, vb (e1.type.kind == (7 : Int)))]
abbrev qa2333 (p1 : (List GField)) (p2 : GValue) (p3 : Int) (p4 : Int) (p5 : Int) (p6 : GColumn) : Fr := [(43, vq 0), (42, vq 0), (41, .one (.sl 6 1 0 ((p6.defs ++ [p4]).length))), (40, vl eI [p4]), (39, vi p4), (38, .one (.sl 2 1 0 p6.defs.length)), (37, .one (.pt 0 0 0 1)), (36, vq 0), (35, vq 0), (34, .one (.sl 5 1 0 ((p6.reps ++ [p3]).length))), (33, vl eI [p3]), (32, vi p3), (31, .one (.sl 1 1 0 p6.reps.length)), (30, vq 0), (29, vq 0), (28, vq 0), (27, vq 0), (26, vq 0), (0, vq 0), (1, vl eField p1), (3, vi p3), (4, vi p4), (5, vi p5), (8, vR (qa1467 p2)), (12, vq 4), (25, vb (p2.kind == (0 : Int)))]
abbrev qa2334 (p3 : Int) (p4 : Int) (p6 : GColumn) (e1 : GField) : St := [.box (qa2265 p3 p6), .dead, .dead, .arr 5 (eValue.els p6.values), .box (qa1305 e1), .arr 1 (eI.els (p6.reps ++ [p3])), .arr 1 (eI.els (p6.defs ++ [p4]))]
theorem c_ref2_entries : ∀ (k0 : Nat) (p1 : (List GField)) (p2 : GValue) (p3 : Int) (p4 : Int) (p5 : Int) (p6 : GColumn) (r : (Unit × GColumn)), ref2_entries k0 p1 p2 p3 p4 p5 p6 = some r → MX Tryd.prog 60 [vq 0, vl eField p1, .ag (qa1518 p2), vi p3, vi p4, vi p5] [.box (qa2260 p6), .arr 1 (eI.els p6.reps), .arr 1 (eI.els p6.defs), .arr 5 (eValue.els p6.values)] [1, 2, 3] (.tp []) [.box [.sl 1 1 0 r.2.reps.length, .sl 2 1 0 r.2.defs.length, .sl 3 5 0 r.2.values.length], .arr 1 (eI.els r.2.reps), .arr 1 (eI.els r.2.defs), .arr 5 (eValue.els r.2.values)]
 | 0, _, _, _, _, _, _, r, h => by rw [ref2_entries.eq_1] at h; cases h
 | k0 + 1, p1, p2, p3, p4, p5, p6, r, h => by
  rw [ref2_entries.eq_2] at h
  refine MX.of 4 4 rfl (n := 164) (fn := Tryd.f60) (c := cd Tryd.f60 []) (by kernel_rfl) (by kernel_rfl) (by kernel_rfl) (Nat.le_of_ble_eq_true rfl) rfl (zq fun K1 m1 => zr (zg [12, 16] 1 [0,1,3,4,5,8] (zd (m1 _ _ (zq fun K2 m2 => ?_)))))
  obtain ⟨e1, a3, h⟩ := zB h
  refine zr (zo [12, 16] 5 [0,1,3,4,5,8,12] [(qa1299 e1)] [0 ≤ (0 : Int) ∧ (0 : Int) < ((eField.els p1).length : Int) ∧ elemsOk 6 (eField.els p1), (eField.els p1)[(0 : Int).toNat]? = some (qa1299 e1)] (⟨eField.inb a3, ((eField.get a3).trans (by rcases e1 with ⟨_, _, _, ⟨_, _, _⟩⟩; rfl)), trivial⟩) (zd (m2 _ _ (zq fun K4 m4 => ?_))))
  have j1 : ∀ (x1 : Int), ref2_entries_j1 (ref2_entries k0) p1 p2 p3 p5 p6 e1 x1 = some r → ∀ w0 w1, Sub 164 4 [1, 2, 3] w0 w1 [(0, vq 0), (1, vl eField p1), (3, vi p3), (4, vi x1), (5, vi p5), (8, vR (qa1467 p2)), (12, vq 4)] (qa2291 p6 e1) → K4 w0 w1 := by
   intro x1 h w0 w1 hS
   unfold ref2_entries_j1 at h
   refine m4 _ _ (XW.sub hS ?_)
   refine zq fun K13 m13 => zr (zg [12, 16] 3 [0,1,3,4,5,8,12,50] (zd (m13 _ _ (zb 0 (zq fun K14 m14 => zr ?_)))))
   refine zg [12, 16] 2 [0,1,3,4,5,8,12,50,81] (zd (m14 _ _ (zC h (fun b15 h => ?_) (fun b15 h => ?_))))
   ·refine zq fun K16 m16 => zq fun K17 m17 => zr ?_
    refine zv [12, 16] 3 [0,1,3,4,5,8,85] [[pi p2.kind, pi p2.n, pi p2.scale, .s (.string p2.s), .ro (eValue.els p2.items)]] [(0, vq 0), (1, vl eField p1), (3, vi p3), (4, vi x1), (5, vi p5), (8, vR [pi p2.kind, pi p2.n, pi p2.scale, .s (.string p2.s), .ro (eValue.els p2.items)]), (85, vi ((eValue.els p2.items).length : Int))] [.box [.sl 1 1 0 p6.reps.length, .sl 2 1 0 p6.defs.length, .sl 3 5 0 p6.values.length], .arr 1 (eI.els p6.reps), .arr 1 (eI.els p6.defs), .arr 5 (eValue.els p6.values), .box [ci e1.id, cst e1.name, cb e1.need, ci e1.type.kind, ci e1.type.scale, cl eField e1.type.fields]] ?_
    rw [eValue.len p2.items]
    refine zg [12, 16] 1 [0,1,3,4,5,8,86] (zd (m17 _ _ (zC h (fun b18 h => ?_) (fun b18 h => ?_))))
    ·refine zq fun K19 m19 => ?_
     obtain ⟨g20, h⟩ := zG h
     obtain ⟨g21, h⟩ := zG h
     refine XW.sub (Sub.dead 2) ?_
     refine XW.drwG 19 [5, 6, 7] [([], []), ([], []), ([], []), ([], []), ([], []), ([0], []), ([], []), ([], []), ([5, 1, 1005], [5, 1, 1005]), ([], []), ([], []), ([], []), ([0], []), ([], []), ([], []), ([6, 2, 1006], [6, 2, 1006]), ([], []), ([], []), ([0, 1005], [0])] (qa2292 p1 p2 p3 p5 p6 x1) (qa2293 p3 p6 e1 x1) (by kernel_rfl) (by kernel_rfl) ?_ ?_
     ·refine zgv 8 [] [(94, vl eI [p3]), (93, vi p3), (92, .one (.sl 1 1 0 p6.reps.length)), (91, vq 0), (90, vq 0), (89, vq 0), (88, vq 0), (87, vq 0), (0, vq 0), (1, vl eField p1), (3, vi p3), (4, vi x1), (5, vi p5), (8, vR (qa1467 p2)), (86, vb ((p2.items.length : Int) == (0 : Int)))] ?_
      refine GY.new true 5 [] [(95, .one (.sl 5 1 0 (p6.reps.length + (eI.els [p3]).length))), (94, vl eI [p3]), (93, vi p3), (92, .one (.sl 1 1 0 p6.reps.length)), (91, vq 0), (90, vq 0), (89, vq 0), (88, vq 0), (87, vq 0), (0, vq 0), (1, vl eField p1), (3, vi p3), (4, vi x1), (5, vi p5), (8, vR [pi p2.kind, pi p2.n, pi p2.scale, .s (.string p2.s), .ro (eValue.els p2.items)]), (86, vb ((p2.items.length : Int) == (0 : Int)))] [5, 1] [.box [.sl 1 1 0 p6.reps.length, .sl 2 1 0 p6.defs.length, .sl 3 5 0 p6.values.length], .dead, .arr 1 (eI.els p6.defs), .arr 5 (eValue.els p6.values), .box [ci e1.id, cst e1.name, cb e1.need, ci e1.type.kind, ci e1.type.scale, cl eField e1.type.fields], .arr 1 (eI.els p6.reps ++ eI.els [p3]), .dead] [elemsOk 1 (eI.els [p3]), p6.reps.length = (eI.els p6.reps).length, p6.reps.length + (eI.els [p3]).length ≤ 4294967296] (by kernel_rfl) (by kernel_rfl) (⟨eI.ok _, (eI.len p6.reps).symm, g20, trivial⟩) (by kernel_rfl) ?_
      rw [show p6.reps.length + (eI.els [p3]).length = (p6.reps ++ [p3]).length from eI.lapp _ _]
      rw [show eI.els p6.reps ++ eI.els [p3] = eI.els (p6.reps ++ [p3]) from eI.app2 _ _]
      refine zgv 6 [] [(101, vl eI [x1]), (100, vi x1), (99, .one (.sl 2 1 0 p6.defs.length)), (98, .one (.pt 0 0 0 1)), (97, vq 0), (96, vq 0), (95, .one (.sl 5 1 0 ((p6.reps ++ [p3]).length))), (94, vl eI [p3]), (93, vi p3), (92, .one (.sl 1 1 0 p6.reps.length)), (91, vq 0), (90, vq 0), (89, vq 0), (88, vq 0), (87, vq 0), (0, vq 0), (1, vl eField p1), (3, vi p3), (4, vi x1), (5, vi p5), (8, vR (qa1467 p2)), (86, vb ((p2.items.length : Int) == (0 : Int)))] ?_
      refine GY.new true 6 [] [(102, .one (.sl 6 1 0 (p6.defs.length + (eI.els [x1]).length))), (101, vl eI [x1]), (100, vi x1), (99, .one (.sl 2 1 0 p6.defs.length)), (98, .one (.pt 0 0 0 1)), (97, vq 0), (96, vq 0), (95, .one (.sl 5 1 0 ((p6.reps ++ [p3]).length))), (94, vl eI [p3]), (93, vi p3), (92, .one (.sl 1 1 0 p6.reps.length)), (91, vq 0), (90, vq 0), (89, vq 0), (88, vq 0), (87, vq 0), (0, vq 0), (1, vl eField p1), (3, vi p3), (4, vi x1), (5, vi p5), (8, vR [pi p2.kind, pi p2.n, pi p2.scale, .s (.string p2.s), .ro (eValue.els p2.items)]), (86, vb ((p2.items.length : Int) == (0 : Int)))] [6, 2] [.box [.sl 1 1 0 p6.reps.length, .sl 2 1 0 p6.defs.length, .sl 3 5 0 p6.values.length], .dead, .dead, .arr 5 (eValue.els p6.values), .box [ci e1.id, cst e1.name, cb e1.need, ci e1.type.kind, ci e1.type.scale, cl eField e1.type.fields], .arr 1 (eI.els (p6.reps ++ [p3])), .arr 1 (eI.els p6.defs ++ eI.els [x1])] [elemsOk 1 (eI.els [x1]), p6.defs.length = (eI.els p6.defs).length, p6.defs.length + (eI.els [x1]).length ≤ 4294967296] (by kernel_rfl) (by kernel_rfl) (⟨eI.ok _, (eI.len p6.defs).symm, g21, trivial⟩) (by kernel_rfl) ?_
      rw [show p6.defs.length + (eI.els [x1]).length = (p6.defs ++ [x1]).length from eI.lapp _ _]
      rw [show eI.els p6.defs ++ eI.els [x1] = eI.els (p6.defs ++ [x1]) from eI.app2 _ _]
      refine zgv 2 [] (qa2292 p1 p2 p3 p5 p6 x1) ?_
      refine GY.sto [0] [] (qa2292 p1 p2 p3 p5 p6 x1) ([0] ++ [1005]) (qa2293 p3 p6 e1 x1) [] (by kernel_rfl) (by kernel_rfl) trivial (by kernel_rfl) ?_
      exact GY.done (by kernel_rfl) (by kernel_rfl)
     refine zv [12, 16] 3 [] [] [] [.box (qa2266 p3 p6 x1), .dead, .dead, .arr 5 (eValue.els p6.values), .box (qa1305 e1), .arr 1 (eI.els (p6.reps ++ [p3])), .arr 1 (eI.els (p6.defs ++ [x1]))] ?_
     refine XO.sub (Sub.swap 1 5 [] [.box [.sl 1 1 0 ((p6.reps ++ [p3]).length), .sl 6 1 0 ((p6.defs ++ [x1]).length), .sl 3 5 0 p6.values.length], .arr 1 (eI.els (p6.reps ++ [p3])), .dead, .arr 5 (eValue.els p6.values), .box (qa1305 e1), .dead, .arr 1 (eI.els (p6.defs ++ [x1]))] (by kernel_rfl) (by kernel_rfl) (by kernel_rfl) (by kernel_rfl)) ?_
     refine XO.sub (Sub.swap 2 6 [] [.box [.sl 1 1 0 ((p6.reps ++ [p3]).length), .sl 2 1 0 ((p6.defs ++ [x1]).length), .sl 3 5 0 p6.values.length], .arr 1 (eI.els (p6.reps ++ [p3])), .arr 1 (eI.els (p6.defs ++ [x1])), .arr 5 (eValue.els p6.values), .box (qa1305 e1), .dead, .dead] (by kernel_rfl) (by kernel_rfl) (by kernel_rfl) (by kernel_rfl)) (zd (m19 _ _ (ze ?_)))
     obtain rfl := zj h
     exact FinM.fin (.inr rfl) [] [] [] (by kernel_rfl) trivial (by kernel_rfl) (by kernel_rfl) (.tp0)
    ·refine zs (m16 _ _ (zq fun K22 m22 => zr ?_))
     refine zv [12, 16] 3 [0,1,3,4,5,8,109] [[pi p2.kind, pi p2.n, pi p2.scale, .s (.string p2.s), .ro (eValue.els p2.items)]] [(0, vq 0), (1, vl eField p1), (3, vi p3), (4, vi x1), (5, vi p5), (8, vR [pi p2.kind, pi p2.n, pi p2.scale, .s (.string p2.s), .ro (eValue.els p2.items)]), (109, vi ((eValue.els p2.items).length : Int))] [.box [.sl 1 1 0 p6.reps.length, .sl 2 1 0 p6.defs.length, .sl 3 5 0 p6.values.length], .arr 1 (eI.els p6.reps), .arr 1 (eI.els p6.defs), .arr 5 (eValue.els p6.values), .box [ci e1.id, cst e1.name, cb e1.need, ci e1.type.kind, ci e1.type.scale, cl eField e1.type.fields]] ?_
     rw [eValue.len p2.items]
     refine zg [12, 16] 1 [0,1,3,4,5,8,109,110] (zd (m22 _ _ (zb 1 (XW.rounds' BIG (x := cd Tryd.f60 [1,1,1,1,0,1,0,1,1,0,0]) (by kernel_rfl) fun Q1 hQ1 => ?_))))
     have hL1 : ∀ (k1 : Nat) (l1 : List Int) (l2 : List Int) (l3 : List GValue) (x2 : Int), ref2_entries_l1 (ref2_entries k0) p1 p2 p3 p5 x1 k1 l1 l2 l3 x2 = some r → XR Tryd.prog 164 4 [1, 2, 3] (cd Tryd.f60 [1,1,1,1,0,1,0,1,1,0,0]) Q1 k1 [(0, vq 0), (1, vl eField p1), (3, vi p3), (4, vi x1), (5, vi p5), (8, vR (qa1467 p2)), (109, vi (p2.items.length : Int)), (110, vi x2)] (qa2300 l1 l2 l3) := by
      intro k1
      induction k1 with
      | zero => intro l1 l2 l3 x2 h; rw [ref2_entries_l1.eq_1] at h; cases h
      | succ k1 ih1 =>
       intro l1 l2 l3 x2 h
       rw [ref2_entries_l1.eq_2] at h
       refine zq fun K23 m23 => zr (zg [12, 16] 1 [0,1,3,4,5,8,109,110,111] (zd (m23 _ _ (zq fun K24 m24 => zC h (fun b25 h => ?_) (fun b25 h => ?_)))))
       ·refine zs (m24 _ _ (zq fun K26 m26 => zb 2 (zq fun K27 m27 => zr (zg [12, 16] 2 [0,1,3,4,5,8,13,109,110] (zd ?_)))))
        refine m27 _ _ (zq fun K28 m28 => zr (zv [12, 16] 2 [0,1,3,4,5,8,13,14,109,110] [] [(0, vq 0), (1, vl eField p1), (3, vi p3), (4, vi x1), (5, vi p5), (8, vR (qa1467 p2)), (13, vi x2), (14, vi p3), (109, vi (p2.items.length : Int)), (110, vi x2)] (qa2300 l1 l2 l3) (zd (m28 _ _ (zq fun K29 m29 => ?_)))))
        have j2 : ∀ (x3 : Int), ref2_entries_j2 (ref2_entries_l1 (ref2_entries k0) p1 p2 p3 p5 x1 k1) (ref2_entries k0) p1 p2 p5 x1 l1 l2 l3 x2 x3 = some r → ∀ w0 w1, Sub 164 4 [1, 2, 3] w0 w1 [(0, vq 0), (1, vl eField p1), (3, vi p3), (4, vi x1), (5, vi p5), (8, vR (qa1467 p2)), (13, vi x2), (14, vi x3), (109, vi (p2.items.length : Int)), (110, vi x2)] (qa2300 l1 l2 l3) → K29 w0 w1 := by
         intro x3 h w0 w1 hS
         unfold ref2_entries_j2 at h
         refine m29 _ _ (XW.sub hS ?_)
         obtain ⟨g32, h⟩ := zG h
         obtain ⟨e2, a33, h⟩ := zB h
         obtain ⟨r1, c34, h⟩ := zB h
         refine zw 13 [(130, vi (i64.wrap (p5 + (1 : Int)))), (129, vi p5), (128, vi (i64.wrap (x1 + (1 : Int)))), (127, vi x1), (126, vi x3), (125, .ag (qa1518 e2)), (124, .one (.pv (.rp (eValue.els p2.items) x2.toNat 0))), (123, vi x2), (122, vl eValue p2.items), (121, .one (.pv (.rp [(qa1467 p2)] 0 4))), (120, vl eField (p1.drop (1 : Int).toNat)), (119, vl eField p1), (118, vq 0), (0, vq 0), (1, vl eField p1), (3, vi p3), (4, vi x1), (5, vi p5), (8, vR (qa1467 p2)), (13, vi x2), (14, vi x3), (109, vi (p2.items.length : Int)), (110, vi x2)] ?_ ?_
         ·refine zyp 3 [] [(120, .one (.pv (.ro (((eField.els p1).drop (1 : Int).toNat).take ((eField.els p1).length - (1 : Int).toNat))))), (119, vl eField p1), (118, vq 0), (0, vq 0), (1, vl eField p1), (3, vi p3), (4, vi x1), (5, vi p5), (8, vR [pi p2.kind, pi p2.n, pi p2.scale, .s (.string p2.s), .ro (eValue.els p2.items)]), (13, vi x2), (14, vi x3), (109, vi (p2.items.length : Int)), (110, vi x2)] [(0 ≤ (1 : Int) ∧ (1 : Int) ≤ ((eField.els p1).length : Int) ∧ ((eField.els p1).length : Int) ≤ ((eField.els p1).length : Int)) ∧ elemsOk 6 (eField.els p1)] (⟨eField.cutHiOk g32, trivial⟩) ?_
          rw [show ((eField.els p1).drop (1 : Int).toNat).take ((eField.els p1).length - (1 : Int).toNat) = eField.els (p1.drop (1 : Int).toNat) from eField.cutHi _ _]
          refine zyo 10 [(qa1467 p2), [pi e2.kind, pi e2.n, pi e2.scale, .s (.string e2.s), .ro (eValue.els e2.items)]] [([(qa1467 p2)] : List (List PV))[0]? = some (qa1467 p2), 0 ≤ x2 ∧ x2 < ((eValue.els p2.items).length : Int) ∧ elemsOk 5 (eValue.els p2.items), (eValue.els p2.items)[x2.toNat]? = some [pi e2.kind, pi e2.n, pi e2.scale, .s (.string e2.s), .ro (eValue.els e2.items)]] (⟨rfl, eValue.inb a33, ((eValue.get a33).trans (by cases e2; rfl)), trivial⟩) ?_
          exact zyd
         refine XO.calx 60 [vq 0, vl eField (p1.drop (1 : Int).toNat), .ag (qa1518 e2), vi x3, vi (i64.wrap (x1 + (1 : Int))), vi (i64.wrap (p5 + (1 : Int)))] [.box (qa2269 l1 l2 l3), .arr 1 (eI.els l1), .arr 1 (eI.els l2), .arr 5 (eValue.els l3)] [.box [.sl 1 1 0 r1.2.reps.length, .sl 2 1 0 r1.2.defs.length, .sl 3 5 0 r1.2.values.length], .arr 1 (eI.els r1.2.reps), .arr 1 (eI.els r1.2.defs), .arr 5 (eValue.els r1.2.values)] [1, 2, 3] (.tp []) [0, 1, 2, 3] [1, 2, 3] [(131, .tp []), (130, vi (i64.wrap (p5 + (1 : Int)))), (129, vi p5), (128, vi (i64.wrap (x1 + (1 : Int)))), (127, vi x1), (126, vi x3), (125, .ag (qa1518 e2)), (124, .one (.pv (.rp (eValue.els p2.items) x2.toNat 0))), (123, vi x2), (122, vl eValue p2.items), (121, .one (.pv (.rp [(qa1467 p2)] 0 4))), (120, vl eField (p1.drop (1 : Int).toNat)), (119, vl eField p1), (118, vq 0), (0, vq 0), (1, vl eField p1), (3, vi p3), (4, vi x1), (5, vi p5), (8, vR (qa1467 p2)), (13, vi x2), (14, vi x3), (109, vi (p2.items.length : Int)), (110, vi x2)] [.box [.sl 1 1 0 r1.2.reps.length, .sl 2 1 0 r1.2.defs.length, .sl 3 5 0 r1.2.values.length], .arr 1 (eI.els r1.2.reps), .arr 1 (eI.els r1.2.defs), .arr 5 (eValue.els r1.2.values), .dead] (by kernel_rfl) (c_ref2_entries k0 _ _ _ _ _ _ _ c34) (by kernel_rfl) (by kernel_rfl) (by kernel_rfl) (by kernel_rfl) (by kernel_rfl) (by kernel_rfl) (by kernel_rfl) ?_
         exact zd (m26 _ _ (zr (zg [12, 16] 2 [0,1,3,4,5,8,109,110] (zd (XR.sub (zk [0,1,3,4,5,8,109,110]) (ih1 r1.2.reps r1.2.defs r1.2.values (i64.wrap (x2 + (1 : Int))) h))))))
        refine zq fun K30 m30 => zr (zg [12, 16] 2 [0,1,3,4,5,8,13,14,109,110,115] (zd (m30 _ _ (zC h (fun b31 h => ?_) (fun b31 h => ?_)))))
        ·exact zr (zg [12, 16] 3 [0,1,3,4,5,8,13,14,109,110] (zd (j2 (i64.wrap (p5 + (1 : Int))) h _ _ (zk [0,1,3,4,5,8,13,14,109,110]))))
        ·exact zs (j2 p3 h _ _ (zk [0,1,3,4,5,8,13,14,109,110]))
       ·refine zx 1 (hQ1 _ _ _ ?_)
        obtain rfl := zj h
        exact FinM.fin (.inl rfl) [] [] [] (by kernel_rfl) trivial (by kernel_rfl) (by kernel_rfl) (.tp0)
     exact XR.sub (Sub.trans (Sub.pick (fr' := (qa2308 p1 p2 p3 p5 x1)) [0,1,3,4,5,8,109,110] (by kernel_rfl)) (Sub.only (fr' := (qa2308 p1 p2 p3 p5 x1)) (st' := (qa2309 p6)) [0, 1, 2, 3] 5 (by kernel_rfl) (by kernel_rfl) (by kernel_rfl) (by kernel_rfl))) (hL1 BIG p6.reps p6.defs p6.values (0 : Int) h)
   ·refine zq fun K35 m35 => zr (zg [12, 16] 2 [0,1,3,4,5,8,12,133] (zd (m35 _ _ (zC h (fun b36 h => ?_) (fun b36 h => ?_)))))
    ·refine zq fun K37 m37 => zr ?_
     refine zv [12, 16] 4 [0,1,3,4,5,8,137,138] [] [(0, vq 0), (1, vl eField p1), (3, vi p3), (4, vi x1), (5, vi p5), (8, vR [pi p2.kind, pi p2.n, pi p2.scale, .s (.string p2.s), .ro (eValue.els p2.items)]), (137, vl eField e1.type.fields), (138, vi ((eField.els e1.type.fields).length : Int))] [.box [.sl 1 1 0 p6.reps.length, .sl 2 1 0 p6.defs.length, .sl 3 5 0 p6.values.length], .arr 1 (eI.els p6.reps), .arr 1 (eI.els p6.defs), .arr 5 (eValue.els p6.values), .box [ci e1.id, cst e1.name, cb e1.need, ci e1.type.kind, ci e1.type.scale, cl eField e1.type.fields]] ?_
     rw [eField.len e1.type.fields]
     refine zg [12, 16] 1 [0,1,3,4,5,8,137,138,139] (zd (m37 _ _ (zb 3 (XW.rounds' BIG (x := cd Tryd.f60 [1,1,1,1,0,1,1,1,0,1,0,0]) (by kernel_rfl) fun Q2 hQ2 => ?_))))
     have hL2 : ∀ (k2 : Nat) (l4 : List Int) (l5 : List Int) (l6 : List GValue) (x4 : Int), ref2_entries_l2 (ref2_entries k0) p1 p2 p3 p5 e1 x1 k2 l4 l5 l6 x4 = some r → XR Tryd.prog 164 4 [1, 2, 3] (cd Tryd.f60 [1,1,1,1,0,1,1,1,0,1,0,0]) Q2 k2 (qa2310 p1 p2 p3 p5 e1 x1 x4) [.box [.sl 1 1 0 l4.length, .sl 2 1 0 l5.length, .sl 3 5 0 l6.length], .arr 1 (eI.els l4), .arr 1 (eI.els l5), .arr 5 (eValue.els l6), .dead] := by
      intro k2
      induction k2 with
      | zero => intro l4 l5 l6 x4 h; rw [ref2_entries_l2.eq_1] at h; cases h
      | succ k2 ih2 =>
       intro l4 l5 l6 x4 h
       rw [ref2_entries_l2.eq_2] at h
       refine zq fun K38 m38 => zr (zg [12, 16] 1 [0,1,3,4,5,8,137,138,139,140] (zd (m38 _ _ (zq fun K39 m39 => zC h (fun b40 h => ?_) (fun b40 h => ?_)))))
       ·refine zs (m39 _ _ (zq fun K41 m41 => ?_))
        have j3 : ∀ (l7 : List Int) (l8 : List Int) (l9 : List GValue), ref2_entries_j3 (ref2_entries_l2 (ref2_entries k0) p1 p2 p3 p5 e1 x1 k2) x4 l7 l8 l9 = some r → ∀ w0 w1, Sub 164 4 [1, 2, 3] w0 w1 (qa2310 p1 p2 p3 p5 e1 x1 x4) [.box [.sl 1 1 0 l7.length, .sl 2 1 0 l8.length, .sl 3 5 0 l9.length], .arr 1 (eI.els l7), .arr 1 (eI.els l8), .arr 5 (eValue.els l9), .dead] → K41 w0 w1 := by
         intro l7 l8 l9 h w0 w1 hS
         unfold ref2_entries_j3 at h
         refine m41 _ _ (XW.sub hS ?_)
         exact zr (zg [12, 16] 2 [0,1,3,4,5,8,137,138,139] (zd (XR.sub (zk [0,1,3,4,5,8,137,138,139]) (ih2 l7 l8 l9 (i64.wrap (x4 + (1 : Int))) h))))
        refine zb 4 (zq fun K42 m42 => ?_)
        obtain ⟨e3, a43, h⟩ := zB h
        refine zr (zo [12, 16] 6 [0,1,3,4,5,8,15,16,137,138,139] [(qa1299 e3)] [0 ≤ x4 ∧ x4 < ((eField.els e1.type.fields).length : Int) ∧ elemsOk 6 (eField.els e1.type.fields), (eField.els e1.type.fields)[x4.toNat]? = some (qa1299 e3)] (⟨eField.inb a43, ((eField.get a43).trans (by rcases e3 with ⟨_, _, _, ⟨_, _, _⟩⟩; rfl)), trivial⟩) (zd (m42 _ _ (zq fun K44 m44 => ?_))))
        obtain ⟨e4, a45, h⟩ := zB h
        refine zw 6 (qa2313 p1 p2 p3 p5 e1 x1 x4 e3 e4) ?_ ?_
        ·refine zyp 6 [(qa1299 e4)] (qa2313 p1 p2 p3 p5 e1 x1 x4 e3 e4) [0 ≤ (1 : Int) ∧ (1 : Int) < ((eField.els p1).length : Int) ∧ elemsOk 6 (eField.els p1), (eField.els p1)[(1 : Int).toNat]? = some (qa1299 e4)] (⟨eField.inb a45, ((eField.get a45).trans (by rcases e4 with ⟨_, _, _, ⟨_, _, _⟩⟩; rfl)), trivial⟩) ?_
         exact zyd
        refine zv [12, 16] 1 [0,1,3,4,5,8,15,137,138,139,150] [] [(0, vq 0), (1, vl eField p1), (3, vi p3), (4, vi x1), (5, vi p5), (8, vR (qa1467 p2)), (15, vi x4), (137, vl eField e1.type.fields), (138, vi (e1.type.fields.length : Int)), (139, vi x4), (150, vb (e3.id == e4.id))] [.box [.sl 1 1 0 l4.length, .sl 2 1 0 l5.length, .sl 3 5 0 l6.length], .arr 1 (eI.els l4), .arr 1 (eI.els l5), .arr 5 (eValue.els l6), .dead, .box (qa1305 e3)] ?_
        refine zd (m44 _ _ (zC h (fun b46 h => ?_) (fun b46 h => ?_)))
        ·obtain ⟨g47, h⟩ := zG h
         obtain ⟨e5, a48, h⟩ := zB h
         obtain ⟨r2, c49, h⟩ := zB h
         refine zw 11 [(161, vi p5), (160, vi x1), (159, vi p3), (158, .ag (qa1518 e5)), (157, .one (.pv (.rp (eValue.els p2.items) x4.toNat 0))), (156, vi x4), (155, vl eValue p2.items), (154, .one (.pv (.rp [(qa1467 p2)] 0 4))), (153, vl eField (p1.drop (1 : Int).toNat)), (152, vl eField p1), (151, vq 0), (0, vq 0), (1, vl eField p1), (3, vi p3), (4, vi x1), (5, vi p5), (8, vR (qa1467 p2)), (15, vi x4), (137, vl eField e1.type.fields), (138, vi (e1.type.fields.length : Int)), (139, vi x4), (150, vb (e3.id == e4.id))] ?_ ?_
         ·refine zyp 3 [] [(153, .one (.pv (.ro (((eField.els p1).drop (1 : Int).toNat).take ((eField.els p1).length - (1 : Int).toNat))))), (152, vl eField p1), (151, vq 0), (0, vq 0), (1, vl eField p1), (3, vi p3), (4, vi x1), (5, vi p5), (8, vR [pi p2.kind, pi p2.n, pi p2.scale, .s (.string p2.s), .ro (eValue.els p2.items)]), (15, vi x4), (137, vl eField e1.type.fields), (138, vi (e1.type.fields.length : Int)), (139, vi x4), (150, vb (e3.id == e4.id))] [(0 ≤ (1 : Int) ∧ (1 : Int) ≤ ((eField.els p1).length : Int) ∧ ((eField.els p1).length : Int) ≤ ((eField.els p1).length : Int)) ∧ elemsOk 6 (eField.els p1)] (⟨eField.cutHiOk g47, trivial⟩) ?_
          rw [show ((eField.els p1).drop (1 : Int).toNat).take ((eField.els p1).length - (1 : Int).toNat) = eField.els (p1.drop (1 : Int).toNat) from eField.cutHi _ _]
          refine zyo 8 [(qa1467 p2), [pi e5.kind, pi e5.n, pi e5.scale, .s (.string e5.s), .ro (eValue.els e5.items)]] [([(qa1467 p2)] : List (List PV))[0]? = some (qa1467 p2), 0 ≤ x4 ∧ x4 < ((eValue.els p2.items).length : Int) ∧ elemsOk 5 (eValue.els p2.items), (eValue.els p2.items)[x4.toNat]? = some [pi e5.kind, pi e5.n, pi e5.scale, .s (.string e5.s), .ro (eValue.els e5.items)]] (⟨rfl, eValue.inb a48, ((eValue.get a48).trans (by cases e5; rfl)), trivial⟩) ?_
          exact zyd
         refine XO.calx 60 [vq 0, vl eField (p1.drop (1 : Int).toNat), .ag (qa1518 e5), vi p3, vi x1, vi p5] [.box [.sl 1 1 0 l4.length, .sl 2 1 0 l5.length, .sl 3 5 0 l6.length], .arr 1 (eI.els l4), .arr 1 (eI.els l5), .arr 5 (eValue.els l6)] [.box [.sl 1 1 0 r2.2.reps.length, .sl 2 1 0 r2.2.defs.length, .sl 3 5 0 r2.2.values.length], .arr 1 (eI.els r2.2.reps), .arr 1 (eI.els r2.2.defs), .arr 5 (eValue.els r2.2.values)] [1, 2, 3] (.tp []) [0, 1, 2, 3] [1, 2, 3] [(162, .tp []), (161, vi p5), (160, vi x1), (159, vi p3), (158, .ag (qa1518 e5)), (157, .one (.pv (.rp (eValue.els p2.items) x4.toNat 0))), (156, vi x4), (155, vl eValue p2.items), (154, .one (.pv (.rp [(qa1467 p2)] 0 4))), (153, vl eField (p1.drop (1 : Int).toNat)), (152, vl eField p1), (151, vq 0), (0, vq 0), (1, vl eField p1), (3, vi p3), (4, vi x1), (5, vi p5), (8, vR (qa1467 p2)), (15, vi x4), (137, vl eField e1.type.fields), (138, vi (e1.type.fields.length : Int)), (139, vi x4), (150, vb (e3.id == e4.id))] [.box [.sl 1 1 0 r2.2.reps.length, .sl 2 1 0 r2.2.defs.length, .sl 3 5 0 r2.2.values.length], .arr 1 (eI.els r2.2.reps), .arr 1 (eI.els r2.2.defs), .arr 5 (eValue.els r2.2.values), .dead, .box (qa1305 e3)] (by kernel_rfl) (c_ref2_entries k0 _ _ _ _ _ _ _ c49) (by kernel_rfl) (by kernel_rfl) (by kernel_rfl) (by kernel_rfl) (by kernel_rfl) (by kernel_rfl) (by kernel_rfl) ?_
         refine zd ?_
         exact j3 r2.2.reps r2.2.defs r2.2.values h _ _ (Sub.trans (Sub.pick (fr' := (qa2310 p1 p2 p3 p5 e1 x1 x4)) [0,1,3,4,5,8,137,138,139] (by kernel_rfl)) (Sub.take (fr' := (qa2310 p1 p2 p3 p5 e1 x1 x4)) 5 (by decide) (by kernel_rfl) (by kernel_rfl)))
        ·refine zs ?_
         exact j3 l4 l5 l6 h _ _ (Sub.trans (Sub.pick (fr' := (qa2310 p1 p2 p3 p5 e1 x1 x4)) [0,1,3,4,5,8,137,138,139] (by kernel_rfl)) (Sub.take (fr' := (qa2310 p1 p2 p3 p5 e1 x1 x4)) 5 (by decide) (by kernel_rfl) (by kernel_rfl)))
       ·refine zx 3 (hQ2 _ _ _ ?_)
        obtain rfl := zj h
        exact FinM.fin (.inl rfl) [] [] [] (by kernel_rfl) trivial (by kernel_rfl) (by kernel_rfl) (.tp0)
     exact XR.sub (Sub.trans (Sub.pick (fr' := (qa2321 p1 p2 p3 p5 e1 x1)) [0,1,3,4,5,8,137,138,139] (by kernel_rfl)) (Sub.only (fr' := (qa2321 p1 p2 p3 p5 e1 x1)) (st' := (qa2309 p6)) [0, 1, 2, 3] 5 (by kernel_rfl) (by kernel_rfl) (by kernel_rfl) (by kernel_rfl))) (hL2 BIG p6.reps p6.defs p6.values (0 : Int) h)
    ·obtain ⟨g50, h⟩ := zG h
     obtain ⟨g51, h⟩ := zG h
     obtain ⟨g52, h⟩ := zG h
     refine XW.sub (Sub.dead 3) ?_
     refine XW.drwG 30 [5, 6, 7, 8] [([], []), ([], []), ([], []), ([], []), ([], []), ([], []), ([0], []), ([], []), ([], []), ([5, 1, 1005], [5, 1, 1005]), ([], []), ([], []), ([], []), ([0], []), ([], []), ([], []), ([6, 2, 1006], [6, 2, 1006]), ([], []), ([], []), ([], []), ([0], []), ([], []), ([], []), ([7, 3, 1007], [7, 3, 1007]), ([], []), ([], []), ([0, 1005], [0]), ([], []), ([], []), ([0, 1006, 1005], [0])] (qa2322 p1 p2 p3 p5 p6 e1 x1) (qa2323 p2 p3 p6 e1 x1) (by kernel_rfl) (by kernel_rfl) ?_ ?_
     ·refine zgv 9 [] [(59, vl eI [p3]), (58, vi p3), (57, .one (.sl 1 1 0 p6.reps.length)), (56, vq 0), (55, vq 0), (54, vq 0), (53, vq 0), (52, vq 0), (51, vq 0), (0, vq 0), (1, vl eField p1), (3, vi p3), (4, vi x1), (5, vi p5), (8, vR (qa1467 p2)), (12, vq 4), (133, vb (e1.type.kind == (7 : Int)))] ?_
      refine GY.new true 5 [] [(60, .one (.sl 5 1 0 (p6.reps.length + (eI.els [p3]).length))), (59, vl eI [p3]), (58, vi p3), (57, .one (.sl 1 1 0 p6.reps.length)), (56, vq 0), (55, vq 0), (54, vq 0), (53, vq 0), (52, vq 0), (51, vq 0), (0, vq 0), (1, vl eField p1), (3, vi p3), (4, vi x1), (5, vi p5), (8, vR [pi p2.kind, pi p2.n, pi p2.scale, .s (.string p2.s), .ro (eValue.els p2.items)]), (12, vq 4), (133, vb (e1.type.kind == (7 : Int)))] [5, 1] [.box [.sl 1 1 0 p6.reps.length, .sl 2 1 0 p6.defs.length, .sl 3 5 0 p6.values.length], .dead, .arr 1 (eI.els p6.defs), .arr 5 (eValue.els p6.values), .box [ci e1.id, cst e1.name, cb e1.need, ci e1.type.kind, ci e1.type.scale, cl eField e1.type.fields], .arr 1 (eI.els p6.reps ++ eI.els [p3]), .dead, .dead] [elemsOk 1 (eI.els [p3]), p6.reps.length = (eI.els p6.reps).length, p6.reps.length + (eI.els [p3]).length ≤ 4294967296] (by kernel_rfl) (by kernel_rfl) (⟨eI.ok _, (eI.len p6.reps).symm, g50, trivial⟩) (by kernel_rfl) ?_
      rw [show p6.reps.length + (eI.els [p3]).length = (p6.reps ++ [p3]).length from eI.lapp _ _]
      rw [show eI.els p6.reps ++ eI.els [p3] = eI.els (p6.reps ++ [p3]) from eI.app2 _ _]
      refine zgv 6 [] [(66, vl eI [x1]), (65, vi x1), (64, .one (.sl 2 1 0 p6.defs.length)), (63, .one (.pt 0 0 0 1)), (62, vq 0), (61, vq 0), (60, .one (.sl 5 1 0 ((p6.reps ++ [p3]).length))), (59, vl eI [p3]), (58, vi p3), (57, .one (.sl 1 1 0 p6.reps.length)), (56, vq 0), (55, vq 0), (54, vq 0), (53, vq 0), (52, vq 0), (51, vq 0), (0, vq 0), (1, vl eField p1), (3, vi p3), (4, vi x1), (5, vi p5), (8, vR (qa1467 p2)), (12, vq 4), (133, vb (e1.type.kind == (7 : Int)))] ?_
      refine GY.new true 6 [] [(67, .one (.sl 6 1 0 (p6.defs.length + (eI.els [x1]).length))), (66, vl eI [x1]), (65, vi x1), (64, .one (.sl 2 1 0 p6.defs.length)), (63, .one (.pt 0 0 0 1)), (62, vq 0), (61, vq 0), (60, .one (.sl 5 1 0 ((p6.reps ++ [p3]).length))), (59, vl eI [p3]), (58, vi p3), (57, .one (.sl 1 1 0 p6.reps.length)), (56, vq 0), (55, vq 0), (54, vq 0), (53, vq 0), (52, vq 0), (51, vq 0), (0, vq 0), (1, vl eField p1), (3, vi p3), (4, vi x1), (5, vi p5), (8, vR [pi p2.kind, pi p2.n, pi p2.scale, .s (.string p2.s), .ro (eValue.els p2.items)]), (12, vq 4), (133, vb (e1.type.kind == (7 : Int)))] [6, 2] [.box [.sl 1 1 0 p6.reps.length, .sl 2 1 0 p6.defs.length, .sl 3 5 0 p6.values.length], .dead, .dead, .arr 5 (eValue.els p6.values), .box [ci e1.id, cst e1.name, cb e1.need, ci e1.type.kind, ci e1.type.scale, cl eField e1.type.fields], .arr 1 (eI.els (p6.reps ++ [p3])), .arr 1 (eI.els p6.defs ++ eI.els [x1]), .dead] [elemsOk 1 (eI.els [x1]), p6.defs.length = (eI.els p6.defs).length, p6.defs.length + (eI.els [x1]).length ≤ 4294967296] (by kernel_rfl) (by kernel_rfl) (⟨eI.ok _, (eI.len p6.defs).symm, g51, trivial⟩) (by kernel_rfl) ?_
      rw [show p6.defs.length + (eI.els [x1]).length = (p6.defs ++ [x1]).length from eI.lapp _ _]
      rw [show eI.els p6.defs ++ eI.els [x1] = eI.els (p6.defs ++ [x1]) from eI.app2 _ _]
      refine zgv 6 [[pi p2.kind, pi p2.n, pi p2.scale, .s (.string p2.s), .ro (eValue.els p2.items)]] [(73, .one (.pv (.ro [[pi p2.kind, pi p2.n, pi p2.scale, .s (.string p2.s), .ro (eValue.els p2.items)]]))), (72, .ag [ci p2.kind, ci p2.n, ci p2.scale, cst p2.s, cl eValue p2.items]), (71, .one (.sl 3 5 0 p6.values.length)), (70, .one (.pt 0 0 0 2)), (69, vq 0), (68, vq 0), (67, .one (.sl 6 1 0 ((p6.defs ++ [x1]).length))), (66, vl eI [x1]), (65, vi x1), (64, .one (.sl 2 1 0 p6.defs.length)), (63, .one (.pt 0 0 0 1)), (62, vq 0), (61, vq 0), (60, .one (.sl 5 1 0 ((p6.reps ++ [p3]).length))), (59, vl eI [p3]), (58, vi p3), (57, .one (.sl 1 1 0 p6.reps.length)), (56, vq 0), (55, vq 0), (54, vq 0), (53, vq 0), (52, vq 0), (51, vq 0), (0, vq 0), (1, vl eField p1), (3, vi p3), (4, vi x1), (5, vi p5), (8, vR [pi p2.kind, pi p2.n, pi p2.scale, .s (.string p2.s), .ro (eValue.els p2.items)]), (12, vq 4), (133, vb (e1.type.kind == (7 : Int)))] ?_
      refine GX.eq (fr1 := [(73, vl eValue [p2]), (72, .ag [ci p2.kind, ci p2.n, ci p2.scale, cst p2.s, cl eValue p2.items]), (71, .one (.sl 3 5 0 p6.values.length)), (70, .one (.pt 0 0 0 2)), (69, vq 0), (68, vq 0), (67, .one (.sl 6 1 0 ((p6.defs ++ [x1]).length))), (66, vl eI [x1]), (65, vi x1), (64, .one (.sl 2 1 0 p6.defs.length)), (63, .one (.pt 0 0 0 1)), (62, vq 0), (61, vq 0), (60, .one (.sl 5 1 0 ((p6.reps ++ [p3]).length))), (59, vl eI [p3]), (58, vi p3), (57, .one (.sl 1 1 0 p6.reps.length)), (56, vq 0), (55, vq 0), (54, vq 0), (53, vq 0), (52, vq 0), (51, vq 0), (0, vq 0), (1, vl eField p1), (3, vi p3), (4, vi x1), (5, vi p5), (8, vR [pi p2.kind, pi p2.n, pi p2.scale, .s (.string p2.s), .ro (eValue.els p2.items)]), (12, vq 4), (133, vb (e1.type.kind == (7 : Int)))]) (by rw [show ([[pi p2.kind, pi p2.n, pi p2.scale, .s (.string p2.s), .ro (eValue.els p2.items)]] : List (List PV)) = eValue.els [p2] from by cases p2; rfl]) ?_
      refine GY.new true 7 [] [(74, .one (.sl 7 5 0 (p6.values.length + (eValue.els [p2]).length))), (73, vl eValue [p2]), (72, .ag [ci p2.kind, ci p2.n, ci p2.scale, cst p2.s, cl eValue p2.items]), (71, .one (.sl 3 5 0 p6.values.length)), (70, .one (.pt 0 0 0 2)), (69, vq 0), (68, vq 0), (67, .one (.sl 6 1 0 ((p6.defs ++ [x1]).length))), (66, vl eI [x1]), (65, vi x1), (64, .one (.sl 2 1 0 p6.defs.length)), (63, .one (.pt 0 0 0 1)), (62, vq 0), (61, vq 0), (60, .one (.sl 5 1 0 ((p6.reps ++ [p3]).length))), (59, vl eI [p3]), (58, vi p3), (57, .one (.sl 1 1 0 p6.reps.length)), (56, vq 0), (55, vq 0), (54, vq 0), (53, vq 0), (52, vq 0), (51, vq 0), (0, vq 0), (1, vl eField p1), (3, vi p3), (4, vi x1), (5, vi p5), (8, vR [pi p2.kind, pi p2.n, pi p2.scale, .s (.string p2.s), .ro (eValue.els p2.items)]), (12, vq 4), (133, vb (e1.type.kind == (7 : Int)))] [7, 3] [.box [.sl 1 1 0 p6.reps.length, .sl 2 1 0 p6.defs.length, .sl 3 5 0 p6.values.length], .dead, .dead, .dead, .box [ci e1.id, cst e1.name, cb e1.need, ci e1.type.kind, ci e1.type.scale, cl eField e1.type.fields], .arr 1 (eI.els (p6.reps ++ [p3])), .arr 1 (eI.els (p6.defs ++ [x1])), .arr 5 (eValue.els p6.values ++ eValue.els [p2])] [elemsOk 5 (eValue.els [p2]), p6.values.length = (eValue.els p6.values).length, p6.values.length + (eValue.els [p2]).length ≤ 4294967296] (by kernel_rfl) (by kernel_rfl) (⟨eValue.ok _, (eValue.len p6.values).symm, g52, trivial⟩) (by kernel_rfl) ?_
      rw [show p6.values.length + (eValue.els [p2]).length = (p6.values ++ [p2]).length from eValue.lapp _ _]
      rw [show eValue.els p6.values ++ eValue.els [p2] = eValue.els (p6.values ++ [p2]) from eValue.app2 _ _]
      refine zgv 2 [] (qa2326 p1 p2 p3 p5 p6 e1 x1) ?_
      refine GY.sto [0] [] (qa2326 p1 p2 p3 p5 p6 e1 x1) ([0] ++ [1005]) [.box (qa2265 p3 p6), .dead, .dead, .dead, .box (qa1305 e1), .arr 1 (eI.els (p6.reps ++ [p3])), .arr 1 (eI.els (p6.defs ++ [x1])), .arr 5 (eValue.els (p6.values ++ [p2]))] [] (by kernel_rfl) (by kernel_rfl) trivial (by kernel_rfl) ?_
      refine zgv 2 [] (qa2322 p1 p2 p3 p5 p6 e1 x1) ?_
      refine GY.sto [0] [] (qa2322 p1 p2 p3 p5 p6 e1 x1) ([0] ++ [1006, 1005]) (qa2323 p2 p3 p6 e1 x1) [] (by kernel_rfl) (by kernel_rfl) trivial (by kernel_rfl) ?_
      exact GY.done (by kernel_rfl) (by kernel_rfl)
     refine zv [12, 16] 3 [] [] [] [.box [.sl 5 1 0 ((p6.reps ++ [p3]).length), .sl 6 1 0 ((p6.defs ++ [x1]).length), .sl 7 5 0 ((p6.values ++ [p2]).length)], .dead, .dead, .dead, .box (qa1305 e1), .arr 1 (eI.els (p6.reps ++ [p3])), .arr 1 (eI.els (p6.defs ++ [x1])), .arr 5 (eValue.els (p6.values ++ [p2]))] ?_
     refine XO.sub (Sub.swap 1 5 [] [.box [.sl 1 1 0 ((p6.reps ++ [p3]).length), .sl 6 1 0 ((p6.defs ++ [x1]).length), .sl 7 5 0 ((p6.values ++ [p2]).length)], .arr 1 (eI.els (p6.reps ++ [p3])), .dead, .dead, .box (qa1305 e1), .dead, .arr 1 (eI.els (p6.defs ++ [x1])), .arr 5 (eValue.els (p6.values ++ [p2]))] (by kernel_rfl) (by kernel_rfl) (by kernel_rfl) (by kernel_rfl)) ?_
     refine XO.sub (Sub.swap 2 6 [] [.box [.sl 1 1 0 ((p6.reps ++ [p3]).length), .sl 2 1 0 ((p6.defs ++ [x1]).length), .sl 7 5 0 ((p6.values ++ [p2]).length)], .arr 1 (eI.els (p6.reps ++ [p3])), .arr 1 (eI.els (p6.defs ++ [x1])), .dead, .box (qa1305 e1), .dead, .dead, .arr 5 (eValue.els (p6.values ++ [p2]))] (by kernel_rfl) (by kernel_rfl) (by kernel_rfl) (by kernel_rfl)) ?_
     refine XO.sub (Sub.swap 3 7 [] [.box [.sl 1 1 0 ((p6.reps ++ [p3]).length), .sl 2 1 0 ((p6.defs ++ [x1]).length), .sl 3 5 0 ((p6.values ++ [p2]).length)], .arr 1 (eI.els (p6.reps ++ [p3])), .arr 1 (eI.els (p6.defs ++ [x1])), .arr 5 (eValue.els (p6.values ++ [p2])), .box (qa1305 e1), .dead, .dead, .dead] (by kernel_rfl) (by kernel_rfl) (by kernel_rfl) (by kernel_rfl)) (zd ?_)
     obtain rfl := zj h
     exact FinM.fin (.inl rfl) [] [] [] (by kernel_rfl) trivial (by kernel_rfl) (by kernel_rfl) (.tp0)
  refine zq fun K5 m5 => zr (zv [12, 16] 3 [0,1,3,4,5,8,12,22] [] [(0, vq 0), (1, vl eField p1), (3, vi p3), (4, vi p4), (5, vi p5), (8, vR (qa1467 p2)), (12, vq 4), (22, vb (!e1.need))] (qa2291 p6 e1) (zd (m5 _ _ ?_)))
  refine zC h (fun b6 h => ?_) (fun b6 h => ?_)
  ·refine zq fun K7 m7 => zq fun K8 m8 => zr (zu [12, 16] 3 [0,1,3,4,5,8,12,25] [(qa1467 p2)] (zd (m8 _ _ (zC h (fun b9 h => ?_) (fun b9 h => ?_)))))
   ·refine zq fun K10 m10 => ?_
    obtain ⟨g11, h⟩ := zG h
    obtain ⟨g12, h⟩ := zG h
    refine XW.sub (Sub.dead 2) ?_
    refine XW.drwG 19 [5, 6, 7] [([], []), ([], []), ([], []), ([], []), ([], []), ([0], []), ([], []), ([], []), ([5, 1, 1005], [5, 1, 1005]), ([], []), ([], []), ([], []), ([0], []), ([], []), ([], []), ([6, 2, 1006], [6, 2, 1006]), ([], []), ([], []), ([0, 1005], [0])] (qa2333 p1 p2 p3 p4 p5 p6) (qa2334 p3 p4 p6 e1) (by kernel_rfl) (by kernel_rfl) ?_ ?_
    ·refine zgv 8 [] [(33, vl eI [p3]), (32, vi p3), (31, .one (.sl 1 1 0 p6.reps.length)), (30, vq 0), (29, vq 0), (28, vq 0), (27, vq 0), (26, vq 0), (0, vq 0), (1, vl eField p1), (3, vi p3), (4, vi p4), (5, vi p5), (8, vR (qa1467 p2)), (12, vq 4), (25, vb (p2.kind == (0 : Int)))] ?_
     refine GY.new true 5 [] [(34, .one (.sl 5 1 0 (p6.reps.length + (eI.els [p3]).length))), (33, vl eI [p3]), (32, vi p3), (31, .one (.sl 1 1 0 p6.reps.length)), (30, vq 0), (29, vq 0), (28, vq 0), (27, vq 0), (26, vq 0), (0, vq 0), (1, vl eField p1), (3, vi p3), (4, vi p4), (5, vi p5), (8, vR [pi p2.kind, pi p2.n, pi p2.scale, .s (.string p2.s), .ro (eValue.els p2.items)]), (12, vq 4), (25, vb (p2.kind == (0 : Int)))] [5, 1] [.box [.sl 1 1 0 p6.reps.length, .sl 2 1 0 p6.defs.length, .sl 3 5 0 p6.values.length], .dead, .arr 1 (eI.els p6.defs), .arr 5 (eValue.els p6.values), .box [ci e1.id, cst e1.name, cb e1.need, ci e1.type.kind, ci e1.type.scale, cl eField e1.type.fields], .arr 1 (eI.els p6.reps ++ eI.els [p3]), .dead] [elemsOk 1 (eI.els [p3]), p6.reps.length = (eI.els p6.reps).length, p6.reps.length + (eI.els [p3]).length ≤ 4294967296] (by kernel_rfl) (by kernel_rfl) (⟨eI.ok _, (eI.len p6.reps).symm, g11, trivial⟩) (by kernel_rfl) ?_
     rw [show p6.reps.length + (eI.els [p3]).length = (p6.reps ++ [p3]).length from eI.lapp _ _]
     rw [show eI.els p6.reps ++ eI.els [p3] = eI.els (p6.reps ++ [p3]) from eI.app2 _ _]
     refine zgv 6 [] [(40, vl eI [p4]), (39, vi p4), (38, .one (.sl 2 1 0 p6.defs.length)), (37, .one (.pt 0 0 0 1)), (36, vq 0), (35, vq 0), (34, .one (.sl 5 1 0 ((p6.reps ++ [p3]).length))), (33, vl eI [p3]), (32, vi p3), (31, .one (.sl 1 1 0 p6.reps.length)), (30, vq 0), (29, vq 0), (28, vq 0), (27, vq 0), (26, vq 0), (0, vq 0), (1, vl eField p1), (3, vi p3), (4, vi p4), (5, vi p5), (8, vR (qa1467 p2)), (12, vq 4), (25, vb (p2.kind == (0 : Int)))] ?_
     refine GY.new true 6 [] [(41, .one (.sl 6 1 0 (p6.defs.length + (eI.els [p4]).length))), (40, vl eI [p4]), (39, vi p4), (38, .one (.sl 2 1 0 p6.defs.length)), (37, .one (.pt 0 0 0 1)), (36, vq 0), (35, vq 0), (34, .one (.sl 5 1 0 ((p6.reps ++ [p3]).length))), (33, vl eI [p3]), (32, vi p3), (31, .one (.sl 1 1 0 p6.reps.length)), (30, vq 0), (29, vq 0), (28, vq 0), (27, vq 0), (26, vq 0), (0, vq 0), (1, vl eField p1), (3, vi p3), (4, vi p4), (5, vi p5), (8, vR [pi p2.kind, pi p2.n, pi p2.scale, .s (.string p2.s), .ro (eValue.els p2.items)]), (12, vq 4), (25, vb (p2.kind == (0 : Int)))] [6, 2] [.box [.sl 1 1 0 p6.reps.length, .sl 2 1 0 p6.defs.length, .sl 3 5 0 p6.values.length], .dead, .dead, .arr 5 (eValue.els p6.values), .box [ci e1.id, cst e1.name, cb e1.need, ci e1.type.kind, ci e1.type.scale, cl eField e1.type.fields], .arr 1 (eI.els (p6.reps ++ [p3])), .arr 1 (eI.els p6.defs ++ eI.els [p4])] [elemsOk 1 (eI.els [p4]), p6.defs.length = (eI.els p6.defs).length, p6.defs.length + (eI.els [p4]).length ≤ 4294967296] (by kernel_rfl) (by kernel_rfl) (⟨eI.ok _, (eI.len p6.defs).symm, g12, trivial⟩) (by kernel_rfl) ?_
     rw [show p6.defs.length + (eI.els [p4]).length = (p6.defs ++ [p4]).length from eI.lapp _ _]
     rw [show eI.els p6.defs ++ eI.els [p4] = eI.els (p6.defs ++ [p4]) from eI.app2 _ _]
     refine zgv 2 [] (qa2333 p1 p2 p3 p4 p5 p6) ?_
     refine GY.sto [0] [] (qa2333 p1 p2 p3 p4 p5 p6) ([0] ++ [1005]) (qa2334 p3 p4 p6 e1) [] (by kernel_rfl) (by kernel_rfl) trivial (by kernel_rfl) ?_
     exact GY.done (by kernel_rfl) (by kernel_rfl)
    refine zv [12, 16] 3 [] [] [] [.box [.sl 5 1 0 ((p6.reps ++ [p3]).length), .sl 6 1 0 ((p6.defs ++ [p4]).length), .sl 3 5 0 p6.values.length], .dead, .dead, .arr 5 (eValue.els p6.values), .box (qa1305 e1), .arr 1 (eI.els (p6.reps ++ [p3])), .arr 1 (eI.els (p6.defs ++ [p4]))] ?_
    refine XO.sub (Sub.swap 1 5 [] [.box [.sl 1 1 0 ((p6.reps ++ [p3]).length), .sl 6 1 0 ((p6.defs ++ [p4]).length), .sl 3 5 0 p6.values.length], .arr 1 (eI.els (p6.reps ++ [p3])), .dead, .arr 5 (eValue.els p6.values), .box (qa1305 e1), .dead, .arr 1 (eI.els (p6.defs ++ [p4]))] (by kernel_rfl) (by kernel_rfl) (by kernel_rfl) (by kernel_rfl)) ?_
    refine XO.sub (Sub.swap 2 6 [] [.box [.sl 1 1 0 ((p6.reps ++ [p3]).length), .sl 2 1 0 ((p6.defs ++ [p4]).length), .sl 3 5 0 p6.values.length], .arr 1 (eI.els (p6.reps ++ [p3])), .arr 1 (eI.els (p6.defs ++ [p4])), .arr 5 (eValue.els p6.values), .box (qa1305 e1), .dead, .dead] (by kernel_rfl) (by kernel_rfl) (by kernel_rfl) (by kernel_rfl)) (zd (m10 _ _ (ze ?_)))
    obtain rfl := zj h
    exact FinM.fin (.inr rfl) [] [] [] (by kernel_rfl) trivial (by kernel_rfl) (by kernel_rfl) (.tp0)
   ·exact zs (m7 _ _ (zr (zg [12, 16] 3 [0,1,3,4,5,8,12] (zd (j1 (i64.wrap (p4 + (1 : Int))) h _ _ (zk [0,1,3,4,5,8,12]))))))
  ·exact zs (j1 p4 h _ _ (zk [0,1,3,4,5,8,12]))
def ref2_shred_j1 (rec3 : List Int → List Int → List GValue → Int → Option (List GColumn)) (x3 : Int) (l8 : List Int) (l9 : List Int) (l10 : List GValue) : Option (List GColumn) := rec3 l8 l9 l10 (i64.wrap (x3 + (1 : Int)))
def ref2_shred_j2 (rec2 : List Int → List Int → List GValue → Int → Option (List GColumn)) (x2 : Int) (l11 : List Int) (l12 : List Int) (l13 : List GValue) : Option (List GColumn) := rec2 l11 l12 l13 (i64.wrap (x2 + (1 : Int)))
def ref2_shred_l3 (rec2 : List Int → List Int → List GValue → Int → Option (List GColumn)) (p1 : (List GField)) (e1 : (List GField)) (x2 : Int) (e2 : (List GValue)) : Nat → List Int → List Int → List GValue → Int → Option (List GColumn)
 | 0, _, _, _, _ => none
 | k3 + 1, l5, l6, l7, x3 => ift (decide (x3 < (p1.length : Int))) (bnd (at? p1 x3) fun e3 => bnd (at? e1 (0 : Int)) fun e4 => ift (e3.id == e4.id) (bnd (at? e2 x3) fun e5 => bnd (ref2_entries BIG e1 e5 (0 : Int) (0 : Int) (0 : Int) (GColumn.mk l5 l6 l7)) fun r2 => ref2_shred_j1 (ref2_shred_l3 rec2 p1 e1 x2 e2 k3) x3 r2.2.reps r2.2.defs r2.2.values) (ref2_shred_j1 (ref2_shred_l3 rec2 p1 e1 x2 e2 k3) x3 l5 l6 l7)) (ref2_shred_j2 rec2 x2 l5 l6 l7)
def ref2_shred_j3 (rec1 : List GColumn → Int → Option (List GColumn)) (l1 : List GColumn) (x1 : Int) (l14 : List Int) (l15 : List Int) (l16 : List GValue) : Option (List GColumn) := grd (l1.length + 1 ≤ 4294967296) <| rec1 (l1 ++ [(GColumn.mk l14 l15 l16)]) (i64.wrap (x1 + (1 : Int)))
def ref2_shred_l2 (rec1 : List GColumn → Int → Option (List GColumn)) (p1 : (List GField)) (p2 : (List (List GValue))) (l1 : List GColumn) (x1 : Int) (e1 : (List GField)) : Nat → List Int → List Int → List GValue → Int → Option (List GColumn)
 | 0, _, _, _, _ => none
 | k2 + 1, l2, l3, l4, x2 => ift (decide (x2 < (p2.length : Int))) (bnd (at? p2 x2) fun e2 => ref2_shred_l3 (ref2_shred_l2 rec1 p1 p2 l1 x1 e1 k2) p1 e1 x2 e2 BIG l2 l3 l4 (0 : Int)) (ref2_shred_j3 rec1 l1 x1 l2 l3 l4)
def ref2_shred_j4 (l17 : List GColumn) : Option (List GColumn) := some l17
def ref2_shred_l1 (p1 : (List GField)) (p2 : (List (List GValue))) (r1 : (List (List GField))) : Nat → List GColumn → Int → Option (List GColumn)
 | 0, _, _ => none
 | k1 + 1, l1, x1 => ift (decide (x1 < (r1.length : Int))) (bnd (at? r1 x1) fun e1 => ref2_shred_l2 (ref2_shred_l1 p1 p2 r1 k1) p1 p2 l1 x1 e1 BIG [] [] [] (0 : Int)) (ref2_shred_j4 l1)
def ref2_shred (p1 : (List GField)) (p2 : (List (List GValue))) : Option (List GColumn) := bnd (ref2_ways BIG p1) fun r1 => ref2_shred_l1 p1 p2 r1 BIG [] (0 : Int)
abbrev qa2348 (l14 : List Int) (l15 : List Int) (l16 : List GValue) : List CV := [.sl 2 1 0 l14.length, .sl 3 1 0 l15.length, .sl 4 5 0 l16.length]
abbrev qa2357 : List CV := [.sl 2 1 0 0, .pv (.s (.slice none 0 0)), .pv (.s (.slice none 0 0))]
abbrev qa2359 (p1 : (List GField)) (p2 : (List (List GValue))) (r1 : (List (List GField))) (l1 : List GColumn) (x1 : Int) (e1 : (List GField)) (x2 : Int) : Fr := [(0, vl eField p1), (1, vl (eL eValue) p2), (5, .one (.sl 0 3 0 l1.length)), (7, vl eField e1), (8, vq 1), (14, vl (eL eField) r1), (15, vi (r1.length : Int)), (16, vi x1), (20, vl (eL eValue) p2), (21, vi (p2.length : Int)), (22, vi x2)]
abbrev qa2363 (p1 : (List GField)) (p2 : (List (List GValue))) (r1 : (List (List GField))) (l1 : List GColumn) (x1 : Int) (e1 : (List GField)) (x2 : Int) (e2 : (List GValue)) (x3 : Int) : Fr := [(0, vl eField p1), (1, vl (eL eValue) p2), (5, .one (.sl 0 3 0 l1.length)), (7, vl eField e1), (8, vq 1), (10, vl eValue e2), (14, vl (eL eField) r1), (15, vi (r1.length : Int)), (16, vi x1), (20, vl (eL eValue) p2), (21, vi (p2.length : Int)), (22, vi x2), (26, vl eField p1), (27, vi (p1.length : Int)), (28, vi x3)]
abbrev qa2367 (p1 : (List GField)) (p2 : (List (List GValue))) (r1 : (List (List GField))) (l1 : List GColumn) (x1 : Int) (e1 : (List GField)) (x2 : Int) (e2 : (List GValue)) (x3 : Int) (e3 : GField) (e4 : GField) : Fr := [(38, vi e4.id), (37, .one (.pv (.rp (eField.els e1) ((0 : Int).toNat) 0))), (36, .one (.pv (.rp (eField.els e1) ((0 : Int).toNat) 0))), (35, vl eField e1), (34, vi e3.id), (33, vq 5), (0, vl eField p1), (1, vl (eL eValue) p2), (5, .one (.sl 0 3 0 l1.length)), (7, vl eField e1), (8, vq 1), (10, vl eValue e2), (11, vi x3), (12, vq 5), (14, vl (eL eField) r1), (15, vi (r1.length : Int)), (16, vi x1), (20, vl (eL eValue) p2), (21, vi (p2.length : Int)), (22, vi x2), (26, vl eField p1), (27, vi (p1.length : Int)), (28, vi x3)]
abbrev qa2391 (l1 : List GColumn) (l5 : List Int) (l6 : List Int) (l7 : List GValue) (e3 : GField) : St := [.arr 3 (eColumn.els l1), .box [.sl 2 1 0 l5.length, .sl 3 1 0 l6.length, .sl 4 5 0 l7.length], .arr 1 (eI.els l5), .arr 1 (eI.els l6), .arr 5 (eValue.els l7), .box (qa1305 e3)]
theorem c_ref2_shred (p1 : (List GField)) (p2 : (List (List GValue))) (r : (List GColumn)) (h : ref2_shred p1 p2 = some r) : PC Tryd.prog 32 [vl eField p1, vl (eL eValue) p2] (vl eColumn r) := by
 unfold ref2_shred at h
 refine zF 54 Tryd.f32 (zq fun K1 m1 => zr (zg [8, 12] 1 [0,1] (zd (m1 _ _ (zq fun K2 m2 => zr ?_)))))
 refine zg [8, 12] 1 [0,1,5] (zd (m2 _ _ (zq fun K3 m3 => ?_)))
 have j4 : ∀ (l17 : List GColumn), ref2_shred_j4 l17 = some r → ∀ w0 w1, Sub 54 0 [] w0 w1 [(5, .one (.sl 0 3 0 l17.length))] [.arr 3 (eColumn.els l17)] → K3 w0 w1 := by
  intro l17 h w0 w1 hS
  unfold ref2_shred_j4 at h
  refine m3 _ _ (XW.sub hS ?_)
  refine zq fun K34 m34 => zr (zg [8, 12] 2 [4] (zd (m34 _ _ (ze ?_))))
  obtain rfl := zj h
  exact zf [.one (.sl 0 3 0 l17.length)] (.one (cf_sl eColumn l17 rfl rfl rfl))
 refine zq fun K4 m4 => ?_
 obtain ⟨r1, c5, h⟩ := zB h
 refine zr (zv [8, 12] 1 [0,1,5,13] [] [(0, vl eField p1), (1, vl (eL eValue) p2), (5, .one (.pv (.s (.slice none 0 0)))), (13, vl eField p1)] [] (za (c_ref2_ways BIG _ _ c5) (zv [8, 12] 1 [0,1,5,14,15] [] [(0, vl eField p1), (1, vl (eL eValue) p2), (5, .one (.pv (.s (.slice none 0 0)))), (14, vl (eL eField) r1), (15, vi (((eL eField).els r1).length : Int))] [] ?_)))
 rw [(eL eField).len r1]
 refine zv [8, 12] 1 [0,1,5,14,15,16] [] [(0, vl eField p1), (1, vl (eL eValue) p2), (5, .one (.pv (.s (.slice none 0 0)))), (14, vl (eL eField) r1), (15, vi (r1.length : Int)), (16, vi 0)] [] (zd (m4 _ _ (zb 0 (XW.sub (Sub.list (t := 5) (sz := 3) rfl) (XW.rounds' BIG (x := cd Tryd.f32 [1,1,0,1,0,0]) (by kernel_rfl) fun Q1 hQ1 => ?_)))))
 have hL1 : ∀ (k1 : Nat) (l1 : List GColumn) (x1 : Int), ref2_shred_l1 p1 p2 r1 k1 l1 x1 = some r → XR Tryd.prog 54 0 [] (cd Tryd.f32 [1,1,0,1,0,0]) Q1 k1 [(0, vl eField p1), (1, vl (eL eValue) p2), (5, .one (.sl 0 3 0 l1.length)), (14, vl (eL eField) r1), (15, vi (r1.length : Int)), (16, vi x1)] [.arr 3 (eColumn.els l1)] := by
  intro k1
  induction k1 with
  | zero => intro l1 x1 h; rw [ref2_shred_l1.eq_1] at h; cases h
  | succ k1 ih1 =>
   intro l1 x1 h
   rw [ref2_shred_l1.eq_2] at h
   refine zq fun K6 m6 => zr (zg [8, 12] 1 [0,1,5,14,15,16,17] (zd (m6 _ _ (zq fun K7 m7 => zC h (fun b8 h => ?_) (fun b8 h => ?_)))))
   ·refine zs (m7 _ _ (zq fun K9 m9 => zb 1 (zq fun K10 m10 => ?_)))
    obtain ⟨e1, a11, h⟩ := zB h
    refine zr (zo [8, 12] 3 [0,1,5,7,14,15,16] [[.ro (eField.els e1)]] [0 ≤ x1 ∧ x1 < (((eL eField).els r1).length : Int) ∧ elemsOk 1 ((eL eField).els r1), ((eL eField).els r1)[x1.toNat]? = some [.ro (eField.els e1)]] (⟨(eL eField).inb a11, ((eL eField).get a11), trivial⟩) (zd (m10 _ _ (zq fun K12 m12 => zr ?_))))
    refine zv [8, 12] 1 [0,1,5,7,8,14,15,16] [] [(0, vl eField p1), (1, vl (eL eValue) p2), (5, .one (.sl 0 3 0 l1.length)), (7, vl eField e1), (8, vq 1), (14, vl (eL eField) r1), (15, vi (r1.length : Int)), (16, vi x1)] [.arr 3 (eColumn.els l1), .box qa1857] (zd (m12 _ _ (zq fun K13 m13 => ?_)))
    have j3 : ∀ (l14 : List Int) (l15 : List Int) (l16 : List GValue), ref2_shred_j3 (ref2_shred_l1 p1 p2 r1 k1) l1 x1 l14 l15 l16 = some r → ∀ w0 w1, Sub 54 0 [] w0 w1 [(0, vl eField p1), (1, vl (eL eValue) p2), (5, .one (.sl 0 3 0 l1.length)), (8, vq 1), (14, vl (eL eField) r1), (15, vi (r1.length : Int)), (16, vi x1)] [.arr 3 (eColumn.els l1), .box (qa2348 l14 l15 l16), .arr 1 (eI.els l14), .arr 1 (eI.els l15), .arr 5 (eValue.els l16)] → K13 w0 w1 := by
     intro l14 l15 l16 h w0 w1 hS
     unfold ref2_shred_j3 at h
     refine m13 _ _ (XW.sub hS ?_)
     obtain ⟨g33, h⟩ := zG h
     refine zr (zv [8, 12] 2 [0,1,14,15,16,48,49] [] [(0, vl eField p1), (1, vl (eL eValue) p2), (14, vl (eL eField) r1), (15, vi (r1.length : Int)), (16, vi x1), (48, .one (.sl 0 3 0 l1.length)), (49, .ag (qa2348 l14 l15 l16))] [.arr 3 (eColumn.els l1), .box (qa2348 l14 l15 l16), .arr 1 (eI.els l14), .arr 1 (eI.els l15), .arr 5 (eValue.els l16)] ?_)
     refine XO.sub (Sub.trans (Sub.stale 1 0 2 1 0 l14.length (qa2348 l14 l15 l16) rfl rfl [.arr 3 (eColumn.els l1), .box [.sl 5 1 0 l14.length, .sl 3 1 0 l15.length, .sl 4 5 0 l16.length], .arr 1 (eI.els l14), .arr 1 (eI.els l15), .arr 5 (eValue.els l16), .dead] rfl) (Sub.kill (fr' := [(0, vl eField p1), (1, vl (eL eValue) p2), (14, vl (eL eField) r1), (15, vi (r1.length : Int)), (16, vi x1), (48, .one (.sl 0 3 0 l1.length)), (49, .ag [cl eI l14, .sl 3 1 0 l15.length, .sl 4 5 0 l16.length])]) 2 (Nat.zero_le _) (by kernel_rfl) ⟨.one (.rfl _ rfl), .one (.rfl _ rfl), .one (.rfl _ rfl), .one (.rfl _ rfl), .one (.rfl _ rfl), .one (.rfl _ rfl), .ag (.cons (cf_sl eI l14 rfl rfl rfl) (.cons (.rfl _ rfl) (.cons (.rfl _ rfl) .nil))), trivial⟩)) ?_
     refine XO.sub (Sub.trans (Sub.stale 1 1 3 1 0 l15.length [.sl 5 1 0 l14.length, .sl 3 1 0 l15.length, .sl 4 5 0 l16.length] rfl rfl [.arr 3 (eColumn.els l1), .box [.sl 5 1 0 l14.length, .sl 6 1 0 l15.length, .sl 4 5 0 l16.length], .dead, .arr 1 (eI.els l15), .arr 5 (eValue.els l16), .dead, .dead] rfl) (Sub.kill (fr' := [(0, vl eField p1), (1, vl (eL eValue) p2), (14, vl (eL eField) r1), (15, vi (r1.length : Int)), (16, vi x1), (48, .one (.sl 0 3 0 l1.length)), (49, .ag [cl eI l14, cl eI l15, .sl 4 5 0 l16.length])]) 3 (Nat.zero_le _) (by kernel_rfl) ⟨.one (.rfl _ rfl), .one (.rfl _ rfl), .one (.rfl _ rfl), .one (.rfl _ rfl), .one (.rfl _ rfl), .one (.rfl _ rfl), .ag (.cons (.rfl _ rfl) (.cons (cf_sl eI l15 rfl rfl rfl) (.cons (.rfl _ rfl) .nil))), trivial⟩)) ?_
     refine XO.sub (Sub.trans (Sub.stale 1 2 4 5 0 l16.length [.sl 5 1 0 l14.length, .sl 6 1 0 l15.length, .sl 4 5 0 l16.length] rfl rfl [.arr 3 (eColumn.els l1), .box [.sl 5 1 0 l14.length, .sl 6 1 0 l15.length, .sl 7 5 0 l16.length], .dead, .dead, .arr 5 (eValue.els l16), .dead, .dead, .dead] rfl) (Sub.kill (fr' := [(0, vl eField p1), (1, vl (eL eValue) p2), (14, vl (eL eField) r1), (15, vi (r1.length : Int)), (16, vi x1), (48, .one (.sl 0 3 0 l1.length)), (49, .ag [cl eI l14, cl eI l15, cl eValue l16])]) 4 (Nat.zero_le _) (by kernel_rfl) ⟨.one (.rfl _ rfl), .one (.rfl _ rfl), .one (.rfl _ rfl), .one (.rfl _ rfl), .one (.rfl _ rfl), .one (.rfl _ rfl), .ag (.cons (.rfl _ rfl) (.cons (.rfl _ rfl) (.cons (cf_sl eValue l16 rfl rfl rfl) .nil))), trivial⟩)) ?_
     refine zp [8, 12] 2 [0,1,14,15,16,51] [] [(0, vl eField p1), (1, vl (eL eValue) p2), (14, vl (eL eField) r1), (15, vi (r1.length : Int)), (16, vi x1), (51, .one (.sl 0 3 0 (l1.length + (eColumn.els [(GColumn.mk l14 l15 l16)]).length)))] [.arr 3 (eColumn.els l1 ++ eColumn.els [(GColumn.mk l14 l15 l16)]), .box [.sl 5 1 0 l14.length, .sl 6 1 0 l15.length, .sl 7 5 0 l16.length], .dead, .dead, .dead, .dead, .dead, .dead] [elemsOk 3 (eColumn.els [(GColumn.mk l14 l15 l16)]), l1.length = (eColumn.els l1).length, l1.length + (eColumn.els [(GColumn.mk l14 l15 l16)]).length ≤ 4294967296] (⟨eColumn.ok _, (eColumn.len l1).symm, g33, trivial⟩) ?_
     rw [show l1.length + (eColumn.els [(GColumn.mk l14 l15 l16)]).length = (l1 ++ [(GColumn.mk l14 l15 l16)]).length from eColumn.lapp _ _]
     rw [show eColumn.els l1 ++ eColumn.els [(GColumn.mk l14 l15 l16)] = eColumn.els (l1 ++ [(GColumn.mk l14 l15 l16)]) from eColumn.app2 _ _]
     refine zg [8, 12] 1 [0,1,5,14,15,16] (zd (m9 _ _ (zr (zg [8, 12] 2 [0,1,5,14,15,16] (zd ?_)))))
     exact XR.sub (Sub.trans (Sub.pick (fr' := [(0, vl eField p1), (1, vl (eL eValue) p2), (5, .one (.sl 0 3 0 ((l1 ++ [(GColumn.mk l14 l15 l16)]).length))), (14, vl (eL eField) r1), (15, vi (r1.length : Int)), (16, vi (i64.wrap (x1 + (1 : Int))))]) [0,1,5,14,15,16] (by kernel_rfl)) (Sub.take (fr' := [(0, vl eField p1), (1, vl (eL eValue) p2), (5, .one (.sl 0 3 0 ((l1 ++ [(GColumn.mk l14 l15 l16)]).length))), (14, vl (eL eField) r1), (15, vi (r1.length : Int)), (16, vi (i64.wrap (x1 + (1 : Int))))]) 1 (Nat.zero_le _) (by kernel_rfl) (by kernel_rfl))) (ih1 (l1 ++ [(GColumn.mk l14 l15 l16)]) (i64.wrap (x1 + (1 : Int))) h)
    refine zq fun K14 m14 => zr (zv [8, 12] 2 [0,1,5,7,8,14,15,16,20,21] [] [(0, vl eField p1), (1, vl (eL eValue) p2), (5, .one (.sl 0 3 0 l1.length)), (7, vl eField e1), (8, vq 1), (14, vl (eL eField) r1), (15, vi (r1.length : Int)), (16, vi x1), (20, vl (eL eValue) p2), (21, vi (((eL eValue).els p2).length : Int))] [.arr 3 (eColumn.els l1), .box [.pv (.s (.slice none 0 0)), .pv (.s (.slice none 0 0)), .pv (.s (.slice none 0 0))]] ?_)
    rw [(eL eValue).len p2]
    refine zv [8, 12] 1 [0,1,5,7,8,14,15,16,20,21,22] [] [(0, vl eField p1), (1, vl (eL eValue) p2), (5, .one (.sl 0 3 0 l1.length)), (7, vl eField e1), (8, vq 1), (14, vl (eL eField) r1), (15, vi (r1.length : Int)), (16, vi x1), (20, vl (eL eValue) p2), (21, vi (p2.length : Int)), (22, vi 0)] [.arr 3 (eColumn.els l1), .box qa1857] (zd (m14 _ _ (zb 2 ?_)))
    refine XW.sub (Sub.listb 1 0 1 qa1857 rfl rfl [.arr 3 (eColumn.els l1), .box qa2357, .arr 1 (eI.els [])] rfl) (XW.sub (Sub.listb 1 1 1 qa2357 rfl rfl [.arr 3 (eColumn.els l1), .box [.sl 2 1 0 0, .sl 3 1 0 0, .pv (.s (.slice none 0 0))], .arr 1 (eI.els []), .arr 1 (eI.els [])] rfl) ?_)
    refine XW.sub (Sub.listb 1 2 5 [.sl 2 1 0 0, .sl 3 1 0 0, .pv (.s (.slice none 0 0))] rfl rfl [.arr 3 (eColumn.els l1), .box [.sl 2 1 0 0, .sl 3 1 0 0, .sl 4 5 0 0], .arr 1 (eI.els []), .arr 1 (eI.els []), .arr 5 (eValue.els [])] rfl) (XW.rounds' BIG (x := cd Tryd.f32 [1,1,0,1,0,0,1,1,0,0,1,1,0,1,0,0]) (by kernel_rfl) fun Q2 hQ2 => ?_)
    have hL2 : ∀ (k2 : Nat) (l2 : List Int) (l3 : List Int) (l4 : List GValue) (x2 : Int), ref2_shred_l2 (ref2_shred_l1 p1 p2 r1 k1) p1 p2 l1 x1 e1 k2 l2 l3 l4 x2 = some r → XR Tryd.prog 54 0 [] (cd Tryd.f32 [1,1,0,1,0,0,1,1,0,0,1,1,0,1,0,0]) Q2 k2 (qa2359 p1 p2 r1 l1 x1 e1 x2) [.arr 3 (eColumn.els l1), .box [.sl 2 1 0 l2.length, .sl 3 1 0 l3.length, .sl 4 5 0 l4.length], .arr 1 (eI.els l2), .arr 1 (eI.els l3), .arr 5 (eValue.els l4)] := by
     intro k2
     induction k2 with
     | zero => intro l2 l3 l4 x2 h; rw [ref2_shred_l2.eq_1] at h; cases h
     | succ k2 ih2 =>
      intro l2 l3 l4 x2 h
      rw [ref2_shred_l2.eq_2] at h
      refine zq fun K15 m15 => zr (zg [8, 12] 1 [0,1,5,7,8,14,15,16,20,21,22,23] (zd (m15 _ _ (zq fun K16 m16 => zC h (fun b17 h => ?_) (fun b17 h => ?_)))))
      ·refine zs (m16 _ _ (zq fun K18 m18 => ?_))
       have j2 : ∀ (l11 : List Int) (l12 : List Int) (l13 : List GValue), ref2_shred_j2 (ref2_shred_l2 (ref2_shred_l1 p1 p2 r1 k1) p1 p2 l1 x1 e1 k2) x2 l11 l12 l13 = some r → ∀ w0 w1, Sub 54 0 [] w0 w1 (qa2359 p1 p2 r1 l1 x1 e1 x2) [.arr 3 (eColumn.els l1), .box [.sl 2 1 0 l11.length, .sl 3 1 0 l12.length, .sl 4 5 0 l13.length], .arr 1 (eI.els l11), .arr 1 (eI.els l12), .arr 5 (eValue.els l13)] → K18 w0 w1 := by
        intro l11 l12 l13 h w0 w1 hS
        unfold ref2_shred_j2 at h
        refine m18 _ _ (XW.sub hS ?_)
        exact zr (zg [8, 12] 2 [0,1,5,7,8,14,15,16,20,21,22] (zd (XR.sub (zk [0,1,5,7,8,14,15,16,20,21,22]) (ih2 l11 l12 l13 (i64.wrap (x2 + (1 : Int))) h))))
       refine zb 3 (zq fun K19 m19 => ?_)
       obtain ⟨e2, a20, h⟩ := zB h
       refine zr (zo [8, 12] 3 [0,1,5,7,8,10,14,15,16,20,21,22] [[.ro (eValue.els e2)]] [0 ≤ x2 ∧ x2 < (((eL eValue).els p2).length : Int) ∧ elemsOk 1 ((eL eValue).els p2), ((eL eValue).els p2)[x2.toNat]? = some [.ro (eValue.els e2)]] (⟨(eL eValue).inb a20, ((eL eValue).get a20), trivial⟩) (zd (m19 _ _ (zq fun K21 m21 => zr ?_))))
       refine zv [8, 12] 2 [0,1,5,7,8,10,14,15,16,20,21,22,26,27] [] [(0, vl eField p1), (1, vl (eL eValue) p2), (5, .one (.sl 0 3 0 l1.length)), (7, vl eField e1), (8, vq 1), (10, vl eValue e2), (14, vl (eL eField) r1), (15, vi (r1.length : Int)), (16, vi x1), (20, vl (eL eValue) p2), (21, vi (p2.length : Int)), (22, vi x2), (26, vl eField p1), (27, vi ((eField.els p1).length : Int))] [.arr 3 (eColumn.els l1), .box [.sl 2 1 0 l2.length, .sl 3 1 0 l3.length, .sl 4 5 0 l4.length], .arr 1 (eI.els l2), .arr 1 (eI.els l3), .arr 5 (eValue.els l4)] ?_
       rw [eField.len p1]
       refine zg [8, 12] 1 [0,1,5,7,8,10,14,15,16,20,21,22,26,27,28] (zd (m21 _ _ (zb 4 (XW.rounds' BIG (x := cd Tryd.f32 [1,1,0,1,0,0,1,1,0,0,1,1,0,1,0,0,1,1,0,0,1,1,0,0]) (by kernel_rfl) fun Q3 hQ3 => ?_))))
       have hL3 : ∀ (k3 : Nat) (l5 : List Int) (l6 : List Int) (l7 : List GValue) (x3 : Int), ref2_shred_l3 (ref2_shred_l2 (ref2_shred_l1 p1 p2 r1 k1) p1 p2 l1 x1 e1 k2) p1 e1 x2 e2 k3 l5 l6 l7 x3 = some r → XR Tryd.prog 54 0 [] (cd Tryd.f32 [1,1,0,1,0,0,1,1,0,0,1,1,0,1,0,0,1,1,0,0,1,1,0,0]) Q3 k3 (qa2363 p1 p2 r1 l1 x1 e1 x2 e2 x3) [.arr 3 (eColumn.els l1), .box [.sl 2 1 0 l5.length, .sl 3 1 0 l6.length, .sl 4 5 0 l7.length], .arr 1 (eI.els l5), .arr 1 (eI.els l6), .arr 5 (eValue.els l7)] := by
        intro k3
        induction k3 with
        | zero => intro l5 l6 l7 x3 h; rw [ref2_shred_l3.eq_1] at h; cases h
        | succ k3 ih3 =>
         intro l5 l6 l7 x3 h
         rw [ref2_shred_l3.eq_2] at h
         refine zq fun K22 m22 => zr (zg [8, 12] 1 [0,1,5,7,8,10,14,15,16,20,21,22,26,27,28,29] (zd (m22 _ _ (zq fun K23 m23 => zC h (fun b24 h => ?_) (fun b24 h => ?_)))))
         ·refine zs (m23 _ _ (zq fun K25 m25 => ?_))
          have j1 : ∀ (l8 : List Int) (l9 : List Int) (l10 : List GValue), ref2_shred_j1 (ref2_shred_l3 (ref2_shred_l2 (ref2_shred_l1 p1 p2 r1 k1) p1 p2 l1 x1 e1 k2) p1 e1 x2 e2 k3) x3 l8 l9 l10 = some r → ∀ w0 w1, Sub 54 0 [] w0 w1 (qa2363 p1 p2 r1 l1 x1 e1 x2 e2 x3) [.arr 3 (eColumn.els l1), .box [.sl 2 1 0 l8.length, .sl 3 1 0 l9.length, .sl 4 5 0 l10.length], .arr 1 (eI.els l8), .arr 1 (eI.els l9), .arr 5 (eValue.els l10)] → K25 w0 w1 := by
           intro l8 l9 l10 h w0 w1 hS
           unfold ref2_shred_j1 at h
           refine m25 _ _ (XW.sub hS ?_)
           exact zr (zg [8, 12] 2 [0,1,5,7,8,10,14,15,16,20,21,22,26,27,28] (zd (XR.sub (zk [0,1,5,7,8,10,14,15,16,20,21,22,26,27,28]) (ih3 l8 l9 l10 (i64.wrap (x3 + (1 : Int))) h))))
          refine zb 5 (zq fun K26 m26 => ?_)
          obtain ⟨e3, a27, h⟩ := zB h
          refine zr (zo [8, 12] 6 [0,1,5,7,8,10,11,12,14,15,16,20,21,22,26,27,28] [(qa1299 e3)] [0 ≤ x3 ∧ x3 < ((eField.els p1).length : Int) ∧ elemsOk 6 (eField.els p1), (eField.els p1)[x3.toNat]? = some (qa1299 e3)] (⟨eField.inb a27, ((eField.get a27).trans (by rcases e3 with ⟨_, _, _, ⟨_, _, _⟩⟩; rfl)), trivial⟩) (zd (m26 _ _ (zq fun K28 m28 => ?_))))
          obtain ⟨e4, a29, h⟩ := zB h
          refine zw 6 (qa2367 p1 p2 r1 l1 x1 e1 x2 e2 x3 e3 e4) ?_ ?_
          ·refine zyp 6 [(qa1299 e4)] (qa2367 p1 p2 r1 l1 x1 e1 x2 e2 x3 e3 e4) [0 ≤ (0 : Int) ∧ (0 : Int) < ((eField.els e1).length : Int) ∧ elemsOk 6 (eField.els e1), (eField.els e1)[(0 : Int).toNat]? = some (qa1299 e4)] (⟨eField.inb a29, ((eField.get a29).trans (by rcases e4 with ⟨_, _, _, ⟨_, _, _⟩⟩; rfl)), trivial⟩) ?_
           exact zyd
          refine zv [8, 12] 1 [0,1,5,7,8,10,11,14,15,16,20,21,22,26,27,28,39] [] [(0, vl eField p1), (1, vl (eL eValue) p2), (5, .one (.sl 0 3 0 l1.length)), (7, vl eField e1), (8, vq 1), (10, vl eValue e2), (11, vi x3), (14, vl (eL eField) r1), (15, vi (r1.length : Int)), (16, vi x1), (20, vl (eL eValue) p2), (21, vi (p2.length : Int)), (22, vi x2), (26, vl eField p1), (27, vi (p1.length : Int)), (28, vi x3), (39, vb (e3.id == e4.id))] (qa2391 l1 l5 l6 l7 e3) ?_
          refine zd (m28 _ _ (zC h (fun b30 h => ?_) (fun b30 h => ?_)))
          ·obtain ⟨e5, a31, h⟩ := zB h
           obtain ⟨r2, c32, h⟩ := zB h
           refine zr ?_
           refine zp [8, 12] 5 [0,1,5,7,8,10,14,15,16,20,21,22,26,27,28,40,44] [[pi e5.kind, pi e5.n, pi e5.scale, .s (.string e5.s), .ro (eValue.els e5.items)]] [(0, vl eField p1), (1, vl (eL eValue) p2), (5, .one (.sl 0 3 0 l1.length)), (7, vl eField e1), (8, vq 1), (10, vl eValue e2), (14, vl (eL eField) r1), (15, vi (r1.length : Int)), (16, vi x1), (20, vl (eL eValue) p2), (21, vi (p2.length : Int)), (22, vi x2), (26, vl eField p1), (27, vi (p1.length : Int)), (28, vi x3), (40, vl eField e1), (44, .ag (qa1518 e5))] (qa2391 l1 l5 l6 l7 e3) [0 ≤ x3 ∧ x3 < ((eValue.els e2).length : Int) ∧ elemsOk 5 (eValue.els e2), (eValue.els e2)[x3.toNat]? = some [pi e5.kind, pi e5.n, pi e5.scale, .s (.string e5.s), .ro (eValue.els e5.items)]] (⟨eValue.inb a31, ((eValue.get a31).trans (by cases e5; rfl)), trivial⟩) ?_
           refine XO.calx 60 [vq 0, vl eField e1, .ag (qa1518 e5), vi 0, vi 0, vi 0] [.box [.sl 1 1 0 l5.length, .sl 2 1 0 l6.length, .sl 3 5 0 l7.length], .arr 1 (eI.els l5), .arr 1 (eI.els l6), .arr 5 (eValue.els l7)] [.box [.sl 1 1 0 r2.2.reps.length, .sl 2 1 0 r2.2.defs.length, .sl 3 5 0 r2.2.values.length], .arr 1 (eI.els r2.2.reps), .arr 1 (eI.els r2.2.defs), .arr 5 (eValue.els r2.2.values)] [1, 2, 3] (.tp []) [1, 2, 3, 4] [2, 3, 4] [(45, .tp []), (0, vl eField p1), (1, vl (eL eValue) p2), (5, .one (.sl 0 3 0 l1.length)), (7, vl eField e1), (8, vq 1), (10, vl eValue e2), (14, vl (eL eField) r1), (15, vi (r1.length : Int)), (16, vi x1), (20, vl (eL eValue) p2), (21, vi (p2.length : Int)), (22, vi x2), (26, vl eField p1), (27, vi (p1.length : Int)), (28, vi x3), (40, vl eField e1), (44, .ag (qa1518 e5))] [.arr 3 (eColumn.els l1), .box [.sl 2 1 0 r2.2.reps.length, .sl 3 1 0 r2.2.defs.length, .sl 4 5 0 r2.2.values.length], .arr 1 (eI.els r2.2.reps), .arr 1 (eI.els r2.2.defs), .arr 5 (eValue.els r2.2.values), .box (qa1305 e3)] (by kernel_rfl) (c_ref2_entries BIG _ _ _ _ _ _ _ c32) (by kernel_rfl) (by kernel_rfl) (by kernel_rfl) (by kernel_rfl) (by kernel_rfl) (by kernel_rfl) (by kernel_rfl) ?_
           refine zd ?_
           exact j1 r2.2.reps r2.2.defs r2.2.values h _ _ (Sub.trans (Sub.pick (fr' := (qa2363 p1 p2 r1 l1 x1 e1 x2 e2 x3)) [0,1,5,7,8,10,14,15,16,20,21,22,26,27,28] (by kernel_rfl)) (Sub.take (fr' := (qa2363 p1 p2 r1 l1 x1 e1 x2 e2 x3)) 5 (Nat.zero_le _) (by kernel_rfl) (by kernel_rfl)))
          ·refine zs ?_
           exact j1 l5 l6 l7 h _ _ (Sub.trans (Sub.pick (fr' := (qa2363 p1 p2 r1 l1 x1 e1 x2 e2 x3)) [0,1,5,7,8,10,14,15,16,20,21,22,26,27,28] (by kernel_rfl)) (Sub.take (fr' := (qa2363 p1 p2 r1 l1 x1 e1 x2 e2 x3)) 5 (Nat.zero_le _) (by kernel_rfl) (by kernel_rfl)))
         ·exact zx 4 (hQ3 _ _ _ (j2 l5 l6 l7 h _ _ (zk [0,1,5,7,8,14,15,16,20,21,22])))
       exact XR.sub (zk [0,1,5,7,8,10,14,15,16,20,21,22,26,27,28]) (hL3 BIG l2 l3 l4 (0 : Int) h)
      ·exact zx 2 (hQ2 _ _ _ (j3 l2 l3 l4 h _ _ (zk [0,1,5,8,14,15,16])))
    exact XR.sub (zk [0,1,5,7,8,14,15,16,20,21,22]) (hL2 BIG [] [] [] (0 : Int) h)
   ·exact zx 0 (hQ1 _ _ _ (j4 l1 h _ _ (zk [5])))
 exact XR.sub (zk [0,1,5,14,15,16]) (hL1 BIG [] (0 : Int) h)
def ref2_Shred (p1 : (List GField)) (p2 : (List (List GValue))) : Option ((List GColumn) × Int) := bnd (ref2_CheckRows p1 p2) fun r1 => ift (r1 != (0 : Int)) (some ([], r1)) (bnd (ref2_shred p1 p2) fun r2 => some (r2, (0 : Int)))
theorem c_ref2_Shred (p1 : (List GField)) (p2 : (List (List GValue))) (r : ((List GColumn) × Int)) (h : ref2_Shred p1 p2 = some r) : PC Tryd.prog 13 [vl eField p1, vl (eL eValue) p2] (.tp [vl eColumn r.1, vi r.2]) := by
 unfold ref2_Shred at h
 refine zF 16 Tryd.f13 (zq fun K1 m1 => zr (zg [] 2 [0,1] (zd (m1 _ _ (zq fun K2 m2 => zq fun K3 m3 => ?_)))))
 obtain ⟨r1, c4, h⟩ := zB h
 refine zr (zg [] 2 [0,1,7,8] (zl 9 [vl eField p1, vl (eL eValue) p2] (vi r1) [(9, vi r1), (0, vl eField p1), (1, vl (eL eValue) p2), (7, vl eField p1), (8, vl (eL eValue) p2)] (c_ref2_CheckRows _ _ _ c4) (zg [] 1 [0,1,6] (zd (m3 _ _ (zq fun K5 m5 => zr ?_))))))
 refine zg [] 2 [0,1,6,11] (zd (m5 _ _ (zC h (fun b6 h => ?_) (fun b6 h => ?_))))
 ·refine zq fun K7 m7 => zr (zv [] 3 [4,5] [] [(4, .one (.pv (.s (.slice none 0 0)))), (5, vi r1)] [] (zd (m7 _ _ (ze ?_))))
  obtain rfl := zj h
  exact zf [.one (.pv (.s (.slice none 0 0))), vi r1] (.tpc (.one (.nl)) (.tpc (.one (.rfl _ rfl)) (.tp0)))
 ·refine zs (m2 _ _ (zq fun K8 m8 => ?_))
  obtain ⟨r2, c9, h⟩ := zB h
  refine zr (zg [] 2 [13,14] (za (c_ref2_shred _ _ _ c9) (zv [] 2 [4,5] [] [(4, vl eColumn r2), (5, vi 0)] [] (zd (m8 _ _ (ze ?_))))))
  obtain rfl := zj h
  exact zf [vl eColumn r2, vi 0] (.tpc (.one (.rfl _ rfl)) (.tpc (.one (.rfl _ rfl)) (.tp0)))
def ref2_sameInts_j1 : Option Bool := some true
def ref2_sameInts_l1 (p1 : (List Int)) (p2 : (List Int)) : Nat → Int → Option Bool
 | 0, _ => none
 | k1 + 1, x1 => ift (decide (x1 < (p1.length : Int))) (bnd (at? p1 x1) fun e1 => bnd (at? p2 x1) fun e2 => ift (e1 != e2) (some false) ((ref2_sameInts_l1 p1 p2 k1) (i64.wrap (x1 + (1 : Int))))) (ref2_sameInts_j1)
def ref2_sameInts (p1 : (List Int)) (p2 : (List Int)) : Option Bool := ift ((p1.length : Int) != (p2.length : Int)) (some false) (ref2_sameInts_l1 p1 p2 BIG (0 : Int))
theorem c_ref2_sameInts (p1 : (List Int)) (p2 : (List Int)) (r : Bool) (h : ref2_sameInts p1 p2 = some r) : PC Tryd.prog 33 [vl eI p1, vl eI p2] (vb r) := by
 unfold ref2_sameInts at h
 refine zF 26 Tryd.f33 (zq fun K1 m1 => zr (zg [] 1 [0,1] (zd (m1 _ _ (zq fun K2 m2 => zq fun K3 m3 => ?_)))))
 refine zr (zv [] 2 [0,1,7] [] [(0, vl eI p1), (1, vl eI p2), (7, vi ((eI.els p1).length : Int))] [] ?_)
 rw [eI.len p1]
 refine zv [] 2 [0,1,7,9] [] [(0, vl eI p1), (1, vl eI p2), (7, vi (p1.length : Int)), (9, vi ((eI.els p2).length : Int))] [] ?_
 rw [eI.len p2]
 refine zg [] 1 [0,1,10] (zd (m3 _ _ (zC h (fun b4 h => ?_) (fun b4 h => ?_))))
 ·refine zq fun K5 m5 => zr (zg [] 1 [4] (zd (m5 _ _ (ze ?_))))
  obtain rfl := zj h
  exact zf [vb false] (.one (.rfl _ rfl))
 ·refine zs (m2 _ _ (zq fun K6 m6 => ?_))
  have j1 : ∀ (_ : Unit), ref2_sameInts_j1 = some r → ∀ w0 w1, Sub 26 0 [] w0 w1 [] [] → K6 w0 w1 := by
   intro _ h w0 w1 hS
   unfold ref2_sameInts_j1 at h
   refine m6 _ _ (XW.sub hS ?_)
   refine zq fun K18 m18 => zr (zg [] 1 [4] (zd (m18 _ _ (ze ?_))))
   obtain rfl := zj h
   exact zf [vb true] (.one (.rfl _ rfl))
  refine zq fun K7 m7 => zr (zv [] 2 [0,1,12] [] [(0, vl eI p1), (1, vl eI p2), (12, vi ((eI.els p1).length : Int))] [] ?_)
  rw [eI.len p1]
  refine zg [] 1 [0,1,12,13] (zd (m7 _ _ (zb 0 (XW.rounds' BIG (x := cd Tryd.f33 [1,1,0,1,0,0]) (by kernel_rfl) fun Q1 hQ1 => ?_))))
  have hL1 : ∀ (k1 : Nat) (x1 : Int), ref2_sameInts_l1 p1 p2 k1 x1 = some r → XR Tryd.prog 26 0 [] (cd Tryd.f33 [1,1,0,1,0,0]) Q1 k1 [(0, vl eI p1), (1, vl eI p2), (12, vi (p1.length : Int)), (13, vi x1)] [] := by
   intro k1
   induction k1 with
   | zero => intro x1 h; rw [ref2_sameInts_l1.eq_1] at h; cases h
   | succ k1 ih1 =>
    intro x1 h
    rw [ref2_sameInts_l1.eq_2] at h
    refine zq fun K8 m8 => zr (zg [] 1 [0,1,12,13,14] (zd (m8 _ _ (zq fun K9 m9 => zC h (fun b10 h => ?_) (fun b10 h => ?_)))))
    ·refine zs (m9 _ _ (zq fun K11 m11 => zb 1 (zq fun K12 m12 => zr (zg [] 2 [0,1,5,12,13] (zd ?_)))))
     refine m12 _ _ (zq fun K13 m13 => ?_)
     obtain ⟨e1, a14, h⟩ := zB h
     obtain ⟨e2, a15, h⟩ := zB h
     refine zw 8 (qa2227 p1 p2 x1 e1 e2) ?_ ?_
     ·exact zyp 8 [[pi e1], [pi e2]] (qa2227 p1 p2 x1 e1 e2) [0 ≤ x1 ∧ x1 < ((eI.els p1).length : Int) ∧ elemsOk 1 (eI.els p1), (eI.els p1)[x1.toNat]? = some [pi e1], 0 ≤ x1 ∧ x1 < ((eI.els p2).length : Int) ∧ elemsOk 1 (eI.els p2), (eI.els p2)[x1.toNat]? = some [pi e2]] (⟨eI.inb a14, (eI.get a14), eI.inb a15, (eI.get a15), trivial⟩) zyd
     refine zv [] 1 [0,1,12,13,24] [] [(0, vl eI p1), (1, vl eI p2), (12, vi (p1.length : Int)), (13, vi x1), (24, vb (e1 != e2))] [] (zd (m13 _ _ (zC h (fun b16 h => ?_) (fun b16 h => ?_))))
     ·refine zq fun K17 m17 => zr (zg [] 1 [4] (zd (m17 _ _ (ze (hQ1 _ _ _ ?_)))))
      obtain rfl := zj h
      exact zf [vb false] (.one (.rfl _ rfl))
     ·exact zs (m11 _ _ (zr (zg [] 2 [0,1,12,13] (zd (XR.sub (zk [0,1,12,13]) (ih1 (i64.wrap (x1 + (1 : Int))) h))))))
    ·exact zx 0 (hQ1 _ _ _ (j1 () h _ _ (zk [])))
  exact XR.sub (zk [0,1,12,13]) (hL1 BIG (0 : Int) h)
def ref1_order (p1 : Int) (p2 : Int) : Option Int := ift (decide (p1 < p2)) (some (-1 : Int)) (ift (decide (p2 < p1)) (some (1 : Int)) (some (0 : Int)))
theorem c_ref1_order (p1 : Int) (p2 : Int) (r : Int) (h : ref1_order p1 p2 = some r) : PC Tryd.prog 42 [vi p1, vi p2] (vi r) := by
 unfold ref1_order at h
 refine zF 11 Tryd.f42 (zq fun K1 m1 => zr (zg [] 1 [0,1] (zd (m1 _ _ (zq fun K2 m2 => zq fun K3 m3 => ?_)))))
 refine zr (zg [] 3 [0,1,7] (zd (m3 _ _ (zC h (fun b4 h => ?_) (fun b4 h => ?_)))))
 ·refine zq fun K5 m5 => zr (zv [] 1 [4] [] [(4, vi (-1))] [] (zd (m5 _ _ (ze ?_))))
  obtain rfl := zj h
  exact zf [vi (-1)] (.one (.rfl _ rfl))
 ·refine zs (m2 _ _ (zq fun K6 m6 => zq fun K7 m7 => zr (zg [] 3 [10] (zd (m7 _ _ ?_)))))
  refine zC h (fun b8 h => ?_) (fun b8 h => ?_)
  ·refine zq fun K9 m9 => zr (zg [] 1 [4] (zd (m9 _ _ (ze ?_))))
   obtain rfl := zj h
   exact zf [vi 1] (.one (.rfl _ rfl))
  ·refine zs (m6 _ _ (zq fun K10 m10 => zr (zv [] 1 [4] [] [(4, vi 0)] [] (zd (m10 _ _ (ze ?_))))))
   obtain rfl := zj h
   exact zf [vi 0] (.one (.rfl _ rfl))
def ref1_wideOf_j1 (rec1 : List Int → Int → Option RWide) (l1 : List Int) (x1 : Int) (x2 : Int) : Option RWide := grd (l1.length + 1 ≤ 4294967296) <| rec1 (l1 ++ [x2]) (i64.wrap (x1.tdiv (10 : Int)))
def ref1_wideOf_j2 (p1 : Int) (l2 : List Int) : Option RWide := some (RWide.mk (decide (p1 < (0 : Int))) l2)
def ref1_wideOf_l1 (p1 : Int) : Nat → List Int → Int → Option RWide
 | 0, _, _ => none
 | k1 + 1, l1, x1 => ift (x1 != (0 : Int)) (ift (decide ((x1.tmod (10 : Int)) < (0 : Int))) (ref1_wideOf_j1 (ref1_wideOf_l1 p1 k1) l1 x1 (i64.wrap (0 - (x1.tmod (10 : Int))))) (ref1_wideOf_j1 (ref1_wideOf_l1 p1 k1) l1 x1 (x1.tmod (10 : Int)))) (ref1_wideOf_j2 p1 l1)
def ref1_wideOf (p1 : Int) : Option RWide := ref1_wideOf_l1 p1 BIG [] p1
abbrev qa2409 : List CV := [cb false, .pv (.s (.slice none 0 0))]
theorem c_ref1_wideOf (p1 : Int) (r : RWide) (h : ref1_wideOf p1 = some r) : PC Tryd.prog 95 [vi p1] (.ag [cb r.below, cl eI r.d]) := by
 unfold ref1_wideOf at h
 refine zF 25 Tryd.f95 (zq fun K1 m1 => zr (zg [2] 1 [0,2] (zd (m1 _ _ (zq fun K2 m2 => zr ?_)))))
 refine zg [2] 1 [0,2,3] (zd (m2 _ _ (zq fun K3 m3 => ?_)))
 have j2 : ∀ (l2 : List Int), ref1_wideOf_j2 p1 l2 = some r → ∀ w0 w1, Sub 25 0 [] w0 w1 [(0, vi p1), (2, vq 0), (3, .one (.sl 1 1 0 l2.length))] [.box qa2409, .arr 1 (eI.els l2)] → K3 w0 w1 := by
  intro l2 h w0 w1 hS
  unfold ref1_wideOf_j2 at h
  refine m3 _ _ (XW.sub hS ?_)
  refine zq fun K14 m14 => zr (zg [2] 5 [2] (zd (m14 _ _ (ze ?_))))
  obtain rfl := zj h
  exact zf [.ag [cb (decide (p1 < (0 : Int))), .sl 1 1 0 l2.length]] (.ag (.cons (.rfl _ rfl) (.cons (cf_sl eI l2 rfl rfl rfl) .nil)))
 refine zq fun K4 m4 => zr (zv [2] 2 [0,2,3,4] [] [(0, vi p1), (2, vq 0), (3, .one (.pv (.s (.slice none 0 0)))), (4, vi p1)] [.box [cb false, .pv (.s (.slice none 0 0))]] (zd (m4 _ _ (zb 0 (XW.sub (Sub.list (t := 3) (sz := 1) rfl) (XW.rounds' BIG (x := cd Tryd.f95 [1,1,0,1,0,0]) (by kernel_rfl) fun Q1 hQ1 => ?_))))))
 have hL1 : ∀ (k1 : Nat) (l1 : List Int) (x1 : Int), ref1_wideOf_l1 p1 k1 l1 x1 = some r → XR Tryd.prog 25 0 [] (cd Tryd.f95 [1,1,0,1,0,0]) Q1 k1 [(0, vi p1), (2, vq 0), (3, .one (.sl 1 1 0 l1.length)), (4, vi x1)] [.box qa2409, .arr 1 (eI.els l1)] := by
  intro k1
  induction k1 with
  | zero => intro l1 x1 h; rw [ref1_wideOf_l1.eq_1] at h; cases h
  | succ k1 ih1 =>
   intro l1 x1 h
   rw [ref1_wideOf_l1.eq_2] at h
   refine zq fun K5 m5 => zq fun K6 m6 => zr (zg [2] 2 [0,2,3,4,8] (zd (m6 _ _ (zC h (fun b7 h => ?_) (fun b7 h => ?_)))))
   ·refine zs (m5 _ _ (zq fun K8 m8 => zb 1 (zq fun K9 m9 => zr (zo [2] 3 [0,2,3,4,5] [] [(10 : Int) ≠ 0] (⟨by decide, trivial⟩) (zd ?_)))))
    refine m9 _ _ (zq fun K10 m10 => ?_)
    have j1 : ∀ (x2 : Int), ref1_wideOf_j1 (ref1_wideOf_l1 p1 k1) l1 x1 x2 = some r → ∀ w0 w1, Sub 25 0 [] w0 w1 [(0, vi p1), (2, vq 0), (3, .one (.sl 1 1 0 l1.length)), (4, vi x1), (5, vi x2)] [.box qa2409, .arr 1 (eI.els l1)] → K10 w0 w1 := by
     intro x2 h w0 w1 hS
     unfold ref1_wideOf_j1 at h
     refine m10 _ _ (XW.sub hS ?_)
     obtain ⟨g13, h⟩ := zG h
     refine zr (zp [2] 4 [0,2,4,20] [] [(0, vi p1), (2, vq 0), (4, vi x1), (20, .one (.sl 1 1 0 (l1.length + (eI.els [x2]).length)))] [.box [cb false, .pv (.s (.slice none 0 0))], .arr 1 (eI.els l1 ++ eI.els [x2])] [elemsOk 1 (eI.els [x2]), l1.length = (eI.els l1).length, l1.length + (eI.els [x2]).length ≤ 4294967296] (⟨eI.ok _, (eI.len l1).symm, g13, trivial⟩) ?_)
     rw [show l1.length + (eI.els [x2]).length = (l1 ++ [x2]).length from eI.lapp _ _]
     rw [show eI.els l1 ++ eI.els [x2] = eI.els (l1 ++ [x2]) from eI.app2 _ _]
     exact zg [2] 1 [0,2,3,4] (zd (m8 _ _ (zr (zo [2] 3 [0,2,3,4] [] [(10 : Int) ≠ 0] (⟨by decide, trivial⟩) (zd (XR.sub (zk [0,2,3,4]) (ih1 (l1 ++ [x2]) (i64.wrap (x1.tdiv (10 : Int))) h)))))))
    refine zq fun K11 m11 => zr (zv [2] 2 [0,2,3,4,5,14] [] [(0, vi p1), (2, vq 0), (3, .one (.sl 1 1 0 l1.length)), (4, vi x1), (5, vi (x1.tmod (10 : Int))), (14, vb (decide ((x1.tmod (10 : Int)) < (0 : Int))))] [.box qa2409, .arr 1 (eI.els l1)] (zd (m11 _ _ (zC h (fun b12 h => ?_) (fun b12 h => ?_)))))
    ·exact zr (zg [2] 3 [0,2,3,4,5] (zd (j1 (i64.wrap (0 - (x1.tmod (10 : Int)))) h _ _ (zk [0,2,3,4,5]))))
    ·exact zs (j1 (x1.tmod (10 : Int)) h _ _ (zk [0,2,3,4,5]))
   ·exact zx 0 (hQ1 _ _ _ (j2 l1 h _ _ (zk [0,2,3])))
 exact XR.sub (zk [0,2,3,4]) (hL1 BIG [] p1 h)
def ref1_tens (p1 : RWide) (p2 : Int) : Option RWide := ift ((p1.d.length : Int) == (0 : Int)) (some p1) (grd (0 ≤ p2 ∧ p2 ≤ p2 ∧ p2 ≤ 4294967296) <| grd ((List.replicate p2.toNat (0 : Int)).length + p1.d.length ≤ 4294967296) <| some (RWide.mk p1.below ((List.replicate p2.toNat (0 : Int)) ++ p1.d)))
abbrev qa2418 (p1 : RWide) : List PV := [.s (.bool p1.below), .ro (eI.els p1.d)]
theorem c_ref1_tens (p1 : RWide) (p2 : Int) (r : RWide) (h : ref1_tens p1 p2 = some r) : PC Tryd.prog 94 [.ag [cb p1.below, cl eI p1.d], vi p2] (.ag [cb r.below, cl eI r.d]) := by
 unfold ref1_tens at h
 refine zF 18 Tryd.f94 (zq fun K1 m1 => zr (zg [4] 2 [1,2,4] (zd (m1 _ _ (zq fun K2 m2 => zq fun K3 m3 => ?_)))))
 refine zr (zv [4] 3 [1,2,4,7] [[.s (.bool p1.below), .ro (eI.els p1.d)]] [(1, vi p2), (2, vR [.s (.bool p1.below), .ro (eI.els p1.d)]), (4, vq 0), (7, vi ((eI.els p1.d).length : Int))] [.box [cb false, .pv (.s (.slice none 0 0))]] ?_)
 rw [eI.len p1.d]
 refine zg [4] 1 [1,2,4,8] (zd (m3 _ _ (zC h (fun b4 h => ?_) (fun b4 h => ?_))))
 ·refine zq fun K5 m5 => zr (zu [4] 2 [4] [(qa2418 p1)] (zd (m5 _ _ (ze ?_))))
  obtain rfl := zj h
  exact zf [.ag [cb p1.below, cl eI p1.d]] (.ag (.cons (.rfl _ rfl) (.cons (.rfl _ rfl) .nil)))
 ·refine zs (m2 _ _ (zq fun K6 m6 => ?_))
  obtain ⟨g8, h⟩ := zG h
  obtain ⟨g9, h⟩ := zG h
  refine XW.sub (Sub.dead 1) ?_
  refine XW.drwG 7 [1, 2] [([], []), ([], []), ([], []), ([1, 1001], [1, 1001]), ([], []), ([], []), ([1, 1001], [1, 1001])] [(16, .one (.sl 1 1 0 (((List.replicate p2.toNat (0 : Int)) ++ p1.d).length))), (15, vl eI p1.d), (14, .one (.pv (.rp [(qa2418 p1)] 0 1))), (13, .j), (12, vi p2), (11, vb p1.below), (10, vR (qa2418 p1)), (1, vi p2), (2, vR (qa2418 p1)), (4, vq 0), (8, vb ((p1.d.length : Int) == (0 : Int)))] [.box [cb false, .pv (.s (.slice none 0 0))], .arr 1 (eI.els ((List.replicate p2.toNat (0 : Int)) ++ p1.d))] (by kernel_rfl) (by kernel_rfl) ?_ ?_
  ·refine zgv 3 [(qa2418 p1)] [(12, vi p2), (11, vb p1.below), (10, vR (qa2418 p1)), (1, vi p2), (2, vR (qa2418 p1)), (4, vq 0), (8, vb ((p1.d.length : Int) == (0 : Int)))] ?_
   refine GY.new false 1 [] [(13, .one (.sl 1 1 0 p2.toNat)), (12, vi p2), (11, vb p1.below), (10, vR [.s (.bool p1.below), .ro (eI.els p1.d)]), (1, vi p2), (2, vR [.s (.bool p1.below), .ro (eI.els p1.d)]), (4, vq 0), (8, vb ((p1.d.length : Int) == (0 : Int)))] [1] [.box [cb false, .pv (.s (.slice none 0 0))], .arr 1 (List.replicate p2.toNat [pi 0])] [0 ≤ p2, p2 ≤ p2, p2 ≤ 4294967296] (by kernel_rfl) (by kernel_rfl) (⟨g8.1, g8.2.1, g8.2.2, trivial⟩) (by kernel_rfl) ?_
   rw [show List.replicate p2.toNat [pi 0] = eI.els (List.replicate p2.toNat (0 : Int)) from eI.rep _ (0 : Int)]
   refine zgv 2 [(qa2418 p1)] [(15, vl eI p1.d), (14, .one (.pv (.rp [(qa2418 p1)] 0 1))), (13, .one (.sl 1 1 0 p2.toNat)), (12, vi p2), (11, vb p1.below), (10, vR (qa2418 p1)), (1, vi p2), (2, vR (qa2418 p1)), (4, vq 0), (8, vb ((p1.d.length : Int) == (0 : Int)))] ?_
   refine GY.wr [] [(16, .one (.sl 1 1 0 (p2.toNat + (eI.els p1.d).length))), (15, vl eI p1.d), (14, .one (.pv (.rp [[.s (.bool p1.below), .ro (eI.els p1.d)]] 0 1))), (13, .j), (12, vi p2), (11, vb p1.below), (10, vR [.s (.bool p1.below), .ro (eI.els p1.d)]), (1, vi p2), (2, vR [.s (.bool p1.below), .ro (eI.els p1.d)]), (4, vq 0), (8, vb ((p1.d.length : Int) == (0 : Int)))] [1] [1] [.box [cb false, .pv (.s (.slice none 0 0))], .arr 1 (eI.els (List.replicate p2.toNat (0 : Int)) ++ eI.els p1.d)] [elemsOk 1 (eI.els p1.d), p2.toNat = (eI.els (List.replicate p2.toNat (0 : Int))).length, p2.toNat + (eI.els p1.d).length ≤ 4294967296] (by kernel_rfl) (by kernel_rfl) (⟨eI.ok _, (by simp [Enc.len]), (by simp [Enc.len] at * <;> omega), trivial⟩) (by kernel_rfl) ?_
   rw [show p2.toNat + (eI.els p1.d).length = ((List.replicate p2.toNat (0 : Int)) ++ p1.d).length from (by simp [Enc.len] <;> omega)]
   rw [show eI.els (List.replicate p2.toNat (0 : Int)) ++ eI.els p1.d = eI.els ((List.replicate p2.toNat (0 : Int)) ++ p1.d) from eI.app2 _ _]
   exact GY.done (by kernel_rfl) (by kernel_rfl)
  refine zv [4] 2 [4] [] [(4, vq 0)] [.box [cb p1.below, .sl 1 1 0 (((List.replicate p2.toNat (0 : Int)) ++ p1.d).length)], .arr 1 (eI.els ((List.replicate p2.toNat (0 : Int)) ++ p1.d))] (zd (m6 _ _ (ze ?_)))
  obtain rfl := zj h
  exact zf [.ag [cb p1.below, .sl 1 1 0 (((List.replicate p2.toNat (0 : Int)) ++ p1.d).length)]] (.ag (.cons (.rfl _ rfl) (.cons (cf_sl eI ((List.replicate p2.toNat (0 : Int)) ++ p1.d) rfl rfl rfl) .nil)))
def ref1_twelve (p1 : GValue) : Option RWide := bnd (ref1_wideOf p1.n) fun r1 => bnd (ref1_tens r1 (i64.wrap ((12 : Int) - p1.scale))) fun r2 => some r2
theorem c_ref1_twelve (p1 : GValue) (r : RWide) (h : ref1_twelve p1 = some r) : PC Tryd.prog 70 [.ag [ci p1.kind, ci p1.n, ci p1.scale, cst p1.s, cl eValue p1.items]] (.ag [cb r.below, cl eI r.d]) := by
 unfold ref1_twelve at h
 refine zF 10 Tryd.f70 (zq fun K1 m1 => zr (zg [2] 2 [1,2] (zd (m1 _ _ (zq fun K2 m2 => ?_)))))
 obtain ⟨r1, c3, h⟩ := zB h
 obtain ⟨r2, c4, h⟩ := zB h
 refine zw 6 [(8, vi (i64.wrap ((12 : Int) - p1.scale))), (7, vi p1.scale), (6, .one (.pv (.rp [(qa1467 p1)] 0 2))), (5, .ag [cb r1.below, cl eI r1.d]), (4, vi p1.n), (3, .one (.pv (.rp [(qa1467 p1)] 0 1))), (1, vR (qa1467 p1)), (2, vq 0)] ?_ ?_
 ·refine zyu 2 [(qa1467 p1)] (DX.cal 95 [vi p1.n] (.ag [cb r1.below, cl eI r1.d]) [(5, .ag [cb r1.below, cl eI r1.d]), (4, vi p1.n), (3, .one (.pv (.rp [(qa1467 p1)] 0 1))), (1, vR (qa1467 p1)), (2, vq 0)] (by kernel_rfl) (c_ref1_wideOf _ _ c3) rfl rfl (by kernel_rfl) ?_)
  exact zyu 3 [(qa1467 p1)] zyd
 refine za (c_ref1_tens _ _ _ c4) (zv [2] 1 [2] [] [(2, vq 0)] [.box [cb r2.below, cl eI r2.d]] (zd (m2 _ _ (ze ?_))))
 obtain rfl := zj h
 exact zf [.ag [cb r2.below, cl eI r2.d]] (.ag (.cons (.rfl _ rfl) (.cons (.rfl _ rfl) .nil)))
def ref1_most_j1 : Option Int := some (0 : Int)
def ref1_most_l1 (p1 : (List Int)) (p2 : (List Int)) : Nat → Int → Option Int
 | 0, _ => none
 | k1 + 1, x1 => ift (decide ((0 : Int) ≤ x1)) (bnd (at? p1 x1) fun e1 => bnd (at? p2 x1) fun e2 => ift (e1 != e2) (some (i64.wrap (e1 - e2))) ((ref1_most_l1 p1 p2 k1) (i64.wrap (x1 - (1 : Int))))) (ref1_most_j1)
def ref1_most (p1 : (List Int)) (p2 : (List Int)) : Option Int := ift ((p1.length : Int) != (p2.length : Int)) (some (i64.wrap ((p1.length : Int) - (p2.length : Int)))) (ref1_most_l1 p1 p2 BIG (i64.wrap ((p1.length : Int) - (1 : Int))))
abbrev qa2440 (p1 : (List Int)) (p2 : (List Int)) (x1 : Int) (e1 : Int) (e2 : Int) : Fr := [(39, vi e2), (38, .one (.pv (.rp (eI.els p2) x1.toNat 0))), (37, vi x1), (36, vl eI p2), (35, vi e1), (34, .one (.pv (.rp (eI.els p1) x1.toNat 0))), (33, vi x1), (32, vl eI p1), (0, vl eI p1), (1, vl eI p2), (5, vi x1), (31, vb (e1 != e2))]
theorem c_ref1_most (p1 : (List Int)) (p2 : (List Int)) (r : Int) (h : ref1_most p1 p2 = some r) : PC Tryd.prog 93 [vl eI p1, vl eI p2] (vi r) := by
 unfold ref1_most at h
 refine zF 41 Tryd.f93 (zq fun K1 m1 => zr (zg [] 1 [0,1] (zd (m1 _ _ (zq fun K2 m2 => zq fun K3 m3 => ?_)))))
 refine zr (zv [] 2 [0,1,7] [] [(0, vl eI p1), (1, vl eI p2), (7, vi ((eI.els p1).length : Int))] [] ?_)
 rw [eI.len p1]
 refine zv [] 2 [0,1,7,9] [] [(0, vl eI p1), (1, vl eI p2), (7, vi (p1.length : Int)), (9, vi ((eI.els p2).length : Int))] [] ?_
 rw [eI.len p2]
 refine zg [] 1 [0,1,10] (zd (m3 _ _ (zC h (fun b4 h => ?_) (fun b4 h => ?_))))
 ·refine zq fun K5 m5 => zr (zv [] 2 [1,12] [] [(1, vl eI p2), (12, vi ((eI.els p1).length : Int))] [] ?_)
  rw [eI.len p1]
  refine zv [] 2 [12,14] [] [(12, vi (p1.length : Int)), (14, vi ((eI.els p2).length : Int))] [] ?_
  rw [eI.len p2]
  refine zg [] 2 [4] (zd (m5 _ _ (ze ?_)))
  obtain rfl := zj h
  exact zf [vi (i64.wrap ((p1.length : Int) - (p2.length : Int)))] (.one (.rfl _ rfl))
 ·refine zs (m2 _ _ (zq fun K6 m6 => ?_))
  have j1 : ∀ (_ : Unit), ref1_most_j1 = some r → ∀ w0 w1, Sub 41 0 [] w0 w1 [] [] → K6 w0 w1 := by
   intro _ h w0 w1 hS
   unfold ref1_most_j1 at h
   refine m6 _ _ (XW.sub hS ?_)
   refine zq fun K17 m17 => zr (zg [] 1 [4] (zd (m17 _ _ (ze ?_))))
   obtain rfl := zj h
   exact zf [vi 0] (.one (.rfl _ rfl))
  refine zq fun K7 m7 => zr (zv [] 2 [0,1,17] [] [(0, vl eI p1), (1, vl eI p2), (17, vi ((eI.els p1).length : Int))] [] ?_)
  rw [eI.len p1]
  refine zg [] 2 [0,1,5] (zd (m7 _ _ (zb 0 (XW.rounds' BIG (x := cd Tryd.f93 [1,1,0,1,0,0]) (by kernel_rfl) fun Q1 hQ1 => ?_))))
  have hL1 : ∀ (k1 : Nat) (x1 : Int), ref1_most_l1 p1 p2 k1 x1 = some r → XR Tryd.prog 41 0 [] (cd Tryd.f93 [1,1,0,1,0,0]) Q1 k1 [(0, vl eI p1), (1, vl eI p2), (5, vi x1)] [] := by
   intro k1
   induction k1 with
   | zero => intro x1 h; rw [ref1_most_l1.eq_1] at h; cases h
   | succ k1 ih1 =>
    intro x1 h
    rw [ref1_most_l1.eq_2] at h
    refine zq fun K8 m8 => zq fun K9 m9 => zr (zg [] 2 [0,1,5,20] (zd (m9 _ _ (zC h (fun b10 h => ?_) (fun b10 h => ?_)))))
    ·refine zs (m8 _ _ (zq fun K11 m11 => zb 1 (zq fun K12 m12 => ?_)))
     obtain ⟨e1, a13, h⟩ := zB h
     obtain ⟨e2, a14, h⟩ := zB h
     refine zw 8 [(30, vi e2), (29, .one (.pv (.rp (eI.els p2) x1.toNat 0))), (28, vi x1), (27, vl eI p2), (26, vi e1), (25, .one (.pv (.rp (eI.els p1) x1.toNat 0))), (24, vi x1), (23, vl eI p1), (0, vl eI p1), (1, vl eI p2), (5, vi x1), (20, vb (decide ((0 : Int) ≤ x1)))] ?_ ?_
     ·exact zyo 8 [[pi e1], [pi e2]] [0 ≤ x1 ∧ x1 < ((eI.els p1).length : Int) ∧ elemsOk 1 (eI.els p1), (eI.els p1)[x1.toNat]? = some [pi e1], 0 ≤ x1 ∧ x1 < ((eI.els p2).length : Int) ∧ elemsOk 1 (eI.els p2), (eI.els p2)[x1.toNat]? = some [pi e2]] (⟨eI.inb a13, (eI.get a13), eI.inb a14, (eI.get a14), trivial⟩) zyd
     refine zg [] 1 [0,1,5,31] (zd (m12 _ _ (zC h (fun b15 h => ?_) (fun b15 h => ?_))))
     ·refine zq fun K16 m16 => zw 8 (qa2440 p1 p2 x1 e1 e2) ?_ ?_
      ·exact zyp 8 [[pi e1], [pi e2]] (qa2440 p1 p2 x1 e1 e2) [0 ≤ x1 ∧ x1 < ((eI.els p1).length : Int) ∧ elemsOk 1 (eI.els p1), (eI.els p1)[x1.toNat]? = some [pi e1], 0 ≤ x1 ∧ x1 < ((eI.els p2).length : Int) ∧ elemsOk 1 (eI.els p2), (eI.els p2)[x1.toNat]? = some [pi e2]] (⟨eI.inb a13, (eI.get a13), eI.inb a14, (eI.get a14), trivial⟩) zyd
      refine zv [] 2 [4] [] [(4, vi (i64.wrap (e1 - e2)))] [] (zd (m16 _ _ (ze (hQ1 _ _ _ ?_))))
      obtain rfl := zj h
      exact zf [vi (i64.wrap (e1 - e2))] (.one (.rfl _ rfl))
     ·exact zs (m11 _ _ (zr (zg [] 3 [0,1,5] (zd (XR.sub (zk [0,1,5]) (ih1 (i64.wrap (x1 - (1 : Int))) h))))))
    ·exact zx 0 (hQ1 _ _ _ (j1 () h _ _ (zk [])))
  exact XR.sub (zk [0,1,5]) (hL1 BIG (i64.wrap ((p1.length : Int) - (1 : Int))) h)
def ref1_compareWide_j1 (x1 : Int) : Option Int := ift (decide (x1 < (0 : Int))) (some (-1 : Int)) (ift (decide ((0 : Int) < x1)) (some (1 : Int)) (some (0 : Int)))
def ref1_compareWide (p1 : RWide) (p2 : RWide) : Option Int := ift (!(p1.below == p2.below)) (ift p1.below (some (-1 : Int)) (some (1 : Int))) (bnd (ref1_most p1.d p2.d) fun r1 => ift p1.below (ref1_compareWide_j1 (i64.wrap (0 - r1))) (ref1_compareWide_j1 r1))
theorem c_ref1_compareWide (p1 : RWide) (p2 : RWide) (r : Int) (h : ref1_compareWide p1 p2 = some r) : PC Tryd.prog 69 [.ag [cb p1.below, cl eI p1.d], .ag [cb p2.below, cl eI p2.d]] (vi r) := by
 unfold ref1_compareWide at h
 refine zF 26 Tryd.f69 (zq fun K1 m1 => zr (zg [] 3 [2,3] (zd (m1 _ _ (zq fun K2 m2 => zq fun K3 m3 => ?_)))))
 refine zr (zu [] 5 [2,3,10] [(qa2418 p1), [.s (.bool p2.below), .ro (eI.els p2.d)]] (zd (m3 _ _ (zC h (fun b4 h => ?_) (fun b4 h => ?_)))))
 ·refine zq fun K5 m5 => zq fun K6 m6 => zr (zv [] 2 [12] [(qa2418 p1)] [(12, vb p1.below)] [] (zd (m6 _ _ (zC h (fun b7 h => ?_) (fun b7 h => ?_)))))
  ·refine zq fun K8 m8 => zr (zg [] 1 [4] (zd (m8 _ _ (ze ?_))))
   obtain rfl := zj h
   exact zf [vi (-1)] (.one (.rfl _ rfl))
  ·refine zs (m5 _ _ (zq fun K9 m9 => zr (zg [] 1 [4] (zd (m9 _ _ (ze ?_))))))
   obtain rfl := zj h
   exact zf [vi 1] (.one (.rfl _ rfl))
 ·refine zs (m2 _ _ (zq fun K10 m10 => ?_))
  obtain ⟨r1, c11, h⟩ := zB h
  refine zr (zu [] 4 [2,14,16] [(qa2418 p1), [.s (.bool p2.below), .ro (eI.els p2.d)]] (za (c_ref1_most _ _ _ c11) (zv [] 1 [2,5] [] [(2, vR (qa2418 p1)), (5, vi r1)] [] (zd (m10 _ _ (zq fun K12 m12 => ?_))))))
  have j1 : ∀ (x1 : Int), ref1_compareWide_j1 x1 = some r → ∀ w0 w1, Sub 26 0 [] w0 w1 [(5, vi x1)] [] → K12 w0 w1 := by
   intro x1 h w0 w1 hS
   unfold ref1_compareWide_j1 at h
   refine m12 _ _ (XW.sub hS ?_)
   refine zq fun K15 m15 => zq fun K16 m16 => zr (zg [] 2 [5,23] (zd (m16 _ _ (zC h (fun b17 h => ?_) (fun b17 h => ?_)))))
   ·refine zq fun K18 m18 => zr (zg [] 1 [4] (zd (m18 _ _ (ze ?_))))
    obtain rfl := zj h
    exact zf [vi (-1)] (.one (.rfl _ rfl))
   ·refine zs (m15 _ _ (zq fun K19 m19 => zq fun K20 m20 => zr (zv [] 2 [25] [] [(25, vb (decide ((0 : Int) < x1)))] [] (zd (m20 _ _ ?_)))))
    refine zC h (fun b21 h => ?_) (fun b21 h => ?_)
    ·refine zq fun K22 m22 => zr (zg [] 1 [4] (zd (m22 _ _ (ze ?_))))
     obtain rfl := zj h
     exact zf [vi 1] (.one (.rfl _ rfl))
    ·refine zs (m19 _ _ (zq fun K23 m23 => zr (zg [] 1 [4] (zd (m23 _ _ (ze ?_))))))
     obtain rfl := zj h
     exact zf [vi 0] (.one (.rfl _ rfl))
  refine zq fun K13 m13 => zr (zu [] 2 [5,19] [(qa2418 p1)] (zd (m13 _ _ (zC h (fun b14 h => ?_) (fun b14 h => ?_)))))
  ·exact zr (zg [] 3 [5] (zd (j1 (i64.wrap (0 - r1)) h _ _ (zk [5]))))
  ·exact zs (j1 r1 h _ _ (zk [5]))
def ref1_decimals (p1 : GValue) (p2 : GValue) : Option Int := bnd (ref1_within p1.scale (0 : Int) (12 : Int)) fun r1 => bnd (ref1_within p2.scale (0 : Int) (12 : Int)) fun r2 => ift (!(r1 == r2)) (ift r1 (some (-1 : Int)) (some (1 : Int))) (ift r1 (bnd (ref1_twelve p1) fun r3 => bnd (ref1_twelve p2) fun r4 => bnd (ref1_compareWide r3 r4) fun r5 => ift (r5 != (0 : Int)) (some r5) (bnd (ref1_order p1.scale p2.scale) fun r6 => some r6)) (ift (p1.n != p2.n) (bnd (ref1_order p1.n p2.n) fun r7 => some r7) (bnd (ref1_order p1.scale p2.scale) fun r8 => some r8)))
abbrev qa2463 (p1 : GValue) (p2 : GValue) (r1 : Bool) (r3 : RWide) : Fr := [(21, .ag (qa1518 p2)), (20, .ag [cb r3.below, cl eI r3.d]), (19, .ag (qa1518 p1)), (2, vR (qa1467 p1)), (3, vR (qa1467 p2)), (18, vb r1)]
theorem c_ref1_decimals (p1 : GValue) (p2 : GValue) (r : Int) (h : ref1_decimals p1 p2 = some r) : PC Tryd.prog 43 [.ag (qa1518 p1), .ag (qa1518 p2)] (vi r) := by
 unfold ref1_decimals at h
 refine zF 47 Tryd.f43 (zq fun K1 m1 => zr (zg [] 3 [2,3] (zd (m1 _ _ (zq fun K2 m2 => ?_)))))
 obtain ⟨r1, c3, h⟩ := zB h
 obtain ⟨r2, c4, h⟩ := zB h
 refine zw 5 [(12, vi p2.scale), (11, .one (.pv (.rp [(qa1467 p2)] 0 2))), (10, vb r1), (9, vi p1.scale), (8, .one (.pv (.rp [(qa1467 p1)] 0 2))), (2, vR (qa1467 p1)), (3, vR (qa1467 p2))] ?_ ?_
 ·refine zyu 2 [(qa1467 p1)] (DX.cal 68 [vi p1.scale, vi 0, vi 12] (vb r1) [(10, vb r1), (9, vi p1.scale), (8, .one (.pv (.rp [(qa1467 p1)] 0 2))), (2, vR (qa1467 p1)), (3, vR (qa1467 p2))] (by kernel_rfl) (c_ref1_within _ _ _ _ c3) rfl rfl (by kernel_rfl) ?_)
  exact zyu 2 [(qa1467 p2)] zyd
 refine za (c_ref1_within _ _ _ _ c4) (zv [] 2 [2,3,5,6] [] [(2, vR (qa1467 p1)), (3, vR (qa1467 p2)), (5, vb r1), (6, vb r2)] [] (zd (m2 _ _ (zq fun K5 m5 => zq fun K6 m6 => zr (zg [] 3 [2,3,5,16] ?_)))))
 refine zd (m6 _ _ (zC h (fun b7 h => ?_) (fun b7 h => ?_)))
 ·refine zq fun K8 m8 => zq fun K9 m9 => zr (zg [] 1 [17] (zd (m9 _ _ (zC h (fun b10 h => ?_) (fun b10 h => ?_)))))
  ·refine zq fun K11 m11 => zr (zv [] 1 [4] [] [(4, vi (-1))] [] (zd (m11 _ _ (ze ?_))))
   obtain rfl := zj h
   exact zf [vi (-1)] (.one (.rfl _ rfl))
  ·refine zs (m8 _ _ (zq fun K12 m12 => zr (zg [] 1 [4] (zd (m12 _ _ (ze ?_))))))
   obtain rfl := zj h
   exact zf [vi 1] (.one (.rfl _ rfl))
 ·refine zs (m5 _ _ (zq fun K13 m13 => zq fun K14 m14 => zr (zv [] 1 [2,3,18] [] [(2, vR (qa1467 p1)), (3, vR (qa1467 p2)), (18, vb r1)] [] (zd (m14 _ _ ?_)))))
  refine zC h (fun b15 h => ?_) (fun b15 h => ?_)
  ·refine zq fun K16 m16 => zq fun K17 m17 => ?_
   obtain ⟨r3, c18, h⟩ := zB h
   obtain ⟨r4, c19, h⟩ := zB h
   obtain ⟨r5, c20, h⟩ := zB h
   refine zw 3 (qa2463 p1 p2 r1 r3) ?_ ?_
   ·refine zyu 1 [(qa1467 p1)] (zya (c_ref1_twelve _ _ c18) ?_)
    exact zyv 1 [(qa1467 p2)] (qa2463 p1 p2 r1 r3) zyd
   refine za (c_ref1_twelve _ _ c19) (za (c_ref1_compareWide _ _ _ c20) (zv [] 1 [2,3,7] [] [(2, vR (qa1467 p1)), (3, vR (qa1467 p2)), (7, vi r5)] [] (zd (m17 _ _ (zq fun K21 m21 => zr (zg [] 2 [2,3,7,25] ?_))))))
   refine zd (m21 _ _ (zC h (fun b22 h => ?_) (fun b22 h => ?_)))
   ·refine zq fun K23 m23 => zr (zg [] 2 [4] (zd (m23 _ _ (ze ?_))))
    obtain rfl := zj h
    exact zf [vi r5] (.one (.rfl _ rfl))
   ·refine zs (m16 _ _ (zq fun K24 m24 => ?_))
    obtain ⟨r6, c25, h⟩ := zB h
    refine zr (zv [] 4 [28,30] [(qa1467 p1), (qa1467 p2)] [(28, vi p1.scale), (30, vi p2.scale)] [] (za (c_ref1_order _ _ _ c25) (zg [] 1 [4] (zd (m24 _ _ (ze ?_))))))
    obtain rfl := zj h
    exact zf [vi r6] (.one (.rfl _ rfl))
  ·refine zs (m13 _ _ (zq fun K26 m26 => zq fun K27 m27 => zr (zu [] 5 [2,3,36] [(qa1467 p1), (qa1467 p2)] (zd (m27 _ _ ?_)))))
   refine zC h (fun b28 h => ?_) (fun b28 h => ?_)
   ·refine zq fun K29 m29 => ?_
    obtain ⟨r7, c30, h⟩ := zB h
    refine zr (zv [] 4 [38,40] [(qa1467 p1), (qa1467 p2)] [(38, vi p1.n), (40, vi p2.n)] [] (za (c_ref1_order _ _ _ c30) (zg [] 1 [4] (zd (m29 _ _ (ze ?_))))))
    obtain rfl := zj h
    exact zf [vi r7] (.one (.rfl _ rfl))
   ·refine zs (m26 _ _ (zq fun K31 m31 => ?_))
    obtain ⟨r8, c32, h⟩ := zB h
    refine zr (zv [] 4 [43,45] [(qa1467 p1), (qa1467 p2)] [(43, vi p1.scale), (45, vi p2.scale)] [] (za (c_ref1_order _ _ _ c32) (zg [] 1 [4] (zd (m31 _ _ (ze ?_))))))
    obtain rfl := zj h
    exact zf [vi r8] (.one (.rfl _ rfl))
def ref1_texts_j2 (p1 : ByteArray) (p2 : ByteArray) : Option Int := bnd (ref1_order (p1.size : Int) (p2.size : Int)) fun r2 => some r2
def ref1_texts_j1 (rec1 : Int → Option Int) (p1 : ByteArray) (p2 : ByteArray) (x1 : Int) (x2 : Bool) : Option Int := ift x2 (grd (0 ≤ x1 ∧ x1 < (p1.size : Int)) <| grd (0 ≤ x1 ∧ x1 < (p2.size : Int)) <| bnd (some (((p1.data.toList.getD x1.toNat 0).toNat : Int) != ((p2.data.toList.getD x1.toNat 0).toNat : Int))) fun y1 => ift y1 (grd (0 ≤ x1 ∧ x1 < (p1.size : Int)) <| grd (0 ≤ x1 ∧ x1 < (p2.size : Int)) <| bnd (ref1_order (i64.wrap ((p1.data.toList.getD x1.toNat 0).toNat : Int)) (i64.wrap ((p2.data.toList.getD x1.toNat 0).toNat : Int))) fun r1 => some r1) (rec1 (i64.wrap (x1 + (1 : Int))))) (ref1_texts_j2 p1 p2)
def ref1_texts_l1 (p1 : ByteArray) (p2 : ByteArray) : Nat → Int → Option Int
 | 0, _ => none
 | k1 + 1, x1 => ift (decide (x1 < (p1.size : Int))) (ref1_texts_j1 (ref1_texts_l1 p1 p2 k1) p1 p2 x1 (decide (x1 < (p2.size : Int)))) (ref1_texts_j1 (ref1_texts_l1 p1 p2 k1) p1 p2 x1 false)
def ref1_texts (p1 : ByteArray) (p2 : ByteArray) : Option Int := ref1_texts_l1 p1 p2 BIG (0 : Int)
theorem c_ref1_texts (p1 : ByteArray) (p2 : ByteArray) (r : Int) (h : ref1_texts p1 p2 = some r) : PC Tryd.prog 44 [vs p1, vs p2] (vi r) := by
 unfold ref1_texts at h
 refine zF 39 Tryd.f44 (zq fun K1 m1 => zr (zg [] 1 [0,1] (zd (m1 _ _ (zq fun K2 m2 => ?_)))))
 have j2 : ∀ (_ : Unit), ref1_texts_j2 p1 p2 = some r → ∀ w0 w1, Sub 39 0 [] w0 w1 [(0, vs p1), (1, vs p2)] [] → K2 w0 w1 := by
  intro _ h w0 w1 hS
  unfold ref1_texts_j2 at h
  refine m2 _ _ (XW.sub hS ?_)
  refine zq fun K18 m18 => ?_
  obtain ⟨r2, c19, h⟩ := zB h
  refine zr (zg [] 4 [35,37] (za (c_ref1_order _ _ _ c19) (zv [] 1 [4] [] [(4, vi r2)] [] (zd (m18 _ _ (ze ?_))))))
  obtain rfl := zj h
  exact zf [vi r2] (.one (.rfl _ rfl))
 refine zq fun K3 m3 => zr (zg [] 1 [0,1,5] (zd (m3 _ _ (zb 0 (XW.rounds' BIG (x := cd Tryd.f44 [1,0,1,0,0]) (by kernel_rfl) fun Q1 hQ1 => ?_)))))
 have hL1 : ∀ (k1 : Nat) (x1 : Int), ref1_texts_l1 p1 p2 k1 x1 = some r → XR Tryd.prog 39 0 [] (cd Tryd.f44 [1,0,1,0,0]) Q1 k1 [(0, vs p1), (1, vs p2), (5, vi x1)] [] := by
  intro k1
  induction k1 with
  | zero => intro x1 h; rw [ref1_texts_l1.eq_1] at h; cases h
  | succ k1 ih1 =>
   intro x1 h
   rw [ref1_texts_l1.eq_2] at h
   refine zq fun K4 m4 => zq fun K5 m5 => ?_
   have j1 : ∀ (x2 : Bool), ref1_texts_j1 (ref1_texts_l1 p1 p2 k1) p1 p2 x1 x2 = some r → ∀ w0 w1, Sub 39 0 [] w0 w1 [(0, vs p1), (1, vs p2), (5, vi x1), (15, vb x2)] [] → K5 w0 w1 := by
    intro x2 h w0 w1 hS
    unfold ref1_texts_j1 at h
    refine m5 _ _ (XW.sub hS ?_)
    refine zC h (fun b7 h => ?_) (fun b7 h => ?_)
    ·refine zs (m4 _ _ (zq fun K8 m8 => zb 1 (zq fun K9 m9 => ?_)))
     obtain ⟨g10, h⟩ := zG h
     obtain ⟨g11, h⟩ := zG h
     obtain ⟨y1, hy12, h⟩ := zB h
     refine zw 6 [(23, vk .u8 ((p2.data.toList.getD x1.toNat 0).toNat : Int)), (22, vi x1), (21, vs p2), (20, vk .u8 ((p1.data.toList.getD x1.toNat 0).toNat : Int)), (19, vi x1), (18, vs p1), (0, vs p1), (1, vs p2), (5, vi x1), (15, vb x2)] ?_ ?_
     ·exact zyo 6 [] [0 ≤ x1 ∧ x1 < (p1.size : Int), 0 ≤ x1 ∧ x1 < (p2.size : Int)] (⟨g10, g11, trivial⟩) zyd
     refine zv [] 1 [0,1,5,24] [] [(0, vs p1), (1, vs p2), (5, vi x1), (24, vb (((p1.data.toList.getD x1.toNat 0).toNat : Int) != ((p2.data.toList.getD x1.toNat 0).toNat : Int)))] [] ?_
     rw [show (((p1.data.toList.getD x1.toNat 0).toNat : Int) != ((p2.data.toList.getD x1.toNat 0).toNat : Int)) = y1 from zj hy12]
     refine zd (m9 _ _ (zC h (fun b13 h => ?_) (fun b13 h => ?_)))
     ·refine zq fun K14 m14 => ?_
      obtain ⟨g15, h⟩ := zG h
      obtain ⟨g16, h⟩ := zG h
      obtain ⟨r1, c17, h⟩ := zB h
      refine zw 8 [(32, vi (i64.wrap ((p2.data.toList.getD x1.toNat 0).toNat : Int))), (31, vk .u8 ((p2.data.toList.getD x1.toNat 0).toNat : Int)), (30, vi x1), (29, vs p2), (28, vi (i64.wrap ((p1.data.toList.getD x1.toNat 0).toNat : Int))), (27, vk .u8 ((p1.data.toList.getD x1.toNat 0).toNat : Int)), (26, vi x1), (25, vs p1), (0, vs p1), (1, vs p2), (5, vi x1), (24, vb y1)] ?_ ?_
      ·exact zyo 8 [] [0 ≤ x1 ∧ x1 < (p1.size : Int), 0 ≤ x1 ∧ x1 < (p2.size : Int)] (⟨g15, g16, trivial⟩) zyd
      refine za (c_ref1_order _ _ _ c17) (zg [] 1 [4] (zd (m14 _ _ (ze (hQ1 _ _ _ ?_)))))
      obtain rfl := zj h
      exact zf [vi r1] (.one (.rfl _ rfl))
     ·exact zs (m8 _ _ (zr (zv [] 3 [0,1,5] [] [(0, vs p1), (1, vs p2), (5, vi (i64.wrap (x1 + (1 : Int))))] [] (zd (XR.sub (zk [0,1,5]) (ih1 (i64.wrap (x1 + (1 : Int))) h))))))
    ·exact zx 0 (hQ1 _ _ _ (j2 () h _ _ (zk [0,1])))
   rcases zW h with ⟨b6, h⟩ | ⟨b6, h⟩
   ·exact zr (zg [] 5 [0,1,5,10] (zt 10 b6 (zg [] 5 [0,1,5,15] (zd (j1 (decide (x1 < (p2.size : Int))) h _ _ (zk [0,1,5,15]))))))
   ·exact zr (zv [] 5 [0,1,5,10] [] [(0, vs p1), (1, vs p2), (5, vi x1), (10, vb (decide (x1 < (p1.size : Int))))] [] (zt 10 b6 (zg [] 5 [0,1,5,15] (zd (j1 false h _ _ (zk [0,1,5,15]))))))
 exact XR.sub (zk [0,1,5]) (hL1 BIG (0 : Int) h)
def ref1_Compare_j4 (p1 : GValue) (p2 : GValue) : Option Int := bnd (ref1_order (p1.items.length : Int) (p2.items.length : Int)) fun r7 => some r7
def ref1_Compare_j3 (rec1 : Int → Option Int) (q_ref1_Compare : GValue → GValue → Option Int) (p1 : GValue) (p2 : GValue) (x2 : Int) (x3 : Bool) : Option Int := ift x3 (bnd (at? p1.items x2) fun e1 => bnd (at? p2.items x2) fun e2 => bnd (q_ref1_Compare e1 e2) fun r6 => ift (r6 != (0 : Int)) (some r6) (rec1 (i64.wrap (x2 + (1 : Int))))) (ref1_Compare_j4 p1 p2)
def ref1_Compare_l1 (q_ref1_Compare : GValue → GValue → Option Int) (p1 : GValue) (p2 : GValue) : Nat → Int → Option Int
 | 0, _ => none
 | k1 + 1, x2 => ift (decide (x2 < (p1.items.length : Int))) (ref1_Compare_j3 (ref1_Compare_l1 q_ref1_Compare p1 p2 k1) q_ref1_Compare p1 p2 x2 (decide (x2 < (p2.items.length : Int)))) (ref1_Compare_j3 (ref1_Compare_l1 q_ref1_Compare p1 p2 k1) q_ref1_Compare p1 p2 x2 false)
def ref1_Compare_j2 (q_ref1_Compare : GValue → GValue → Option Int) (p1 : GValue) (p2 : GValue) (x1 : Bool) : Option Int := ift x1 (bnd (ref1_order p1.n p2.n) fun r3 => some r3) (ift (p1.scale != p2.scale) (bnd (ref1_order p1.scale p2.scale) fun r4 => some r4) (bnd (ref1_texts p1.s p2.s) fun r5 => ift (r5 != (0 : Int)) (some r5) (ref1_Compare_l1 q_ref1_Compare p1 p2 BIG (0 : Int))))
def ref1_Compare_j1 (q_ref1_Compare : GValue → GValue → Option Int) (p1 : GValue) (p2 : GValue) : Option Int := ift (p1.n != p2.n) (ref1_Compare_j2 q_ref1_Compare p1 p2 (p1.kind != (3 : Int))) (ref1_Compare_j2 q_ref1_Compare p1 p2 false)
def ref1_Compare : Nat → GValue → GValue → Option Int
 | 0, _, _ => none
 | k0 + 1, p1, p2 => ift (!((p1.kind == (0 : Int)) == (p2.kind == (0 : Int)))) (ift (p1.kind == (0 : Int)) (some (1 : Int)) (some (-1 : Int))) (ift (p1.kind == (0 : Int)) (some (0 : Int)) (ift (p1.kind != p2.kind) (bnd (ref1_order p1.kind p2.kind) fun r1 => some r1) (ift (p1.kind == (3 : Int)) (bnd (ref1_decimals p1 p2) fun r2 => ift (r2 != (0 : Int)) (some r2) (ref1_Compare_j1 (ref1_Compare k0) p1 p2)) (ref1_Compare_j1 (ref1_Compare k0) p1 p2))))
theorem c_ref1_Compare : ∀ (k0 : Nat) (p1 : GValue) (p2 : GValue) (r : Int), ref1_Compare k0 p1 p2 = some r → PC Tryd.prog 17 [.ag (qa1518 p1), .ag (qa1518 p2)] (vi r)
 | 0, _, _, r, h => by rw [ref1_Compare.eq_1] at h; cases h
 | k0 + 1, p1, p2, r, h => by
  rw [ref1_Compare.eq_2] at h
  refine zF 109 Tryd.f17 (zq fun K1 m1 => zr (zg [] 3 [2,3] (zd (m1 _ _ (zq fun K2 m2 => zq fun K3 m3 => ?_)))))
  refine zr (zu [] 7 [2,3,15] [(qa1467 p1), (qa1467 p2)] (zd (m3 _ _ (zC h (fun b4 h => ?_) (fun b4 h => ?_)))))
  ·refine zq fun K5 m5 => zq fun K6 m6 => zr (zv [] 3 [18] [(qa1467 p1)] [(18, vb (p1.kind == (0 : Int)))] [] (zd (m6 _ _ (zC h (fun b7 h => ?_) (fun b7 h => ?_)))))
   ·refine zq fun K8 m8 => zr (zg [] 1 [4] (zd (m8 _ _ (ze ?_))))
    obtain rfl := zj h
    exact zf [vi 1] (.one (.rfl _ rfl))
   ·refine zs (m5 _ _ (zq fun K9 m9 => zr (zg [] 1 [4] (zd (m9 _ _ (ze ?_))))))
    obtain rfl := zj h
    exact zf [vi (-1)] (.one (.rfl _ rfl))
  ·refine zs (m2 _ _ (zq fun K10 m10 => zq fun K11 m11 => zr (zu [] 3 [2,3,21] [(qa1467 p1)] (zd (m11 _ _ ?_)))))
   refine zC h (fun b12 h => ?_) (fun b12 h => ?_)
   ·refine zq fun K13 m13 => zr (zg [] 1 [4] (zd (m13 _ _ (ze ?_))))
    obtain rfl := zj h
    exact zf [vi 0] (.one (.rfl _ rfl))
   ·refine zs (m10 _ _ (zq fun K14 m14 => zq fun K15 m15 => zr (zv [] 5 [2,3,26] [(qa1467 p1), (qa1467 p2)] [(2, vR (qa1467 p1)), (3, vR (qa1467 p2)), (26, vb (p1.kind != p2.kind))] [] (zd (m15 _ _ ?_)))))
    refine zC h (fun b16 h => ?_) (fun b16 h => ?_)
    ·refine zq fun K17 m17 => ?_
     obtain ⟨r1, c18, h⟩ := zB h
     refine zr (zu [] 4 [28,30] [(qa1467 p1), (qa1467 p2)] (za (c_ref1_order _ _ _ c18) (zv [] 1 [4] [] [(4, vi r1)] [] (zd (m17 _ _ (ze ?_))))))
     obtain rfl := zj h
     exact zf [vi r1] (.one (.rfl _ rfl))
    ·refine zs (m14 _ _ (zq fun K19 m19 => ?_))
     have j1 : ∀ (_ : Unit), ref1_Compare_j1 (ref1_Compare k0) p1 p2 = some r → ∀ w0 w1, Sub 109 0 [] w0 w1 [(2, vR (qa1467 p1)), (3, vR (qa1467 p2))] [] → K19 w0 w1 := by
      intro _ h w0 w1 hS
      unfold ref1_Compare_j1 at h
      refine m19 _ _ (XW.sub hS ?_)
      refine zq fun K27 m27 => zq fun K28 m28 => ?_
      have j2 : ∀ (x1 : Bool), ref1_Compare_j2 (ref1_Compare k0) p1 p2 x1 = some r → ∀ w0 w1, Sub 109 0 [] w0 w1 [(2, vR (qa1467 p1)), (3, vR (qa1467 p2)), (50, vb x1)] [] → K28 w0 w1 := by
       intro x1 h w0 w1 hS
       unfold ref1_Compare_j2 at h
       refine m28 _ _ (XW.sub hS ?_)
       refine zC h (fun b30 h => ?_) (fun b30 h => ?_)
       ·refine zq fun K31 m31 => ?_
        obtain ⟨r3, c32, h⟩ := zB h
        refine zr (zu [] 4 [52,54] [(qa1467 p1), (qa1467 p2)] (za (c_ref1_order _ _ _ c32) (zv [] 1 [4] [] [(4, vi r3)] [] (zd (m31 _ _ (ze ?_))))))
        obtain rfl := zj h
        exact zf [vi r3] (.one (.rfl _ rfl))
       ·refine zs (m27 _ _ (zq fun K33 m33 => zq fun K34 m34 => zr (zu [] 5 [2,3,60] [(qa1467 p1), (qa1467 p2)] (zd (m34 _ _ ?_)))))
        refine zC h (fun b35 h => ?_) (fun b35 h => ?_)
        ·refine zq fun K36 m36 => ?_
         obtain ⟨r4, c37, h⟩ := zB h
         refine zr (zu [] 4 [62,64] [(qa1467 p1), (qa1467 p2)] (zl 42 [vi p1.scale, vi p2.scale] (vi r4) [(65, vi r4), (62, vi p1.scale), (64, vi p2.scale)] (c_ref1_order _ _ _ c37) (zg [] 1 [4] (zd (m36 _ _ (ze ?_))))))
         obtain rfl := zj h
         exact zf [vi r4] (.one (.rfl _ rfl))
        ·refine zs (m33 _ _ (zq fun K38 m38 => zq fun K39 m39 => ?_))
         obtain ⟨r5, c40, h⟩ := zB h
         refine zr (zu [] 4 [2,3,67,69] [(qa1467 p1), (qa1467 p2)] (zl 44 [vs p1.s, vs p2.s] (vi r5) [(70, vi r5), (2, vR (qa1467 p1)), (3, vR (qa1467 p2)), (67, vs p1.s), (69, vs p2.s)] (c_ref1_texts _ _ _ c40) (zg [] 1 [2,3,6] (zd (m39 _ _ (zq fun K41 m41 => zr ?_))))))
         refine zg [] 2 [2,3,6,72] (zd (m41 _ _ (zC h (fun b42 h => ?_) (fun b42 h => ?_))))
         ·refine zq fun K43 m43 => zr (zv [] 2 [4] [] [(4, vi r5)] [] (zd (m43 _ _ (ze ?_))))
          obtain rfl := zj h
          exact zf [vi r5] (.one (.rfl _ rfl))
         ·refine zs (m38 _ _ (zq fun K44 m44 => ?_))
          have j4 : ∀ (_ : Unit), ref1_Compare_j4 p1 p2 = some r → ∀ w0 w1, Sub 109 0 [] w0 w1 [(2, vR (qa1467 p1)), (3, vR (qa1467 p2))] [] → K44 w0 w1 := by
           intro _ h w0 w1 hS
           unfold ref1_Compare_j4 at h
           refine m44 _ _ (XW.sub hS ?_)
           refine zq fun K58 m58 => ?_
           obtain ⟨r7, c59, h⟩ := zB h
           refine zr (zv [] 3 [3,104] [[pi p1.kind, pi p1.n, pi p1.scale, .s (.string p1.s), .ro (eValue.els p1.items)]] [(3, vR [pi p2.kind, pi p2.n, pi p2.scale, .s (.string p2.s), .ro (eValue.els p2.items)]), (104, vi ((eValue.els p1.items).length : Int))] [] ?_)
           rw [eValue.len p1.items]
           refine zv [] 3 [104,107] [[pi p2.kind, pi p2.n, pi p2.scale, .s (.string p2.s), .ro (eValue.els p2.items)]] [(104, vi (p1.items.length : Int)), (107, vi ((eValue.els p2.items).length : Int))] [] ?_
           rw [eValue.len p2.items]
           refine za (c_ref1_order _ _ _ c59) (zg [] 1 [4] (zd (m58 _ _ (ze ?_))))
           obtain rfl := zj h
           exact zf [vi r7] (.one (.rfl _ rfl))
          refine zq fun K45 m45 => zr (zg [] 1 [2,3,7] (zd (m45 _ _ (zb 0 (XW.rounds' BIG (x := cd Tryd.f17 [1,1,1,1,1,1,1,1,0,1,0,0]) (by kernel_rfl) fun Q1 hQ1 => ?_)))))
          have hL1 : ∀ (k1 : Nat) (x2 : Int), ref1_Compare_l1 (ref1_Compare k0) p1 p2 k1 x2 = some r → XR Tryd.prog 109 0 [] (cd Tryd.f17 [1,1,1,1,1,1,1,1,0,1,0,0]) Q1 k1 [(2, vR (qa1467 p1)), (3, vR (qa1467 p2)), (7, vi x2)] [] := by
           intro k1
           induction k1 with
           | zero => intro x2 h; rw [ref1_Compare_l1.eq_1] at h; cases h
           | succ k1 ih1 =>
            intro x2 h
            rw [ref1_Compare_l1.eq_2] at h
            refine zq fun K46 m46 => zq fun K47 m47 => ?_
            have j3 : ∀ (x3 : Bool), ref1_Compare_j3 (ref1_Compare_l1 (ref1_Compare k0) p1 p2 k1) (ref1_Compare k0) p1 p2 x2 x3 = some r → ∀ w0 w1, Sub 109 0 [] w0 w1 [(2, vR (qa1467 p1)), (3, vR (qa1467 p2)), (7, vi x2), (85, vb x3)] [] → K47 w0 w1 := by
             intro x3 h w0 w1 hS
             unfold ref1_Compare_j3 at h
             refine m47 _ _ (XW.sub hS ?_)
             refine zC h (fun b49 h => ?_) (fun b49 h => ?_)
             ·refine zs (m46 _ _ (zq fun K50 m50 => zb 1 (zq fun K51 m51 => ?_)))
              obtain ⟨e1, a52, h⟩ := zB h
              obtain ⟨e2, a53, h⟩ := zB h
              obtain ⟨r6, c54, h⟩ := zB h
              refine zw 10 [(97, .ag [ci e2.kind, ci e2.n, ci e2.scale, cst e2.s, cl eValue e2.items]), (96, .one (.pv (.rp (eValue.els p2.items) x2.toNat 0))), (95, vi x2), (94, vl eValue p2.items), (93, .one (.pv (.rp [(qa1467 p2)] 0 4))), (92, .ag [ci e1.kind, ci e1.n, ci e1.scale, cst e1.s, cl eValue e1.items]), (91, .one (.pv (.rp (eValue.els p1.items) x2.toNat 0))), (90, vi x2), (89, vl eValue p1.items), (88, .one (.pv (.rp [(qa1467 p1)] 0 4))), (2, vR (qa1467 p1)), (3, vR (qa1467 p2)), (7, vi x2), (85, vb x3)] ?_ ?_
              ·refine zyo 10 [(qa1467 p1), [pi e1.kind, pi e1.n, pi e1.scale, .s (.string e1.s), .ro (eValue.els e1.items)], (qa1467 p2), [pi e2.kind, pi e2.n, pi e2.scale, .s (.string e2.s), .ro (eValue.els e2.items)]] [([(qa1467 p1)] : List (List PV))[0]? = some (qa1467 p1), 0 ≤ x2 ∧ x2 < ((eValue.els p1.items).length : Int) ∧ elemsOk 5 (eValue.els p1.items), (eValue.els p1.items)[x2.toNat]? = some [pi e1.kind, pi e1.n, pi e1.scale, .s (.string e1.s), .ro (eValue.els e1.items)], ([(qa1467 p2)] : List (List PV))[0]? = some (qa1467 p2), 0 ≤ x2 ∧ x2 < ((eValue.els p2.items).length : Int) ∧ elemsOk 5 (eValue.els p2.items), (eValue.els p2.items)[x2.toNat]? = some [pi e2.kind, pi e2.n, pi e2.scale, .s (.string e2.s), .ro (eValue.els e2.items)]] (⟨rfl, eValue.inb a52, ((eValue.get a52).trans (by cases e1; rfl)), rfl, eValue.inb a53, ((eValue.get a53).trans (by cases e2; rfl)), trivial⟩) ?_
               exact zyd
              refine za (c_ref1_Compare k0 _ _ _ c54) (zg [] 1 [2,3,7,8] (zd (m51 _ _ (zq fun K55 m55 => zr (zv [] 2 [2,3,7,8,100] [] [(2, vR (qa1467 p1)), (3, vR (qa1467 p2)), (7, vi x2), (8, vi r6), (100, vb (r6 != (0 : Int)))] [] (zd ?_))))))
              refine m55 _ _ (zC h (fun b56 h => ?_) (fun b56 h => ?_))
              ·refine zq fun K57 m57 => zr (zg [] 2 [4] (zd (m57 _ _ (ze (hQ1 _ _ _ ?_)))))
               obtain rfl := zj h
               exact zf [vi r6] (.one (.rfl _ rfl))
              ·exact zs (m50 _ _ (zr (zg [] 3 [2,3,7] (zd (XR.sub (zk [2,3,7]) (ih1 (i64.wrap (x2 + (1 : Int))) h))))))
             ·exact zx 0 (hQ1 _ _ _ (j4 () h _ _ (zk [2,3])))
            rcases zW h with ⟨b48, h⟩ | ⟨b48, h⟩
            ·refine zr (zv [] 4 [2,3,7,74,77] [[pi p1.kind, pi p1.n, pi p1.scale, .s (.string p1.s), .ro (eValue.els p1.items)]] [(2, vR [pi p1.kind, pi p1.n, pi p1.scale, .s (.string p1.s), .ro (eValue.els p1.items)]), (3, vR [pi p2.kind, pi p2.n, pi p2.scale, .s (.string p2.s), .ro (eValue.els p2.items)]), (7, vi x2), (74, vi x2), (77, vi ((eValue.els p1.items).length : Int))] [] ?_)
             rw [eValue.len p1.items]
             refine zg [] 2 [2,3,7,79] (zt 79 b48 (zv [] 4 [2,3,7,79,80,83] [[pi p2.kind, pi p2.n, pi p2.scale, .s (.string p2.s), .ro (eValue.els p2.items)]] [(2, vR [pi p1.kind, pi p1.n, pi p1.scale, .s (.string p1.s), .ro (eValue.els p1.items)]), (3, vR [pi p2.kind, pi p2.n, pi p2.scale, .s (.string p2.s), .ro (eValue.els p2.items)]), (7, vi x2), (79, vb true), (80, vi x2), (83, vi ((eValue.els p2.items).length : Int))] [] ?_))
             rw [eValue.len p2.items]
             exact zg [] 2 [2,3,7,85] (zd (j3 (decide (x2 < (p2.items.length : Int))) h _ _ (zk [2,3,7,85])))
            ·refine zr (zv [] 4 [2,3,7,74,77] [[pi p1.kind, pi p1.n, pi p1.scale, .s (.string p1.s), .ro (eValue.els p1.items)]] [(2, vR [pi p1.kind, pi p1.n, pi p1.scale, .s (.string p1.s), .ro (eValue.els p1.items)]), (3, vR [pi p2.kind, pi p2.n, pi p2.scale, .s (.string p2.s), .ro (eValue.els p2.items)]), (7, vi x2), (74, vi x2), (77, vi ((eValue.els p1.items).length : Int))] [] ?_)
             rw [eValue.len p1.items]
             exact zg [] 2 [2,3,7,79] (zt 79 b48 (zg [] 6 [2,3,7,85] (zd (j3 false h _ _ (zk [2,3,7,85])))))
          exact XR.sub (zk [2,3,7]) (hL1 BIG (0 : Int) h)
      rcases zW h with ⟨b29, h⟩ | ⟨b29, h⟩
      ·exact zr (zu [] 6 [2,3,46] [(qa1467 p1), (qa1467 p2)] (zt 46 b29 (zu [] 4 [2,3,50] [(qa1467 p1)] (zd (j2 (p1.kind != (3 : Int)) h _ _ (zk [2,3,50]))))))
      ·exact zr (zv [] 6 [2,3,46] [(qa1467 p1), (qa1467 p2)] [(2, vR (qa1467 p1)), (3, vR (qa1467 p2)), (46, vb (p1.n != p2.n))] [] (zt 46 b29 (zg [] 4 [2,3,50] (zd (j2 false h _ _ (zk [2,3,50]))))))
     refine zq fun K20 m20 => zr (zu [] 3 [2,3,34] [(qa1467 p1)] (zd (m20 _ _ (zC h (fun b21 h => ?_) (fun b21 h => ?_)))))
     ·refine zq fun K22 m22 => ?_
      obtain ⟨r2, c23, h⟩ := zB h
      refine zr (zu [] 2 [2,3,35,36] [(qa1467 p1), (qa1467 p2)] ?_)
      refine zl 43 [.ag (qa1518 p1), .ag (qa1518 p2)] (vi r2) [(37, vi r2), (2, vR (qa1467 p1)), (3, vR (qa1467 p2)), (35, .ag (qa1518 p1)), (36, .ag (qa1518 p2))] (c_ref1_decimals _ _ _ c23) (zg [] 1 [2,3,5] ?_)
      refine zd (m22 _ _ (zq fun K24 m24 => zr (zg [] 2 [2,3,5,39] (zd (m24 _ _ (zC h (fun b25 h => ?_) (fun b25 h => ?_)))))))
      ·refine zq fun K26 m26 => zr (zv [] 2 [4] [] [(4, vi r2)] [] (zd (m26 _ _ (ze ?_))))
       obtain rfl := zj h
       exact zf [vi r2] (.one (.rfl _ rfl))
      ·exact zs (j1 () h _ _ (zk [2,3]))
     ·exact zs (j1 () h _ _ (zk [2,3]))
def ref1_CompareRows (p1 : (List GValue)) (p2 : (List GValue)) : Option Int := bnd (ref1_Compare BIG (GValue.mk (6 : Int) (0 : Int) (0 : Int) ByteArray.empty p1) (GValue.mk (6 : Int) (0 : Int) (0 : Int) ByteArray.empty p2)) fun r1 => some r1
theorem c_ref1_CompareRows (p1 : (List GValue)) (p2 : (List GValue)) (r : Int) (h : ref1_CompareRows p1 p2 = some r) : PC Tryd.prog 34 [vl eValue p1, vl eValue p2] (vi r) := by
 unfold ref1_CompareRows at h
 refine zF 10 Tryd.f34 (zq fun K1 m1 => zr (zg [] 1 [0,1] (zd (m1 _ _ (zq fun K2 m2 => ?_)))))
 obtain ⟨r1, c3, h⟩ := zB h
 refine zr (zg [] 4 [6,8] (zl 17 [.ag [ci 6, ci 0, ci 0, cst ByteArray.empty, cl eValue p1], .ag [ci 6, ci 0, ci 0, cst ByteArray.empty, cl eValue p2]] (vi r1) [(9, vi r1), (6, .ag [ci 6, ci 0, ci 0, cst ByteArray.empty, cl eValue p1]), (8, .ag [ci 6, ci 0, ci 0, cst ByteArray.empty, cl eValue p2])] (c_ref1_Compare BIG _ _ _ c3) (zg [] 1 [4] (zd (m2 _ _ (ze ?_))))))
 obtain rfl := zj h
 exact zf [vi r1] (.one (.rfl _ rfl))
def ref2_SameColumns_j1 (rec1 : Int → Option Bool) (x1 : Int) (x2 : Bool) : Option Bool := ift x2 (some false) (rec1 (i64.wrap (x1 + (1 : Int))))
def ref2_SameColumns_j2 : Option Bool := some true
def ref2_SameColumns_l1 (p1 : (List GColumn)) (p2 : (List GColumn)) : Nat → Int → Option Bool
 | 0, _ => none
 | k1 + 1, x1 => ift (decide (x1 < (p1.length : Int))) (bnd (at? p1 x1) fun e1 => bnd (at? p2 x1) fun e2 => bnd (ref2_sameInts e1.reps e2.reps) fun r1 => ift (!r1) (ref2_SameColumns_j1 (ref2_SameColumns_l1 p1 p2 k1) x1 true) (bnd (ref2_sameInts e1.defs e2.defs) fun r2 => ift (!r2) (ref2_SameColumns_j1 (ref2_SameColumns_l1 p1 p2 k1) x1 true) (ift ((e1.values.length : Int) != (e2.values.length : Int)) (ref2_SameColumns_j1 (ref2_SameColumns_l1 p1 p2 k1) x1 true) (bnd (ref1_CompareRows e1.values e2.values) fun r3 => ref2_SameColumns_j1 (ref2_SameColumns_l1 p1 p2 k1) x1 (r3 != (0 : Int)))))) (ref2_SameColumns_j2)
def ref2_SameColumns (p1 : (List GColumn)) (p2 : (List GColumn)) : Option Bool := ift ((p1.length : Int) != (p2.length : Int)) (some false) (ref2_SameColumns_l1 p1 p2 BIG (0 : Int))
abbrev qa2503 (e1 : GColumn) : List PV := [.ro (eI.els e1.reps), .ro (eI.els e1.defs), .ro (eValue.els e1.values)]
abbrev qa2505 (p1 : (List GColumn)) (p2 : (List GColumn)) (x1 : Int) (e1 : GColumn) (e2 : GColumn) : Fr := [(25, vl eI e2.reps), (24, .one (.pv (.rp (eColumn.els p2) x1.toNat 0))), (23, .one (.pv (.rp (eColumn.els p2) x1.toNat 0))), (22, vi x1), (21, vl eColumn p2), (20, vl eI e1.reps), (19, .one (.pv (.rp (eColumn.els p1) x1.toNat 0))), (18, .one (.pv (.rp (eColumn.els p1) x1.toNat 0))), (17, vi x1), (16, vl eColumn p1), (0, vl eColumn p1), (1, vl eColumn p2), (5, vi x1), (12, vi (p1.length : Int)), (13, vi x1)]
theorem c_ref2_SameColumns (p1 : (List GColumn)) (p2 : (List GColumn)) (r : Bool) (h : ref2_SameColumns p1 p2 = some r) : PC Tryd.prog 14 [vl eColumn p1, vl eColumn p2] (vb r) := by
 unfold ref2_SameColumns at h
 refine zF 72 Tryd.f14 (zq fun K1 m1 => zr (zg [] 1 [0,1] (zd (m1 _ _ (zq fun K2 m2 => zq fun K3 m3 => ?_)))))
 refine zr (zv [] 2 [0,1,7] [] [(0, vl eColumn p1), (1, vl eColumn p2), (7, vi ((eColumn.els p1).length : Int))] [] ?_)
 rw [eColumn.len p1]
 refine zv [] 2 [0,1,7,9] [] [(0, vl eColumn p1), (1, vl eColumn p2), (7, vi (p1.length : Int)), (9, vi ((eColumn.els p2).length : Int))] [] ?_
 rw [eColumn.len p2]
 refine zg [] 1 [0,1,10] (zd (m3 _ _ (zC h (fun b4 h => ?_) (fun b4 h => ?_))))
 ·refine zq fun K5 m5 => zr (zg [] 1 [4] (zd (m5 _ _ (ze ?_))))
  obtain rfl := zj h
  exact zf [vb false] (.one (.rfl _ rfl))
 ·refine zs (m2 _ _ (zq fun K6 m6 => ?_))
  have j2 : ∀ (_ : Unit), ref2_SameColumns_j2 = some r → ∀ w0 w1, Sub 72 0 [] w0 w1 [] [] → K6 w0 w1 := by
   intro _ h w0 w1 hS
   unfold ref2_SameColumns_j2 at h
   refine m6 _ _ (XW.sub hS ?_)
   refine zq fun K24 m24 => zr (zg [] 1 [4] (zd (m24 _ _ (ze ?_))))
   obtain rfl := zj h
   exact zf [vb true] (.one (.rfl _ rfl))
  refine zq fun K7 m7 => zr (zv [] 2 [0,1,12] [] [(0, vl eColumn p1), (1, vl eColumn p2), (12, vi ((eColumn.els p1).length : Int))] [] ?_)
  rw [eColumn.len p1]
  refine zg [] 1 [0,1,12,13] (zd (m7 _ _ (zb 0 (XW.rounds' BIG (x := cd Tryd.f14 [1,1,0,1,0,0]) (by kernel_rfl) fun Q1 hQ1 => ?_))))
  have hL1 : ∀ (k1 : Nat) (x1 : Int), ref2_SameColumns_l1 p1 p2 k1 x1 = some r → XR Tryd.prog 72 0 [] (cd Tryd.f14 [1,1,0,1,0,0]) Q1 k1 [(0, vl eColumn p1), (1, vl eColumn p2), (12, vi (p1.length : Int)), (13, vi x1)] [] := by
   intro k1
   induction k1 with
   | zero => intro x1 h; rw [ref2_SameColumns_l1.eq_1] at h; cases h
   | succ k1 ih1 =>
    intro x1 h
    rw [ref2_SameColumns_l1.eq_2] at h
    refine zq fun K8 m8 => zr (zg [] 1 [0,1,12,13,14] (zd (m8 _ _ (zq fun K9 m9 => zC h (fun b10 h => ?_) (fun b10 h => ?_)))))
    ·refine zs (m9 _ _ (zq fun K11 m11 => zb 1 (zq fun K12 m12 => zr (zg [] 2 [0,1,5,12,13] (zd ?_)))))
     refine m12 _ _ (zq fun K13 m13 => ?_)
     have j1 : ∀ (x2 : Bool), ref2_SameColumns_j1 (ref2_SameColumns_l1 p1 p2 k1) x1 x2 = some r → ∀ w0 w1, Sub 72 0 [] w0 w1 [(0, vl eColumn p1), (1, vl eColumn p2), (12, vi (p1.length : Int)), (13, vi x1), (70, vb x2)] [] → K13 w0 w1 := by
      intro x2 h w0 w1 hS
      unfold ref2_SameColumns_j1 at h
      refine m13 _ _ (XW.sub hS ?_)
      refine zC h (fun b22 h => ?_) (fun b22 h => ?_)
      ·refine zq fun K23 m23 => zr (zg [] 1 [4] (zd (m23 _ _ (ze (hQ1 _ _ _ ?_)))))
       obtain rfl := zj h
       exact zf [vb false] (.one (.rfl _ rfl))
      ·exact zs (m11 _ _ (zr (zg [] 2 [0,1,12,13] (zd (XR.sub (zk [0,1,12,13]) (ih1 (i64.wrap (x1 + (1 : Int))) h))))))
     obtain ⟨e1, a14, h⟩ := zB h
     obtain ⟨e2, a15, h⟩ := zB h
     obtain ⟨r1, c16, h⟩ := zB h
     rcases zW h with ⟨b17, h⟩ | ⟨b17, h⟩
     ·refine zw 52 [(67, .tp []), (66, .tp []), (65, .tp []), (64, .tp []), (63, .tp []), (62, .tp []), (61, .tp []), (60, .tp []), (59, .tp []), (58, .tp []), (57, vb true), (56, vb true), (55, .tp []), (54, .tp []), (53, .tp []), (52, .tp []), (51, .tp []), (50, .tp []), (49, .tp []), (48, .tp []), (47, .tp []), (46, .tp []), (45, .tp []), (44, .tp []), (43, .tp []), (42, vb true), (41, vb true), (40, .tp []), (39, .tp []), (38, .tp []), (37, .tp []), (36, .tp []), (35, .tp []), (34, .tp []), (33, .tp []), (32, .tp []), (31, .tp []), (30, .tp []), (29, .tp []), (28, vb true), (27, vb (!r1)), (26, vb r1), (25, vl eI e2.reps), (24, .one (.pv (.rp (eColumn.els p2) x1.toNat 0))), (23, .one (.pv (.rp (eColumn.els p2) x1.toNat 0))), (22, vi x1), (21, vl eColumn p2), (20, vl eI e1.reps), (19, .one (.pv (.rp (eColumn.els p1) x1.toNat 0))), (18, .one (.pv (.rp (eColumn.els p1) x1.toNat 0))), (17, vi x1), (16, vl eColumn p1), (0, vl eColumn p1), (1, vl eColumn p2), (5, vi x1), (12, vi (p1.length : Int)), (13, vi x1)] ?_ ?_
      ·refine zyp 10 [(qa2503 e1), (qa2503 e2)] (qa2505 p1 p2 x1 e1 e2) [0 ≤ x1 ∧ x1 < ((eColumn.els p1).length : Int) ∧ elemsOk 3 (eColumn.els p1), (eColumn.els p1)[x1.toNat]? = some (qa2503 e1), 0 ≤ x1 ∧ x1 < ((eColumn.els p2).length : Int) ∧ elemsOk 3 (eColumn.els p2), (eColumn.els p2)[x1.toNat]? = some (qa2503 e2)] (⟨eColumn.inb a14, (eColumn.get a14), eColumn.inb a15, (eColumn.get a15), trivial⟩) ?_
       refine zya (c_ref2_sameInts _ _ _ c16) (zyv 2 [] [(28, vb (!r1)), (27, vb (!r1)), (26, vb r1), (25, vl eI e2.reps), (24, .one (.pv (.rp (eColumn.els p2) x1.toNat 0))), (23, .one (.pv (.rp (eColumn.els p2) x1.toNat 0))), (22, vi x1), (21, vl eColumn p2), (20, vl eI e1.reps), (19, .one (.pv (.rp (eColumn.els p1) x1.toNat 0))), (18, .one (.pv (.rp (eColumn.els p1) x1.toNat 0))), (17, vi x1), (16, vl eColumn p1), (0, vl eColumn p1), (1, vl eColumn p2), (5, vi x1), (12, vi (p1.length : Int)), (13, vi x1)] ?_)
       exact DX.eq (fr1 := [(28, vb true), (27, vb (!r1)), (26, vb r1), (25, vl eI e2.reps), (24, .one (.pv (.rp (eColumn.els p2) x1.toNat 0))), (23, .one (.pv (.rp (eColumn.els p2) x1.toNat 0))), (22, vi x1), (21, vl eColumn p2), (20, vl eI e1.reps), (19, .one (.pv (.rp (eColumn.els p1) x1.toNat 0))), (18, .one (.pv (.rp (eColumn.els p1) x1.toNat 0))), (17, vi x1), (16, vl eColumn p1), (0, vl eColumn p1), (1, vl eColumn p2), (5, vi x1), (12, vi (p1.length : Int)), (13, vi x1)]) (by rw [b17]) (zyg 39 zyd)
      exact zv [] 3 [0,1,12,13,70] [] [(0, vl eColumn p1), (1, vl eColumn p2), (12, vi (p1.length : Int)), (13, vi x1), (70, vb true)] [] (zd (j1 true h _ _ (zk [0,1,12,13,70])))
     ·obtain ⟨r2, c18, h⟩ := zB h
      rcases zW h with ⟨b19, h⟩ | ⟨b19, h⟩
      ·refine zw 52 [(67, .tp []), (66, .tp []), (65, .tp []), (64, .tp []), (63, .tp []), (62, .tp []), (61, .tp []), (60, .tp []), (59, .tp []), (58, .tp []), (57, vb true), (56, vb true), (55, .tp []), (54, .tp []), (53, .tp []), (52, .tp []), (51, .tp []), (50, .tp []), (49, .tp []), (48, .tp []), (47, .tp []), (46, .tp []), (45, .tp []), (44, .tp []), (43, .tp []), (42, vb true), (41, vb (!r2)), (40, vb (!r2)), (39, vb r2), (38, vl eI e2.defs), (37, .one (.pv (.rp (eColumn.els p2) x1.toNat 1))), (36, .one (.pv (.rp (eColumn.els p2) x1.toNat 0))), (35, vi x1), (34, vl eColumn p2), (33, vl eI e1.defs), (32, .one (.pv (.rp (eColumn.els p1) x1.toNat 1))), (31, .one (.pv (.rp (eColumn.els p1) x1.toNat 0))), (30, vi x1), (29, vl eColumn p1), (28, vb false), (27, vb (!r1)), (26, vb r1), (25, vl eI e2.reps), (24, .one (.pv (.rp (eColumn.els p2) x1.toNat 0))), (23, .one (.pv (.rp (eColumn.els p2) x1.toNat 0))), (22, vi x1), (21, vl eColumn p2), (20, vl eI e1.reps), (19, .one (.pv (.rp (eColumn.els p1) x1.toNat 0))), (18, .one (.pv (.rp (eColumn.els p1) x1.toNat 0))), (17, vi x1), (16, vl eColumn p1), (0, vl eColumn p1), (1, vl eColumn p2), (5, vi x1), (12, vi (p1.length : Int)), (13, vi x1)] ?_ ?_
       ·refine zyo 10 [(qa2503 e1), (qa2503 e2)] [0 ≤ x1 ∧ x1 < ((eColumn.els p1).length : Int) ∧ elemsOk 3 (eColumn.els p1), (eColumn.els p1)[x1.toNat]? = some (qa2503 e1), 0 ≤ x1 ∧ x1 < ((eColumn.els p2).length : Int) ∧ elemsOk 3 (eColumn.els p2), (eColumn.els p2)[x1.toNat]? = some (qa2503 e2)] (⟨eColumn.inb a14, (eColumn.get a14), eColumn.inb a15, (eColumn.get a15), trivial⟩) ?_
        refine zya (c_ref2_sameInts _ _ _ c16) (zyv 2 [] [(28, vb (!r1)), (27, vb (!r1)), (26, vb r1), (25, vl eI e2.reps), (24, .one (.pv (.rp (eColumn.els p2) x1.toNat 0))), (23, .one (.pv (.rp (eColumn.els p2) x1.toNat 0))), (22, vi x1), (21, vl eColumn p2), (20, vl eI e1.reps), (19, .one (.pv (.rp (eColumn.els p1) x1.toNat 0))), (18, .one (.pv (.rp (eColumn.els p1) x1.toNat 0))), (17, vi x1), (16, vl eColumn p1), (0, vl eColumn p1), (1, vl eColumn p2), (5, vi x1), (12, vi (p1.length : Int)), (13, vi x1)] ?_)
        refine DX.eq (fr1 := [(28, vb false), (27, vb (!r1)), (26, vb r1), (25, vl eI e2.reps), (24, .one (.pv (.rp (eColumn.els p2) x1.toNat 0))), (23, .one (.pv (.rp (eColumn.els p2) x1.toNat 0))), (22, vi x1), (21, vl eColumn p2), (20, vl eI e1.reps), (19, .one (.pv (.rp (eColumn.els p1) x1.toNat 0))), (18, .one (.pv (.rp (eColumn.els p1) x1.toNat 0))), (17, vi x1), (16, vl eColumn p1), (0, vl eColumn p1), (1, vl eColumn p2), (5, vi x1), (12, vi (p1.length : Int)), (13, vi x1)]) (by rw [b17]) ?_
        refine zyo 10 [(qa2503 e1), (qa2503 e2)] [0 ≤ x1 ∧ x1 < ((eColumn.els p1).length : Int) ∧ elemsOk 3 (eColumn.els p1), (eColumn.els p1)[x1.toNat]? = some (qa2503 e1), 0 ≤ x1 ∧ x1 < ((eColumn.els p2).length : Int) ∧ elemsOk 3 (eColumn.els p2), (eColumn.els p2)[x1.toNat]? = some (qa2503 e2)] (⟨eColumn.inb a14, (eColumn.get a14), eColumn.inb a15, (eColumn.get a15), trivial⟩) ?_
        refine zya (c_ref2_sameInts _ _ _ c18) ?_
        refine zyv 3 [] [(42, vb (!r2)), (41, vb (!r2)), (40, vb (!r2)), (39, vb r2), (38, vl eI e2.defs), (37, .one (.pv (.rp (eColumn.els p2) x1.toNat 1))), (36, .one (.pv (.rp (eColumn.els p2) x1.toNat 0))), (35, vi x1), (34, vl eColumn p2), (33, vl eI e1.defs), (32, .one (.pv (.rp (eColumn.els p1) x1.toNat 1))), (31, .one (.pv (.rp (eColumn.els p1) x1.toNat 0))), (30, vi x1), (29, vl eColumn p1), (28, vb false), (27, vb (!r1)), (26, vb r1), (25, vl eI e2.reps), (24, .one (.pv (.rp (eColumn.els p2) x1.toNat 0))), (23, .one (.pv (.rp (eColumn.els p2) x1.toNat 0))), (22, vi x1), (21, vl eColumn p2), (20, vl eI e1.reps), (19, .one (.pv (.rp (eColumn.els p1) x1.toNat 0))), (18, .one (.pv (.rp (eColumn.els p1) x1.toNat 0))), (17, vi x1), (16, vl eColumn p1), (0, vl eColumn p1), (1, vl eColumn p2), (5, vi x1), (12, vi (p1.length : Int)), (13, vi x1)] ?_
        refine DX.eq (fr1 := [(42, vb true), (41, vb (!r2)), (40, vb (!r2)), (39, vb r2), (38, vl eI e2.defs), (37, .one (.pv (.rp (eColumn.els p2) x1.toNat 1))), (36, .one (.pv (.rp (eColumn.els p2) x1.toNat 0))), (35, vi x1), (34, vl eColumn p2), (33, vl eI e1.defs), (32, .one (.pv (.rp (eColumn.els p1) x1.toNat 1))), (31, .one (.pv (.rp (eColumn.els p1) x1.toNat 0))), (30, vi x1), (29, vl eColumn p1), (28, vb false), (27, vb (!r1)), (26, vb r1), (25, vl eI e2.reps), (24, .one (.pv (.rp (eColumn.els p2) x1.toNat 0))), (23, .one (.pv (.rp (eColumn.els p2) x1.toNat 0))), (22, vi x1), (21, vl eColumn p2), (20, vl eI e1.reps), (19, .one (.pv (.rp (eColumn.els p1) x1.toNat 0))), (18, .one (.pv (.rp (eColumn.els p1) x1.toNat 0))), (17, vi x1), (16, vl eColumn p1), (0, vl eColumn p1), (1, vl eColumn p2), (5, vi x1), (12, vi (p1.length : Int)), (13, vi x1)]) (by rw [b19]) ?_
        exact zyg 25 zyd
       exact zg [] 3 [0,1,12,13,70] (zd (j1 true h _ _ (zk [0,1,12,13,70])))
      ·rcases zW h with ⟨b20, h⟩ | ⟨b20, h⟩
       ·refine zw 52 [(67, .tp []), (66, .tp []), (65, .tp []), (64, .tp []), (63, .tp []), (62, .tp []), (61, .tp []), (60, .tp []), (59, .tp []), (58, .tp []), (57, vb true), (56, vb ((e1.values.length : Int) != (e2.values.length : Int))), (55, vb ((e1.values.length : Int) != (e2.values.length : Int))), (54, vi (e2.values.length : Int)), (53, vl eValue e2.values), (52, .one (.pv (.rp (eColumn.els p2) x1.toNat 2))), (51, .one (.pv (.rp (eColumn.els p2) x1.toNat 0))), (50, vi x1), (49, vl eColumn p2), (48, vi (e1.values.length : Int)), (47, vl eValue e1.values), (46, .one (.pv (.rp (eColumn.els p1) x1.toNat 2))), (45, .one (.pv (.rp (eColumn.els p1) x1.toNat 0))), (44, vi x1), (43, vl eColumn p1), (42, vb false), (41, vb (!r2)), (40, vb (!r2)), (39, vb r2), (38, vl eI e2.defs), (37, .one (.pv (.rp (eColumn.els p2) x1.toNat 1))), (36, .one (.pv (.rp (eColumn.els p2) x1.toNat 0))), (35, vi x1), (34, vl eColumn p2), (33, vl eI e1.defs), (32, .one (.pv (.rp (eColumn.els p1) x1.toNat 1))), (31, .one (.pv (.rp (eColumn.els p1) x1.toNat 0))), (30, vi x1), (29, vl eColumn p1), (28, vb false), (27, vb (!r1)), (26, vb r1), (25, vl eI e2.reps), (24, .one (.pv (.rp (eColumn.els p2) x1.toNat 0))), (23, .one (.pv (.rp (eColumn.els p2) x1.toNat 0))), (22, vi x1), (21, vl eColumn p2), (20, vl eI e1.reps), (19, .one (.pv (.rp (eColumn.els p1) x1.toNat 0))), (18, .one (.pv (.rp (eColumn.els p1) x1.toNat 0))), (17, vi x1), (16, vl eColumn p1), (0, vl eColumn p1), (1, vl eColumn p2), (5, vi x1), (12, vi (p1.length : Int)), (13, vi x1)] ?_ ?_
        ·refine zyo 10 [(qa2503 e1), (qa2503 e2)] [0 ≤ x1 ∧ x1 < ((eColumn.els p1).length : Int) ∧ elemsOk 3 (eColumn.els p1), (eColumn.els p1)[x1.toNat]? = some (qa2503 e1), 0 ≤ x1 ∧ x1 < ((eColumn.els p2).length : Int) ∧ elemsOk 3 (eColumn.els p2), (eColumn.els p2)[x1.toNat]? = some (qa2503 e2)] (⟨eColumn.inb a14, (eColumn.get a14), eColumn.inb a15, (eColumn.get a15), trivial⟩) ?_
         refine DX.cal 33 [vl eI e1.reps, vl eI e2.reps] (vb r1) [(26, vb r1), (25, vl eI e2.reps), (24, .one (.pv (.rp (eColumn.els p2) x1.toNat 0))), (23, .one (.pv (.rp (eColumn.els p2) x1.toNat 0))), (22, vi x1), (21, vl eColumn p2), (20, vl eI e1.reps), (19, .one (.pv (.rp (eColumn.els p1) x1.toNat 0))), (18, .one (.pv (.rp (eColumn.els p1) x1.toNat 0))), (17, vi x1), (16, vl eColumn p1), (0, vl eColumn p1), (1, vl eColumn p2), (5, vi x1), (12, vi (p1.length : Int)), (13, vi x1)] (by kernel_rfl) (c_ref2_sameInts _ _ _ c16) rfl rfl (by kernel_rfl) ?_
         refine zyv 2 [] [(28, vb (!r1)), (27, vb (!r1)), (26, vb r1), (25, vl eI e2.reps), (24, .one (.pv (.rp (eColumn.els p2) x1.toNat 0))), (23, .one (.pv (.rp (eColumn.els p2) x1.toNat 0))), (22, vi x1), (21, vl eColumn p2), (20, vl eI e1.reps), (19, .one (.pv (.rp (eColumn.els p1) x1.toNat 0))), (18, .one (.pv (.rp (eColumn.els p1) x1.toNat 0))), (17, vi x1), (16, vl eColumn p1), (0, vl eColumn p1), (1, vl eColumn p2), (5, vi x1), (12, vi (p1.length : Int)), (13, vi x1)] ?_
         refine DX.eq (fr1 := [(28, vb false), (27, vb (!r1)), (26, vb r1), (25, vl eI e2.reps), (24, .one (.pv (.rp (eColumn.els p2) x1.toNat 0))), (23, .one (.pv (.rp (eColumn.els p2) x1.toNat 0))), (22, vi x1), (21, vl eColumn p2), (20, vl eI e1.reps), (19, .one (.pv (.rp (eColumn.els p1) x1.toNat 0))), (18, .one (.pv (.rp (eColumn.els p1) x1.toNat 0))), (17, vi x1), (16, vl eColumn p1), (0, vl eColumn p1), (1, vl eColumn p2), (5, vi x1), (12, vi (p1.length : Int)), (13, vi x1)]) (by rw [b17]) ?_
         refine zyo 10 [(qa2503 e1), (qa2503 e2)] [0 ≤ x1 ∧ x1 < ((eColumn.els p1).length : Int) ∧ elemsOk 3 (eColumn.els p1), (eColumn.els p1)[x1.toNat]? = some (qa2503 e1), 0 ≤ x1 ∧ x1 < ((eColumn.els p2).length : Int) ∧ elemsOk 3 (eColumn.els p2), (eColumn.els p2)[x1.toNat]? = some (qa2503 e2)] (⟨eColumn.inb a14, (eColumn.get a14), eColumn.inb a15, (eColumn.get a15), trivial⟩) ?_
         refine zya (c_ref2_sameInts _ _ _ c18) ?_
         refine zyv 3 [] [(42, vb (!r2)), (41, vb (!r2)), (40, vb (!r2)), (39, vb r2), (38, vl eI e2.defs), (37, .one (.pv (.rp (eColumn.els p2) x1.toNat 1))), (36, .one (.pv (.rp (eColumn.els p2) x1.toNat 0))), (35, vi x1), (34, vl eColumn p2), (33, vl eI e1.defs), (32, .one (.pv (.rp (eColumn.els p1) x1.toNat 1))), (31, .one (.pv (.rp (eColumn.els p1) x1.toNat 0))), (30, vi x1), (29, vl eColumn p1), (28, vb false), (27, vb (!r1)), (26, vb r1), (25, vl eI e2.reps), (24, .one (.pv (.rp (eColumn.els p2) x1.toNat 0))), (23, .one (.pv (.rp (eColumn.els p2) x1.toNat 0))), (22, vi x1), (21, vl eColumn p2), (20, vl eI e1.reps), (19, .one (.pv (.rp (eColumn.els p1) x1.toNat 0))), (18, .one (.pv (.rp (eColumn.els p1) x1.toNat 0))), (17, vi x1), (16, vl eColumn p1), (0, vl eColumn p1), (1, vl eColumn p2), (5, vi x1), (12, vi (p1.length : Int)), (13, vi x1)] ?_
         refine DX.eq (fr1 := [(42, vb false), (41, vb (!r2)), (40, vb (!r2)), (39, vb r2), (38, vl eI e2.defs), (37, .one (.pv (.rp (eColumn.els p2) x1.toNat 1))), (36, .one (.pv (.rp (eColumn.els p2) x1.toNat 0))), (35, vi x1), (34, vl eColumn p2), (33, vl eI e1.defs), (32, .one (.pv (.rp (eColumn.els p1) x1.toNat 1))), (31, .one (.pv (.rp (eColumn.els p1) x1.toNat 0))), (30, vi x1), (29, vl eColumn p1), (28, vb false), (27, vb (!r1)), (26, vb r1), (25, vl eI e2.reps), (24, .one (.pv (.rp (eColumn.els p2) x1.toNat 0))), (23, .one (.pv (.rp (eColumn.els p2) x1.toNat 0))), (22, vi x1), (21, vl eColumn p2), (20, vl eI e1.reps), (19, .one (.pv (.rp (eColumn.els p1) x1.toNat 0))), (18, .one (.pv (.rp (eColumn.els p1) x1.toNat 0))), (17, vi x1), (16, vl eColumn p1), (0, vl eColumn p1), (1, vl eColumn p2), (5, vi x1), (12, vi (p1.length : Int)), (13, vi x1)]) (by rw [b19]) ?_
         refine zyp 6 [[.ro (eI.els e1.reps), .ro (eI.els e1.defs), .ro (eValue.els e1.values)]] [(48, vi ((eValue.els e1.values).length : Int)), (47, vl eValue e1.values), (46, .one (.pv (.rp (eColumn.els p1) x1.toNat 2))), (45, .one (.pv (.rp (eColumn.els p1) x1.toNat 0))), (44, vi x1), (43, vl eColumn p1), (42, vb false), (41, vb (!r2)), (40, vb (!r2)), (39, vb r2), (38, vl eI e2.defs), (37, .one (.pv (.rp (eColumn.els p2) x1.toNat 1))), (36, .one (.pv (.rp (eColumn.els p2) x1.toNat 0))), (35, vi x1), (34, vl eColumn p2), (33, vl eI e1.defs), (32, .one (.pv (.rp (eColumn.els p1) x1.toNat 1))), (31, .one (.pv (.rp (eColumn.els p1) x1.toNat 0))), (30, vi x1), (29, vl eColumn p1), (28, vb false), (27, vb (!r1)), (26, vb r1), (25, vl eI e2.reps), (24, .one (.pv (.rp (eColumn.els p2) x1.toNat 0))), (23, .one (.pv (.rp (eColumn.els p2) x1.toNat 0))), (22, vi x1), (21, vl eColumn p2), (20, vl eI e1.reps), (19, .one (.pv (.rp (eColumn.els p1) x1.toNat 0))), (18, .one (.pv (.rp (eColumn.els p1) x1.toNat 0))), (17, vi x1), (16, vl eColumn p1), (0, vl eColumn p1), (1, vl eColumn p2), (5, vi x1), (12, vi (p1.length : Int)), (13, vi x1)] [0 ≤ x1 ∧ x1 < ((eColumn.els p1).length : Int) ∧ elemsOk 3 (eColumn.els p1), (eColumn.els p1)[x1.toNat]? = some [.ro (eI.els e1.reps), .ro (eI.els e1.defs), .ro (eValue.els e1.values)]] (⟨eColumn.inb a14, (eColumn.get a14), trivial⟩) ?_
         rw [eValue.len e1.values]
         refine zyp 6 [[.ro (eI.els e2.reps), .ro (eI.els e2.defs), .ro (eValue.els e2.values)]] [(54, vi ((eValue.els e2.values).length : Int)), (53, vl eValue e2.values), (52, .one (.pv (.rp (eColumn.els p2) x1.toNat 2))), (51, .one (.pv (.rp (eColumn.els p2) x1.toNat 0))), (50, vi x1), (49, vl eColumn p2), (48, vi (e1.values.length : Int)), (47, vl eValue e1.values), (46, .one (.pv (.rp (eColumn.els p1) x1.toNat 2))), (45, .one (.pv (.rp (eColumn.els p1) x1.toNat 0))), (44, vi x1), (43, vl eColumn p1), (42, vb false), (41, vb (!r2)), (40, vb (!r2)), (39, vb r2), (38, vl eI e2.defs), (37, .one (.pv (.rp (eColumn.els p2) x1.toNat 1))), (36, .one (.pv (.rp (eColumn.els p2) x1.toNat 0))), (35, vi x1), (34, vl eColumn p2), (33, vl eI e1.defs), (32, .one (.pv (.rp (eColumn.els p1) x1.toNat 1))), (31, .one (.pv (.rp (eColumn.els p1) x1.toNat 0))), (30, vi x1), (29, vl eColumn p1), (28, vb false), (27, vb (!r1)), (26, vb r1), (25, vl eI e2.reps), (24, .one (.pv (.rp (eColumn.els p2) x1.toNat 0))), (23, .one (.pv (.rp (eColumn.els p2) x1.toNat 0))), (22, vi x1), (21, vl eColumn p2), (20, vl eI e1.reps), (19, .one (.pv (.rp (eColumn.els p1) x1.toNat 0))), (18, .one (.pv (.rp (eColumn.els p1) x1.toNat 0))), (17, vi x1), (16, vl eColumn p1), (0, vl eColumn p1), (1, vl eColumn p2), (5, vi x1), (12, vi (p1.length : Int)), (13, vi x1)] [0 ≤ x1 ∧ x1 < ((eColumn.els p2).length : Int) ∧ elemsOk 3 (eColumn.els p2), (eColumn.els p2)[x1.toNat]? = some [.ro (eI.els e2.reps), .ro (eI.els e2.defs), .ro (eValue.els e2.values)]] (⟨eColumn.inb a15, (eColumn.get a15), trivial⟩) ?_
         rw [eValue.len e2.values]
         refine zyv 3 [] [(57, vb ((e1.values.length : Int) != (e2.values.length : Int))), (56, vb ((e1.values.length : Int) != (e2.values.length : Int))), (55, vb ((e1.values.length : Int) != (e2.values.length : Int))), (54, vi (e2.values.length : Int)), (53, vl eValue e2.values), (52, .one (.pv (.rp (eColumn.els p2) x1.toNat 2))), (51, .one (.pv (.rp (eColumn.els p2) x1.toNat 0))), (50, vi x1), (49, vl eColumn p2), (48, vi (e1.values.length : Int)), (47, vl eValue e1.values), (46, .one (.pv (.rp (eColumn.els p1) x1.toNat 2))), (45, .one (.pv (.rp (eColumn.els p1) x1.toNat 0))), (44, vi x1), (43, vl eColumn p1), (42, vb false), (41, vb (!r2)), (40, vb (!r2)), (39, vb r2), (38, vl eI e2.defs), (37, .one (.pv (.rp (eColumn.els p2) x1.toNat 1))), (36, .one (.pv (.rp (eColumn.els p2) x1.toNat 0))), (35, vi x1), (34, vl eColumn p2), (33, vl eI e1.defs), (32, .one (.pv (.rp (eColumn.els p1) x1.toNat 1))), (31, .one (.pv (.rp (eColumn.els p1) x1.toNat 0))), (30, vi x1), (29, vl eColumn p1), (28, vb false), (27, vb (!r1)), (26, vb r1), (25, vl eI e2.reps), (24, .one (.pv (.rp (eColumn.els p2) x1.toNat 0))), (23, .one (.pv (.rp (eColumn.els p2) x1.toNat 0))), (22, vi x1), (21, vl eColumn p2), (20, vl eI e1.reps), (19, .one (.pv (.rp (eColumn.els p1) x1.toNat 0))), (18, .one (.pv (.rp (eColumn.els p1) x1.toNat 0))), (17, vi x1), (16, vl eColumn p1), (0, vl eColumn p1), (1, vl eColumn p2), (5, vi x1), (12, vi (p1.length : Int)), (13, vi x1)] ?_
         refine DX.eq (fr1 := [(57, vb true), (56, vb ((e1.values.length : Int) != (e2.values.length : Int))), (55, vb ((e1.values.length : Int) != (e2.values.length : Int))), (54, vi (e2.values.length : Int)), (53, vl eValue e2.values), (52, .one (.pv (.rp (eColumn.els p2) x1.toNat 2))), (51, .one (.pv (.rp (eColumn.els p2) x1.toNat 0))), (50, vi x1), (49, vl eColumn p2), (48, vi (e1.values.length : Int)), (47, vl eValue e1.values), (46, .one (.pv (.rp (eColumn.els p1) x1.toNat 2))), (45, .one (.pv (.rp (eColumn.els p1) x1.toNat 0))), (44, vi x1), (43, vl eColumn p1), (42, vb false), (41, vb (!r2)), (40, vb (!r2)), (39, vb r2), (38, vl eI e2.defs), (37, .one (.pv (.rp (eColumn.els p2) x1.toNat 1))), (36, .one (.pv (.rp (eColumn.els p2) x1.toNat 0))), (35, vi x1), (34, vl eColumn p2), (33, vl eI e1.defs), (32, .one (.pv (.rp (eColumn.els p1) x1.toNat 1))), (31, .one (.pv (.rp (eColumn.els p1) x1.toNat 0))), (30, vi x1), (29, vl eColumn p1), (28, vb false), (27, vb (!r1)), (26, vb r1), (25, vl eI e2.reps), (24, .one (.pv (.rp (eColumn.els p2) x1.toNat 0))), (23, .one (.pv (.rp (eColumn.els p2) x1.toNat 0))), (22, vi x1), (21, vl eColumn p2), (20, vl eI e1.reps), (19, .one (.pv (.rp (eColumn.els p1) x1.toNat 0))), (18, .one (.pv (.rp (eColumn.els p1) x1.toNat 0))), (17, vi x1), (16, vl eColumn p1), (0, vl eColumn p1), (1, vl eColumn p2), (5, vi x1), (12, vi (p1.length : Int)), (13, vi x1)]) (by rw [b20]) ?_
         exact zyg 10 zyd
        exact zg [] 3 [0,1,12,13,70] (zd (j1 true h _ _ (zk [0,1,12,13,70])))
       ·obtain ⟨r3, c21, h⟩ := zB h
        refine zw 52 [(67, vl eValue e2.values), (66, .one (.pv (.rp (eColumn.els p2) x1.toNat 2))), (65, .one (.pv (.rp (eColumn.els p2) x1.toNat 0))), (64, vi x1), (63, vl eColumn p2), (62, vl eValue e1.values), (61, .one (.pv (.rp (eColumn.els p1) x1.toNat 2))), (60, .one (.pv (.rp (eColumn.els p1) x1.toNat 0))), (59, vi x1), (58, vl eColumn p1), (57, vb false), (56, vb ((e1.values.length : Int) != (e2.values.length : Int))), (55, vb ((e1.values.length : Int) != (e2.values.length : Int))), (54, vi (e2.values.length : Int)), (53, vl eValue e2.values), (52, .one (.pv (.rp (eColumn.els p2) x1.toNat 2))), (51, .one (.pv (.rp (eColumn.els p2) x1.toNat 0))), (50, vi x1), (49, vl eColumn p2), (48, vi (e1.values.length : Int)), (47, vl eValue e1.values), (46, .one (.pv (.rp (eColumn.els p1) x1.toNat 2))), (45, .one (.pv (.rp (eColumn.els p1) x1.toNat 0))), (44, vi x1), (43, vl eColumn p1), (42, vb false), (41, vb (!r2)), (40, vb (!r2)), (39, vb r2), (38, vl eI e2.defs), (37, .one (.pv (.rp (eColumn.els p2) x1.toNat 1))), (36, .one (.pv (.rp (eColumn.els p2) x1.toNat 0))), (35, vi x1), (34, vl eColumn p2), (33, vl eI e1.defs), (32, .one (.pv (.rp (eColumn.els p1) x1.toNat 1))), (31, .one (.pv (.rp (eColumn.els p1) x1.toNat 0))), (30, vi x1), (29, vl eColumn p1), (28, vb false), (27, vb (!r1)), (26, vb r1), (25, vl eI e2.reps), (24, .one (.pv (.rp (eColumn.els p2) x1.toNat 0))), (23, .one (.pv (.rp (eColumn.els p2) x1.toNat 0))), (22, vi x1), (21, vl eColumn p2), (20, vl eI e1.reps), (19, .one (.pv (.rp (eColumn.els p1) x1.toNat 0))), (18, .one (.pv (.rp (eColumn.els p1) x1.toNat 0))), (17, vi x1), (16, vl eColumn p1), (0, vl eColumn p1), (1, vl eColumn p2), (5, vi x1), (12, vi (p1.length : Int)), (13, vi x1)] ?_ ?_
        ·refine zyp 10 [(qa2503 e1), (qa2503 e2)] (qa2505 p1 p2 x1 e1 e2) [0 ≤ x1 ∧ x1 < ((eColumn.els p1).length : Int) ∧ elemsOk 3 (eColumn.els p1), (eColumn.els p1)[x1.toNat]? = some (qa2503 e1), 0 ≤ x1 ∧ x1 < ((eColumn.els p2).length : Int) ∧ elemsOk 3 (eColumn.els p2), (eColumn.els p2)[x1.toNat]? = some (qa2503 e2)] (⟨eColumn.inb a14, (eColumn.get a14), eColumn.inb a15, (eColumn.get a15), trivial⟩) ?_
         refine zya (c_ref2_sameInts _ _ _ c16) (zyv 2 [] [(28, vb (!r1)), (27, vb (!r1)), (26, vb r1), (25, vl eI e2.reps), (24, .one (.pv (.rp (eColumn.els p2) x1.toNat 0))), (23, .one (.pv (.rp (eColumn.els p2) x1.toNat 0))), (22, vi x1), (21, vl eColumn p2), (20, vl eI e1.reps), (19, .one (.pv (.rp (eColumn.els p1) x1.toNat 0))), (18, .one (.pv (.rp (eColumn.els p1) x1.toNat 0))), (17, vi x1), (16, vl eColumn p1), (0, vl eColumn p1), (1, vl eColumn p2), (5, vi x1), (12, vi (p1.length : Int)), (13, vi x1)] ?_)
         refine DX.eq (fr1 := [(28, vb false), (27, vb (!r1)), (26, vb r1), (25, vl eI e2.reps), (24, .one (.pv (.rp (eColumn.els p2) x1.toNat 0))), (23, .one (.pv (.rp (eColumn.els p2) x1.toNat 0))), (22, vi x1), (21, vl eColumn p2), (20, vl eI e1.reps), (19, .one (.pv (.rp (eColumn.els p1) x1.toNat 0))), (18, .one (.pv (.rp (eColumn.els p1) x1.toNat 0))), (17, vi x1), (16, vl eColumn p1), (0, vl eColumn p1), (1, vl eColumn p2), (5, vi x1), (12, vi (p1.length : Int)), (13, vi x1)]) (by rw [b17]) ?_
         refine zyo 10 [(qa2503 e1), (qa2503 e2)] [0 ≤ x1 ∧ x1 < ((eColumn.els p1).length : Int) ∧ elemsOk 3 (eColumn.els p1), (eColumn.els p1)[x1.toNat]? = some (qa2503 e1), 0 ≤ x1 ∧ x1 < ((eColumn.els p2).length : Int) ∧ elemsOk 3 (eColumn.els p2), (eColumn.els p2)[x1.toNat]? = some (qa2503 e2)] (⟨eColumn.inb a14, (eColumn.get a14), eColumn.inb a15, (eColumn.get a15), trivial⟩) ?_
         refine zya (c_ref2_sameInts _ _ _ c18) ?_
         refine zyv 3 [] [(42, vb (!r2)), (41, vb (!r2)), (40, vb (!r2)), (39, vb r2), (38, vl eI e2.defs), (37, .one (.pv (.rp (eColumn.els p2) x1.toNat 1))), (36, .one (.pv (.rp (eColumn.els p2) x1.toNat 0))), (35, vi x1), (34, vl eColumn p2), (33, vl eI e1.defs), (32, .one (.pv (.rp (eColumn.els p1) x1.toNat 1))), (31, .one (.pv (.rp (eColumn.els p1) x1.toNat 0))), (30, vi x1), (29, vl eColumn p1), (28, vb false), (27, vb (!r1)), (26, vb r1), (25, vl eI e2.reps), (24, .one (.pv (.rp (eColumn.els p2) x1.toNat 0))), (23, .one (.pv (.rp (eColumn.els p2) x1.toNat 0))), (22, vi x1), (21, vl eColumn p2), (20, vl eI e1.reps), (19, .one (.pv (.rp (eColumn.els p1) x1.toNat 0))), (18, .one (.pv (.rp (eColumn.els p1) x1.toNat 0))), (17, vi x1), (16, vl eColumn p1), (0, vl eColumn p1), (1, vl eColumn p2), (5, vi x1), (12, vi (p1.length : Int)), (13, vi x1)] ?_
         refine DX.eq (fr1 := [(42, vb false), (41, vb (!r2)), (40, vb (!r2)), (39, vb r2), (38, vl eI e2.defs), (37, .one (.pv (.rp (eColumn.els p2) x1.toNat 1))), (36, .one (.pv (.rp (eColumn.els p2) x1.toNat 0))), (35, vi x1), (34, vl eColumn p2), (33, vl eI e1.defs), (32, .one (.pv (.rp (eColumn.els p1) x1.toNat 1))), (31, .one (.pv (.rp (eColumn.els p1) x1.toNat 0))), (30, vi x1), (29, vl eColumn p1), (28, vb false), (27, vb (!r1)), (26, vb r1), (25, vl eI e2.reps), (24, .one (.pv (.rp (eColumn.els p2) x1.toNat 0))), (23, .one (.pv (.rp (eColumn.els p2) x1.toNat 0))), (22, vi x1), (21, vl eColumn p2), (20, vl eI e1.reps), (19, .one (.pv (.rp (eColumn.els p1) x1.toNat 0))), (18, .one (.pv (.rp (eColumn.els p1) x1.toNat 0))), (17, vi x1), (16, vl eColumn p1), (0, vl eColumn p1), (1, vl eColumn p2), (5, vi x1), (12, vi (p1.length : Int)), (13, vi x1)]) (by rw [b19]) ?_
         refine zyp 6 [[.ro (eI.els e1.reps), .ro (eI.els e1.defs), .ro (eValue.els e1.values)]] [(48, vi ((eValue.els e1.values).length : Int)), (47, vl eValue e1.values), (46, .one (.pv (.rp (eColumn.els p1) x1.toNat 2))), (45, .one (.pv (.rp (eColumn.els p1) x1.toNat 0))), (44, vi x1), (43, vl eColumn p1), (42, vb false), (41, vb (!r2)), (40, vb (!r2)), (39, vb r2), (38, vl eI e2.defs), (37, .one (.pv (.rp (eColumn.els p2) x1.toNat 1))), (36, .one (.pv (.rp (eColumn.els p2) x1.toNat 0))), (35, vi x1), (34, vl eColumn p2), (33, vl eI e1.defs), (32, .one (.pv (.rp (eColumn.els p1) x1.toNat 1))), (31, .one (.pv (.rp (eColumn.els p1) x1.toNat 0))), (30, vi x1), (29, vl eColumn p1), (28, vb false), (27, vb (!r1)), (26, vb r1), (25, vl eI e2.reps), (24, .one (.pv (.rp (eColumn.els p2) x1.toNat 0))), (23, .one (.pv (.rp (eColumn.els p2) x1.toNat 0))), (22, vi x1), (21, vl eColumn p2), (20, vl eI e1.reps), (19, .one (.pv (.rp (eColumn.els p1) x1.toNat 0))), (18, .one (.pv (.rp (eColumn.els p1) x1.toNat 0))), (17, vi x1), (16, vl eColumn p1), (0, vl eColumn p1), (1, vl eColumn p2), (5, vi x1), (12, vi (p1.length : Int)), (13, vi x1)] [0 ≤ x1 ∧ x1 < ((eColumn.els p1).length : Int) ∧ elemsOk 3 (eColumn.els p1), (eColumn.els p1)[x1.toNat]? = some [.ro (eI.els e1.reps), .ro (eI.els e1.defs), .ro (eValue.els e1.values)]] (⟨eColumn.inb a14, (eColumn.get a14), trivial⟩) ?_
         rw [eValue.len e1.values]
         refine zyp 6 [[.ro (eI.els e2.reps), .ro (eI.els e2.defs), .ro (eValue.els e2.values)]] [(54, vi ((eValue.els e2.values).length : Int)), (53, vl eValue e2.values), (52, .one (.pv (.rp (eColumn.els p2) x1.toNat 2))), (51, .one (.pv (.rp (eColumn.els p2) x1.toNat 0))), (50, vi x1), (49, vl eColumn p2), (48, vi (e1.values.length : Int)), (47, vl eValue e1.values), (46, .one (.pv (.rp (eColumn.els p1) x1.toNat 2))), (45, .one (.pv (.rp (eColumn.els p1) x1.toNat 0))), (44, vi x1), (43, vl eColumn p1), (42, vb false), (41, vb (!r2)), (40, vb (!r2)), (39, vb r2), (38, vl eI e2.defs), (37, .one (.pv (.rp (eColumn.els p2) x1.toNat 1))), (36, .one (.pv (.rp (eColumn.els p2) x1.toNat 0))), (35, vi x1), (34, vl eColumn p2), (33, vl eI e1.defs), (32, .one (.pv (.rp (eColumn.els p1) x1.toNat 1))), (31, .one (.pv (.rp (eColumn.els p1) x1.toNat 0))), (30, vi x1), (29, vl eColumn p1), (28, vb false), (27, vb (!r1)), (26, vb r1), (25, vl eI e2.reps), (24, .one (.pv (.rp (eColumn.els p2) x1.toNat 0))), (23, .one (.pv (.rp (eColumn.els p2) x1.toNat 0))), (22, vi x1), (21, vl eColumn p2), (20, vl eI e1.reps), (19, .one (.pv (.rp (eColumn.els p1) x1.toNat 0))), (18, .one (.pv (.rp (eColumn.els p1) x1.toNat 0))), (17, vi x1), (16, vl eColumn p1), (0, vl eColumn p1), (1, vl eColumn p2), (5, vi x1), (12, vi (p1.length : Int)), (13, vi x1)] [0 ≤ x1 ∧ x1 < ((eColumn.els p2).length : Int) ∧ elemsOk 3 (eColumn.els p2), (eColumn.els p2)[x1.toNat]? = some [.ro (eI.els e2.reps), .ro (eI.els e2.defs), .ro (eValue.els e2.values)]] (⟨eColumn.inb a15, (eColumn.get a15), trivial⟩) ?_
         rw [eValue.len e2.values]
         refine zyv 3 [] [(57, vb ((e1.values.length : Int) != (e2.values.length : Int))), (56, vb ((e1.values.length : Int) != (e2.values.length : Int))), (55, vb ((e1.values.length : Int) != (e2.values.length : Int))), (54, vi (e2.values.length : Int)), (53, vl eValue e2.values), (52, .one (.pv (.rp (eColumn.els p2) x1.toNat 2))), (51, .one (.pv (.rp (eColumn.els p2) x1.toNat 0))), (50, vi x1), (49, vl eColumn p2), (48, vi (e1.values.length : Int)), (47, vl eValue e1.values), (46, .one (.pv (.rp (eColumn.els p1) x1.toNat 2))), (45, .one (.pv (.rp (eColumn.els p1) x1.toNat 0))), (44, vi x1), (43, vl eColumn p1), (42, vb false), (41, vb (!r2)), (40, vb (!r2)), (39, vb r2), (38, vl eI e2.defs), (37, .one (.pv (.rp (eColumn.els p2) x1.toNat 1))), (36, .one (.pv (.rp (eColumn.els p2) x1.toNat 0))), (35, vi x1), (34, vl eColumn p2), (33, vl eI e1.defs), (32, .one (.pv (.rp (eColumn.els p1) x1.toNat 1))), (31, .one (.pv (.rp (eColumn.els p1) x1.toNat 0))), (30, vi x1), (29, vl eColumn p1), (28, vb false), (27, vb (!r1)), (26, vb r1), (25, vl eI e2.reps), (24, .one (.pv (.rp (eColumn.els p2) x1.toNat 0))), (23, .one (.pv (.rp (eColumn.els p2) x1.toNat 0))), (22, vi x1), (21, vl eColumn p2), (20, vl eI e1.reps), (19, .one (.pv (.rp (eColumn.els p1) x1.toNat 0))), (18, .one (.pv (.rp (eColumn.els p1) x1.toNat 0))), (17, vi x1), (16, vl eColumn p1), (0, vl eColumn p1), (1, vl eColumn p2), (5, vi x1), (12, vi (p1.length : Int)), (13, vi x1)] ?_
         refine DX.eq (fr1 := [(57, vb false), (56, vb ((e1.values.length : Int) != (e2.values.length : Int))), (55, vb ((e1.values.length : Int) != (e2.values.length : Int))), (54, vi (e2.values.length : Int)), (53, vl eValue e2.values), (52, .one (.pv (.rp (eColumn.els p2) x1.toNat 2))), (51, .one (.pv (.rp (eColumn.els p2) x1.toNat 0))), (50, vi x1), (49, vl eColumn p2), (48, vi (e1.values.length : Int)), (47, vl eValue e1.values), (46, .one (.pv (.rp (eColumn.els p1) x1.toNat 2))), (45, .one (.pv (.rp (eColumn.els p1) x1.toNat 0))), (44, vi x1), (43, vl eColumn p1), (42, vb false), (41, vb (!r2)), (40, vb (!r2)), (39, vb r2), (38, vl eI e2.defs), (37, .one (.pv (.rp (eColumn.els p2) x1.toNat 1))), (36, .one (.pv (.rp (eColumn.els p2) x1.toNat 0))), (35, vi x1), (34, vl eColumn p2), (33, vl eI e1.defs), (32, .one (.pv (.rp (eColumn.els p1) x1.toNat 1))), (31, .one (.pv (.rp (eColumn.els p1) x1.toNat 0))), (30, vi x1), (29, vl eColumn p1), (28, vb false), (27, vb (!r1)), (26, vb r1), (25, vl eI e2.reps), (24, .one (.pv (.rp (eColumn.els p2) x1.toNat 0))), (23, .one (.pv (.rp (eColumn.els p2) x1.toNat 0))), (22, vi x1), (21, vl eColumn p2), (20, vl eI e1.reps), (19, .one (.pv (.rp (eColumn.els p1) x1.toNat 0))), (18, .one (.pv (.rp (eColumn.els p1) x1.toNat 0))), (17, vi x1), (16, vl eColumn p1), (0, vl eColumn p1), (1, vl eColumn p2), (5, vi x1), (12, vi (p1.length : Int)), (13, vi x1)]) (by rw [b20]) ?_
         refine zyo 10 [(qa2503 e1), (qa2503 e2)] [0 ≤ x1 ∧ x1 < ((eColumn.els p1).length : Int) ∧ elemsOk 3 (eColumn.els p1), (eColumn.els p1)[x1.toNat]? = some (qa2503 e1), 0 ≤ x1 ∧ x1 < ((eColumn.els p2).length : Int) ∧ elemsOk 3 (eColumn.els p2), (eColumn.els p2)[x1.toNat]? = some (qa2503 e2)] (⟨eColumn.inb a14, (eColumn.get a14), eColumn.inb a15, (eColumn.get a15), trivial⟩) ?_
         exact zyd
        refine zl 34 [vl eValue e1.values, vl eValue e2.values] (vi r3) [(68, vi r3), (67, vl eValue e2.values), (66, .one (.pv (.rp (eColumn.els p2) x1.toNat 2))), (65, .one (.pv (.rp (eColumn.els p2) x1.toNat 0))), (64, vi x1), (63, vl eColumn p2), (62, vl eValue e1.values), (61, .one (.pv (.rp (eColumn.els p1) x1.toNat 2))), (60, .one (.pv (.rp (eColumn.els p1) x1.toNat 0))), (59, vi x1), (58, vl eColumn p1), (57, vb false), (56, vb ((e1.values.length : Int) != (e2.values.length : Int))), (55, vb ((e1.values.length : Int) != (e2.values.length : Int))), (54, vi (e2.values.length : Int)), (53, vl eValue e2.values), (52, .one (.pv (.rp (eColumn.els p2) x1.toNat 2))), (51, .one (.pv (.rp (eColumn.els p2) x1.toNat 0))), (50, vi x1), (49, vl eColumn p2), (48, vi (e1.values.length : Int)), (47, vl eValue e1.values), (46, .one (.pv (.rp (eColumn.els p1) x1.toNat 2))), (45, .one (.pv (.rp (eColumn.els p1) x1.toNat 0))), (44, vi x1), (43, vl eColumn p1), (42, vb false), (41, vb (!r2)), (40, vb (!r2)), (39, vb r2), (38, vl eI e2.defs), (37, .one (.pv (.rp (eColumn.els p2) x1.toNat 1))), (36, .one (.pv (.rp (eColumn.els p2) x1.toNat 0))), (35, vi x1), (34, vl eColumn p2), (33, vl eI e1.defs), (32, .one (.pv (.rp (eColumn.els p1) x1.toNat 1))), (31, .one (.pv (.rp (eColumn.els p1) x1.toNat 0))), (30, vi x1), (29, vl eColumn p1), (28, vb false), (27, vb (!r1)), (26, vb r1), (25, vl eI e2.reps), (24, .one (.pv (.rp (eColumn.els p2) x1.toNat 0))), (23, .one (.pv (.rp (eColumn.els p2) x1.toNat 0))), (22, vi x1), (21, vl eColumn p2), (20, vl eI e1.reps), (19, .one (.pv (.rp (eColumn.els p1) x1.toNat 0))), (18, .one (.pv (.rp (eColumn.els p1) x1.toNat 0))), (17, vi x1), (16, vl eColumn p1), (0, vl eColumn p1), (1, vl eColumn p2), (5, vi x1), (12, vi (p1.length : Int)), (13, vi x1)] (c_ref1_CompareRows _ _ _ c21) ?_
        exact zg [] 2 [0,1,12,13,70] (zd (j1 (r3 != (0 : Int)) h _ _ (zk [0,1,12,13,70])))
    ·exact zx 0 (hQ1 _ _ _ (j2 () h _ _ (zk [])))
  exact XR.sub (zk [0,1,12,13]) (hL1 BIG (0 : Int) h)
end Go.Proofs.YtmaemlebpjnmoaaDoor
namespace Go.Proofs.YtmaemlebpjnmoaaDoor
open Go.SX Go
open Go.IntKind (i64 u64 u8 i32 u32)
set_option linter.unusedVariables false
set_option linter.unusedSimpArgs false
set_option maxRecDepth 100000
set_option maxHeartbeats 8000000
def law2_ColumnRowsMatchSpec_j2 (rec1 : Int → Option Bool) (x2 : Int) (x3 : Bool) : Option Bool := ift x3 (some false) (rec1 (i64.wrap (x2 + (1 : Int))))
def law2_ColumnRowsMatchSpec_j4 (x4 : Bool) : Option Bool := some x4
def law2_ColumnRowsMatchSpec_j3 (p1 : (List GField)) (p2 : (List (List GValue))) : Option Bool := bnd (column_Shred p1 p2) fun r8 => bnd (ref2_Shred p1 p2) fun r9 => ift (r8.2 == r9.2) (bnd (ref2_SameColumns r8.1 r9.1) fun r10 => law2_ColumnRowsMatchSpec_j4 r10) (law2_ColumnRowsMatchSpec_j4 false)
def law2_ColumnRowsMatchSpec_l1 (p1 : (List GField)) (p2 : (List (List GValue))) (r2 : ((List GLeaf) × Int)) (r3 : ((List GLeaf) × Int)) : Nat → Int → Option Bool
 | 0, _ => none
 | k1 + 1, x2 => ift (decide (x2 < (r2.1.length : Int))) (bnd (at? r2.1 x2) fun e1 => bnd (at? r3.1 x2) fun e2 => bnd (law2_ints e1.path e2.path) fun r6 => ift (!r6) (law2_ColumnRowsMatchSpec_j2 (law2_ColumnRowsMatchSpec_l1 p1 p2 r2 r3 k1) x2 true) (bnd (ref1_SameType BIG e1.type e2.type) fun r7 => ift (!r7) (law2_ColumnRowsMatchSpec_j2 (law2_ColumnRowsMatchSpec_l1 p1 p2 r2 r3 k1) x2 true) (ift (e1.df != e2.df) (law2_ColumnRowsMatchSpec_j2 (law2_ColumnRowsMatchSpec_l1 p1 p2 r2 r3 k1) x2 true) (law2_ColumnRowsMatchSpec_j2 (law2_ColumnRowsMatchSpec_l1 p1 p2 r2 r3 k1) x2 (e1.rep != e2.rep))))) (law2_ColumnRowsMatchSpec_j3 p1 p2)
def law2_ColumnRowsMatchSpec_j1 (p1 : (List GField)) (p2 : (List (List GValue))) (r2 : ((List GLeaf) × Int)) (r3 : ((List GLeaf) × Int)) (x1 : Bool) : Option Bool := ift x1 (some false) (law2_ColumnRowsMatchSpec_l1 p1 p2 r2 r3 BIG (0 : Int))
def law2_ColumnRowsMatchSpec (p1 : (List GField)) (p2 : (List (List GValue))) : Option Bool := bnd (law2_shreds) fun r1 => ift (!r1) (some false) (bnd (column_Leaves p1) fun r2 => bnd (ref2_Leaves p1) fun r3 => ift (r2.2 != r3.2) (law2_ColumnRowsMatchSpec_j1 p1 p2 r2 r3 true) (ift ((r2.1.length : Int) != (r3.1.length : Int)) (law2_ColumnRowsMatchSpec_j1 p1 p2 r2 r3 true) (bnd (column_CheckRows p1 p2) fun r4 => bnd (ref2_CheckRows p1 p2) fun r5 => law2_ColumnRowsMatchSpec_j1 p1 p2 r2 r3 (r4 != r5))))
abbrev qa2525 (e1 : GLeaf) : List PV := [.ro (eI.els e1.path), pi e1.type.kind, pi e1.type.scale, .ro (eField.els e1.type.fields), pi e1.df, pi e1.rep]
abbrev qa2527 (p1 : (List GField)) (p2 : (List (List GValue))) (r2 : ((List GLeaf) × Int)) (r3 : ((List GLeaf) × Int)) (x2 : Int) (e1 : GLeaf) (e2 : GLeaf) : Fr := [(57, vl eI e2.path), (56, .one (.pv (.rp (eLeaf.els r3.1) x2.toNat 0))), (55, .one (.pv (.rp (eLeaf.els r3.1) x2.toNat 0))), (54, vi x2), (53, vl eLeaf r3.1), (52, vl eI e1.path), (51, .one (.pv (.rp (eLeaf.els r2.1) x2.toNat 0))), (50, .one (.pv (.rp (eLeaf.els r2.1) x2.toNat 0))), (49, vi x2), (48, vl eLeaf r2.1), (0, vl eField p1), (1, vl (eL eValue) p2), (5, vl eLeaf r2.1), (7, vl eLeaf r3.1), (9, vi x2), (44, vi (r2.1.length : Int)), (45, vi x2)]
abbrev qa2529 (e2 : GLeaf) : List CV := [ci e2.type.kind, ci e2.type.scale, cl eField e2.type.fields]
theorem c_law2_ColumnRowsMatchSpec (p1 : (List GField)) (p2 : (List (List GValue))) (r : Bool) (h : law2_ColumnRowsMatchSpec p1 p2 = some r) : PC Tryd.prog 3 [vl eField p1, vl (eL eValue) p2] (vb r) := by
 unfold law2_ColumnRowsMatchSpec at h
 refine zF 121 Tryd.f3 (zq fun K1 m1 => zr (zg [] 1 [0,1] (zd (m1 _ _ (zq fun K2 m2 => zq fun K3 m3 => ?_)))))
 obtain ⟨r1, c4, h⟩ := zB h
 refine zr (za (c_law2_shreds _ c4) (zv [] 1 [0,1,13] [] [(0, vl eField p1), (1, vl (eL eValue) p2), (13, vb (!r1))] [] (zd (m3 _ _ (zC h (fun b5 h => ?_) (fun b5 h => ?_))))))
 ·refine zq fun K6 m6 => zr (zg [] 1 [4] (zd (m6 _ _ (ze ?_))))
  obtain rfl := zj h
  exact zf [vb false] (.one (.rfl _ rfl))
 ·refine zs (m2 _ _ (zq fun K7 m7 => ?_))
  obtain ⟨r2, c8, h⟩ := zB h
  refine zr (zg [] 1 [0,1,15] (zl 6 [vl eField p1] (.tp [vl eLeaf r2.1, vi r2.2]) [(16, .tp [vl eLeaf r2.1, vi r2.2]), (0, vl eField p1), (1, vl (eL eValue) p2), (15, vl eField p1)] (c_column_Leaves _ _ c8) (zg [] 5 [0,1,5,6] (zd (m7 _ _ (zq fun K9 m9 => ?_))))))
  obtain ⟨r3, c10, h⟩ := zB h
  refine zr (zg [] 1 [0,1,5,6,20] (zl 7 [vl eField p1] (.tp [vl eLeaf r3.1, vi r3.2]) [(21, .tp [vl eLeaf r3.1, vi r3.2]), (0, vl eField p1), (1, vl (eL eValue) p2), (5, vl eLeaf r2.1), (6, vi r2.2), (20, vl eField p1)] (c_ref2_Leaves _ _ c10) (zg [] 5 [0,1,5,6,7,8] (zd (m9 _ _ (zq fun K11 m11 => zq fun K12 m12 => ?_))))))
  have j1 : ∀ (x1 : Bool), law2_ColumnRowsMatchSpec_j1 p1 p2 r2 r3 x1 = some r → ∀ w0 w1, Sub 121 0 [] w0 w1 [(0, vl eField p1), (1, vl (eL eValue) p2), (5, vl eLeaf r2.1), (7, vl eLeaf r3.1), (42, vb x1)] [] → K12 w0 w1 := by
   intro x1 h w0 w1 hS
   unfold law2_ColumnRowsMatchSpec_j1 at h
   refine m12 _ _ (XW.sub hS ?_)
   refine zC h (fun b17 h => ?_) (fun b17 h => ?_)
   ·refine zq fun K18 m18 => zr (zg [] 1 [4] (zd (m18 _ _ (ze ?_))))
    obtain rfl := zj h
    exact zf [vb false] (.one (.rfl _ rfl))
   ·refine zs (m11 _ _ (zq fun K19 m19 => ?_))
    have j3 : ∀ (_ : Unit), law2_ColumnRowsMatchSpec_j3 p1 p2 = some r → ∀ w0 w1, Sub 121 0 [] w0 w1 [(0, vl eField p1), (1, vl (eL eValue) p2)] [] → K19 w0 w1 := by
     intro _ h w0 w1 hS
     unfold law2_ColumnRowsMatchSpec_j3 at h
     refine m19 _ _ (XW.sub hS ?_)
     refine zq fun K36 m36 => ?_
     obtain ⟨r8, c37, h⟩ := zB h
     refine zr (zg [] 2 [0,1,102,103] (za (c_column_Shred _ _ _ c37) (zv [] 5 [0,1,6,10] [] [(0, vl eField p1), (1, vl (eL eValue) p2), (6, vi r8.2), (10, vl eColumn r8.1)] [] (zd (m36 _ _ (zq fun K38 m38 => ?_))))))
     obtain ⟨r9, c39, h⟩ := zB h
     refine zr (zg [] 2 [6,10,108,109] (za (c_ref2_Shred _ _ _ c39) (zv [] 5 [6,8,10,11] [] [(6, vi r8.2), (8, vi r9.2), (10, vl eColumn r8.1), (11, vl eColumn r9.1)] [] (zd (m38 _ _ (zq fun K40 m40 => ?_))))))
     have j4 : ∀ (x4 : Bool), law2_ColumnRowsMatchSpec_j4 x4 = some r → ∀ w0 w1, Sub 121 0 [] w0 w1 [(4, vb x4)] [] → K40 w0 w1 := by
      intro x4 h w0 w1 hS
      unfold law2_ColumnRowsMatchSpec_j4 at h
      refine m40 _ _ (XW.sub hS ?_)
      refine ze ?_
      obtain rfl := zj h
      exact zf [vb x4] (.one (.rfl _ rfl))
     rcases zW h with ⟨b41, h⟩ | ⟨b41, h⟩
     ·obtain ⟨r10, c42, h⟩ := zB h
      exact zr (zg [] 4 [10,11,116] (zt 116 b41 (zg [] 2 [116,117,118] (zl 14 [vl eColumn r8.1, vl eColumn r9.1] (vb r10) [(119, vb r10), (116, vb true), (117, vl eColumn r8.1), (118, vl eColumn r9.1)] (c_ref2_SameColumns _ _ _ c42) (zg [] 2 [4] (zd (j4 r10 h _ _ (zk [4]))))))))
     ·exact zr (zg [] 4 [10,11,116] (zt 116 b41 (zv [] 5 [4] [] [(4, vb false)] [] (zd (j4 false h _ _ (zk [4]))))))
    refine zq fun K20 m20 => zr (zv [] 2 [0,1,5,7,44] [] [(0, vl eField p1), (1, vl (eL eValue) p2), (5, vl eLeaf r2.1), (7, vl eLeaf r3.1), (44, vi ((eLeaf.els r2.1).length : Int))] [] ?_)
    rw [eLeaf.len r2.1]
    refine zg [] 1 [0,1,5,7,44,45] (zd (m20 _ _ (zb 0 (XW.rounds' BIG (x := cd Tryd.f3 [1,1,1,1,1,0,1,0,0]) (by kernel_rfl) fun Q1 hQ1 => ?_))))
    have hL1 : ∀ (k1 : Nat) (x2 : Int), law2_ColumnRowsMatchSpec_l1 p1 p2 r2 r3 k1 x2 = some r → XR Tryd.prog 121 0 [] (cd Tryd.f3 [1,1,1,1,1,0,1,0,0]) Q1 k1 [(0, vl eField p1), (1, vl (eL eValue) p2), (5, vl eLeaf r2.1), (7, vl eLeaf r3.1), (44, vi (r2.1.length : Int)), (45, vi x2)] [] := by
     intro k1
     induction k1 with
     | zero => intro x2 h; rw [law2_ColumnRowsMatchSpec_l1.eq_1] at h; cases h
     | succ k1 ih1 =>
      intro x2 h
      rw [law2_ColumnRowsMatchSpec_l1.eq_2] at h
      refine zq fun K21 m21 => zr (zg [] 1 [0,1,5,7,44,45,46] (zd (m21 _ _ (zq fun K22 m22 => zC h (fun b23 h => ?_) (fun b23 h => ?_)))))
      ·refine zs (m22 _ _ (zq fun K24 m24 => zb 1 (zq fun K25 m25 => zr (zg [] 2 [0,1,5,7,9,44,45] (zd ?_)))))
       refine m25 _ _ (zq fun K26 m26 => ?_)
       have j2 : ∀ (x3 : Bool), law2_ColumnRowsMatchSpec_j2 (law2_ColumnRowsMatchSpec_l1 p1 p2 r2 r3 k1) x2 x3 = some r → ∀ w0 w1, Sub 121 0 [] w0 w1 [(0, vl eField p1), (1, vl (eL eValue) p2), (5, vl eLeaf r2.1), (7, vl eLeaf r3.1), (44, vi (r2.1.length : Int)), (45, vi x2), (99, vb x3)] [] → K26 w0 w1 := by
        intro x3 h w0 w1 hS
        unfold law2_ColumnRowsMatchSpec_j2 at h
        refine m26 _ _ (XW.sub hS ?_)
        refine zC h (fun b34 h => ?_) (fun b34 h => ?_)
        ·refine zq fun K35 m35 => zr (zg [] 1 [4] (zd (m35 _ _ (ze (hQ1 _ _ _ ?_)))))
         obtain rfl := zj h
         exact zf [vb false] (.one (.rfl _ rfl))
        ·exact zs (m24 _ _ (zr (zg [] 2 [0,1,5,7,44,45] (zd (XR.sub (zk [0,1,5,7,44,45]) (ih1 (i64.wrap (x2 + (1 : Int))) h))))))
       obtain ⟨e1, a27, h⟩ := zB h
       obtain ⟨e2, a28, h⟩ := zB h
       obtain ⟨r6, c29, h⟩ := zB h
       rcases zW h with ⟨b30, h⟩ | ⟨b30, h⟩
       ·refine zw 50 [(97, .tp []), (96, .tp []), (95, .tp []), (94, .tp []), (93, .tp []), (92, .tp []), (91, .tp []), (90, .tp []), (89, .tp []), (88, .tp []), (87, vb true), (86, vb true), (85, .tp []), (84, .tp []), (83, .tp []), (82, .tp []), (81, .tp []), (80, .tp []), (79, .tp []), (78, .tp []), (77, .tp []), (76, .tp []), (75, .tp []), (74, vb true), (73, vb true), (72, .tp []), (71, .tp []), (70, .tp []), (69, .tp []), (68, .tp []), (67, .tp []), (66, .tp []), (65, .tp []), (64, .tp []), (63, .tp []), (62, .tp []), (61, .tp []), (60, vb true), (59, vb (!r6)), (58, vb r6), (57, vl eI e2.path), (56, .one (.pv (.rp (eLeaf.els r3.1) x2.toNat 0))), (55, .one (.pv (.rp (eLeaf.els r3.1) x2.toNat 0))), (54, vi x2), (53, vl eLeaf r3.1), (52, vl eI e1.path), (51, .one (.pv (.rp (eLeaf.els r2.1) x2.toNat 0))), (50, .one (.pv (.rp (eLeaf.els r2.1) x2.toNat 0))), (49, vi x2), (48, vl eLeaf r2.1), (0, vl eField p1), (1, vl (eL eValue) p2), (5, vl eLeaf r2.1), (7, vl eLeaf r3.1), (9, vi x2), (44, vi (r2.1.length : Int)), (45, vi x2)] ?_ ?_
        ·refine zyp 10 [(qa2525 e1), (qa2525 e2)] (qa2527 p1 p2 r2 r3 x2 e1 e2) [0 ≤ x2 ∧ x2 < ((eLeaf.els r2.1).length : Int) ∧ elemsOk 6 (eLeaf.els r2.1), (eLeaf.els r2.1)[x2.toNat]? = some (qa2525 e1), 0 ≤ x2 ∧ x2 < ((eLeaf.els r3.1).length : Int) ∧ elemsOk 6 (eLeaf.els r3.1), (eLeaf.els r3.1)[x2.toNat]? = some (qa2525 e2)] (⟨eLeaf.inb a27, (eLeaf.get a27), eLeaf.inb a28, (eLeaf.get a28), trivial⟩) ?_
         refine zya (c_law2_ints _ _ _ c29) (zyv 2 [] [(60, vb (!r6)), (59, vb (!r6)), (58, vb r6), (57, vl eI e2.path), (56, .one (.pv (.rp (eLeaf.els r3.1) x2.toNat 0))), (55, .one (.pv (.rp (eLeaf.els r3.1) x2.toNat 0))), (54, vi x2), (53, vl eLeaf r3.1), (52, vl eI e1.path), (51, .one (.pv (.rp (eLeaf.els r2.1) x2.toNat 0))), (50, .one (.pv (.rp (eLeaf.els r2.1) x2.toNat 0))), (49, vi x2), (48, vl eLeaf r2.1), (0, vl eField p1), (1, vl (eL eValue) p2), (5, vl eLeaf r2.1), (7, vl eLeaf r3.1), (9, vi x2), (44, vi (r2.1.length : Int)), (45, vi x2)] ?_)
         exact DX.eq (fr1 := [(60, vb true), (59, vb (!r6)), (58, vb r6), (57, vl eI e2.path), (56, .one (.pv (.rp (eLeaf.els r3.1) x2.toNat 0))), (55, .one (.pv (.rp (eLeaf.els r3.1) x2.toNat 0))), (54, vi x2), (53, vl eLeaf r3.1), (52, vl eI e1.path), (51, .one (.pv (.rp (eLeaf.els r2.1) x2.toNat 0))), (50, .one (.pv (.rp (eLeaf.els r2.1) x2.toNat 0))), (49, vi x2), (48, vl eLeaf r2.1), (0, vl eField p1), (1, vl (eL eValue) p2), (5, vl eLeaf r2.1), (7, vl eLeaf r3.1), (9, vi x2), (44, vi (r2.1.length : Int)), (45, vi x2)]) (by rw [b30]) (zyg 37 zyd)
        exact zv [] 2 [0,1,5,7,44,45,99] [] [(0, vl eField p1), (1, vl (eL eValue) p2), (5, vl eLeaf r2.1), (7, vl eLeaf r3.1), (44, vi (r2.1.length : Int)), (45, vi x2), (99, vb true)] [] (zd (j2 true h _ _ (zk [0,1,5,7,44,45,99])))
       ·obtain ⟨r7, c31, h⟩ := zB h
        rcases zW h with ⟨b32, h⟩ | ⟨b32, h⟩
        ·refine zw 50 [(97, .tp []), (96, .tp []), (95, .tp []), (94, .tp []), (93, .tp []), (92, .tp []), (91, .tp []), (90, .tp []), (89, .tp []), (88, .tp []), (87, vb true), (86, vb true), (85, .tp []), (84, .tp []), (83, .tp []), (82, .tp []), (81, .tp []), (80, .tp []), (79, .tp []), (78, .tp []), (77, .tp []), (76, .tp []), (75, .tp []), (74, vb true), (73, vb (!r7)), (72, vb (!r7)), (71, vb r7), (70, .ag (qa2529 e2)), (69, .one (.pv (.rp (eLeaf.els r3.1) x2.toNat 1))), (68, .one (.pv (.rp (eLeaf.els r3.1) x2.toNat 0))), (67, vi x2), (66, vl eLeaf r3.1), (65, .ag (qa2529 e1)), (64, .one (.pv (.rp (eLeaf.els r2.1) x2.toNat 1))), (63, .one (.pv (.rp (eLeaf.els r2.1) x2.toNat 0))), (62, vi x2), (61, vl eLeaf r2.1), (60, vb false), (59, vb (!r6)), (58, vb r6), (57, vl eI e2.path), (56, .one (.pv (.rp (eLeaf.els r3.1) x2.toNat 0))), (55, .one (.pv (.rp (eLeaf.els r3.1) x2.toNat 0))), (54, vi x2), (53, vl eLeaf r3.1), (52, vl eI e1.path), (51, .one (.pv (.rp (eLeaf.els r2.1) x2.toNat 0))), (50, .one (.pv (.rp (eLeaf.els r2.1) x2.toNat 0))), (49, vi x2), (48, vl eLeaf r2.1), (0, vl eField p1), (1, vl (eL eValue) p2), (5, vl eLeaf r2.1), (7, vl eLeaf r3.1), (9, vi x2), (44, vi (r2.1.length : Int)), (45, vi x2)] ?_ ?_
         ·refine zyo 10 [(qa2525 e1), (qa2525 e2)] [0 ≤ x2 ∧ x2 < ((eLeaf.els r2.1).length : Int) ∧ elemsOk 6 (eLeaf.els r2.1), (eLeaf.els r2.1)[x2.toNat]? = some (qa2525 e1), 0 ≤ x2 ∧ x2 < ((eLeaf.els r3.1).length : Int) ∧ elemsOk 6 (eLeaf.els r3.1), (eLeaf.els r3.1)[x2.toNat]? = some (qa2525 e2)] (⟨eLeaf.inb a27, (eLeaf.get a27), eLeaf.inb a28, (eLeaf.get a28), trivial⟩) ?_
          refine zya (c_law2_ints _ _ _ c29) (zyv 2 [] [(60, vb (!r6)), (59, vb (!r6)), (58, vb r6), (57, vl eI e2.path), (56, .one (.pv (.rp (eLeaf.els r3.1) x2.toNat 0))), (55, .one (.pv (.rp (eLeaf.els r3.1) x2.toNat 0))), (54, vi x2), (53, vl eLeaf r3.1), (52, vl eI e1.path), (51, .one (.pv (.rp (eLeaf.els r2.1) x2.toNat 0))), (50, .one (.pv (.rp (eLeaf.els r2.1) x2.toNat 0))), (49, vi x2), (48, vl eLeaf r2.1), (0, vl eField p1), (1, vl (eL eValue) p2), (5, vl eLeaf r2.1), (7, vl eLeaf r3.1), (9, vi x2), (44, vi (r2.1.length : Int)), (45, vi x2)] ?_)
          refine DX.eq (fr1 := [(60, vb false), (59, vb (!r6)), (58, vb r6), (57, vl eI e2.path), (56, .one (.pv (.rp (eLeaf.els r3.1) x2.toNat 0))), (55, .one (.pv (.rp (eLeaf.els r3.1) x2.toNat 0))), (54, vi x2), (53, vl eLeaf r3.1), (52, vl eI e1.path), (51, .one (.pv (.rp (eLeaf.els r2.1) x2.toNat 0))), (50, .one (.pv (.rp (eLeaf.els r2.1) x2.toNat 0))), (49, vi x2), (48, vl eLeaf r2.1), (0, vl eField p1), (1, vl (eL eValue) p2), (5, vl eLeaf r2.1), (7, vl eLeaf r3.1), (9, vi x2), (44, vi (r2.1.length : Int)), (45, vi x2)]) (by rw [b30]) ?_
          refine zyo 10 [(qa2525 e1), (qa2525 e2)] [0 ≤ x2 ∧ x2 < ((eLeaf.els r2.1).length : Int) ∧ elemsOk 6 (eLeaf.els r2.1), (eLeaf.els r2.1)[x2.toNat]? = some (qa2525 e1), 0 ≤ x2 ∧ x2 < ((eLeaf.els r3.1).length : Int) ∧ elemsOk 6 (eLeaf.els r3.1), (eLeaf.els r3.1)[x2.toNat]? = some (qa2525 e2)] (⟨eLeaf.inb a27, (eLeaf.get a27), eLeaf.inb a28, (eLeaf.get a28), trivial⟩) ?_
          refine zya (c_ref1_SameType BIG _ _ _ c31) ?_
          refine zyv 3 [] [(74, vb (!r7)), (73, vb (!r7)), (72, vb (!r7)), (71, vb r7), (70, .ag [ci e2.type.kind, ci e2.type.scale, cl eField e2.type.fields]), (69, .one (.pv (.rp (eLeaf.els r3.1) x2.toNat 1))), (68, .one (.pv (.rp (eLeaf.els r3.1) x2.toNat 0))), (67, vi x2), (66, vl eLeaf r3.1), (65, .ag [ci e1.type.kind, ci e1.type.scale, cl eField e1.type.fields]), (64, .one (.pv (.rp (eLeaf.els r2.1) x2.toNat 1))), (63, .one (.pv (.rp (eLeaf.els r2.1) x2.toNat 0))), (62, vi x2), (61, vl eLeaf r2.1), (60, vb false), (59, vb (!r6)), (58, vb r6), (57, vl eI e2.path), (56, .one (.pv (.rp (eLeaf.els r3.1) x2.toNat 0))), (55, .one (.pv (.rp (eLeaf.els r3.1) x2.toNat 0))), (54, vi x2), (53, vl eLeaf r3.1), (52, vl eI e1.path), (51, .one (.pv (.rp (eLeaf.els r2.1) x2.toNat 0))), (50, .one (.pv (.rp (eLeaf.els r2.1) x2.toNat 0))), (49, vi x2), (48, vl eLeaf r2.1), (0, vl eField p1), (1, vl (eL eValue) p2), (5, vl eLeaf r2.1), (7, vl eLeaf r3.1), (9, vi x2), (44, vi (r2.1.length : Int)), (45, vi x2)] ?_
          refine DX.eq (fr1 := [(74, vb true), (73, vb (!r7)), (72, vb (!r7)), (71, vb r7), (70, .ag [ci e2.type.kind, ci e2.type.scale, cl eField e2.type.fields]), (69, .one (.pv (.rp (eLeaf.els r3.1) x2.toNat 1))), (68, .one (.pv (.rp (eLeaf.els r3.1) x2.toNat 0))), (67, vi x2), (66, vl eLeaf r3.1), (65, .ag [ci e1.type.kind, ci e1.type.scale, cl eField e1.type.fields]), (64, .one (.pv (.rp (eLeaf.els r2.1) x2.toNat 1))), (63, .one (.pv (.rp (eLeaf.els r2.1) x2.toNat 0))), (62, vi x2), (61, vl eLeaf r2.1), (60, vb false), (59, vb (!r6)), (58, vb r6), (57, vl eI e2.path), (56, .one (.pv (.rp (eLeaf.els r3.1) x2.toNat 0))), (55, .one (.pv (.rp (eLeaf.els r3.1) x2.toNat 0))), (54, vi x2), (53, vl eLeaf r3.1), (52, vl eI e1.path), (51, .one (.pv (.rp (eLeaf.els r2.1) x2.toNat 0))), (50, .one (.pv (.rp (eLeaf.els r2.1) x2.toNat 0))), (49, vi x2), (48, vl eLeaf r2.1), (0, vl eField p1), (1, vl (eL eValue) p2), (5, vl eLeaf r2.1), (7, vl eLeaf r3.1), (9, vi x2), (44, vi (r2.1.length : Int)), (45, vi x2)]) (by rw [b32]) ?_
          exact zyg 23 zyd
         exact zg [] 2 [0,1,5,7,44,45,99] (zd (j2 true h _ _ (zk [0,1,5,7,44,45,99])))
        ·rcases zW h with ⟨b33, h⟩ | ⟨b33, h⟩
         ·refine zw 50 [(97, .tp []), (96, .tp []), (95, .tp []), (94, .tp []), (93, .tp []), (92, .tp []), (91, .tp []), (90, .tp []), (89, .tp []), (88, .tp []), (87, vb true), (86, vb (e1.df != e2.df)), (85, vb (e1.df != e2.df)), (84, vi e2.df), (83, .one (.pv (.rp (eLeaf.els r3.1) x2.toNat 4))), (82, .one (.pv (.rp (eLeaf.els r3.1) x2.toNat 0))), (81, vi x2), (80, vl eLeaf r3.1), (79, vi e1.df), (78, .one (.pv (.rp (eLeaf.els r2.1) x2.toNat 4))), (77, .one (.pv (.rp (eLeaf.els r2.1) x2.toNat 0))), (76, vi x2), (75, vl eLeaf r2.1), (74, vb false), (73, vb (!r7)), (72, vb (!r7)), (71, vb r7), (70, .ag (qa2529 e2)), (69, .one (.pv (.rp (eLeaf.els r3.1) x2.toNat 1))), (68, .one (.pv (.rp (eLeaf.els r3.1) x2.toNat 0))), (67, vi x2), (66, vl eLeaf r3.1), (65, .ag (qa2529 e1)), (64, .one (.pv (.rp (eLeaf.els r2.1) x2.toNat 1))), (63, .one (.pv (.rp (eLeaf.els r2.1) x2.toNat 0))), (62, vi x2), (61, vl eLeaf r2.1), (60, vb false), (59, vb (!r6)), (58, vb r6), (57, vl eI e2.path), (56, .one (.pv (.rp (eLeaf.els r3.1) x2.toNat 0))), (55, .one (.pv (.rp (eLeaf.els r3.1) x2.toNat 0))), (54, vi x2), (53, vl eLeaf r3.1), (52, vl eI e1.path), (51, .one (.pv (.rp (eLeaf.els r2.1) x2.toNat 0))), (50, .one (.pv (.rp (eLeaf.els r2.1) x2.toNat 0))), (49, vi x2), (48, vl eLeaf r2.1), (0, vl eField p1), (1, vl (eL eValue) p2), (5, vl eLeaf r2.1), (7, vl eLeaf r3.1), (9, vi x2), (44, vi (r2.1.length : Int)), (45, vi x2)] ?_ ?_
          ·refine zyo 10 [(qa2525 e1), (qa2525 e2)] [0 ≤ x2 ∧ x2 < ((eLeaf.els r2.1).length : Int) ∧ elemsOk 6 (eLeaf.els r2.1), (eLeaf.els r2.1)[x2.toNat]? = some (qa2525 e1), 0 ≤ x2 ∧ x2 < ((eLeaf.els r3.1).length : Int) ∧ elemsOk 6 (eLeaf.els r3.1), (eLeaf.els r3.1)[x2.toNat]? = some (qa2525 e2)] (⟨eLeaf.inb a27, (eLeaf.get a27), eLeaf.inb a28, (eLeaf.get a28), trivial⟩) ?_
           refine DX.cal 10 [vl eI e1.path, vl eI e2.path] (vb r6) [(58, vb r6), (57, vl eI e2.path), (56, .one (.pv (.rp (eLeaf.els r3.1) x2.toNat 0))), (55, .one (.pv (.rp (eLeaf.els r3.1) x2.toNat 0))), (54, vi x2), (53, vl eLeaf r3.1), (52, vl eI e1.path), (51, .one (.pv (.rp (eLeaf.els r2.1) x2.toNat 0))), (50, .one (.pv (.rp (eLeaf.els r2.1) x2.toNat 0))), (49, vi x2), (48, vl eLeaf r2.1), (0, vl eField p1), (1, vl (eL eValue) p2), (5, vl eLeaf r2.1), (7, vl eLeaf r3.1), (9, vi x2), (44, vi (r2.1.length : Int)), (45, vi x2)] (by kernel_rfl) (c_law2_ints _ _ _ c29) rfl rfl (by kernel_rfl) ?_
           refine zyv 2 [] [(60, vb (!r6)), (59, vb (!r6)), (58, vb r6), (57, vl eI e2.path), (56, .one (.pv (.rp (eLeaf.els r3.1) x2.toNat 0))), (55, .one (.pv (.rp (eLeaf.els r3.1) x2.toNat 0))), (54, vi x2), (53, vl eLeaf r3.1), (52, vl eI e1.path), (51, .one (.pv (.rp (eLeaf.els r2.1) x2.toNat 0))), (50, .one (.pv (.rp (eLeaf.els r2.1) x2.toNat 0))), (49, vi x2), (48, vl eLeaf r2.1), (0, vl eField p1), (1, vl (eL eValue) p2), (5, vl eLeaf r2.1), (7, vl eLeaf r3.1), (9, vi x2), (44, vi (r2.1.length : Int)), (45, vi x2)] ?_
           refine DX.eq (fr1 := [(60, vb false), (59, vb (!r6)), (58, vb r6), (57, vl eI e2.path), (56, .one (.pv (.rp (eLeaf.els r3.1) x2.toNat 0))), (55, .one (.pv (.rp (eLeaf.els r3.1) x2.toNat 0))), (54, vi x2), (53, vl eLeaf r3.1), (52, vl eI e1.path), (51, .one (.pv (.rp (eLeaf.els r2.1) x2.toNat 0))), (50, .one (.pv (.rp (eLeaf.els r2.1) x2.toNat 0))), (49, vi x2), (48, vl eLeaf r2.1), (0, vl eField p1), (1, vl (eL eValue) p2), (5, vl eLeaf r2.1), (7, vl eLeaf r3.1), (9, vi x2), (44, vi (r2.1.length : Int)), (45, vi x2)]) (by rw [b30]) ?_
           refine zyo 10 [(qa2525 e1), (qa2525 e2)] [0 ≤ x2 ∧ x2 < ((eLeaf.els r2.1).length : Int) ∧ elemsOk 6 (eLeaf.els r2.1), (eLeaf.els r2.1)[x2.toNat]? = some (qa2525 e1), 0 ≤ x2 ∧ x2 < ((eLeaf.els r3.1).length : Int) ∧ elemsOk 6 (eLeaf.els r3.1), (eLeaf.els r3.1)[x2.toNat]? = some (qa2525 e2)] (⟨eLeaf.inb a27, (eLeaf.get a27), eLeaf.inb a28, (eLeaf.get a28), trivial⟩) ?_
           refine zya (c_ref1_SameType BIG _ _ _ c31) ?_
           refine zyv 3 [] [(74, vb (!r7)), (73, vb (!r7)), (72, vb (!r7)), (71, vb r7), (70, .ag [ci e2.type.kind, ci e2.type.scale, cl eField e2.type.fields]), (69, .one (.pv (.rp (eLeaf.els r3.1) x2.toNat 1))), (68, .one (.pv (.rp (eLeaf.els r3.1) x2.toNat 0))), (67, vi x2), (66, vl eLeaf r3.1), (65, .ag [ci e1.type.kind, ci e1.type.scale, cl eField e1.type.fields]), (64, .one (.pv (.rp (eLeaf.els r2.1) x2.toNat 1))), (63, .one (.pv (.rp (eLeaf.els r2.1) x2.toNat 0))), (62, vi x2), (61, vl eLeaf r2.1), (60, vb false), (59, vb (!r6)), (58, vb r6), (57, vl eI e2.path), (56, .one (.pv (.rp (eLeaf.els r3.1) x2.toNat 0))), (55, .one (.pv (.rp (eLeaf.els r3.1) x2.toNat 0))), (54, vi x2), (53, vl eLeaf r3.1), (52, vl eI e1.path), (51, .one (.pv (.rp (eLeaf.els r2.1) x2.toNat 0))), (50, .one (.pv (.rp (eLeaf.els r2.1) x2.toNat 0))), (49, vi x2), (48, vl eLeaf r2.1), (0, vl eField p1), (1, vl (eL eValue) p2), (5, vl eLeaf r2.1), (7, vl eLeaf r3.1), (9, vi x2), (44, vi (r2.1.length : Int)), (45, vi x2)] ?_
           refine DX.eq (fr1 := [(74, vb false), (73, vb (!r7)), (72, vb (!r7)), (71, vb r7), (70, .ag [ci e2.type.kind, ci e2.type.scale, cl eField e2.type.fields]), (69, .one (.pv (.rp (eLeaf.els r3.1) x2.toNat 1))), (68, .one (.pv (.rp (eLeaf.els r3.1) x2.toNat 0))), (67, vi x2), (66, vl eLeaf r3.1), (65, .ag [ci e1.type.kind, ci e1.type.scale, cl eField e1.type.fields]), (64, .one (.pv (.rp (eLeaf.els r2.1) x2.toNat 1))), (63, .one (.pv (.rp (eLeaf.els r2.1) x2.toNat 0))), (62, vi x2), (61, vl eLeaf r2.1), (60, vb false), (59, vb (!r6)), (58, vb r6), (57, vl eI e2.path), (56, .one (.pv (.rp (eLeaf.els r3.1) x2.toNat 0))), (55, .one (.pv (.rp (eLeaf.els r3.1) x2.toNat 0))), (54, vi x2), (53, vl eLeaf r3.1), (52, vl eI e1.path), (51, .one (.pv (.rp (eLeaf.els r2.1) x2.toNat 0))), (50, .one (.pv (.rp (eLeaf.els r2.1) x2.toNat 0))), (49, vi x2), (48, vl eLeaf r2.1), (0, vl eField p1), (1, vl (eL eValue) p2), (5, vl eLeaf r2.1), (7, vl eLeaf r3.1), (9, vi x2), (44, vi (r2.1.length : Int)), (45, vi x2)]) (by rw [b32]) ?_
           refine zyp 13 [[.ro (eI.els e1.path), pi e1.type.kind, pi e1.type.scale, .ro (eField.els e1.type.fields), pi e1.df, pi e1.rep], [.ro (eI.els e2.path), pi e2.type.kind, pi e2.type.scale, .ro (eField.els e2.type.fields), pi e2.df, pi e2.rep]] [(87, vb (e1.df != e2.df)), (86, vb (e1.df != e2.df)), (85, vb (e1.df != e2.df)), (84, vi e2.df), (83, .one (.pv (.rp (eLeaf.els r3.1) x2.toNat 4))), (82, .one (.pv (.rp (eLeaf.els r3.1) x2.toNat 0))), (81, vi x2), (80, vl eLeaf r3.1), (79, vi e1.df), (78, .one (.pv (.rp (eLeaf.els r2.1) x2.toNat 4))), (77, .one (.pv (.rp (eLeaf.els r2.1) x2.toNat 0))), (76, vi x2), (75, vl eLeaf r2.1), (74, vb false), (73, vb (!r7)), (72, vb (!r7)), (71, vb r7), (70, .ag [ci e2.type.kind, ci e2.type.scale, cl eField e2.type.fields]), (69, .one (.pv (.rp (eLeaf.els r3.1) x2.toNat 1))), (68, .one (.pv (.rp (eLeaf.els r3.1) x2.toNat 0))), (67, vi x2), (66, vl eLeaf r3.1), (65, .ag [ci e1.type.kind, ci e1.type.scale, cl eField e1.type.fields]), (64, .one (.pv (.rp (eLeaf.els r2.1) x2.toNat 1))), (63, .one (.pv (.rp (eLeaf.els r2.1) x2.toNat 0))), (62, vi x2), (61, vl eLeaf r2.1), (60, vb false), (59, vb (!r6)), (58, vb r6), (57, vl eI e2.path), (56, .one (.pv (.rp (eLeaf.els r3.1) x2.toNat 0))), (55, .one (.pv (.rp (eLeaf.els r3.1) x2.toNat 0))), (54, vi x2), (53, vl eLeaf r3.1), (52, vl eI e1.path), (51, .one (.pv (.rp (eLeaf.els r2.1) x2.toNat 0))), (50, .one (.pv (.rp (eLeaf.els r2.1) x2.toNat 0))), (49, vi x2), (48, vl eLeaf r2.1), (0, vl eField p1), (1, vl (eL eValue) p2), (5, vl eLeaf r2.1), (7, vl eLeaf r3.1), (9, vi x2), (44, vi (r2.1.length : Int)), (45, vi x2)] [0 ≤ x2 ∧ x2 < ((eLeaf.els r2.1).length : Int) ∧ elemsOk 6 (eLeaf.els r2.1), (eLeaf.els r2.1)[x2.toNat]? = some [.ro (eI.els e1.path), pi e1.type.kind, pi e1.type.scale, .ro (eField.els e1.type.fields), pi e1.df, pi e1.rep], 0 ≤ x2 ∧ x2 < ((eLeaf.els r3.1).length : Int) ∧ elemsOk 6 (eLeaf.els r3.1), (eLeaf.els r3.1)[x2.toNat]? = some [.ro (eI.els e2.path), pi e2.type.kind, pi e2.type.scale, .ro (eField.els e2.type.fields), pi e2.df, pi e2.rep]] (⟨eLeaf.inb a27, (eLeaf.get a27), eLeaf.inb a28, (eLeaf.get a28), trivial⟩) ?_
           refine DX.eq (fr1 := [(87, vb true), (86, vb (e1.df != e2.df)), (85, vb (e1.df != e2.df)), (84, vi e2.df), (83, .one (.pv (.rp (eLeaf.els r3.1) x2.toNat 4))), (82, .one (.pv (.rp (eLeaf.els r3.1) x2.toNat 0))), (81, vi x2), (80, vl eLeaf r3.1), (79, vi e1.df), (78, .one (.pv (.rp (eLeaf.els r2.1) x2.toNat 4))), (77, .one (.pv (.rp (eLeaf.els r2.1) x2.toNat 0))), (76, vi x2), (75, vl eLeaf r2.1), (74, vb false), (73, vb (!r7)), (72, vb (!r7)), (71, vb r7), (70, .ag [ci e2.type.kind, ci e2.type.scale, cl eField e2.type.fields]), (69, .one (.pv (.rp (eLeaf.els r3.1) x2.toNat 1))), (68, .one (.pv (.rp (eLeaf.els r3.1) x2.toNat 0))), (67, vi x2), (66, vl eLeaf r3.1), (65, .ag [ci e1.type.kind, ci e1.type.scale, cl eField e1.type.fields]), (64, .one (.pv (.rp (eLeaf.els r2.1) x2.toNat 1))), (63, .one (.pv (.rp (eLeaf.els r2.1) x2.toNat 0))), (62, vi x2), (61, vl eLeaf r2.1), (60, vb false), (59, vb (!r6)), (58, vb r6), (57, vl eI e2.path), (56, .one (.pv (.rp (eLeaf.els r3.1) x2.toNat 0))), (55, .one (.pv (.rp (eLeaf.els r3.1) x2.toNat 0))), (54, vi x2), (53, vl eLeaf r3.1), (52, vl eI e1.path), (51, .one (.pv (.rp (eLeaf.els r2.1) x2.toNat 0))), (50, .one (.pv (.rp (eLeaf.els r2.1) x2.toNat 0))), (49, vi x2), (48, vl eLeaf r2.1), (0, vl eField p1), (1, vl (eL eValue) p2), (5, vl eLeaf r2.1), (7, vl eLeaf r3.1), (9, vi x2), (44, vi (r2.1.length : Int)), (45, vi x2)]) (by rw [b33]) ?_
           exact zyg 10 zyd
          exact zg [] 2 [0,1,5,7,44,45,99] (zd (j2 true h _ _ (zk [0,1,5,7,44,45,99])))
         ·refine zw 50 [(97, vi e2.rep), (96, .one (.pv (.rp (eLeaf.els r3.1) x2.toNat 5))), (95, .one (.pv (.rp (eLeaf.els r3.1) x2.toNat 0))), (94, vi x2), (93, vl eLeaf r3.1), (92, vi e1.rep), (91, .one (.pv (.rp (eLeaf.els r2.1) x2.toNat 5))), (90, .one (.pv (.rp (eLeaf.els r2.1) x2.toNat 0))), (89, vi x2), (88, vl eLeaf r2.1), (87, vb false), (86, vb (e1.df != e2.df)), (85, vb (e1.df != e2.df)), (84, vi e2.df), (83, .one (.pv (.rp (eLeaf.els r3.1) x2.toNat 4))), (82, .one (.pv (.rp (eLeaf.els r3.1) x2.toNat 0))), (81, vi x2), (80, vl eLeaf r3.1), (79, vi e1.df), (78, .one (.pv (.rp (eLeaf.els r2.1) x2.toNat 4))), (77, .one (.pv (.rp (eLeaf.els r2.1) x2.toNat 0))), (76, vi x2), (75, vl eLeaf r2.1), (74, vb false), (73, vb (!r7)), (72, vb (!r7)), (71, vb r7), (70, .ag (qa2529 e2)), (69, .one (.pv (.rp (eLeaf.els r3.1) x2.toNat 1))), (68, .one (.pv (.rp (eLeaf.els r3.1) x2.toNat 0))), (67, vi x2), (66, vl eLeaf r3.1), (65, .ag (qa2529 e1)), (64, .one (.pv (.rp (eLeaf.els r2.1) x2.toNat 1))), (63, .one (.pv (.rp (eLeaf.els r2.1) x2.toNat 0))), (62, vi x2), (61, vl eLeaf r2.1), (60, vb false), (59, vb (!r6)), (58, vb r6), (57, vl eI e2.path), (56, .one (.pv (.rp (eLeaf.els r3.1) x2.toNat 0))), (55, .one (.pv (.rp (eLeaf.els r3.1) x2.toNat 0))), (54, vi x2), (53, vl eLeaf r3.1), (52, vl eI e1.path), (51, .one (.pv (.rp (eLeaf.els r2.1) x2.toNat 0))), (50, .one (.pv (.rp (eLeaf.els r2.1) x2.toNat 0))), (49, vi x2), (48, vl eLeaf r2.1), (0, vl eField p1), (1, vl (eL eValue) p2), (5, vl eLeaf r2.1), (7, vl eLeaf r3.1), (9, vi x2), (44, vi (r2.1.length : Int)), (45, vi x2)] ?_ ?_
          ·refine zyp 10 [(qa2525 e1), (qa2525 e2)] (qa2527 p1 p2 r2 r3 x2 e1 e2) [0 ≤ x2 ∧ x2 < ((eLeaf.els r2.1).length : Int) ∧ elemsOk 6 (eLeaf.els r2.1), (eLeaf.els r2.1)[x2.toNat]? = some (qa2525 e1), 0 ≤ x2 ∧ x2 < ((eLeaf.els r3.1).length : Int) ∧ elemsOk 6 (eLeaf.els r3.1), (eLeaf.els r3.1)[x2.toNat]? = some (qa2525 e2)] (⟨eLeaf.inb a27, (eLeaf.get a27), eLeaf.inb a28, (eLeaf.get a28), trivial⟩) ?_
           refine zya (c_law2_ints _ _ _ c29) (zyv 2 [] [(60, vb (!r6)), (59, vb (!r6)), (58, vb r6), (57, vl eI e2.path), (56, .one (.pv (.rp (eLeaf.els r3.1) x2.toNat 0))), (55, .one (.pv (.rp (eLeaf.els r3.1) x2.toNat 0))), (54, vi x2), (53, vl eLeaf r3.1), (52, vl eI e1.path), (51, .one (.pv (.rp (eLeaf.els r2.1) x2.toNat 0))), (50, .one (.pv (.rp (eLeaf.els r2.1) x2.toNat 0))), (49, vi x2), (48, vl eLeaf r2.1), (0, vl eField p1), (1, vl (eL eValue) p2), (5, vl eLeaf r2.1), (7, vl eLeaf r3.1), (9, vi x2), (44, vi (r2.1.length : Int)), (45, vi x2)] ?_)
           refine DX.eq (fr1 := [(60, vb false), (59, vb (!r6)), (58, vb r6), (57, vl eI e2.path), (56, .one (.pv (.rp (eLeaf.els r3.1) x2.toNat 0))), (55, .one (.pv (.rp (eLeaf.els r3.1) x2.toNat 0))), (54, vi x2), (53, vl eLeaf r3.1), (52, vl eI e1.path), (51, .one (.pv (.rp (eLeaf.els r2.1) x2.toNat 0))), (50, .one (.pv (.rp (eLeaf.els r2.1) x2.toNat 0))), (49, vi x2), (48, vl eLeaf r2.1), (0, vl eField p1), (1, vl (eL eValue) p2), (5, vl eLeaf r2.1), (7, vl eLeaf r3.1), (9, vi x2), (44, vi (r2.1.length : Int)), (45, vi x2)]) (by rw [b30]) ?_
           refine zyo 10 [(qa2525 e1), (qa2525 e2)] [0 ≤ x2 ∧ x2 < ((eLeaf.els r2.1).length : Int) ∧ elemsOk 6 (eLeaf.els r2.1), (eLeaf.els r2.1)[x2.toNat]? = some (qa2525 e1), 0 ≤ x2 ∧ x2 < ((eLeaf.els r3.1).length : Int) ∧ elemsOk 6 (eLeaf.els r3.1), (eLeaf.els r3.1)[x2.toNat]? = some (qa2525 e2)] (⟨eLeaf.inb a27, (eLeaf.get a27), eLeaf.inb a28, (eLeaf.get a28), trivial⟩) ?_
           refine zya (c_ref1_SameType BIG _ _ _ c31) ?_
           refine zyv 3 [] [(74, vb (!r7)), (73, vb (!r7)), (72, vb (!r7)), (71, vb r7), (70, .ag [ci e2.type.kind, ci e2.type.scale, cl eField e2.type.fields]), (69, .one (.pv (.rp (eLeaf.els r3.1) x2.toNat 1))), (68, .one (.pv (.rp (eLeaf.els r3.1) x2.toNat 0))), (67, vi x2), (66, vl eLeaf r3.1), (65, .ag [ci e1.type.kind, ci e1.type.scale, cl eField e1.type.fields]), (64, .one (.pv (.rp (eLeaf.els r2.1) x2.toNat 1))), (63, .one (.pv (.rp (eLeaf.els r2.1) x2.toNat 0))), (62, vi x2), (61, vl eLeaf r2.1), (60, vb false), (59, vb (!r6)), (58, vb r6), (57, vl eI e2.path), (56, .one (.pv (.rp (eLeaf.els r3.1) x2.toNat 0))), (55, .one (.pv (.rp (eLeaf.els r3.1) x2.toNat 0))), (54, vi x2), (53, vl eLeaf r3.1), (52, vl eI e1.path), (51, .one (.pv (.rp (eLeaf.els r2.1) x2.toNat 0))), (50, .one (.pv (.rp (eLeaf.els r2.1) x2.toNat 0))), (49, vi x2), (48, vl eLeaf r2.1), (0, vl eField p1), (1, vl (eL eValue) p2), (5, vl eLeaf r2.1), (7, vl eLeaf r3.1), (9, vi x2), (44, vi (r2.1.length : Int)), (45, vi x2)] ?_
           refine DX.eq (fr1 := [(74, vb false), (73, vb (!r7)), (72, vb (!r7)), (71, vb r7), (70, .ag [ci e2.type.kind, ci e2.type.scale, cl eField e2.type.fields]), (69, .one (.pv (.rp (eLeaf.els r3.1) x2.toNat 1))), (68, .one (.pv (.rp (eLeaf.els r3.1) x2.toNat 0))), (67, vi x2), (66, vl eLeaf r3.1), (65, .ag [ci e1.type.kind, ci e1.type.scale, cl eField e1.type.fields]), (64, .one (.pv (.rp (eLeaf.els r2.1) x2.toNat 1))), (63, .one (.pv (.rp (eLeaf.els r2.1) x2.toNat 0))), (62, vi x2), (61, vl eLeaf r2.1), (60, vb false), (59, vb (!r6)), (58, vb r6), (57, vl eI e2.path), (56, .one (.pv (.rp (eLeaf.els r3.1) x2.toNat 0))), (55, .one (.pv (.rp (eLeaf.els r3.1) x2.toNat 0))), (54, vi x2), (53, vl eLeaf r3.1), (52, vl eI e1.path), (51, .one (.pv (.rp (eLeaf.els r2.1) x2.toNat 0))), (50, .one (.pv (.rp (eLeaf.els r2.1) x2.toNat 0))), (49, vi x2), (48, vl eLeaf r2.1), (0, vl eField p1), (1, vl (eL eValue) p2), (5, vl eLeaf r2.1), (7, vl eLeaf r3.1), (9, vi x2), (44, vi (r2.1.length : Int)), (45, vi x2)]) (by rw [b32]) ?_
           refine zyp 13 [[.ro (eI.els e1.path), pi e1.type.kind, pi e1.type.scale, .ro (eField.els e1.type.fields), pi e1.df, pi e1.rep], [.ro (eI.els e2.path), pi e2.type.kind, pi e2.type.scale, .ro (eField.els e2.type.fields), pi e2.df, pi e2.rep]] [(87, vb (e1.df != e2.df)), (86, vb (e1.df != e2.df)), (85, vb (e1.df != e2.df)), (84, vi e2.df), (83, .one (.pv (.rp (eLeaf.els r3.1) x2.toNat 4))), (82, .one (.pv (.rp (eLeaf.els r3.1) x2.toNat 0))), (81, vi x2), (80, vl eLeaf r3.1), (79, vi e1.df), (78, .one (.pv (.rp (eLeaf.els r2.1) x2.toNat 4))), (77, .one (.pv (.rp (eLeaf.els r2.1) x2.toNat 0))), (76, vi x2), (75, vl eLeaf r2.1), (74, vb false), (73, vb (!r7)), (72, vb (!r7)), (71, vb r7), (70, .ag [ci e2.type.kind, ci e2.type.scale, cl eField e2.type.fields]), (69, .one (.pv (.rp (eLeaf.els r3.1) x2.toNat 1))), (68, .one (.pv (.rp (eLeaf.els r3.1) x2.toNat 0))), (67, vi x2), (66, vl eLeaf r3.1), (65, .ag [ci e1.type.kind, ci e1.type.scale, cl eField e1.type.fields]), (64, .one (.pv (.rp (eLeaf.els r2.1) x2.toNat 1))), (63, .one (.pv (.rp (eLeaf.els r2.1) x2.toNat 0))), (62, vi x2), (61, vl eLeaf r2.1), (60, vb false), (59, vb (!r6)), (58, vb r6), (57, vl eI e2.path), (56, .one (.pv (.rp (eLeaf.els r3.1) x2.toNat 0))), (55, .one (.pv (.rp (eLeaf.els r3.1) x2.toNat 0))), (54, vi x2), (53, vl eLeaf r3.1), (52, vl eI e1.path), (51, .one (.pv (.rp (eLeaf.els r2.1) x2.toNat 0))), (50, .one (.pv (.rp (eLeaf.els r2.1) x2.toNat 0))), (49, vi x2), (48, vl eLeaf r2.1), (0, vl eField p1), (1, vl (eL eValue) p2), (5, vl eLeaf r2.1), (7, vl eLeaf r3.1), (9, vi x2), (44, vi (r2.1.length : Int)), (45, vi x2)] [0 ≤ x2 ∧ x2 < ((eLeaf.els r2.1).length : Int) ∧ elemsOk 6 (eLeaf.els r2.1), (eLeaf.els r2.1)[x2.toNat]? = some [.ro (eI.els e1.path), pi e1.type.kind, pi e1.type.scale, .ro (eField.els e1.type.fields), pi e1.df, pi e1.rep], 0 ≤ x2 ∧ x2 < ((eLeaf.els r3.1).length : Int) ∧ elemsOk 6 (eLeaf.els r3.1), (eLeaf.els r3.1)[x2.toNat]? = some [.ro (eI.els e2.path), pi e2.type.kind, pi e2.type.scale, .ro (eField.els e2.type.fields), pi e2.df, pi e2.rep]] (⟨eLeaf.inb a27, (eLeaf.get a27), eLeaf.inb a28, (eLeaf.get a28), trivial⟩) ?_
           refine DX.eq (fr1 := [(87, vb false), (86, vb (e1.df != e2.df)), (85, vb (e1.df != e2.df)), (84, vi e2.df), (83, .one (.pv (.rp (eLeaf.els r3.1) x2.toNat 4))), (82, .one (.pv (.rp (eLeaf.els r3.1) x2.toNat 0))), (81, vi x2), (80, vl eLeaf r3.1), (79, vi e1.df), (78, .one (.pv (.rp (eLeaf.els r2.1) x2.toNat 4))), (77, .one (.pv (.rp (eLeaf.els r2.1) x2.toNat 0))), (76, vi x2), (75, vl eLeaf r2.1), (74, vb false), (73, vb (!r7)), (72, vb (!r7)), (71, vb r7), (70, .ag [ci e2.type.kind, ci e2.type.scale, cl eField e2.type.fields]), (69, .one (.pv (.rp (eLeaf.els r3.1) x2.toNat 1))), (68, .one (.pv (.rp (eLeaf.els r3.1) x2.toNat 0))), (67, vi x2), (66, vl eLeaf r3.1), (65, .ag [ci e1.type.kind, ci e1.type.scale, cl eField e1.type.fields]), (64, .one (.pv (.rp (eLeaf.els r2.1) x2.toNat 1))), (63, .one (.pv (.rp (eLeaf.els r2.1) x2.toNat 0))), (62, vi x2), (61, vl eLeaf r2.1), (60, vb false), (59, vb (!r6)), (58, vb r6), (57, vl eI e2.path), (56, .one (.pv (.rp (eLeaf.els r3.1) x2.toNat 0))), (55, .one (.pv (.rp (eLeaf.els r3.1) x2.toNat 0))), (54, vi x2), (53, vl eLeaf r3.1), (52, vl eI e1.path), (51, .one (.pv (.rp (eLeaf.els r2.1) x2.toNat 0))), (50, .one (.pv (.rp (eLeaf.els r2.1) x2.toNat 0))), (49, vi x2), (48, vl eLeaf r2.1), (0, vl eField p1), (1, vl (eL eValue) p2), (5, vl eLeaf r2.1), (7, vl eLeaf r3.1), (9, vi x2), (44, vi (r2.1.length : Int)), (45, vi x2)]) (by rw [b33]) ?_
           refine zyo 10 [(qa2525 e1), (qa2525 e2)] [0 ≤ x2 ∧ x2 < ((eLeaf.els r2.1).length : Int) ∧ elemsOk 6 (eLeaf.els r2.1), (eLeaf.els r2.1)[x2.toNat]? = some (qa2525 e1), 0 ≤ x2 ∧ x2 < ((eLeaf.els r3.1).length : Int) ∧ elemsOk 6 (eLeaf.els r3.1), (eLeaf.els r3.1)[x2.toNat]? = some (qa2525 e2)] (⟨eLeaf.inb a27, (eLeaf.get a27), eLeaf.inb a28, (eLeaf.get a28), trivial⟩) ?_
           exact zyd
          exact zv [] 2 [0,1,5,7,44,45,99] [] [(0, vl eField p1), (1, vl (eL eValue) p2), (5, vl eLeaf r2.1), (7, vl eLeaf r3.1), (44, vi (r2.1.length : Int)), (45, vi x2), (99, vb (e1.rep != e2.rep))] [] (zd (j2 (e1.rep != e2.rep) h _ _ (zk [0,1,5,7,44,45,99])))
      ·exact zx 0 (hQ1 _ _ _ (j3 () h _ _ (zk [0,1])))
    exact XR.sub (zk [0,1,5,7,44,45]) (hL1 BIG (0 : Int) h)
  rcases zW h with ⟨b13, h⟩ | ⟨b13, h⟩
  ·exact zr (zg [] 4 [0,1,5,7,27] (zt 27 b13 (zv [] 15 [0,1,5,7,42] [] [(0, vl eField p1), (1, vl (eL eValue) p2), (5, vl eLeaf r2.1), (7, vl eLeaf r3.1), (42, vb true)] [] (zd (j1 true h _ _ (zk [0,1,5,7,42]))))))
  ·rcases zW h with ⟨b14, h⟩ | ⟨b14, h⟩
   ·refine zr (zg [] 4 [0,1,5,7,27] (zt 27 b13 (zv [] 2 [0,1,5,7,27,29] [] [(0, vl eField p1), (1, vl (eL eValue) p2), (5, vl eLeaf r2.1), (7, vl eLeaf r3.1), (27, vb false), (29, vi ((eLeaf.els r2.1).length : Int))] [] ?_)))
    rw [eLeaf.len r2.1]
    refine zv [] 2 [0,1,5,7,27,29,31] [] [(0, vl eField p1), (1, vl (eL eValue) p2), (5, vl eLeaf r2.1), (7, vl eLeaf r3.1), (27, vb false), (29, vi (r2.1.length : Int)), (31, vi ((eLeaf.els r3.1).length : Int))] [] ?_
    rw [eLeaf.len r3.1]
    exact zg [] 3 [0,1,5,7,34] (zt 34 b14 (zg [] 8 [0,1,5,7,42] (zd (j1 true h _ _ (zk [0,1,5,7,42])))))
   ·obtain ⟨r4, c15, h⟩ := zB h
    obtain ⟨r5, c16, h⟩ := zB h
    refine zr (zv [] 4 [0,1,5,7,27] [] [(0, vl eField p1), (1, vl (eL eValue) p2), (5, vl eLeaf r2.1), (7, vl eLeaf r3.1), (27, vb (r2.2 != r3.2))] [] (zt 27 b13 (zv [] 2 [0,1,5,7,27,29] [] [(0, vl eField p1), (1, vl (eL eValue) p2), (5, vl eLeaf r2.1), (7, vl eLeaf r3.1), (27, vb false), (29, vi ((eLeaf.els r2.1).length : Int))] [] ?_)))
    rw [eLeaf.len r2.1]
    refine zv [] 2 [0,1,5,7,27,29,31] [] [(0, vl eField p1), (1, vl (eL eValue) p2), (5, vl eLeaf r2.1), (7, vl eLeaf r3.1), (27, vb false), (29, vi (r2.1.length : Int)), (31, vi ((eLeaf.els r3.1).length : Int))] [] ?_
    rw [eLeaf.len r3.1]
    refine zg [] 3 [0,1,5,7,34] (zt 34 b14 (zg [] 2 [0,1,5,7,34,35,36] (zl 8 [vl eField p1, vl (eL eValue) p2] (vi r4) [(37, vi r4), (0, vl eField p1), (1, vl (eL eValue) p2), (5, vl eLeaf r2.1), (7, vl eLeaf r3.1), (34, vb false), (35, vl eField p1), (36, vl (eL eValue) p2)] (c_column_CheckRows _ _ _ c15) (zg [] 2 [0,1,5,7,34,37,38,39] (za (c_ref2_CheckRows _ _ _ c16) (zv [] 2 [0,1,5,7,42] [] [(0, vl eField p1), (1, vl (eL eValue) p2), (5, vl eLeaf r2.1), (7, vl eLeaf r3.1), (42, vb (r4 != r5))] [] (zd ?_)))))))
    exact j1 (r4 != r5) h _ _ (zk [0,1,5,7,42])
end Go.Proofs.YtmaemlebpjnmoaaDoor
