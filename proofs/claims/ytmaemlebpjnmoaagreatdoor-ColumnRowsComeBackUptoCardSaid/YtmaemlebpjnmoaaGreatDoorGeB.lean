/- Printed by a program: what the functions compute, and the proofs of their contracts. -/
import Derived.Test.YtmaemlebpjnmoaaGreatDoorGeA
set_option linter.unusedVariables false
set_option linter.unusedSimpArgs false
set_option linter.unnecessarySimpa false
namespace Go.Proofs.YtmaemlebpjnmoaaGreatDoor
open Go.SX Go
open Go.IntKind (i64 u64 u8 i32 u32)
set_option maxRecDepth 100000
set_option maxHeartbeats 8000000
def dx (q_column_shredder_put : ac → Int → Int → Int → Int → bl → Option (Unit × bl)) (rec1 : List Int → List Int → List ac → List Int → Int → Int → List ah → Int → Int → List ah → List Int → Int → Int → Option (Unit × bl)) (p2 p5 x1 : Int) (l1 l2 : List Int) (l3 : List ac) (z1 : List Int) (z2 z3 : Int) (z4 : List ah) (z5 z6 : Int) (z7 : List ah) (z8 : List Int) (x3 : Int) (e2 : ac) (x4 : Int) : Option (Unit × bl) := aT (q_column_shredder_put e2 (i64.wrap (p2 + 1)) x4 (i64.wrap (x1 + 1)) (i64.wrap (p5 + 1)) (bl.mk (bc.mk (iu.mk z1 (aw.mk z2 z3 z4) z5 z6) z7 z8) (ak.mk l1 l2 l3))) fun r3 => rec1 r3.2.c.reps r3.2.c.defs r3.2.c.values r3.2.p.leaf.path r3.2.p.leaf.type.kind r3.2.p.leaf.type.scale r3.2.p.leaf.type.fields r3.2.p.leaf.df r3.2.p.leaf.rep r3.2.p.fields r3.2.p.pos x4 (i64.wrap (x3 + 1))
def bB (q_column_shredder_put : ac → Int → Int → Int → Int → bl → Option (Unit × bl)) (p1 : ac) (p2 p5 x1 : Int) : Nat → List Int → List Int → List ac → List Int → Int → Int → List ah → Int → Int → List ah → List Int → Int → Int → Option (Unit × bl)
 | 0, _, _, _, _, _, _, _, _, _, _, _, _, _ => none
 | k1 + 1, l1, l2, l3, z1, z2, z3, z4, z5, z6, z7, z8, x2, x3 => aI (decide (x3 < (p1.items.length : Int))) (aT (at? p1.items x3) fun e2 => aI (decide ((0 : Int) < x3)) (dx q_column_shredder_put (bB q_column_shredder_put p1 p2 p5 x1 k1) p2 p5 x1 l1 l2 l3 z1 z2 z3 z4 z5 z6 z7 z8 x3 e2 (i64.wrap (p5 + 1))) (dx q_column_shredder_put (bB q_column_shredder_put p1 p2 p5 x1 k1) p2 p5 x1 l1 l2 l3 z1 z2 z3 z4 z5 z6 z7 z8 x3 e2 x2)) (some ((), (bl.mk (bc.mk (iu.mk z1 (aw.mk z2 z3 z4) z5 z6) z7 z8) (ak.mk l1 l2 l3))))
def dr (q_column_shredder_put : ac → Int → Int → Int → Int → bl → Option (Unit × bl)) (p1 : ac) (p2 p3 p5 : Int) (p6 : bl) (e1 : ah) (x1 : Int) : Option (Unit × bl) := aI (e1.type.kind == 6) (aI ((p1.items.length : Int) == 0) (aT (cV p3 x1 p6) fun r2 => some ((), r2.2)) (bB q_column_shredder_put p1 p2 p5 x1 bf p6.c.reps p6.c.defs p6.c.values p6.p.leaf.path p6.p.leaf.type.kind p6.p.leaf.type.scale p6.p.leaf.type.fields p6.p.leaf.df p6.p.leaf.rep p6.p.fields p6.p.pos p3 (0 : Int))) (aI (e1.type.kind == 7) (aT (at? p6.p.pos (i64.wrap (p2 + 1))) fun e3 => aT (at? p1.items e3) fun e4 => aT (q_column_shredder_put e4 (i64.wrap (p2 + 1)) p3 x1 p5 p6) fun r4 => some ((), r4.2)) (aT (cV p3 x1 p6) fun r5 => fL (r5.2.c.values.length + 1 ≤ 4294967296) <| aT (at? (r5.2.c.values ++ [(ac.mk (0 : Int) (0 : Int) (0 : Int) (ByteArray.mk #[]) [])]) ((r5.2.c.values.length : Nat) : Int)) fun e5 => some ((), (bl.mk r5.2.p (ak.mk r5.2.c.reps r5.2.c.defs ((r5.2.c.values ++ [(ac.mk (0 : Int) (0 : Int) (0 : Int) (ByteArray.mk #[]) [])]).set ((r5.2.c.values.length : Nat) : Int).toNat p1))))))
def aU : Nat → ac → Int → Int → Int → Int → bl → Option (Unit × bl)
 | 0, _, _, _, _, _, _ => none
 | k0 + 1, p1, p2, p3, p4, p5, p6 => aT (at? p6.p.fields p2) fun e1 => aI (!e1.need) (aI (p1.kind == 0) (aT (cV p3 p4 p6) fun r1 => some ((), r1.2)) (dr (aU k0) p1 p2 p3 p5 p6 e1 (i64.wrap (p4 + 1)))) (dr (aU k0) p1 p2 p3 p5 p6 e1 p4)
abbrev vO (p6 : bl) : List CV := [cl eI p6.p.leaf.path, ci p6.p.leaf.type.kind, ci p6.p.leaf.type.scale, cl ab p6.p.leaf.type.fields, ci p6.p.leaf.df, ci p6.p.leaf.rep, cl ab p6.p.fields, cl eI p6.p.pos, .sl 1 1 0 p6.c.reps.length, .sl 2 1 0 p6.c.defs.length, .sl 3 5 0 p6.c.values.length]
abbrev mf (r2 : (Unit × bl)) : List CV := [cl eI r2.2.p.leaf.path, ci r2.2.p.leaf.type.kind, ci r2.2.p.leaf.type.scale, cl ab r2.2.p.leaf.type.fields, ci r2.2.p.leaf.df, ci r2.2.p.leaf.rep, cl ab r2.2.p.fields, cl eI r2.2.p.pos, .sl 1 1 0 r2.2.c.reps.length, .sl 2 1 0 r2.2.c.defs.length, .sl 3 5 0 r2.2.c.values.length]
abbrev q7 (l1 l2 : List Int) (l3 : List ac) (z1 : List Int) (z2 z3 : Int) (z4 : List ah) (z5 z6 : Int) (z7 : List ah) (z8 : List Int) : List CV := [cl eI z1, ci z2, ci z3, cl ab z4, ci z5, ci z6, cl ab z7, cl eI z8, .sl 1 1 0 l1.length, .sl 2 1 0 l2.length, .sl 3 5 0 l3.length]
abbrev AI (p1 : ac) (p2 p5 x1 x3 x4 : Int) : Fr := [(0, vq 0), (2, vi p2), (3, vi x4), (4, vi x1), (5, vi p5), (66, vl aa p1.items), (67, vi (p1.items.length : Int)), (68, vi (i64.wrap (x3 + 1)))]
abbrev An (p1 : ac) (p2 p3 p5 x1 : Int) : Fr := [(0, vq 0), (2, vi p2), (3, vi p3), (4, vi x1), (5, vi p5), (66, vl aa p1.items), (67, vi (p1.items.length : Int)), (68, vi 0)]
abbrev CE (r5 : (Unit × bl)) : List CV := [cl eI r5.2.p.leaf.path, ci r5.2.p.leaf.type.kind, ci r5.2.p.leaf.type.scale, cl ab r5.2.p.leaf.type.fields, ci r5.2.p.leaf.df, ci r5.2.p.leaf.rep, cl ab r5.2.p.fields, cl eI r5.2.p.pos, .sl 1 1 0 r5.2.c.reps.length, .sl 2 1 0 r5.2.c.defs.length, .sl 5 5 0 ((r5.2.c.values ++ [(ac.mk (0 : Int) (0 : Int) (0 : Int) (ByteArray.mk #[]) [])]).length)]
abbrev qU (p6 : bl) : St := [.box (vO p6), .arr 1 (eI.els p6.c.reps), .arr 1 (eI.els p6.c.defs), .arr 5 (aa.els p6.c.values)]
abbrev rN (p6 : bl) (e1 : ah) : St := [.box (vO p6), .arr 1 (eI.els p6.c.reps), .arr 1 (eI.els p6.c.defs), .arr 5 (aa.els p6.c.values), .box (aS e1)]
abbrev zS (p1 : ac) (p2 p3 p5 : Int) (p6 : bl) (e1 : ah) (x1 e3 : Int) (e4 : ac) : Fr := [(108, vi p5), (107, vi x1), (106, vi p3), (105, vi (i64.wrap (p2 + 1))), (104, vi p2), (103, .ag (aD e4)), (102, .one (.pv (.rp (aa.els p1.items) e3.toNat 0))), (101, vi e3), (100, .one (.pv (.rp (eI.els p6.p.pos) ((i64.wrap (p2 + 1)).toNat) 0))), (99, vi (i64.wrap (p2 + 1))), (98, vi p2), (97, vl eI p6.p.pos), (96, .one (.pt 0 0 0 7)), (95, vq 0), (94, vq 0), (93, vq 0), (92, vl aa p1.items), (91, .one (.pv (.rp [(ae p1)] 0 4))), (90, vq 0), (0, vq 0), (2, vi p2), (3, vi p3), (4, vi x1), (5, vi p5), (7, vR (ae p1)), (88, vb (e1.type.kind == 7))]
abbrev wD (p1 : ac) (p3 x1 : Int) (r5 : (Unit × bl)) : Fr := [(54, .one (.pt 0 0 0 10)), (53, .one (.pt 0 0 0 8)), (52, vq 0), (51, .one (.pt 5 5 (0 + ((r5.2.c.values.length : Nat) : Int).toNat) 0)), (50, .one (.sl 5 5 0 ((r5.2.c.values ++ [(ac.mk (0 : Int) (0 : Int) (0 : Int) (ByteArray.mk #[]) [])]).length))), (49, vl aa ([(ac.mk (0 : Int) (0 : Int) (0 : Int) (ByteArray.mk #[]) [])])), (48, vi ((r5.2.c.values.length : Nat) : Int)), (47, .ag (aD p1)), (46, .one (.sl 3 5 0 r5.2.c.values.length)), (45, .one (.pt 0 0 0 10)), (44, .one (.pt 0 0 0 8)), (43, vq 0), (42, vq 0), (41, .tp []), (0, vq 0), (7, vR (ae p1)), (38, vq 0), (39, vi p3), (40, vi x1)]
abbrev AQ (p1 : ac) (e1 : ah) (r5 : (Unit × bl)) : St := [.box (CE r5), .arr 1 (eI.els r5.2.c.reps), .arr 1 (eI.els r5.2.c.defs), .dead, .box (aS e1), .arr 5 (aa.els ((r5.2.c.values ++ [(ac.mk (0 : Int) (0 : Int) (0 : Int) (ByteArray.mk #[]) [])]).set ((r5.2.c.values.length : Nat) : Int).toNat p1))]
theorem ii : ∀ (k0 : Nat) (p1 : ac) (p2 p3 p4 p5 : Int) (p6 : bl) (r : (Unit × bl)), aU k0 p1 p2 p3 p4 p5 p6 = some r → MX Tryz.prog 106 [vq 0, .ag (aD p1), vi p2, vi p3, vi p4, vi p5] (qU p6) [1, 2, 3] (.tp []) [.box [cl eI r.2.p.leaf.path, ci r.2.p.leaf.type.kind, ci r.2.p.leaf.type.scale, cl ab r.2.p.leaf.type.fields, ci r.2.p.leaf.df, ci r.2.p.leaf.rep, cl ab r.2.p.fields, cl eI r.2.p.pos, .sl 1 1 0 r.2.c.reps.length, .sl 2 1 0 r.2.c.defs.length, .sl 3 5 0 r.2.c.values.length], .arr 1 (eI.els r.2.c.reps), .arr 1 (eI.els r.2.c.defs), .arr 5 (aa.els r.2.c.values)]
 | 0, _, _, _, _, _, _, r, h => by rw [aU.eq_1] at h; cases h
 | k0 + 1, p1, p2, p3, p4, p5, p6, r, h => by
  rw [aU.eq_2] at h
  refine MX.of 4 4 rfl (n := 110) (fn := Tryz.f106) (c := cd Tryz.f106 []) (by kernel_rfl) (by kernel_rfl) (by kernel_rfl) (Nat.le_of_ble_eq_true rfl) rfl (zq fun K1 m1 => zr (zg [12, 14] 1 [0,2,3,4,5,7] (zd (m1 _ _ (zq fun K2 m2 => ?_)))))
  obtain ⟨e1, a3, h⟩ := zB h
  refine zr (zo [12, 14] 10 [0,2,3,4,5,7,12] [(aJ e1)] [0 ≤ p2 ∧ p2 < ((ab.els p6.p.fields).length : Int) ∧ aq 6 (ab.els p6.p.fields), (ab.els p6.p.fields)[p2.toNat]? = some (aJ e1)] (⟨ab.inb a3, ((ab.get a3).trans (by rcases e1 with ⟨_, _, _, ⟨_, _, _⟩⟩; rfl)), trivial⟩) (zd (m2 _ _ (zq fun K4 m4 => ?_))))
  have j1 : ∀ (x1 : Int), dr (aU k0) p1 p2 p3 p5 p6 e1 x1 = some r → ∀ w0 w1, aL 110 4 [1, 2, 3] w0 w1 [(0, vq 0), (2, vi p2), (3, vi p3), (4, vi x1), (5, vi p5), (7, vR (ae p1)), (12, vq 4)] (rN p6 e1) → K4 w0 w1 := by
   intro x1 h w0 w1 hS
   unfold dr at h
   refine m4 _ _ (XW.sub hS ?_)
   refine zq fun K12 m12 => zr (zg [12, 14] 3 [0,2,3,4,5,7,37] (zd (m12 _ _ (zb 0 (zq fun K13 m13 => zr ?_)))))
   refine zg [12, 14] 2 [0,2,3,4,5,7,37,55] (zd (m13 _ _ (zC h (fun b14 h => ?_) (fun b14 h => ?_))))
   ·refine zq fun K15 m15 => zq fun K16 m16 => zr ?_
    refine zv [12, 14] 3 [0,2,3,4,5,7,59] [[pi p1.kind, pi p1.n, pi p1.scale, .s (.string p1.s), .ro (aa.els p1.items)]] [(0, vq 0), (2, vi p2), (3, vi p3), (4, vi x1), (5, vi p5), (7, vR [pi p1.kind, pi p1.n, pi p1.scale, .s (.string p1.s), .ro (aa.els p1.items)]), (59, vi ((aa.els p1.items).length : Int))] [.box [cl eI p6.p.leaf.path, ci p6.p.leaf.type.kind, ci p6.p.leaf.type.scale, cl ab p6.p.leaf.type.fields, ci p6.p.leaf.df, ci p6.p.leaf.rep, cl ab p6.p.fields, cl eI p6.p.pos, .sl 1 1 0 p6.c.reps.length, .sl 2 1 0 p6.c.defs.length, .sl 3 5 0 p6.c.values.length], .arr 1 (eI.els p6.c.reps), .arr 1 (eI.els p6.c.defs), .arr 5 (aa.els p6.c.values), .box [ci e1.id, cj e1.name, cb e1.need, ci e1.type.kind, ci e1.type.scale, cl ab e1.type.fields]] ?_
    rw [aa.len p1.items]
    refine zg [12, 14] 1 [0,2,3,4,5,7,60] (zd (m16 _ _ (zC h (fun b17 h => ?_) (fun b17 h => ?_))))
    ·refine zq fun K18 m18 => ?_
     obtain ⟨r2, c19, h⟩ := zB h
     refine zr (zv [12, 14] 3 [61,62,63] [] [(61, vq 0), (62, vi p3), (63, vi x1)] (rN p6 e1) ?_)
     refine XO.calx 149 [vq 0, vi p3, vi x1] (qU p6) [.box (mf r2), .arr 1 (eI.els r2.2.c.reps), .arr 1 (eI.els r2.2.c.defs), .arr 5 (aa.els r2.2.c.values)] [1, 2, 3] (.tp []) [0, 1, 2, 3] [1, 2, 3] [(64, .tp []), (61, vq 0), (62, vi p3), (63, vi x1)] [.box (mf r2), .arr 1 (eI.els r2.2.c.reps), .arr 1 (eI.els r2.2.c.defs), .arr 5 (aa.els r2.2.c.values), .box (aS e1)] (by kernel_rfl) (gr _ _ _ _ c19) (by kernel_rfl) (by kernel_rfl) (by kernel_rfl) (by kernel_rfl) (by kernel_rfl) (by kernel_rfl) (by kernel_rfl) ?_
     refine zd (m18 _ _ (ze ?_))
     obtain rfl := zj h
     exact eT.fin (.inr rfl) [] [] [] (by kernel_rfl) trivial (by kernel_rfl) (by kernel_rfl) (.tp0)
    ·refine zs (m15 _ _ (zq fun K20 m20 => zr ?_))
     refine zv [12, 14] 3 [0,2,3,4,5,66,67] [[pi p1.kind, pi p1.n, pi p1.scale, .s (.string p1.s), .ro (aa.els p1.items)]] [(0, vq 0), (2, vi p2), (3, vi p3), (4, vi x1), (5, vi p5), (66, vl aa p1.items), (67, vi ((aa.els p1.items).length : Int))] [.box [cl eI p6.p.leaf.path, ci p6.p.leaf.type.kind, ci p6.p.leaf.type.scale, cl ab p6.p.leaf.type.fields, ci p6.p.leaf.df, ci p6.p.leaf.rep, cl ab p6.p.fields, cl eI p6.p.pos, .sl 1 1 0 p6.c.reps.length, .sl 2 1 0 p6.c.defs.length, .sl 3 5 0 p6.c.values.length], .arr 1 (eI.els p6.c.reps), .arr 1 (eI.els p6.c.defs), .arr 5 (aa.els p6.c.values), .box [ci e1.id, cj e1.name, cb e1.need, ci e1.type.kind, ci e1.type.scale, cl ab e1.type.fields]] ?_
     rw [aa.len p1.items]
     refine zg [12, 14] 1 [0,2,3,4,5,66,67,68] (zd (m20 _ _ (zb 1 (XW.rounds' bf (x := cd Tryz.f106 [1,1,1,1,0,1,0,1,1,0,0]) (by kernel_rfl) fun Q1 hQ1 => ?_))))
     have hL1 : ∀ (k1 : Nat) (l1 l2 : List Int) (l3 : List ac) (z1 : List Int) (z2 z3 : Int) (z4 : List ah) (z5 z6 : Int) (z7 : List ah) (z8 : List Int) (x2 x3 : Int), bB (aU k0) p1 p2 p5 x1 k1 l1 l2 l3 z1 z2 z3 z4 z5 z6 z7 z8 x2 x3 = some r → XR Tryz.prog 110 4 [1, 2, 3] (cd Tryz.f106 [1,1,1,1,0,1,0,1,1,0,0]) Q1 k1 [(0, vq 0), (2, vi p2), (3, vi x2), (4, vi x1), (5, vi p5), (66, vl aa p1.items), (67, vi (p1.items.length : Int)), (68, vi x3)] [.box (q7 l1 l2 l3 z1 z2 z3 z4 z5 z6 z7 z8), .arr 1 (eI.els l1), .arr 1 (eI.els l2), .arr 5 (aa.els l3), .dead] := by
      intro k1
      induction k1 with
      | zero => intro l1 l2 l3 z1 z2 z3 z4 z5 z6 z7 z8 x2 x3 h; rw [bB.eq_1] at h; cases h
      | succ k1 ih1 =>
       intro l1 l2 l3 z1 z2 z3 z4 z5 z6 z7 z8 x2 x3 h
       rw [bB.eq_2] at h
       refine zq fun K21 m21 => zr (zg [12, 14] 1 [0,2,3,4,5,66,67,68,69] (zd (m21 _ _ (zq fun K22 m22 => zC h (fun b23 h => ?_) (fun b23 h => ?_)))))
       ·refine zs (m22 _ _ (zq fun K24 m24 => zb 2 (zq fun K25 m25 => ?_)))
        obtain ⟨e2, a26, h⟩ := zB h
        refine zr (zo [12, 14] 6 [0,2,3,4,5,13,14,66,67,68] [[pi e2.kind, pi e2.n, pi e2.scale, .s (.string e2.s), .ro (aa.els e2.items)]] [0 ≤ x3 ∧ x3 < ((aa.els p1.items).length : Int) ∧ aq 5 (aa.els p1.items), (aa.els p1.items)[x3.toNat]? = some [pi e2.kind, pi e2.n, pi e2.scale, .s (.string e2.s), .ro (aa.els e2.items)]] (⟨aa.inb a26, ((aa.get a26).trans (by cases e2; rfl)), trivial⟩) (zd (m25 _ _ (zq fun K27 m27 => ?_))))
        have j2 : ∀ (x4 : Int), dx (aU k0) (bB (aU k0) p1 p2 p5 x1 k1) p2 p5 x1 l1 l2 l3 z1 z2 z3 z4 z5 z6 z7 z8 x3 e2 x4 = some r → ∀ w0 w1, aL 110 4 [1, 2, 3] w0 w1 [(0, vq 0), (2, vi p2), (3, vi x4), (4, vi x1), (5, vi p5), (14, vq 5), (66, vl aa p1.items), (67, vi (p1.items.length : Int)), (68, vi x3)] [.box (q7 l1 l2 l3 z1 z2 z3 z4 z5 z6 z7 z8), .arr 1 (eI.els l1), .arr 1 (eI.els l2), .arr 5 (aa.els l3), .dead, .box (aD e2)] → K27 w0 w1 := by
         intro x4 h w0 w1 hS
         unfold dx at h
         refine m27 _ _ (XW.sub hS ?_)
         obtain ⟨r3, c30, h⟩ := zB h
         refine zr ?_
         refine zv [12, 14] 9 [0,2,3,4,5,66,67,68,77,78,80,81,83,85] [] [(0, vq 0), (2, vi p2), (3, vi x4), (4, vi x1), (5, vi p5), (66, vl aa p1.items), (67, vi (p1.items.length : Int)), (68, vi x3), (77, vq 0), (78, .ag (aD e2)), (80, vi (i64.wrap (p2 + 1))), (81, vi x4), (83, vi (i64.wrap (x1 + 1))), (85, vi (i64.wrap (p5 + 1)))] [.box (q7 l1 l2 l3 z1 z2 z3 z4 z5 z6 z7 z8), .arr 1 (eI.els l1), .arr 1 (eI.els l2), .arr 5 (aa.els l3), .dead, .box (aD e2)] ?_
         refine XO.calx 106 [vq 0, .ag (aD e2), vi (i64.wrap (p2 + 1)), vi x4, vi (i64.wrap (x1 + 1)), vi (i64.wrap (p5 + 1))] [.box (q7 l1 l2 l3 z1 z2 z3 z4 z5 z6 z7 z8), .arr 1 (eI.els l1), .arr 1 (eI.els l2), .arr 5 (aa.els l3)] [.box (mf r3), .arr 1 (eI.els r3.2.c.reps), .arr 1 (eI.els r3.2.c.defs), .arr 5 (aa.els r3.2.c.values)] [1, 2, 3] (.tp []) [0, 1, 2, 3] [1, 2, 3] [(86, .tp []), (0, vq 0), (2, vi p2), (3, vi x4), (4, vi x1), (5, vi p5), (66, vl aa p1.items), (67, vi (p1.items.length : Int)), (68, vi x3), (77, vq 0), (78, .ag (aD e2)), (80, vi (i64.wrap (p2 + 1))), (81, vi x4), (83, vi (i64.wrap (x1 + 1))), (85, vi (i64.wrap (p5 + 1)))] [.box (mf r3), .arr 1 (eI.els r3.2.c.reps), .arr 1 (eI.els r3.2.c.defs), .arr 5 (aa.els r3.2.c.values), .dead, .box (aD e2)] (by kernel_rfl) (ii k0 _ _ _ _ _ _ _ c30) (by kernel_rfl) (by kernel_rfl) (by kernel_rfl) (by kernel_rfl) (by kernel_rfl) (by kernel_rfl) (by kernel_rfl) ?_
         refine zd (m24 _ _ (zr (zg [12, 14] 2 [0,2,3,4,5,66,67,68] (zd ?_))))
         exact XR.sub (aL.trans (aL.pick (fr' := (AI p1 p2 p5 x1 x3 x4)) [0,2,3,4,5,66,67,68] (by kernel_rfl)) (aL.take (fr' := (AI p1 p2 p5 x1 x3 x4)) 5 (by decide) (by kernel_rfl) (by kernel_rfl))) (ih1 r3.2.c.reps r3.2.c.defs r3.2.c.values r3.2.p.leaf.path r3.2.p.leaf.type.kind r3.2.p.leaf.type.scale r3.2.p.leaf.type.fields r3.2.p.leaf.df r3.2.p.leaf.rep r3.2.p.fields r3.2.p.pos x4 (i64.wrap (x3 + 1)) h)
        refine zq fun K28 m28 => zr (zv [12, 14] 2 [0,2,3,4,5,14,66,67,68,74] [] [(0, vq 0), (2, vi p2), (3, vi x2), (4, vi x1), (5, vi p5), (14, vq 5), (66, vl aa p1.items), (67, vi (p1.items.length : Int)), (68, vi x3), (74, vb (decide ((0 : Int) < x3)))] [.box (q7 l1 l2 l3 z1 z2 z3 z4 z5 z6 z7 z8), .arr 1 (eI.els l1), .arr 1 (eI.els l2), .arr 5 (aa.els l3), .dead, .box (aD e2)] (zd (m28 _ _ ?_)))
        refine zC h (fun b29 h => ?_) (fun b29 h => ?_)
        ·exact zr (zg [12, 14] 3 [0,2,3,4,5,14,66,67,68] (zd (j2 (i64.wrap (p5 + 1)) h _ _ (zk [0,2,3,4,5,14,66,67,68]))))
        ·exact zs (j2 x2 h _ _ (zk [0,2,3,4,5,14,66,67,68]))
       ·refine zx 1 (hQ1 _ _ _ ?_)
        obtain rfl := zj h
        exact eT.fin (.inl rfl) [] [] [] (by kernel_rfl) trivial (by kernel_rfl) (by kernel_rfl) (.tp0)
     exact XR.sub (aL.trans (aL.pick (fr' := (An p1 p2 p3 p5 x1)) [0,2,3,4,5,66,67,68] (by kernel_rfl)) (aL.only (fr' := (An p1 p2 p3 p5 x1)) (st' := [.box (vO p6), .arr 1 (eI.els p6.c.reps), .arr 1 (eI.els p6.c.defs), .arr 5 (aa.els p6.c.values), .dead]) [0, 1, 2, 3] 5 (by kernel_rfl) (by kernel_rfl) (by kernel_rfl) (by kernel_rfl))) (hL1 bf p6.c.reps p6.c.defs p6.c.values p6.p.leaf.path p6.p.leaf.type.kind p6.p.leaf.type.scale p6.p.leaf.type.fields p6.p.leaf.df p6.p.leaf.rep p6.p.fields p6.p.pos p3 (0 : Int) h)
   ·refine zq fun K31 m31 => zr (zg [12, 14] 2 [0,2,3,4,5,7,88] (zd (m31 _ _ (zC h (fun b32 h => ?_) (fun b32 h => ?_)))))
    ·obtain ⟨e3, a33, h⟩ := zB h
     obtain ⟨e4, a34, h⟩ := zB h
     obtain ⟨r4, c35, h⟩ := zB h
     refine zw 19 (zS p1 p2 p3 p5 p6 e1 x1 e3 e4) ?_ ?_
     ·refine vI 19 [(ae p1), [pi e3], [pi e4.kind, pi e4.n, pi e4.scale, .s (.string e4.s), .ro (aa.els e4.items)]] (zS p1 p2 p3 p5 p6 e1 x1 e3 e4) [([(ae p1)] : List (List PV))[0]? = some (ae p1), 0 ≤ (i64.wrap (p2 + 1)) ∧ (i64.wrap (p2 + 1)) < ((eI.els p6.p.pos).length : Int) ∧ aq 1 (eI.els p6.p.pos), (eI.els p6.p.pos)[(i64.wrap (p2 + 1)).toNat]? = some [pi e3], 0 ≤ e3 ∧ e3 < ((aa.els p1.items).length : Int) ∧ aq 5 (aa.els p1.items), (aa.els p1.items)[e3.toNat]? = some [pi e4.kind, pi e4.n, pi e4.scale, .s (.string e4.s), .ro (aa.els e4.items)]] (⟨rfl, eI.inb a33, (eI.get a33), aa.inb a34, ((aa.get a34).trans (by cases e4; rfl)), trivial⟩) ?_
      exact lU
     refine XO.calx 106 [vq 0, .ag (aD e4), vi (i64.wrap (p2 + 1)), vi p3, vi x1, vi p5] (qU p6) [.box (mf r4), .arr 1 (eI.els r4.2.c.reps), .arr 1 (eI.els r4.2.c.defs), .arr 5 (aa.els r4.2.c.values)] [1, 2, 3] (.tp []) [0, 1, 2, 3] [1, 2, 3] [(109, .tp []), (108, vi p5), (107, vi x1), (106, vi p3), (105, vi (i64.wrap (p2 + 1))), (104, vi p2), (103, .ag (aD e4)), (102, .one (.pv (.rp (aa.els p1.items) e3.toNat 0))), (101, vi e3), (100, .one (.pv (.rp (eI.els p6.p.pos) ((i64.wrap (p2 + 1)).toNat) 0))), (99, vi (i64.wrap (p2 + 1))), (98, vi p2), (97, vl eI p6.p.pos), (96, .one (.pt 0 0 0 7)), (95, vq 0), (94, vq 0), (93, vq 0), (92, vl aa p1.items), (91, .one (.pv (.rp [(ae p1)] 0 4))), (90, vq 0), (0, vq 0), (2, vi p2), (3, vi p3), (4, vi x1), (5, vi p5), (7, vR (ae p1)), (88, vb (e1.type.kind == 7))] [.box (mf r4), .arr 1 (eI.els r4.2.c.reps), .arr 1 (eI.els r4.2.c.defs), .arr 5 (aa.els r4.2.c.values), .box (aS e1)] (by kernel_rfl) (ii k0 _ _ _ _ _ _ _ c35) (by kernel_rfl) (by kernel_rfl) (by kernel_rfl) (by kernel_rfl) (by kernel_rfl) (by kernel_rfl) (by kernel_rfl) ?_
     refine zd ?_
     obtain rfl := zj h
     exact eT.fin (.inl rfl) [] [] [] (by kernel_rfl) trivial (by kernel_rfl) (by kernel_rfl) (.tp0)
    ·refine zq fun K36 m36 => ?_
     obtain ⟨r5, c37, h⟩ := zB h
     refine zr ?_
     refine zv [12, 14] 3 [0,7,38,39,40] [] [(0, vq 0), (7, vR (ae p1)), (38, vq 0), (39, vi p3), (40, vi x1)] (rN p6 e1) ?_
     refine XO.calx 149 [vq 0, vi p3, vi x1] (qU p6) [.box (mf r5), .arr 1 (eI.els r5.2.c.reps), .arr 1 (eI.els r5.2.c.defs), .arr 5 (aa.els r5.2.c.values)] [1, 2, 3] (.tp []) [0, 1, 2, 3] [1, 2, 3] [(41, .tp []), (0, vq 0), (7, vR (ae p1)), (38, vq 0), (39, vi p3), (40, vi x1)] [.box (mf r5), .arr 1 (eI.els r5.2.c.reps), .arr 1 (eI.els r5.2.c.defs), .arr 5 (aa.els r5.2.c.values), .box (aS e1)] (by kernel_rfl) (gr _ _ _ _ c37) (by kernel_rfl) (by kernel_rfl) (by kernel_rfl) (by kernel_rfl) (by kernel_rfl) (by kernel_rfl) (by kernel_rfl) ?_
     refine zd (m36 _ _ ?_)
     obtain ⟨g38, h⟩ := zG h
     obtain ⟨e5, a39, h⟩ := zB h
     refine XW.sub (aL.dead 1) ?_
     refine XW.drwG 15 [5, 6] [([], []), ([], []), ([], []), ([], []), ([0], []), ([], []), ([], []), ([], []), ([5, 3, 1005], [5, 3, 1005]), ([1005], []), ([5, 1005], [5]), ([], []), ([], []), ([], []), ([0, 1005], [0])] (wD p1 p3 x1 r5) (AQ p1 e1 r5) (by kernel_rfl) (by kernel_rfl) ?_ ?_
     ·refine qE 8 [(ae p1)] [(49, vl aa ([(ac.mk (0 : Int) (0 : Int) (0 : Int) (ByteArray.mk #[]) [])])), (48, vi ((r5.2.c.values.length : Nat) : Int)), (47, .ag (aD p1)), (46, .one (.sl 3 5 0 r5.2.c.values.length)), (45, .one (.pt 0 0 0 10)), (44, .one (.pt 0 0 0 8)), (43, vq 0), (42, vq 0), (41, .tp []), (0, vq 0), (7, vR (ae p1)), (38, vq 0), (39, vi p3), (40, vi x1)] ?_
      refine GY.new true 5 [] [(50, .one (.sl 5 5 0 (r5.2.c.values.length + (aa.els ([(ac.mk (0 : Int) (0 : Int) (0 : Int) (ByteArray.mk #[]) [])])).length))), (49, vl aa ([(ac.mk (0 : Int) (0 : Int) (0 : Int) (ByteArray.mk #[]) [])])), (48, vi ((r5.2.c.values.length : Nat) : Int)), (47, .ag [ci p1.kind, ci p1.n, ci p1.scale, cj p1.s, cl aa p1.items]), (46, .one (.sl 3 5 0 r5.2.c.values.length)), (45, .one (.pt 0 0 0 10)), (44, .one (.pt 0 0 0 8)), (43, vq 0), (42, vq 0), (41, .tp []), (0, vq 0), (7, vR [pi p1.kind, pi p1.n, pi p1.scale, .s (.string p1.s), .ro (aa.els p1.items)]), (38, vq 0), (39, vi p3), (40, vi x1)] [5, 3] [.box [cl eI r5.2.p.leaf.path, ci r5.2.p.leaf.type.kind, ci r5.2.p.leaf.type.scale, cl ab r5.2.p.leaf.type.fields, ci r5.2.p.leaf.df, ci r5.2.p.leaf.rep, cl ab r5.2.p.fields, cl eI r5.2.p.pos, .sl 1 1 0 r5.2.c.reps.length, .sl 2 1 0 r5.2.c.defs.length, .sl 3 5 0 r5.2.c.values.length], .arr 1 (eI.els r5.2.c.reps), .arr 1 (eI.els r5.2.c.defs), .dead, .box [ci e1.id, cj e1.name, cb e1.need, ci e1.type.kind, ci e1.type.scale, cl ab e1.type.fields], .arr 5 (aa.els r5.2.c.values ++ aa.els ([(ac.mk (0 : Int) (0 : Int) (0 : Int) (ByteArray.mk #[]) [])]))] [aq 5 (aa.els ([(ac.mk (0 : Int) (0 : Int) (0 : Int) (ByteArray.mk #[]) [])])), r5.2.c.values.length = (aa.els r5.2.c.values).length, r5.2.c.values.length + (aa.els ([(ac.mk (0 : Int) (0 : Int) (0 : Int) (ByteArray.mk #[]) [])])).length ≤ 4294967296] (by kernel_rfl) (by kernel_rfl) (⟨aa.ok _, (aa.len r5.2.c.values).symm, g38, trivial⟩) (by kernel_rfl) ?_
      rw [show r5.2.c.values.length + (aa.els ([(ac.mk (0 : Int) (0 : Int) (0 : Int) (ByteArray.mk #[]) [])])).length = (r5.2.c.values ++ [(ac.mk (0 : Int) (0 : Int) (0 : Int) (ByteArray.mk #[]) [])]).length from aa.lapp _ _]
      rw [show aa.els r5.2.c.values ++ aa.els ([(ac.mk (0 : Int) (0 : Int) (0 : Int) (ByteArray.mk #[]) [])]) = aa.els (r5.2.c.values ++ [(ac.mk (0 : Int) (0 : Int) (0 : Int) (ByteArray.mk #[]) [])]) from aa.app2 _ _]
      refine GY.go 1 [] [(51, .one (.pt 5 5 (0 + ((r5.2.c.values.length : Nat) : Int).toNat) 0)), (50, .one (.sl 5 5 0 ((r5.2.c.values ++ [(ac.mk (0 : Int) (0 : Int) (0 : Int) (ByteArray.mk #[]) [])]).length))), (49, vl aa ([(ac.mk (0 : Int) (0 : Int) (0 : Int) (ByteArray.mk #[]) [])])), (48, vi ((r5.2.c.values.length : Nat) : Int)), (47, .ag (aD p1)), (46, .one (.sl 3 5 0 r5.2.c.values.length)), (45, .one (.pt 0 0 0 10)), (44, .one (.pt 0 0 0 8)), (43, vq 0), (42, vq 0), (41, .tp []), (0, vq 0), (7, vR (ae p1)), (38, vq 0), (39, vi p3), (40, vi x1)] [0 ≤ ((r5.2.c.values.length : Nat) : Int) ∧ ((r5.2.c.values.length : Nat) : Int) < (((r5.2.c.values ++ [(ac.mk (0 : Int) (0 : Int) (0 : Int) (ByteArray.mk #[]) [])]).length : Nat) : Int)] (by kernel_rfl) (⟨oo.inb' a39, trivial⟩) ?_
      refine GY.wr [[pi e5.kind, pi e5.n, pi e5.scale, .s (.string e5.s), .ro (aa.els e5.items)]] [(51, .one (.pt 5 5 (0 + ((r5.2.c.values.length : Nat) : Int).toNat) 0)), (50, .one (.sl 5 5 0 ((r5.2.c.values ++ [(ac.mk (0 : Int) (0 : Int) (0 : Int) (ByteArray.mk #[]) [])]).length))), (49, vl aa ([(ac.mk (0 : Int) (0 : Int) (0 : Int) (ByteArray.mk #[]) [])])), (48, vi ((r5.2.c.values.length : Nat) : Int)), (47, .ag [ci p1.kind, ci p1.n, ci p1.scale, cj p1.s, cl aa p1.items]), (46, .one (.sl 3 5 0 r5.2.c.values.length)), (45, .one (.pt 0 0 0 10)), (44, .one (.pt 0 0 0 8)), (43, vq 0), (42, vq 0), (41, .tp []), (0, vq 0), (7, vR [pi p1.kind, pi p1.n, pi p1.scale, .s (.string p1.s), .ro (aa.els p1.items)]), (38, vq 0), (39, vi p3), (40, vi x1)] [5] [] [.box [cl eI r5.2.p.leaf.path, ci r5.2.p.leaf.type.kind, ci r5.2.p.leaf.type.scale, cl ab r5.2.p.leaf.type.fields, ci r5.2.p.leaf.df, ci r5.2.p.leaf.rep, cl ab r5.2.p.fields, cl eI r5.2.p.pos, .sl 1 1 0 r5.2.c.reps.length, .sl 2 1 0 r5.2.c.defs.length, .sl 3 5 0 r5.2.c.values.length], .arr 1 (eI.els r5.2.c.reps), .arr 1 (eI.els r5.2.c.defs), .dead, .box [ci e1.id, cj e1.name, cb e1.need, ci e1.type.kind, ci e1.type.scale, cl ab e1.type.fields], .arr 5 ((aa.els (r5.2.c.values ++ [(ac.mk (0 : Int) (0 : Int) (0 : Int) (ByteArray.mk #[]) [])])).set (0 + ((r5.2.c.values.length : Nat) : Int).toNat) [pi p1.kind, pi p1.n, pi p1.scale, .s (.string p1.s), .ro (aa.els p1.items)])] [(aa.els (r5.2.c.values ++ [(ac.mk (0 : Int) (0 : Int) (0 : Int) (ByteArray.mk #[]) [])]))[(0 + ((r5.2.c.values.length : Nat) : Int).toNat)]? = some [pi e5.kind, pi e5.n, pi e5.scale, .s (.string e5.s), .ro (aa.els e5.items)]] (by kernel_rfl) (by kernel_rfl) (⟨((aa.get0 a39).trans (by cases e5; rfl)), trivial⟩) (by kernel_rfl) ?_
      rw [show (aa.els (r5.2.c.values ++ [(ac.mk (0 : Int) (0 : Int) (0 : Int) (ByteArray.mk #[]) [])])).set (0 + ((r5.2.c.values.length : Nat) : Int).toNat) [pi p1.kind, pi p1.n, pi p1.scale, .s (.string p1.s), .ro (aa.els p1.items)] = aa.els ((r5.2.c.values ++ [(ac.mk (0 : Int) (0 : Int) (0 : Int) (ByteArray.mk #[]) [])]).set ((r5.2.c.values.length : Nat) : Int).toNat p1) from by have hq : ([pi p1.kind, pi p1.n, pi p1.scale, .s (.string p1.s), .ro (aa.els p1.items)] : List PV) = aa.cells p1 := (by cases p1; rfl); rw [hq]; exact aa.set0 _ _ _]
      refine qE 3 [] (wD p1 p3 x1 r5) ?_
      refine GY.sto [0] [] (wD p1 p3 x1 r5) ([0] ++ [1005]) (AQ p1 e1 r5) [] (by kernel_rfl) (by kernel_rfl) trivial (by kernel_rfl) ?_
      exact GY.done (by kernel_rfl) (by kernel_rfl)
     refine XO.sub (aL.swap 3 5 [(54, .one (.pt 0 0 0 10)), (53, .one (.pt 0 0 0 8)), (52, vq 0), (51, .one (.pt 3 5 (0 + ((r5.2.c.values.length : Nat) : Int).toNat) 0)), (50, .one (.sl 3 5 0 ((r5.2.c.values ++ [(ac.mk (0 : Int) (0 : Int) (0 : Int) (ByteArray.mk #[]) [])]).length))), (49, vl aa ([(ac.mk (0 : Int) (0 : Int) (0 : Int) (ByteArray.mk #[]) [])])), (48, vi ((r5.2.c.values.length : Nat) : Int)), (47, .ag (aD p1)), (46, .one (.sl 5 5 0 r5.2.c.values.length)), (45, .one (.pt 0 0 0 10)), (44, .one (.pt 0 0 0 8)), (43, vq 0), (42, vq 0), (41, .tp []), (0, vq 0), (7, vR (ae p1)), (38, vq 0), (39, vi p3), (40, vi x1)] [.box [cl eI r5.2.p.leaf.path, ci r5.2.p.leaf.type.kind, ci r5.2.p.leaf.type.scale, cl ab r5.2.p.leaf.type.fields, ci r5.2.p.leaf.df, ci r5.2.p.leaf.rep, cl ab r5.2.p.fields, cl eI r5.2.p.pos, .sl 1 1 0 r5.2.c.reps.length, .sl 2 1 0 r5.2.c.defs.length, .sl 3 5 0 ((r5.2.c.values ++ [(ac.mk (0 : Int) (0 : Int) (0 : Int) (ByteArray.mk #[]) [])]).length)], .arr 1 (eI.els r5.2.c.reps), .arr 1 (eI.els r5.2.c.defs), .arr 5 (aa.els ((r5.2.c.values ++ [(ac.mk (0 : Int) (0 : Int) (0 : Int) (ByteArray.mk #[]) [])]).set ((r5.2.c.values.length : Nat) : Int).toNat p1)), .box (aS e1), .dead] (by kernel_rfl) (by kernel_rfl) (by kernel_rfl) (by kernel_rfl)) ?_
     refine XO.sub (aL.eq (fr' := [(54, .one (.pt 0 0 0 10)), (53, .one (.pt 0 0 0 8)), (52, vq 0), (51, .one (.pt 3 5 (0 + ((r5.2.c.values.length : Nat) : Int).toNat) 0)), (50, .one (.sl 3 5 0 ((r5.2.c.values ++ [(ac.mk (0 : Int) (0 : Int) (0 : Int) (ByteArray.mk #[]) [])]).length))), (49, vl aa ([(ac.mk (0 : Int) (0 : Int) (0 : Int) (ByteArray.mk #[]) [])])), (48, vi ((r5.2.c.values.length : Nat) : Int)), (47, .ag [ci p1.kind, ci p1.n, ci p1.scale, cj p1.s, cl aa p1.items]), (46, .one (.sl 5 5 0 r5.2.c.values.length)), (45, .one (.pt 0 0 0 10)), (44, .one (.pt 0 0 0 8)), (43, vq 0), (42, vq 0), (41, .tp []), (0, vq 0), (7, vR [pi p1.kind, pi p1.n, pi p1.scale, .s (.string p1.s), .ro (aa.els p1.items)]), (38, vq 0), (39, vi p3), (40, vi x1)]) (st' := [.box [cl eI r5.2.p.leaf.path, ci r5.2.p.leaf.type.kind, ci r5.2.p.leaf.type.scale, cl ab r5.2.p.leaf.type.fields, ci r5.2.p.leaf.df, ci r5.2.p.leaf.rep, cl ab r5.2.p.fields, cl eI r5.2.p.pos, .sl 1 1 0 r5.2.c.reps.length, .sl 2 1 0 r5.2.c.defs.length, .sl 3 5 0 (((r5.2.c.values ++ [(ac.mk (0 : Int) (0 : Int) (0 : Int) (ByteArray.mk #[]) [])]).set ((r5.2.c.values.length : Nat) : Int).toNat p1).length)], .arr 1 (eI.els r5.2.c.reps), .arr 1 (eI.els r5.2.c.defs), .arr 5 (aa.els ((r5.2.c.values ++ [(ac.mk (0 : Int) (0 : Int) (0 : Int) (ByteArray.mk #[]) [])]).set ((r5.2.c.values.length : Nat) : Int).toNat p1)), .box [ci e1.id, cj e1.name, cb e1.need, ci e1.type.kind, ci e1.type.scale, cl ab e1.type.fields], .dead]) rfl (show ([.box [cl eI r5.2.p.leaf.path, ci r5.2.p.leaf.type.kind, ci r5.2.p.leaf.type.scale, cl ab r5.2.p.leaf.type.fields, ci r5.2.p.leaf.df, ci r5.2.p.leaf.rep, cl ab r5.2.p.fields, cl eI r5.2.p.pos, .sl 1 1 0 r5.2.c.reps.length, .sl 2 1 0 r5.2.c.defs.length, .sl 3 5 0 ((r5.2.c.values ++ [(ac.mk (0 : Int) (0 : Int) (0 : Int) (ByteArray.mk #[]) [])]).length)], .arr 1 (eI.els r5.2.c.reps), .arr 1 (eI.els r5.2.c.defs), .arr 5 (aa.els ((r5.2.c.values ++ [(ac.mk (0 : Int) (0 : Int) (0 : Int) (ByteArray.mk #[]) [])]).set ((r5.2.c.values.length : Nat) : Int).toNat p1)), .box [ci e1.id, cj e1.name, cb e1.need, ci e1.type.kind, ci e1.type.scale, cl ab e1.type.fields], .dead] : St) = [.box [cl eI r5.2.p.leaf.path, ci r5.2.p.leaf.type.kind, ci r5.2.p.leaf.type.scale, cl ab r5.2.p.leaf.type.fields, ci r5.2.p.leaf.df, ci r5.2.p.leaf.rep, cl ab r5.2.p.fields, cl eI r5.2.p.pos, .sl 1 1 0 r5.2.c.reps.length, .sl 2 1 0 r5.2.c.defs.length, .sl 3 5 0 (((r5.2.c.values ++ [(ac.mk (0 : Int) (0 : Int) (0 : Int) (ByteArray.mk #[]) [])]).set ((r5.2.c.values.length : Nat) : Int).toNat p1).length)], .arr 1 (eI.els r5.2.c.reps), .arr 1 (eI.els r5.2.c.defs), .arr 5 (aa.els ((r5.2.c.values ++ [(ac.mk (0 : Int) (0 : Int) (0 : Int) (ByteArray.mk #[]) [])]).set ((r5.2.c.values.length : Nat) : Int).toNat p1)), .box [ci e1.id, cj e1.name, cb e1.need, ci e1.type.kind, ci e1.type.scale, cl ab e1.type.fields], .dead] from by rw [show (r5.2.c.values ++ [(ac.mk (0 : Int) (0 : Int) (0 : Int) (ByteArray.mk #[]) [])]).length = ((r5.2.c.values ++ [(ac.mk (0 : Int) (0 : Int) (0 : Int) (ByteArray.mk #[]) [])]).set ((r5.2.c.values.length : Nat) : Int).toNat p1).length from by simp])) ?_
     refine zd ?_
     obtain rfl := zj h
     exact eT.fin (.inl rfl) [] [] [] (by kernel_rfl) trivial (by kernel_rfl) (by kernel_rfl) (.tp0)
  refine zq fun K5 m5 => zr ?_
  refine zv [12, 14] 3 [0,2,3,4,5,7,12,25] [] [(0, vq 0), (2, vi p2), (3, vi p3), (4, vi p4), (5, vi p5), (7, vR (ae p1)), (12, vq 4), (25, vb (!e1.need))] (rN p6 e1) ?_
  refine zd (m5 _ _ (zC h (fun b6 h => ?_) (fun b6 h => ?_)))
  ·refine zq fun K7 m7 => zq fun K8 m8 => zr (zu [12, 14] 3 [0,2,3,4,5,7,12,28] [(ae p1)] (zd (m8 _ _ (zC h (fun b9 h => ?_) (fun b9 h => ?_)))))
   ·refine zq fun K10 m10 => ?_
    obtain ⟨r1, c11, h⟩ := zB h
    refine zr (zv [12, 14] 3 [29,30,31] [] [(29, vq 0), (30, vi p3), (31, vi p4)] (rN p6 e1) ?_)
    refine XO.calx 149 [vq 0, vi p3, vi p4] (qU p6) [.box (mf r1), .arr 1 (eI.els r1.2.c.reps), .arr 1 (eI.els r1.2.c.defs), .arr 5 (aa.els r1.2.c.values)] [1, 2, 3] (.tp []) [0, 1, 2, 3] [1, 2, 3] [(32, .tp []), (29, vq 0), (30, vi p3), (31, vi p4)] [.box (mf r1), .arr 1 (eI.els r1.2.c.reps), .arr 1 (eI.els r1.2.c.defs), .arr 5 (aa.els r1.2.c.values), .box (aS e1)] (by kernel_rfl) (gr _ _ _ _ c11) (by kernel_rfl) (by kernel_rfl) (by kernel_rfl) (by kernel_rfl) (by kernel_rfl) (by kernel_rfl) (by kernel_rfl) ?_
    refine zd (m10 _ _ (ze ?_))
    obtain rfl := zj h
    exact eT.fin (.inr rfl) [] [] [] (by kernel_rfl) trivial (by kernel_rfl) (by kernel_rfl) (.tp0)
   ·exact zs (m7 _ _ (zr (zg [12, 14] 3 [0,2,3,4,5,7,12] (zd (j1 (i64.wrap (p4 + 1)) h _ _ (zk [0,2,3,4,5,7,12]))))))
  ·exact zs (j1 p4 h _ _ (zk [0,2,3,4,5,7,12]))
def d9 (p1 : (List Int)) : Option (List Int) := fL (0 ≤ (0 : Int) ∧ (0 : Int) ≤ (p1.length : Int) ∧ (p1.length : Int) ≤ (p1.length : Int) ∧ (p1.length : Int) ≤ (p1.length : Int)) <| some ((p1.drop (0 : Int).toNat).take ((p1.length : Int).toNat - (0 : Int).toNat))
theorem kh (p1 r : (List Int)) (h : d9 p1 = some r) : PC Tryz.prog 85 [vl eI p1] (vl eI r) := by
 unfold d9 at h
 refine zF 9 Tryz.f85 (zq fun K1 m1 => zr (zg [] 1 [0] (zd (m1 _ _ (zq fun K2 m2 => ?_)))))
 obtain ⟨g3, h⟩ := zG h
 refine zr (zv [] 3 [0,3,5] [] [(0, vl eI p1), (3, vl eI p1), (5, vi ((eI.els p1).length : Int))] [] ?_)
 rw [eI.len p1]
 refine zv [] 2 [3,5,7] [] [(3, vl eI p1), (5, vi (p1.length : Int)), (7, vi ((eI.els p1).length : Int))] [] ?_
 rw [eI.len p1]
 refine zp [] 1 [8] [] [(8, .one (.pv (.ro (((eI.els p1).drop (0 : Int).toNat).take ((p1.length : Int).toNat - (0 : Int).toNat)))))] [] [(0 ≤ (0 : Int) ∧ (0 : Int) ≤ (p1.length : Int) ∧ (p1.length : Int) ≤ (p1.length : Int) ∧ (p1.length : Int) ≤ ((eI.els p1).length : Int)) ∧ aq 1 (eI.els p1)] (⟨eI.cutMOk g3, trivial⟩) ?_
 rw [show ((eI.els p1).drop (0 : Int).toNat).take ((p1.length : Int).toNat - (0 : Int).toNat) = eI.els ((p1.drop (0 : Int).toNat).take ((p1.length : Int).toNat - (0 : Int).toNat)) from eI.cut _ _ _]
 refine zg [] 1 [2] (zd (m2 _ _ (ze ?_)))
 obtain rfl := zj h
 exact zf [vl eI ((p1.drop (0 : Int).toNat).take ((p1.length : Int).toNat - (0 : Int).toNat))] (.one (.rfl _ rfl))
def bp (p1 : (List ac)) : Option (List ac) := fL (0 ≤ (0 : Int) ∧ (0 : Int) ≤ (p1.length : Int) ∧ (p1.length : Int) ≤ (p1.length : Int) ∧ (p1.length : Int) ≤ (p1.length : Int)) <| some ((p1.drop (0 : Int).toNat).take ((p1.length : Int).toNat - (0 : Int).toNat))
theorem cN (p1 r : (List ac)) (h : bp p1 = some r) : PC Tryz.prog 99 [vl aa p1] (vl aa r) := by
 unfold bp at h
 refine zF 9 Tryz.f99 (zq fun K1 m1 => zr (zg [] 1 [0] (zd (m1 _ _ (zq fun K2 m2 => ?_)))))
 obtain ⟨g3, h⟩ := zG h
 refine zr (zv [] 3 [0,3,5] [] [(0, vl aa p1), (3, vl aa p1), (5, vi ((aa.els p1).length : Int))] [] ?_)
 rw [aa.len p1]
 refine zv [] 2 [3,5,7] [] [(3, vl aa p1), (5, vi (p1.length : Int)), (7, vi ((aa.els p1).length : Int))] [] ?_
 rw [aa.len p1]
 refine zp [] 1 [8] [] [(8, .one (.pv (.ro (((aa.els p1).drop (0 : Int).toNat).take ((p1.length : Int).toNat - (0 : Int).toNat)))))] [] [(0 ≤ (0 : Int) ∧ (0 : Int) ≤ (p1.length : Int) ∧ (p1.length : Int) ≤ (p1.length : Int) ∧ (p1.length : Int) ≤ ((aa.els p1).length : Int)) ∧ aq 5 (aa.els p1)] (⟨aa.cutMOk g3, trivial⟩) ?_
 rw [show ((aa.els p1).drop (0 : Int).toNat).take ((p1.length : Int).toNat - (0 : Int).toNat) = aa.els ((p1.drop (0 : Int).toNat).take ((p1.length : Int).toNat - (0 : Int).toNat)) from aa.cut _ _ _]
 refine zg [] 1 [2] (zd (m2 _ _ (ze ?_)))
 obtain rfl := zj h
 exact zf [vl aa ((p1.drop (0 : Int).toNat).take ((p1.length : Int).toNat - (0 : Int).toNat))] (.one (.rfl _ rfl))
def js (l4 l5 : List Int) (l6 : List ac) (z9 : List Int) (z10 z11 : Int) (z12 : List ah) (z13 z14 : Int) (z15 : List ah) (z16 : List Int) : Option ak := aT (d9 l4) fun r3 => aT (d9 l5) fun r4 => aT (bp l6) fun r5 => some (ak.mk r3 r4 r5)
def ec (p1 : bc) (p2 : (List (List ac))) : Nat → List Int → List Int → List ac → List Int → Int → Int → List ah → Int → Int → List ah → List Int → Int → Option ak
 | 0, _, _, _, _, _, _, _, _, _, _, _, _ => none
 | k1 + 1, l1, l2, l3, z1, z2, z3, z4, z5, z6, z7, z8, x1 => aI (decide (x1 < (p2.length : Int))) (aT (at? p2 x1) fun e1 => aT (at? p1.pos (0 : Int)) fun e2 => aT (at? e1 e2) fun e3 => aT (aU bf e3 (0 : Int) (0 : Int) (0 : Int) (0 : Int) (bl.mk (bc.mk (iu.mk z1 (aw.mk z2 z3 z4) z5 z6) z7 z8) (ak.mk l1 l2 l3))) fun r1 => (ec p1 p2 k1) r1.2.c.reps r1.2.c.defs r1.2.c.values r1.2.p.leaf.path r1.2.p.leaf.type.kind r1.2.p.leaf.type.scale r1.2.p.leaf.type.fields r1.2.p.leaf.df r1.2.p.leaf.rep r1.2.p.fields r1.2.p.pos (i64.wrap (x1 + 1))) (js l1 l2 l3 z1 z2 z3 z4 z5 z6 z7 z8)
def jW (p1 : bc) (p2 : (List (List ac))) : Option ak := ec p1 p2 bf [] [] [] p1.leaf.path p1.leaf.type.kind p1.leaf.type.scale p1.leaf.type.fields p1.leaf.df p1.leaf.rep p1.fields p1.pos (0 : Int)
abbrev jX : List CV := [.pv (.s (.slice none 0 0)), .pv (.s (.slice none 0 0)), .pv (.s (.slice none 0 0))]
abbrev xm (p1 : bc) : List CV := [cl eI p1.leaf.path, ci p1.leaf.type.kind, ci p1.leaf.type.scale, cl ab p1.leaf.type.fields, ci p1.leaf.df, ci p1.leaf.rep, cl ab p1.fields, cl eI p1.pos, .pv (.s (.slice none 0 0)), .pv (.s (.slice none 0 0)), .pv (.s (.slice none 0 0))]
abbrev wY : Fr := [(4, vq 0), (5, vq 1)]
abbrev zR (p1 : bc) : List CV := [cl eI p1.leaf.path, ci p1.leaf.type.kind, ci p1.leaf.type.scale, cl ab p1.leaf.type.fields, ci p1.leaf.df, ci p1.leaf.rep, cl ab p1.fields, cl eI p1.pos, .sl 2 1 0 0, .pv (.s (.slice none 0 0)), .pv (.s (.slice none 0 0))]
abbrev A3 (p1 : bc) : List CV := [cl eI p1.leaf.path, ci p1.leaf.type.kind, ci p1.leaf.type.scale, cl ab p1.leaf.type.fields, ci p1.leaf.df, ci p1.leaf.rep, cl ab p1.fields, cl eI p1.pos, .sl 2 1 0 0, .sl 3 1 0 0, .pv (.s (.slice none 0 0))]
theorem nk (p1 : bc) (p2 : (List (List ac))) (r : ak) (h : jW p1 p2 = some r) : PC Tryz.prog 63 [.ag [cl eI p1.leaf.path, ci p1.leaf.type.kind, ci p1.leaf.type.scale, cl ab p1.leaf.type.fields, ci p1.leaf.df, ci p1.leaf.rep, cl ab p1.fields, cl eI p1.pos], vl (eL aa) p2] (.ag [cl eI r.reps, cl eI r.defs, cl aa r.values]) := by
 unfold jW at h
 refine zF 46 Tryz.f63 (zq fun K1 m1 => zr (zg [4, 10] 2 [1,2,4] (zd (m1 _ _ (zq fun K2 m2 => zr ?_)))))
 refine zv [4, 10] 4 [1,2,4,5] [(bw p1)] [(1, vl (eL aa) p2), (2, vR (bw p1)), (4, vq 0), (5, vq 1)] [.box jX, .box (xm p1)] ?_
 refine zd (m2 _ _ (zq fun K3 m3 => ?_))
 have j1 : ∀ (l4 l5 : List Int) (l6 : List ac) (z9 : List Int) (z10 z11 : Int) (z12 : List ah) (z13 z14 : Int) (z15 : List ah) (z16 : List Int), js l4 l5 l6 z9 z10 z11 z12 z13 z14 z15 z16 = some r → ∀ w0 w1, aL 46 0 [] w0 w1 wY [.box jX, .box [cl eI z9, ci z10, ci z11, cl ab z12, ci z13, ci z14, cl ab z15, cl eI z16, .sl 2 1 0 l4.length, .sl 3 1 0 l5.length, .sl 4 5 0 l6.length], .arr 1 (eI.els l4), .arr 1 (eI.els l5), .arr 5 (aa.els l6)] → K3 w0 w1 := by
  intro l4 l5 l6 z9 z10 z11 z12 z13 z14 z15 z16 h w0 w1 hS
  unfold js at h
  refine m3 _ _ (XW.sub hS ?_)
  refine zq fun K14 m14 => ?_
  refine XW.sub (aL.killb eI l4 (fr' := wY) 1 8 2 [cl eI z9, ci z10, ci z11, cl ab z12, ci z13, ci z14, cl ab z15, cl eI z16, .sl 2 1 0 l4.length, .sl 3 1 0 l5.length, .sl 4 5 0 l6.length] l4.length (Nat.zero_le _) rfl rfl rfl rfl [.box jX, .box [cl eI z9, ci z10, ci z11, cl ab z12, ci z13, ci z14, cl ab z15, cl eI z16, .sl 5 1 0 l4.length, .sl 3 1 0 l5.length, .sl 4 5 0 l6.length], .arr 1 (eI.els l4), .arr 1 (eI.els l5), .arr 5 (aa.els l6), .dead] rfl (by kernel_rfl) ⟨.one (.rfl _ rfl), .one (.rfl _ rfl), trivial⟩ [.box jX, .box [cl eI z9, ci z10, ci z11, cl ab z12, ci z13, ci z14, cl ab z15, cl eI z16, cl eI l4, .sl 3 1 0 l5.length, .sl 4 5 0 l6.length], .dead, .arr 1 (eI.els l5), .arr 5 (aa.els l6), .dead] (by kernel_rfl)) ?_
  refine XW.sub (aL.killb eI l5 (fr' := wY) 1 9 3 [cl eI z9, ci z10, ci z11, cl ab z12, ci z13, ci z14, cl ab z15, cl eI z16, cl eI l4, .sl 3 1 0 l5.length, .sl 4 5 0 l6.length] l5.length (Nat.zero_le _) rfl rfl rfl rfl [.box jX, .box [cl eI z9, ci z10, ci z11, cl ab z12, ci z13, ci z14, cl ab z15, cl eI z16, cl eI l4, .sl 6 1 0 l5.length, .sl 4 5 0 l6.length], .dead, .arr 1 (eI.els l5), .arr 5 (aa.els l6), .dead, .dead] rfl (by kernel_rfl) ⟨.one (.rfl _ rfl), .one (.rfl _ rfl), trivial⟩ [.box jX, .box [cl eI z9, ci z10, ci z11, cl ab z12, ci z13, ci z14, cl ab z15, cl eI z16, cl eI l4, cl eI l5, .sl 4 5 0 l6.length], .dead, .dead, .arr 5 (aa.els l6), .dead, .dead] (by kernel_rfl)) ?_
  obtain ⟨r3, c16, h⟩ := zB h
  obtain ⟨r4, c17, h⟩ := zB h
  obtain ⟨r5, c18, h⟩ := zB h
  refine zw 17 [(43, .one (.sl 4 5 0 l6.length)), (42, .one (.pt 1 0 0 10)), (41, .one (.pt 1 0 0 8)), (40, vq 1), (39, vq 1), (38, vl eI r4), (37, vl eI l5), (36, .one (.pt 1 0 0 9)), (35, .one (.pt 1 0 0 8)), (34, vq 1), (33, vq 1), (32, vl eI r3), (31, vl eI l4), (30, .one (.pt 1 0 0 8)), (29, .one (.pt 1 0 0 8)), (28, vq 1), (27, vq 1), (4, vq 0), (5, vq 1)] ?_ ?_
  ·exact BB 5 (zT (kh _ _ c16) (ut 5 [] [(37, vl eI l5), (36, .one (.pt 1 0 0 9)), (35, .one (.pt 1 0 0 8)), (34, vq 1), (33, vq 1), (32, vl eI r3), (31, vl eI l4), (30, .one (.pt 1 0 0 8)), (29, .one (.pt 1 0 0 8)), (28, vq 1), (27, vq 1), (4, vq 0), (5, vq 1)] (zT (kh _ _ c17) (BB 5 lU))))
  refine XO.sub (aL.trans (aL.stale 1 10 4 5 0 l6.length [cl eI z9, ci z10, ci z11, cl ab z12, ci z13, ci z14, cl ab z15, cl eI z16, cl eI l4, cl eI l5, .sl 4 5 0 l6.length] rfl rfl [.box jX, .box [cl eI z9, ci z10, ci z11, cl ab z12, ci z13, ci z14, cl ab z15, cl eI z16, cl eI l4, cl eI l5, .sl 7 5 0 l6.length], .dead, .dead, .arr 5 (aa.els l6), .dead, .dead, .dead] rfl) (aL.kill (fr' := [(43, vl aa l6), (42, .one (.pt 1 0 0 10)), (41, .one (.pt 1 0 0 8)), (40, vq 1), (39, vq 1), (38, vl eI r4), (37, vl eI l5), (36, .one (.pt 1 0 0 9)), (35, .one (.pt 1 0 0 8)), (34, vq 1), (33, vq 1), (32, vl eI r3), (31, vl eI l4), (30, .one (.pt 1 0 0 8)), (29, .one (.pt 1 0 0 8)), (28, vq 1), (27, vq 1), (4, vq 0), (5, vq 1)]) 4 (Nat.zero_le _) (by kernel_rfl) ⟨.one (iS aa l6 rfl rfl rfl), .one (.rfl _ rfl), .one (.rfl _ rfl), .one (.rfl _ rfl), .one (.rfl _ rfl), .one (.rfl _ rfl), .one (.rfl _ rfl), .one (.rfl _ rfl), .one (.rfl _ rfl), .one (.rfl _ rfl), .one (.rfl _ rfl), .one (.rfl _ rfl), .one (.rfl _ rfl), .one (.rfl _ rfl), .one (.rfl _ rfl), .one (.rfl _ rfl), .one (.rfl _ rfl), .one (.rfl _ rfl), .one (.rfl _ rfl), trivial⟩)) ?_
  refine za (cN _ _ c18) (zg [4, 10] 2 [4] (zd (m14 _ _ (ze ?_))))
  obtain rfl := zj h
  exact zf [.ag [cl eI r3, cl eI r4, cl aa r5]] (.ag (.cons (.rfl _ rfl) (.cons (.rfl _ rfl) (.cons (.rfl _ rfl) .nil))))
 refine zq fun K4 m4 => zr ?_
 refine zv [4, 10] 2 [2,4,5,11,12] [] [(2, vR [.ro (eI.els p1.leaf.path), pi p1.leaf.type.kind, pi p1.leaf.type.scale, .ro (ab.els p1.leaf.type.fields), pi p1.leaf.df, pi p1.leaf.rep, .ro (ab.els p1.fields), .ro (eI.els p1.pos)]), (4, vq 0), (5, vq 1), (11, vl (eL aa) p2), (12, vi (((eL aa).els p2).length : Int))] [.box [.pv (.s (.slice none 0 0)), .pv (.s (.slice none 0 0)), .pv (.s (.slice none 0 0))], .box [cl eI p1.leaf.path, ci p1.leaf.type.kind, ci p1.leaf.type.scale, cl ab p1.leaf.type.fields, ci p1.leaf.df, ci p1.leaf.rep, cl ab p1.fields, cl eI p1.pos, .pv (.s (.slice none 0 0)), .pv (.s (.slice none 0 0)), .pv (.s (.slice none 0 0))]] ?_
 rw [(eL aa).len p2]
 refine zv [4, 10] 1 [2,4,5,11,12,13] [] [(2, vR (bw p1)), (4, vq 0), (5, vq 1), (11, vl (eL aa) p2), (12, vi (p2.length : Int)), (13, vi 0)] [.box jX, .box (xm p1)] ?_
 refine zd (m4 _ _ (zb 0 ?_))
 refine XW.sub (aL.listb 1 8 1 (xm p1) rfl rfl [.box jX, .box (zR p1), .arr 1 (eI.els [])] rfl) ?_
 refine XW.sub (aL.listb 1 9 1 (zR p1) rfl rfl [.box jX, .box (A3 p1), .arr 1 (eI.els []), .arr 1 (eI.els [])] rfl) ?_
 refine XW.sub (aL.listb 1 10 5 (A3 p1) rfl rfl [.box jX, .box [cl eI p1.leaf.path, ci p1.leaf.type.kind, ci p1.leaf.type.scale, cl ab p1.leaf.type.fields, ci p1.leaf.df, ci p1.leaf.rep, cl ab p1.fields, cl eI p1.pos, .sl 2 1 0 0, .sl 3 1 0 0, .sl 4 5 0 0], .arr 1 (eI.els []), .arr 1 (eI.els []), .arr 5 (aa.els [])] rfl) ?_
 refine XW.rounds' bf (x := cd Tryz.f63 [1,1,0,1,0,0]) (by kernel_rfl) fun Q1 hQ1 => ?_
 have hL1 : ∀ (k1 : Nat) (l1 l2 : List Int) (l3 : List ac) (z1 : List Int) (z2 z3 : Int) (z4 : List ah) (z5 z6 : Int) (z7 : List ah) (z8 : List Int) (x1 : Int), ec p1 p2 k1 l1 l2 l3 z1 z2 z3 z4 z5 z6 z7 z8 x1 = some r → XR Tryz.prog 46 0 [] (cd Tryz.f63 [1,1,0,1,0,0]) Q1 k1 [(2, vR (bw p1)), (4, vq 0), (5, vq 1), (11, vl (eL aa) p2), (12, vi (p2.length : Int)), (13, vi x1)] [.box jX, .box [cl eI z1, ci z2, ci z3, cl ab z4, ci z5, ci z6, cl ab z7, cl eI z8, .sl 2 1 0 l1.length, .sl 3 1 0 l2.length, .sl 4 5 0 l3.length], .arr 1 (eI.els l1), .arr 1 (eI.els l2), .arr 5 (aa.els l3)] := by
  intro k1
  induction k1 with
  | zero => intro l1 l2 l3 z1 z2 z3 z4 z5 z6 z7 z8 x1 h; rw [ec.eq_1] at h; cases h
  | succ k1 ih1 =>
   intro l1 l2 l3 z1 z2 z3 z4 z5 z6 z7 z8 x1 h
   rw [ec.eq_2] at h
   refine zq fun K5 m5 => zr (zg [4, 10] 1 [2,4,5,11,12,13,14] (zd (m5 _ _ (zq fun K6 m6 => zC h (fun b7 h => ?_) (fun b7 h => ?_)))))
   ·refine zs (m6 _ _ (zq fun K8 m8 => zb 1 (zq fun K9 m9 => ?_)))
    obtain ⟨e1, a10, h⟩ := zB h
    refine zr (zo [4, 10] 3 [2,4,5,7,11,12,13] [[.ro (aa.els e1)]] [0 ≤ x1 ∧ x1 < (((eL aa).els p2).length : Int) ∧ aq 1 ((eL aa).els p2), ((eL aa).els p2)[x1.toNat]? = some [.ro (aa.els e1)]] (⟨(eL aa).inb a10, ((eL aa).get a10), trivial⟩) (zd (m9 _ _ ?_)))
    obtain ⟨e2, a11, h⟩ := zB h
    obtain ⟨e3, a12, h⟩ := zB h
    obtain ⟨r1, c13, h⟩ := zB h
    refine zr ?_
    refine zp [4, 10] 8 [2,4,5,11,12,13,17,24] [(bw p1), [pi e2], [pi e3.kind, pi e3.n, pi e3.scale, .s (.string e3.s), .ro (aa.els e3.items)]] [(2, vR (bw p1)), (4, vq 0), (5, vq 1), (11, vl (eL aa) p2), (12, vi (p2.length : Int)), (13, vi x1), (17, vq 1), (24, .ag (aD e3))] [.box jX, .box [cl eI z1, ci z2, ci z3, cl ab z4, ci z5, ci z6, cl ab z7, cl eI z8, .sl 2 1 0 l1.length, .sl 3 1 0 l2.length, .sl 4 5 0 l3.length], .arr 1 (eI.els l1), .arr 1 (eI.els l2), .arr 5 (aa.els l3)] [([(bw p1)] : List (List PV))[0]? = some (bw p1), 0 ≤ (0 : Int) ∧ (0 : Int) < ((eI.els p1.pos).length : Int) ∧ aq 1 (eI.els p1.pos), (eI.els p1.pos)[(0 : Int).toNat]? = some [pi e2], 0 ≤ e2 ∧ e2 < ((aa.els e1).length : Int) ∧ aq 5 (aa.els e1), (aa.els e1)[e2.toNat]? = some [pi e3.kind, pi e3.n, pi e3.scale, .s (.string e3.s), .ro (aa.els e3.items)]] (⟨rfl, eI.inb a11, (eI.get a11), aa.inb a12, ((aa.get a12).trans (by cases e3; rfl)), trivial⟩) ?_
    refine XO.calx 106 [vq 0, .ag (aD e3), vi 0, vi 0, vi 0, vi 0] [.box [cl eI z1, ci z2, ci z3, cl ab z4, ci z5, ci z6, cl ab z7, cl eI z8, .sl 1 1 0 l1.length, .sl 2 1 0 l2.length, .sl 3 5 0 l3.length], .arr 1 (eI.els l1), .arr 1 (eI.els l2), .arr 5 (aa.els l3)] [.box [cl eI r1.2.p.leaf.path, ci r1.2.p.leaf.type.kind, ci r1.2.p.leaf.type.scale, cl ab r1.2.p.leaf.type.fields, ci r1.2.p.leaf.df, ci r1.2.p.leaf.rep, cl ab r1.2.p.fields, cl eI r1.2.p.pos, .sl 1 1 0 r1.2.c.reps.length, .sl 2 1 0 r1.2.c.defs.length, .sl 3 5 0 r1.2.c.values.length], .arr 1 (eI.els r1.2.c.reps), .arr 1 (eI.els r1.2.c.defs), .arr 5 (aa.els r1.2.c.values)] [1, 2, 3] (.tp []) [1, 2, 3, 4] [2, 3, 4] [(25, .tp []), (2, vR (bw p1)), (4, vq 0), (5, vq 1), (11, vl (eL aa) p2), (12, vi (p2.length : Int)), (13, vi x1), (17, vq 1), (24, .ag (aD e3))] [.box jX, .box [cl eI r1.2.p.leaf.path, ci r1.2.p.leaf.type.kind, ci r1.2.p.leaf.type.scale, cl ab r1.2.p.leaf.type.fields, ci r1.2.p.leaf.df, ci r1.2.p.leaf.rep, cl ab r1.2.p.fields, cl eI r1.2.p.pos, .sl 2 1 0 r1.2.c.reps.length, .sl 3 1 0 r1.2.c.defs.length, .sl 4 5 0 r1.2.c.values.length], .arr 1 (eI.els r1.2.c.reps), .arr 1 (eI.els r1.2.c.defs), .arr 5 (aa.els r1.2.c.values)] (by kernel_rfl) (ii bf _ _ _ _ _ _ _ c13) (by kernel_rfl) (by kernel_rfl) (by kernel_rfl) (by kernel_rfl) (by kernel_rfl) (by kernel_rfl) (by kernel_rfl) ?_
    exact zd (m8 _ _ (zr (zg [4, 10] 2 [2,4,5,11,12,13] (zd (XR.sub (zk [2,4,5,11,12,13]) (ih1 r1.2.c.reps r1.2.c.defs r1.2.c.values r1.2.p.leaf.path r1.2.p.leaf.type.kind r1.2.p.leaf.type.scale r1.2.p.leaf.type.fields r1.2.p.leaf.df r1.2.p.leaf.rep r1.2.p.fields r1.2.p.pos (i64.wrap (x1 + 1)) h))))))
   ·exact zx 0 (hQ1 _ _ _ (j1 l1 l2 l3 z1 z2 z3 z4 z5 z6 z7 z8 h _ _ (zk [4,5])))
 exact XR.sub (zk [2,4,5,11,12,13]) (hL1 bf [] [] [] p1.leaf.path p1.leaf.type.kind p1.leaf.type.scale p1.leaf.type.fields p1.leaf.df p1.leaf.rep p1.fields p1.pos (0 : Int) h)
def bW (p1 : (List ak)) : Option (List ak) := fL (0 ≤ (0 : Int) ∧ (0 : Int) ≤ (p1.length : Int) ∧ (p1.length : Int) ≤ (p1.length : Int) ∧ (p1.length : Int) ≤ (p1.length : Int)) <| some ((p1.drop (0 : Int).toNat).take ((p1.length : Int).toNat - (0 : Int).toNat))
theorem ji (p1 r : (List ak)) (h : bW p1 = some r) : PC Tryz.prog 64 [vl af p1] (vl af r) := by
 unfold bW at h
 refine zF 9 Tryz.f64 (zq fun K1 m1 => zr (zg [] 1 [0] (zd (m1 _ _ (zq fun K2 m2 => ?_)))))
 obtain ⟨g3, h⟩ := zG h
 refine zr (zv [] 3 [0,3,5] [] [(0, vl af p1), (3, vl af p1), (5, vi ((af.els p1).length : Int))] [] ?_)
 rw [af.len p1]
 refine zv [] 2 [3,5,7] [] [(3, vl af p1), (5, vi (p1.length : Int)), (7, vi ((af.els p1).length : Int))] [] ?_
 rw [af.len p1]
 refine zp [] 1 [8] [] [(8, .one (.pv (.ro (((af.els p1).drop (0 : Int).toNat).take ((p1.length : Int).toNat - (0 : Int).toNat)))))] [] [(0 ≤ (0 : Int) ∧ (0 : Int) ≤ (p1.length : Int) ∧ (p1.length : Int) ≤ (p1.length : Int) ∧ (p1.length : Int) ≤ ((af.els p1).length : Int)) ∧ aq 3 (af.els p1)] (⟨af.cutMOk g3, trivial⟩) ?_
 rw [show ((af.els p1).drop (0 : Int).toNat).take ((p1.length : Int).toNat - (0 : Int).toNat) = af.els ((p1.drop (0 : Int).toNat).take ((p1.length : Int).toNat - (0 : Int).toNat)) from af.cut _ _ _]
 refine zg [] 1 [2] (zd (m2 _ _ (ze ?_)))
 obtain rfl := zj h
 exact zf [vl af ((p1.drop (0 : Int).toNat).take ((p1.length : Int).toNat - (0 : Int).toNat))] (.one (.rfl _ rfl))
def jm (l2 : List ak) : Option ((List ak) × Int) := aT (bW l2) fun r4 => some (r4, (0 : Int))
def ef (p2 : (List (List ac))) (r2 : (List bc)) : Nat → List ak → Int → Option ((List ak) × Int)
 | 0, _, _ => none
 | k1 + 1, l1, x1 => aI (decide (x1 < (r2.length : Int))) (aT (at? r2 x1) fun e1 => aT (jW e1 p2) fun r3 => fL (l1.length + 1 ≤ 4294967296) <| (ef p2 r2 k1) (l1 ++ [r3]) (i64.wrap (x1 + 1))) (jm l1)
def iK (p1 : (List ah)) (p2 : (List (List ac))) : Option ((List ak) × Int) := aT (fb p1 p2) fun r1 => aI (r1 != 0) (some ([], r1)) (aT (gG p1) fun r2 => ef p2 r2 bf [] (0 : Int))
abbrev qn (e1 : bc) : List CV := [cl eI e1.leaf.path, ci e1.leaf.type.kind, ci e1.leaf.type.scale, cl ab e1.leaf.type.fields, ci e1.leaf.df, ci e1.leaf.rep, cl ab e1.fields, cl eI e1.pos]
theorem nJ (p1 : (List ah)) (p2 : (List (List ac))) (r : ((List ak) × Int)) (h : iK p1 p2 = some r) : PC Tryz.prog 21 [vl ab p1, vl (eL aa) p2] (.tp [vl af r.1, vi r.2]) := by
 unfold iK at h
 refine zF 32 Tryz.f21 (zq fun K1 m1 => zr (zg [9] 2 [0,1] (zd (m1 _ _ (zq fun K2 m2 => zq fun K3 m3 => ?_)))))
 obtain ⟨r1, c4, h⟩ := zB h
 refine zr (zg [9] 2 [0,1,10,11] (zl 62 [vl ab p1, vl (eL aa) p2] (vi r1) [(12, vi r1), (0, vl ab p1), (1, vl (eL aa) p2), (10, vl ab p1), (11, vl (eL aa) p2)] (lg _ _ _ c4) (zg [9] 1 [0,1,6] (zd (m3 _ _ (zq fun K5 m5 => zr ?_))))))
 refine zg [9] 2 [0,1,6,14] (zd (m5 _ _ (zC h (fun b6 h => ?_) (fun b6 h => ?_))))
 ·refine zq fun K7 m7 => zr (zv [9] 3 [4,5] [] [(4, .one (.pv (.s (.slice none 0 0)))), (5, vi r1)] [] (zd (m7 _ _ (ze ?_))))
  obtain rfl := zj h
  exact zf [.one (.pv (.s (.slice none 0 0))), vi r1] (.tpc (.one (.nl)) (.tpc (.one (.rfl _ rfl)) (.tp0)))
 ·refine zs (m2 _ _ (zq fun K8 m8 => zr (zg [9] 1 [0,1,7] (zd (m8 _ _ (zq fun K9 m9 => ?_))))))
  have j1 : ∀ (l2 : List ak), jm l2 = some r → ∀ w0 w1, aL 32 0 [] w0 w1 [(7, .one (.sl 0 3 0 l2.length))] [.arr 3 (af.els l2)] → K9 w0 w1 := by
   intro l2 h w0 w1 hS
   unfold jm at h
   refine m9 _ _ (XW.sub hS ?_)
   refine zq fun K20 m20 => ?_
   obtain ⟨r4, c21, h⟩ := zB h
   refine zr (zv [9] 1 [30] [] [(30, .one (.sl 0 3 0 l2.length))] [.arr 3 (af.els l2)] (XO.sub (aL.kill (fr' := [(30, vl af l2)]) 0 (Nat.zero_le _) (by kernel_rfl) ⟨.one (iS af l2 rfl rfl rfl), trivial⟩) (za (ji _ _ c21) (zg [9] 2 [4,5] (zd (m20 _ _ (ze ?_)))))))
   obtain rfl := zj h
   exact zf [vl af r4, vi 0] (.tpc (.one (.rfl _ rfl)) (.tpc (.one (.rfl _ rfl)) (.tp0)))
  refine zq fun K10 m10 => ?_
  obtain ⟨r2, c11, h⟩ := zB h
  refine zr (zg [9] 1 [1,7,16] (zl 42 [vl ab p1] (vl bo r2) [(17, vl bo r2), (1, vl (eL aa) p2), (7, .one (.pv (.s (.slice none 0 0)))), (16, vl ab p1)] (lM _ _ c11) (zv [9] 1 [1,7,17,18] [] [(1, vl (eL aa) p2), (7, .one (.pv (.s (.slice none 0 0)))), (17, vl bo r2), (18, vi ((bo.els r2).length : Int))] [] ?_)))
  rw [bo.len r2]
  refine zv [9] 1 [1,7,17,18,19] [] [(1, vl (eL aa) p2), (7, .one (.pv (.s (.slice none 0 0)))), (17, vl bo r2), (18, vi (r2.length : Int)), (19, vi 0)] [] (zd (m10 _ _ (zb 0 (XW.sub (aL.list (t := 7) (sz := 3) rfl) (XW.rounds' bf (x := cd Tryz.f21 [1,1,1,0,1,0,0]) (by kernel_rfl) fun Q1 hQ1 => ?_)))))
  have hL1 : ∀ (k1 : Nat) (l1 : List ak) (x1 : Int), ef p2 r2 k1 l1 x1 = some r → XR Tryz.prog 32 0 [] (cd Tryz.f21 [1,1,1,0,1,0,0]) Q1 k1 [(1, vl (eL aa) p2), (7, .one (.sl 0 3 0 l1.length)), (17, vl bo r2), (18, vi (r2.length : Int)), (19, vi x1)] [.arr 3 (af.els l1)] := by
   intro k1
   induction k1 with
   | zero => intro l1 x1 h; rw [ef.eq_1] at h; cases h
   | succ k1 ih1 =>
    intro l1 x1 h
    rw [ef.eq_2] at h
    refine zq fun K12 m12 => zr (zg [9] 1 [1,7,17,18,19,20] (zd (m12 _ _ (zq fun K13 m13 => zC h (fun b14 h => ?_) (fun b14 h => ?_)))))
    ·refine zs (m13 _ _ (zq fun K15 m15 => zb 1 (zq fun K16 m16 => ?_)))
     obtain ⟨e1, a17, h⟩ := zB h
     refine zr (zo [9] 4 [1,7,9,17,18,19] [(bw e1)] [0 ≤ x1 ∧ x1 < ((bo.els r2).length : Int) ∧ aq 8 (bo.els r2), (bo.els r2)[x1.toNat]? = some (bw e1)] (⟨bo.inb a17, (bo.get a17), trivial⟩) (zd (m16 _ _ ?_)))
     obtain ⟨r3, c18, h⟩ := zB h
     obtain ⟨g19, h⟩ := zG h
     refine zr (zv [9] 3 [1,17,18,19,23,24,25] [] [(1, vl (eL aa) p2), (17, vl bo r2), (18, vi (r2.length : Int)), (19, vi x1), (23, .one (.sl 0 3 0 l1.length)), (24, .ag (qn e1)), (25, vl (eL aa) p2)] [.arr 3 (af.els l1), .box (qn e1)] (za (nk _ _ _ c18) ?_))
     refine zp [9] 2 [1,17,18,19,28] [] [(1, vl (eL aa) p2), (17, vl bo r2), (18, vi (r2.length : Int)), (19, vi x1), (28, .one (.sl 0 3 0 (l1.length + (af.els [r3]).length)))] [.arr 3 (af.els l1 ++ af.els [r3]), .box [cl eI e1.leaf.path, ci e1.leaf.type.kind, ci e1.leaf.type.scale, cl ab e1.leaf.type.fields, ci e1.leaf.df, ci e1.leaf.rep, cl ab e1.fields, cl eI e1.pos]] [aq 3 (af.els [r3]), l1.length = (af.els l1).length, l1.length + (af.els [r3]).length ≤ 4294967296] (⟨af.ok _, (af.len l1).symm, g19, trivial⟩) ?_
     rw [show l1.length + (af.els [r3]).length = (l1 ++ [r3]).length from af.lapp _ _]
     rw [show af.els l1 ++ af.els [r3] = af.els (l1 ++ [r3]) from af.app2 _ _]
     refine zg [9] 1 [1,7,17,18,19] (zd (m15 _ _ (zr (zg [9] 2 [1,7,17,18,19] (zd ?_)))))
     exact XR.sub (aL.trans (aL.pick (fr' := [(1, vl (eL aa) p2), (7, .one (.sl 0 3 0 ((l1 ++ [r3]).length))), (17, vl bo r2), (18, vi (r2.length : Int)), (19, vi (i64.wrap (x1 + 1)))]) [1,7,17,18,19] (by kernel_rfl)) (aL.take (fr' := [(1, vl (eL aa) p2), (7, .one (.sl 0 3 0 ((l1 ++ [r3]).length))), (17, vl bo r2), (18, vi (r2.length : Int)), (19, vi (i64.wrap (x1 + 1)))]) 1 (Nat.zero_le _) (by kernel_rfl) (by kernel_rfl))) (ih1 (l1 ++ [r3]) (i64.wrap (x1 + 1)) h)
    ·exact zx 0 (hQ1 _ _ _ (j1 l1 h _ _ (zk [7])))
  exact XR.sub (zk [1,7,17,18,19]) (hL1 bf [] (0 : Int) h)
def ix (x1 : Bool) : Option Bool := some x1
def mb : Option Bool := aT (oN) fun r1 => aT (ny (5 : Int)) fun r2 => aT (iK r1 ([[r2]])) fun r3 => aI (r3.2 == 0) (aI ((r3.1.length : Int) == 1) (aT (at? r3.1 (0 : Int)) fun e1 => ix ((e1.values.length : Int) == 1)) (ix false)) (ix false)
theorem su (r : Bool) (h : mb = some r) : PC Tryz.prog 16 [] (vb r) := by
 unfold mb at h
 refine zF 26 Tryz.f16 (zq fun K1 m1 => zr (zg [] 1 [] (zd (m1 _ _ (zq fun K2 m2 => ?_)))))
 obtain ⟨r1, c3, h⟩ := zB h
 obtain ⟨r2, c4, h⟩ := zB h
 obtain ⟨r3, c5, h⟩ := zB h
 refine zr (za (uh _ c3) (zl 51 [vi 5] (.ag [ci r2.kind, ci r2.n, ci r2.scale, cj r2.s, cl aa r2.items]) [(5, .ag [ci r2.kind, ci r2.n, ci r2.scale, cj r2.s, cl aa r2.items]), (4, vl ab r1)] (so _ _ c4) (zv [] 1 [4,6] [] [(4, vl ab r1), (6, .one (.pv (.ro [[pi r2.kind, pi r2.n, pi r2.scale, .s (.string r2.s), .ro (aa.els r2.items)]])))] [] ?_)))
 rw [show ([[pi r2.kind, pi r2.n, pi r2.scale, .s (.string r2.s), .ro (aa.els r2.items)]] : List (List PV)) = aa.els [r2] from by cases r2; rfl]
 refine zg [] 1 [4,7] (za (nJ _ _ _ c5) (zv [] 5 [1,2] [] [(1, vl af r3.1), (2, vi r3.2)] [] (zd (m2 _ _ (zq fun K6 m6 => ?_)))))
 have j1 : ∀ (x1 : Bool), ix x1 = some r → ∀ w0 w1, aL 26 0 [] w0 w1 [(0, vb x1)] [] → K6 w0 w1 := by
  intro x1 h w0 w1 hS
  unfold ix at h
  refine m6 _ _ (XW.sub hS ?_)
  refine ze ?_
  obtain rfl := zj h
  exact zf [vb x1] (.one (.rfl _ rfl))
 rcases zW h with ⟨b7, h⟩ | ⟨b7, h⟩
 ·rcases zW h with ⟨b8, h⟩ | ⟨b8, h⟩
  ·obtain ⟨e1, a9, h⟩ := zB h
   refine zr (zg [] 3 [1,13] (zt 13 b7 (zv [] 2 [1,13,15] [] [(1, vl af r3.1), (13, vb true), (15, vi ((af.els r3.1).length : Int))] [] ?_)))
   rw [af.len r3.1]
   refine zg [] 3 [1,18] (zt 18 b8 (zp [] 5 [18,23] [[.ro (eI.els e1.reps), .ro (eI.els e1.defs), .ro (aa.els e1.values)]] [(18, vb true), (23, vi ((aa.els e1.values).length : Int))] [] [0 ≤ (0 : Int) ∧ (0 : Int) < ((af.els r3.1).length : Int) ∧ aq 3 (af.els r3.1), (af.els r3.1)[(0 : Int).toNat]? = some [.ro (eI.els e1.reps), .ro (eI.els e1.defs), .ro (aa.els e1.values)]] (⟨af.inb a9, (af.get a9), trivial⟩) ?_))
   rw [aa.len e1.values]
   exact zg [] 3 [0] (zd (j1 ((e1.values.length : Int) == 1) h _ _ (zk [0])))
  ·refine zr (zg [] 3 [1,13] (zt 13 b7 (zv [] 2 [1,13,15] [] [(1, vl af r3.1), (13, vb true), (15, vi ((af.els r3.1).length : Int))] [] ?_)))
   rw [af.len r3.1]
   exact zg [] 3 [1,18] (zt 18 b8 (zg [] 8 [0] (zd (j1 false h _ _ (zk [0])))))
 ·exact zr (zg [] 3 [1,13] (zt 13 b7 (zg [] 13 [0] (zd (j1 false h _ _ (zk [0]))))))
def iJ (x1 : Bool) : Option Bool := some x1
def iP (p1 : Int) : Option Bool := aI (p1 != 6) (iJ (p1 != 7)) (iJ false)
theorem kH (p1 : Int) (r : Bool) (h : iP p1 = some r) : PC Tryz.prog 26 [vi p1] (vb r) := by
 unfold iP at h
 refine zF 9 Tryz.f26 (zq fun K1 m1 => zr (zg [] 1 [0] (zd (m1 _ _ (zq fun K2 m2 => ?_)))))
 have j1 : ∀ (x1 : Bool), iJ x1 = some r → ∀ w0 w1, aL 9 0 [] w0 w1 [(2, vb x1)] [] → K2 w0 w1 := by
  intro x1 h w0 w1 hS
  unfold iJ at h
  refine m2 _ _ (XW.sub hS ?_)
  refine ze ?_
  obtain rfl := zj h
  exact zf [vb x1] (.one (.rfl _ rfl))
 rcases zW h with ⟨b3, h⟩ | ⟨b3, h⟩
 ·exact zr (zg [] 3 [0,5] (zt 5 b3 (zv [] 4 [2] [] [(2, vb (p1 != 7))] [] (zd (j1 (p1 != 7) h _ _ (zk [2]))))))
 ·exact zr (zg [] 3 [0,5] (zt 5 b3 (zg [] 4 [2] (zd (j1 false h _ _ (zk [2]))))))
def gk (x1 : Bool) : Option Bool := some x1
def dB (p1 p2 p3 : Int) : Option Bool := aI (decide (p2 ≤ p1)) (gk (decide (p1 ≤ p3))) (gk false)
theorem cm (p1 p2 p3 : Int) (r : Bool) (h : dB p1 p2 p3 = some r) : PC Tryz.prog 73 [vi p1, vi p2, vi p3] (vb r) := by
 unfold dB at h
 refine zF 15 Tryz.f73 (zq fun K1 m1 => zr (zg [] 1 [0,1,2] (zd (m1 _ _ (zq fun K2 m2 => ?_)))))
 have j1 : ∀ (x1 : Bool), gk x1 = some r → ∀ w0 w1, aL 15 0 [] w0 w1 [(6, vb x1)] [] → K2 w0 w1 := by
  intro x1 h w0 w1 hS
  unfold gk at h
  refine m2 _ _ (XW.sub hS ?_)
  refine ze ?_
  obtain rfl := zj h
  exact zf [vb x1] (.one (.rfl _ rfl))
 rcases zW h with ⟨b3, h⟩ | ⟨b3, h⟩
 ·exact zr (zg [] 4 [0,2,10] (zt 10 b3 (zv [] 5 [6] [] [(6, vb (decide (p1 ≤ p3)))] [] (zd (j1 (decide (p1 ≤ p3)) h _ _ (zk [6]))))))
 ·exact zr (zg [] 4 [0,2,10] (zt 10 b3 (zg [] 5 [6] (zd (j1 false h _ _ (zk [6]))))))
def iO (rec1 : Int → Option Bool) (x2 : Int) (x5 : Bool) : Option Bool := aI x5 (some false) (rec1 (i64.wrap (x2 + 1)))
def iN (rec1 : Int → Option Bool) (x2 : Int) (x3 x4 : Bool) : Option Bool := aI (!x3) (aI (x2 == 0) (iO rec1 x2 true) (iO rec1 x2 (!x4))) (iO rec1 x2 false)
def jR (rec1 : Int → Option Bool) (p1 : ByteArray) (x2 : Int) (x3 : Bool) : Option Bool := fL (0 ≤ x2 ∧ x2 < (p1.size : Int)) <| aI (((p1.data.toList.getD x2.toNat 0).toNat : Int) == 95) (iN rec1 x2 x3 true) (fL (0 ≤ x2 ∧ x2 < (p1.size : Int)) <| aT (some (decide ((48 : Int) ≤ ((p1.data.toList.getD x2.toNat 0).toNat : Int)))) fun y3 => aI y3 (fL (0 ≤ x2 ∧ x2 < (p1.size : Int)) <| aT (some (decide (((p1.data.toList.getD x2.toNat 0).toNat : Int) ≤ (57 : Int)))) fun y4 => iN rec1 x2 x3 y4) (iN rec1 x2 x3 false))
def mD : Option Bool := some true
def cp (p1 : ByteArray) : Nat → Int → Option Bool
 | 0, _ => none
 | k1 + 1, x2 => aI (decide (x2 < (p1.size : Int))) (fL (0 ≤ x2 ∧ x2 < (p1.size : Int)) <| aT (some (decide ((97 : Int) ≤ ((p1.data.toList.getD x2.toNat 0).toNat : Int)))) fun y1 => aI y1 (fL (0 ≤ x2 ∧ x2 < (p1.size : Int)) <| aT (some (decide (((p1.data.toList.getD x2.toNat 0).toNat : Int) ≤ (122 : Int)))) fun y2 => jR (cp p1 k1) p1 x2 y2) (jR (cp p1 k1) p1 x2 false)) (mD)
def jU (p1 : ByteArray) (x1 : Bool) : Option Bool := aI x1 (some false) (cp p1 bf (0 : Int))
def mt (p1 : ByteArray) : Option Bool := aI (decide ((p1.size : Int) < (1 : Int))) (jU p1 true) (jU p1 (decide ((24 : Int) < (p1.size : Int))))
theorem vm (p1 : ByteArray) (r : Bool) (h : mt p1 = some r) : PC Tryz.prog 154 [vs p1] (vb r) := by
 unfold mt at h
 refine zF 56 Tryz.f154 (zq fun K1 m1 => zr (zg [] 1 [0] (zd (m1 _ _ (zq fun K2 m2 => zq fun K3 m3 => ?_)))))
 have j1 : ∀ (x1 : Bool), jU p1 x1 = some r → ∀ w0 w1, aL 56 0 [] w0 w1 [(0, vs p1), (13, vb x1)] [] → K3 w0 w1 := by
  intro x1 h w0 w1 hS
  unfold jU at h
  refine m3 _ _ (XW.sub hS ?_)
  refine zC h (fun b5 h => ?_) (fun b5 h => ?_)
  ·refine zq fun K6 m6 => zr (zg [] 1 [2] (zd (m6 _ _ (ze ?_))))
   obtain rfl := zj h
   exact zf [vb false] (.one (.rfl _ rfl))
  ·refine zs (m2 _ _ (zq fun K7 m7 => ?_))
   have j5 : ∀ (_ : Unit), mD = some r → ∀ w0 w1, aL 56 0 [] w0 w1 [] [] → K7 w0 w1 := by
    intro _ h w0 w1 hS
    unfold mD at h
    refine m7 _ _ (XW.sub hS ?_)
    refine zq fun K32 m32 => zr (zg [] 1 [2] (zd (m32 _ _ (ze ?_))))
    obtain rfl := zj h
    exact zf [vb true] (.one (.rfl _ rfl))
   refine zq fun K8 m8 => zr (zg [] 1 [0,3] (zd (m8 _ _ (zb 0 (XW.rounds' bf (x := cd Tryz.f154 [1,1,0,1,0,0]) (by kernel_rfl) fun Q1 hQ1 => ?_)))))
   have hL1 : ∀ (k1 : Nat) (x2 : Int), cp p1 k1 x2 = some r → XR Tryz.prog 56 0 [] (cd Tryz.f154 [1,1,0,1,0,0]) Q1 k1 [(0, vs p1), (3, vi x2)] [] := by
    intro k1
    induction k1 with
    | zero => intro x2 h; rw [cp.eq_1] at h; cases h
    | succ k1 ih1 =>
     intro x2 h
     rw [cp.eq_2] at h
     refine zq fun K9 m9 => zq fun K10 m10 => zr (zg [] 4 [0,3,17] (zd (m10 _ _ (zC h (fun b11 h => ?_) (fun b11 h => ?_)))))
     ·refine zs (m9 _ _ (zq fun K12 m12 => zb 1 (zq fun K13 m13 => ?_)))
      have j2 : ∀ (x3 : Bool), jR (cp p1 k1) p1 x2 x3 = some r → ∀ w0 w1, aL 56 0 [] w0 w1 [(0, vs p1), (3, vi x2), (4, vb x3)] [] → K13 w0 w1 := by
       intro x3 h w0 w1 hS
       unfold jR at h
       refine m13 _ _ (XW.sub hS ?_)
       refine zq fun K19 m19 => ?_
       have j3 : ∀ (x4 : Bool), iN (cp p1 k1) x2 x3 x4 = some r → ∀ w0 w1, aL 56 0 [] w0 w1 [(0, vs p1), (3, vi x2), (4, vb x3), (5, vb x4)] [] → K19 w0 w1 := by
        intro x4 h w0 w1 hS
        unfold iN at h
        refine m19 _ _ (XW.sub hS ?_)
        refine zq fun K27 m27 => ?_
        have j4 : ∀ (x5 : Bool), iO (cp p1 k1) x2 x5 = some r → ∀ w0 w1, aL 56 0 [] w0 w1 [(0, vs p1), (3, vi x2), (55, vb x5)] [] → K27 w0 w1 := by
         intro x5 h w0 w1 hS
         unfold iO at h
         refine m27 _ _ (XW.sub hS ?_)
         refine zC h (fun b30 h => ?_) (fun b30 h => ?_)
         ·refine zq fun K31 m31 => zr (zg [] 1 [2] (zd (m31 _ _ (ze (hQ1 _ _ _ ?_)))))
          obtain rfl := zj h
          exact zf [vb false] (.one (.rfl _ rfl))
         ·exact zs (m12 _ _ (zr (zg [] 3 [0,3] (zd (XR.sub (zk [0,3]) (ih1 (i64.wrap (x2 + 1)) h))))))
        rcases zW h with ⟨b28, h⟩ | ⟨b28, h⟩
        ·rcases zW h with ⟨b29, h⟩ | ⟨b29, h⟩
         ·exact zr (zg [] 3 [0,3,5,48] (zt 48 b28 (zg [] 3 [0,3,5,48,51] (zt 51 b29 (zv [] 4 [0,3,55] [] [(0, vs p1), (3, vi x2), (55, vb true)] [] (zd (j4 true h _ _ (zk [0,3,55]))))))))
         ·exact zr (zg [] 3 [0,3,5,48] (zt 48 b28 (zg [] 3 [0,3,5,48,51] (zt 51 b29 (zv [] 4 [0,3,55] [] [(0, vs p1), (3, vi x2), (55, vb (!x4))] [] (zd (j4 (!x4) h _ _ (zk [0,3,55]))))))))
        ·exact zr (zg [] 3 [0,3,5,48] (zt 48 b28 (zg [] 7 [0,3,55] (zd (j4 false h _ _ (zk [0,3,55]))))))
       obtain ⟨g20, h⟩ := zG h
       rcases zW h with ⟨b21, h⟩ | ⟨b21, h⟩
       ·exact zr (zo [] 5 [0,3,4,34] [] [0 ≤ x2 ∧ x2 < (p1.size : Int)] (⟨g20, trivial⟩) (zt 34 b21 (zg [] 12 [0,3,4,5] (zd (j3 true h _ _ (zk [0,3,4,5]))))))
       ·obtain ⟨g22, h⟩ := zG h
        obtain ⟨y3, hy23, h⟩ := zB h
        rcases zW h with ⟨b24, h⟩ | ⟨b24, h⟩
        ·obtain ⟨g25, h⟩ := zG h
         obtain ⟨y4, hy26, h⟩ := zB h
         refine zr (zp [] 5 [0,3,4,34] [] [(0, vs p1), (3, vi x2), (4, vb x3), (34, vb (((p1.data.toList.getD x2.toNat 0).toNat : Int) == 95))] [] [0 ≤ x2 ∧ x2 < (p1.size : Int)] (⟨g20, trivial⟩) (zt 34 b21 (zp [] 4 [0,3,4,34,38] [] [(0, vs p1), (3, vi x2), (4, vb x3), (34, vb false), (38, vb (decide ((48 : Int) ≤ ((p1.data.toList.getD x2.toNat 0).toNat : Int))))] [] [0 ≤ x2 ∧ x2 < (p1.size : Int)] (⟨g22, trivial⟩) ?_)))
         rw [show (decide ((48 : Int) ≤ ((p1.data.toList.getD x2.toNat 0).toNat : Int))) = y3 from zj hy23]
         refine zg [] 1 [0,3,4,34,39] (zt 39 b24 (zp [] 4 [0,3,4,34,39,43] [] [(0, vs p1), (3, vi x2), (4, vb x3), (34, vb false), (39, vb true), (43, vb (decide (((p1.data.toList.getD x2.toNat 0).toNat : Int) ≤ (57 : Int))))] [] [0 ≤ x2 ∧ x2 < (p1.size : Int)] (⟨g25, trivial⟩) ?_))
         rw [show (decide (((p1.data.toList.getD x2.toNat 0).toNat : Int) ≤ (57 : Int))) = y4 from zj hy26]
         exact zg [] 3 [0,3,4,5] (zd (j3 y4 h _ _ (zk [0,3,4,5])))
        ·refine zr (zo [] 5 [0,3,4,34] [] [0 ≤ x2 ∧ x2 < (p1.size : Int)] (⟨g20, trivial⟩) (zt 34 b21 (zp [] 4 [0,3,4,34,38] [] [(0, vs p1), (3, vi x2), (4, vb x3), (34, vb false), (38, vb (decide ((48 : Int) ≤ ((p1.data.toList.getD x2.toNat 0).toNat : Int))))] [] [0 ≤ x2 ∧ x2 < (p1.size : Int)] (⟨g22, trivial⟩) ?_)))
         rw [show (decide ((48 : Int) ≤ ((p1.data.toList.getD x2.toNat 0).toNat : Int))) = y3 from zj hy23]
         exact zg [] 1 [0,3,4,34,39] (zt 39 b24 (zg [] 7 [0,3,4,5] (zd (j3 false h _ _ (zk [0,3,4,5])))))
      obtain ⟨g14, h⟩ := zG h
      obtain ⟨y1, hy15, h⟩ := zB h
      rcases zW h with ⟨b16, h⟩ | ⟨b16, h⟩
      ·obtain ⟨g17, h⟩ := zG h
       obtain ⟨y2, hy18, h⟩ := zB h
       refine zr (zp [] 4 [0,3,23] [] [(0, vs p1), (3, vi x2), (23, vb (decide ((97 : Int) ≤ ((p1.data.toList.getD x2.toNat 0).toNat : Int))))] [] [0 ≤ x2 ∧ x2 < (p1.size : Int)] (⟨g14, trivial⟩) ?_)
       rw [show (decide ((97 : Int) ≤ ((p1.data.toList.getD x2.toNat 0).toNat : Int))) = y1 from zj hy15]
       refine zg [] 1 [0,3,24] (zt 24 b16 (zp [] 4 [0,3,24,28] [] [(0, vs p1), (3, vi x2), (24, vb true), (28, vb (decide (((p1.data.toList.getD x2.toNat 0).toNat : Int) ≤ (122 : Int))))] [] [0 ≤ x2 ∧ x2 < (p1.size : Int)] (⟨g17, trivial⟩) ?_))
       rw [show (decide (((p1.data.toList.getD x2.toNat 0).toNat : Int) ≤ (122 : Int))) = y2 from zj hy18]
       exact zg [] 2 [0,3,4] (zd (j2 y2 h _ _ (zk [0,3,4])))
      ·refine zr (zp [] 4 [0,3,23] [] [(0, vs p1), (3, vi x2), (23, vb (decide ((97 : Int) ≤ ((p1.data.toList.getD x2.toNat 0).toNat : Int))))] [] [0 ≤ x2 ∧ x2 < (p1.size : Int)] (⟨g14, trivial⟩) ?_)
       rw [show (decide ((97 : Int) ≤ ((p1.data.toList.getD x2.toNat 0).toNat : Int))) = y1 from zj hy15]
       exact zg [] 1 [0,3,24] (zt 24 b16 (zg [] 6 [0,3,4] (zd (j2 false h _ _ (zk [0,3,4])))))
     ·exact zx 0 (hQ1 _ _ _ (j5 () h _ _ (zk [])))
   exact XR.sub (zk [0,3]) (hL1 bf (0 : Int) h)
 rcases zW h with ⟨b4, h⟩ | ⟨b4, h⟩
 ·exact zr (zg [] 4 [0,9] (zt 9 b4 (zv [] 4 [0,13] [] [(0, vs p1), (13, vb true)] [] (zd (j1 true h _ _ (zk [0,13]))))))
 ·exact zr (zg [] 4 [0,9] (zt 9 b4 (zg [] 4 [0,13] (zd (j1 (decide ((24 : Int) < (p1.size : Int))) h _ _ (zk [0,13]))))))
def ks (rec2 : Int → Option Int) (x5 : Int) : Option Int := rec2 (i64.wrap (x5 + 1))
def di (rec2 : Int → Option Int) (p1 : aw) (x5 : Int) : Nat → Int → Option Int
 | 0, _ => none
 | k3 + 1, x6 => aI (decide (x6 < x5)) (aT (at? p1.fields x6) fun e3 => aT (at? p1.fields x5) fun e4 => aI (e3.name.toList == e4.name.toList) (some (5 : Int)) ((di rec2 p1 x5 k3) (i64.wrap (x6 + 1)))) (ks rec2 x5)
def me : Option Int := some (0 : Int)
def cS (p1 : aw) : Nat → Int → Option Int
 | 0, _ => none
 | k2 + 1, x5 => aI (decide (x5 < (p1.fields.length : Int))) (di (cS p1 k2) p1 x5 bf (0 : Int)) (me)
def kx (p1 : aw) : Option Int := cS p1 bf (0 : Int)
def dG (p1 : aw) : Nat → Int → Option Int
 | 0, _ => none
 | k1 + 1, x4 => aI (decide (x4 < (p1.fields.length : Int))) (aT (at? p1.fields x4) fun e2 => aT (mt e2.name) fun r5 => aI (!r5) (some (4 : Int)) ((dG p1 k1) (i64.wrap (x4 + 1)))) (kx p1)
def eA (p1 : aw) (x3 : Bool) : Option Int := aI x3 (some (1 : Int)) (aI (p1.kind != 7) (some (0 : Int)) (dG p1 bf (0 : Int)))
def hI (p1 : aw) (x2 : Bool) : Option Int := aI x2 (some (1 : Int)) (aI (p1.kind == 7) (aI ((p1.fields.length : Int) == 0) (eA p1 true) (aT (iP p1.kind) fun r3 => aI r3 (eA p1 (decide ((0 : Int) < (p1.fields.length : Int)))) (eA p1 false))) (aT (iP p1.kind) fun r4 => aI r4 (eA p1 (decide ((0 : Int) < (p1.fields.length : Int)))) (eA p1 false)))
def ew (p1 : aw) (x1 : Bool) : Option Int := aI x1 (some (1 : Int)) (aI (p1.kind == 6) (aI ((p1.fields.length : Int) != 1) (hI p1 true) (aT (at? p1.fields (0 : Int)) fun e1 => hI p1 (!(e1.name.toList == (ByteArray.mk #[]).toList)))) (hI p1 false))
def ld (p1 : aw) : Option Int := aT (dB p1.kind (1 : Int) (7 : Int)) fun r1 => aI (!r1) (some (3 : Int)) (aI (p1.kind == 3) (aT (dB p1.scale (0 : Int) (12 : Int)) fun r2 => aI (!r2) (ew p1 true) (aI (p1.kind != 3) (ew p1 (p1.scale != 0)) (ew p1 false))) (aI (p1.kind != 3) (ew p1 (p1.scale != 0)) (ew p1 false)))
abbrev xh (p1 : aw) : Fr := [(1, vR (aj p1)), (13, vb (p1.kind == 3))]
abbrev y0 (p1 : aw) : Fr := [(1, vR (aj p1)), (19, vb false), (23, vb (p1.kind != 3))]
theorem ua (p1 : aw) (r : Int) (h : ld p1 = some r) : PC Tryz.prog 109 [.ag [ci p1.kind, ci p1.scale, cl ab p1.fields]] (vi r) := by
 unfold ld at h
 refine zF 109 Tryz.f109 (zq fun K1 m1 => zr (zg [] 2 [1] (zd (m1 _ _ (zq fun K2 m2 => zq fun K3 m3 => ?_)))))
 obtain ⟨r1, c4, h⟩ := zB h
 refine zr (zu [] 2 [1,7] [(aj p1)] (zl 73 [vi p1.kind, vi 1, vi 7] (vb r1) [(8, vb r1), (1, vR (aj p1)), (7, vi p1.kind)] (cm _ _ _ _ c4) (zg [] 1 [1,9] (zd (m3 _ _ (zC h (fun b5 h => ?_) (fun b5 h => ?_)))))))
 ·refine zq fun K6 m6 => zr (zg [] 1 [2] (zd (m6 _ _ (ze ?_))))
  obtain rfl := zj h
  exact zf [vi 3] (.one (.rfl _ rfl))
 ·refine zs (m2 _ _ (zq fun K7 m7 => zq fun K8 m8 => ?_))
  have j1 : ∀ (x1 : Bool), ew p1 x1 = some r → ∀ w0 w1, aL 109 0 [] w0 w1 [(1, vR (aj p1)), (28, vb x1)] [] → K8 w0 w1 := by
   intro x1 h w0 w1 hS
   unfold ew at h
   refine m8 _ _ (XW.sub hS ?_)
   refine zC h (fun b14 h => ?_) (fun b14 h => ?_)
   ·refine zq fun K15 m15 => zr (zg [] 1 [2] (zd (m15 _ _ (ze ?_))))
    obtain rfl := zj h
    exact zf [vi 1] (.one (.rfl _ rfl))
   ·refine zs (m7 _ _ (zq fun K16 m16 => zq fun K17 m17 => ?_))
    have j2 : ∀ (x2 : Bool), hI p1 x2 = some r → ∀ w0 w1, aL 109 0 [] w0 w1 [(1, vR (aj p1)), (45, vb x2)] [] → K17 w0 w1 := by
     intro x2 h w0 w1 hS
     unfold hI at h
     refine m17 _ _ (XW.sub hS ?_)
     refine zC h (fun b21 h => ?_) (fun b21 h => ?_)
     ·refine zq fun K22 m22 => zr (zg [] 1 [2] (zd (m22 _ _ (ze ?_))))
      obtain rfl := zj h
      exact zf [vi 1] (.one (.rfl _ rfl))
     ·refine zs (m16 _ _ (zq fun K23 m23 => zq fun K24 m24 => ?_))
      have j3 : ∀ (x3 : Bool), eA p1 x3 = some r → ∀ w0 w1, aL 109 0 [] w0 w1 [(1, vR (aj p1)), (65, vb x3)] [] → K24 w0 w1 := by
       intro x3 h w0 w1 hS
       unfold eA at h
       refine m24 _ _ (XW.sub hS ?_)
       refine zC h (fun b31 h => ?_) (fun b31 h => ?_)
       ·refine zq fun K32 m32 => zr (zg [] 1 [2] (zd (m32 _ _ (ze ?_))))
        obtain rfl := zj h
        exact zf [vi 1] (.one (.rfl _ rfl))
       ·refine zs (m23 _ _ (zq fun K33 m33 => zq fun K34 m34 => zr (zu [] 3 [1,68] [(aj p1)] (zd (m34 _ _ ?_)))))
        refine zC h (fun b35 h => ?_) (fun b35 h => ?_)
        ·refine zq fun K36 m36 => zr (zv [] 1 [2] [] [(2, vi 0)] [] (zd (m36 _ _ (ze ?_))))
         obtain rfl := zj h
         exact zf [vi 0] (.one (.rfl _ rfl))
        ·refine zs (m33 _ _ (zq fun K37 m37 => ?_))
         have j4 : ∀ (_ : Unit), kx p1 = some r → ∀ w0 w1, aL 109 0 [] w0 w1 [(1, vR (aj p1))] [] → K37 w0 w1 := by
          intro _ h w0 w1 hS
          unfold kx at h
          refine m37 _ _ (XW.sub hS ?_)
          refine zq fun K49 m49 => ?_
          have j6 : ∀ (_ : Unit), me = some r → ∀ w0 w1, aL 109 0 [] w0 w1 [] [] → K49 w0 w1 := by
           intro _ h w0 w1 hS
           unfold me at h
           refine m49 _ _ (XW.sub hS ?_)
           refine zq fun K66 m66 => zr (zg [] 1 [2] (zd (m66 _ _ (ze ?_))))
           obtain rfl := zj h
           exact zf [vi 0] (.one (.rfl _ rfl))
          refine zq fun K50 m50 => zr (zv [] 3 [1,86] [[pi p1.kind, pi p1.scale, .ro (ab.els p1.fields)]] [(1, vR [pi p1.kind, pi p1.scale, .ro (ab.els p1.fields)]), (86, vi ((ab.els p1.fields).length : Int))] [] ?_)
          rw [ab.len p1.fields]
          refine zg [] 1 [1,86,87] (zd (m50 _ _ (zb 2 (XW.rounds' bf (x := cd Tryz.f109 [1,1,1,1,1,1,1,0,1,0,0]) (by kernel_rfl) fun Q2 hQ2 => ?_))))
          have hL2 : ∀ (k2 : Nat) (x5 : Int), cS p1 k2 x5 = some r → XR Tryz.prog 109 0 [] (cd Tryz.f109 [1,1,1,1,1,1,1,0,1,0,0]) Q2 k2 [(1, vR (aj p1)), (86, vi (p1.fields.length : Int)), (87, vi x5)] [] := by
           intro k2
           induction k2 with
           | zero => intro x5 h; rw [cS.eq_1] at h; cases h
           | succ k2 ih2 =>
            intro x5 h
            rw [cS.eq_2] at h
            refine zq fun K51 m51 => zr (zg [] 1 [1,86,87,88] (zd (m51 _ _ (zq fun K52 m52 => zC h (fun b53 h => ?_) (fun b53 h => ?_)))))
            ·refine zs (m52 _ _ (zq fun K54 m54 => ?_))
             have j5 : ∀ (_ : Unit), ks (cS p1 k2) x5 = some r → ∀ w0 w1, aL 109 0 [] w0 w1 [(1, vR (aj p1)), (86, vi (p1.fields.length : Int)), (87, vi x5)] [] → K54 w0 w1 := by
              intro _ h w0 w1 hS
              unfold ks at h
              refine m54 _ _ (XW.sub hS ?_)
              exact zr (zg [] 2 [1,86,87] (zd (XR.sub (zk [1,86,87]) (ih2 (i64.wrap (x5 + 1)) h))))
             refine zb 3 (zq fun K55 m55 => zr (zg [] 2 [1,4,86,87] (zd (m55 _ _ (zq fun K56 m56 => zr ?_)))))
             refine zv [] 1 [1,4,5,86,87] [] [(1, vR [pi p1.kind, pi p1.scale, .ro (ab.els p1.fields)]), (4, vi x5), (5, vi 0), (86, vi (p1.fields.length : Int)), (87, vi x5)] [] (zd (m56 _ _ (zb 4 (XW.rounds' bf (x := cd Tryz.f109 [1,1,1,1,1,1,1,0,1,0,0,1,1,0,0,1,1,0,0]) (by kernel_rfl) fun Q3 hQ3 => ?_))))
             have hL3 : ∀ (k3 : Nat) (x6 : Int), di (cS p1 k2) p1 x5 k3 x6 = some r → XR Tryz.prog 109 0 [] (cd Tryz.f109 [1,1,1,1,1,1,1,0,1,0,0,1,1,0,0,1,1,0,0]) Q3 k3 [(1, vR (aj p1)), (4, vi x5), (5, vi x6), (86, vi (p1.fields.length : Int)), (87, vi x5)] [] := by
              intro k3
              induction k3 with
              | zero => intro x6 h; rw [di.eq_1] at h; cases h
              | succ k3 ih3 =>
               intro x6 h
               rw [di.eq_2] at h
               refine zq fun K57 m57 => zq fun K58 m58 => zr (zg [] 3 [1,4,5,86,87,92] (zd (m58 _ _ (zC h (fun b59 h => ?_) (fun b59 h => ?_)))))
               ·refine zs (m57 _ _ (zq fun K60 m60 => zb 5 (zq fun K61 m61 => ?_)))
                obtain ⟨e3, a62, h⟩ := zB h
                obtain ⟨e4, a63, h⟩ := zB h
                refine zw 12 [(106, vs e4.name), (105, .one (.pv (.rp (ab.els p1.fields) x5.toNat 1))), (104, .one (.pv (.rp (ab.els p1.fields) x5.toNat 0))), (103, vi x5), (102, vl ab p1.fields), (101, .one (.pv (.rp [(aj p1)] 0 2))), (100, vs e3.name), (99, .one (.pv (.rp (ab.els p1.fields) x6.toNat 1))), (98, .one (.pv (.rp (ab.els p1.fields) x6.toNat 0))), (97, vi x6), (96, vl ab p1.fields), (95, .one (.pv (.rp [(aj p1)] 0 2))), (1, vR (aj p1)), (4, vi x5), (5, vi x6), (86, vi (p1.fields.length : Int)), (87, vi x5), (92, vb (decide (x6 < x5)))] ?_ ?_
                ·refine sd 12 [(aj p1), (aJ e3), (aj p1), (aJ e4)] [([(aj p1)] : List (List PV))[0]? = some (aj p1), 0 ≤ x6 ∧ x6 < ((ab.els p1.fields).length : Int) ∧ aq 6 (ab.els p1.fields), (ab.els p1.fields)[x6.toNat]? = some (aJ e3), ([(aj p1)] : List (List PV))[0]? = some (aj p1), 0 ≤ x5 ∧ x5 < ((ab.els p1.fields).length : Int) ∧ aq 6 (ab.els p1.fields), (ab.els p1.fields)[x5.toNat]? = some (aJ e4)] (⟨rfl, ab.inb a62, ((ab.get a62).trans (by rcases e3 with ⟨_, _, _, ⟨_, _, _⟩⟩; rfl)), rfl, ab.inb a63, ((ab.get a63).trans (by rcases e4 with ⟨_, _, _, ⟨_, _, _⟩⟩; rfl)), trivial⟩) ?_
                 exact lU
                refine zg [] 1 [1,4,5,86,87,107] (zd (m61 _ _ (zC h (fun b64 h => ?_) (fun b64 h => ?_))))
                ·refine zq fun K65 m65 => zr (zv [] 1 [2] [] [(2, vi 5)] [] (zd (m65 _ _ (ze (hQ3 _ _ _ (hQ2 _ _ _ ?_))))))
                 obtain rfl := zj h
                 exact zf [vi 5] (.one (.rfl _ rfl))
                ·exact zs (m60 _ _ (zr (zg [] 3 [1,4,5,86,87] (zd (XR.sub (zk [1,4,5,86,87]) (ih3 (i64.wrap (x6 + 1)) h))))))
               ·exact zx 4 (hQ3 _ _ _ (j5 () h _ _ (zk [1,86,87])))
             exact XR.sub (zk [1,4,5,86,87]) (hL3 bf (0 : Int) h)
            ·exact zx 2 (hQ2 _ _ _ (j6 () h _ _ (zk [])))
          exact XR.sub (zk [1,86,87]) (hL2 bf (0 : Int) h)
         refine zq fun K38 m38 => zr (zv [] 3 [1,71] [[pi p1.kind, pi p1.scale, .ro (ab.els p1.fields)]] [(1, vR [pi p1.kind, pi p1.scale, .ro (ab.els p1.fields)]), (71, vi ((ab.els p1.fields).length : Int))] [] ?_)
         rw [ab.len p1.fields]
         refine zg [] 1 [1,71,72] (zd (m38 _ _ (zb 0 (XW.rounds' bf (x := cd Tryz.f109 [1,1,1,1,1,1,0,1,0,0]) (by kernel_rfl) fun Q1 hQ1 => ?_))))
         have hL1 : ∀ (k1 : Nat) (x4 : Int), dG p1 k1 x4 = some r → XR Tryz.prog 109 0 [] (cd Tryz.f109 [1,1,1,1,1,1,0,1,0,0]) Q1 k1 [(1, vR (aj p1)), (71, vi (p1.fields.length : Int)), (72, vi x4)] [] := by
          intro k1
          induction k1 with
          | zero => intro x4 h; rw [dG.eq_1] at h; cases h
          | succ k1 ih1 =>
           intro x4 h
           rw [dG.eq_2] at h
           refine zq fun K39 m39 => zr (zg [] 1 [1,71,72,73] (zd (m39 _ _ (zq fun K40 m40 => zC h (fun b41 h => ?_) (fun b41 h => ?_)))))
           ·refine zs (m40 _ _ (zq fun K42 m42 => zb 1 (zq fun K43 m43 => zr (zg [] 2 [1,3,71,72] (zd ?_)))))
            refine m43 _ _ (zq fun K44 m44 => ?_)
            obtain ⟨e2, a45, h⟩ := zB h
            obtain ⟨r5, c46, h⟩ := zB h
            refine zr ?_
            refine zp [] 6 [1,71,72,80] [(aj p1), (aJ e2)] [(1, vR (aj p1)), (71, vi (p1.fields.length : Int)), (72, vi x4), (80, vs e2.name)] [] [([(aj p1)] : List (List PV))[0]? = some (aj p1), 0 ≤ x4 ∧ x4 < ((ab.els p1.fields).length : Int) ∧ aq 6 (ab.els p1.fields), (ab.els p1.fields)[x4.toNat]? = some (aJ e2)] (⟨rfl, ab.inb a45, ((ab.get a45).trans (by rcases e2 with ⟨_, _, _, ⟨_, _, _⟩⟩; rfl)), trivial⟩) ?_
            refine za (vm _ _ c46) (zg [] 1 [1,71,72,82] (zd (m44 _ _ (zC h (fun b47 h => ?_) (fun b47 h => ?_)))))
            ·refine zq fun K48 m48 => zr (zv [] 1 [2] [] [(2, vi 4)] [] (zd (m48 _ _ (ze (hQ1 _ _ _ ?_)))))
             obtain rfl := zj h
             exact zf [vi 4] (.one (.rfl _ rfl))
            ·exact zs (m42 _ _ (zr (zg [] 2 [1,71,72] (zd (XR.sub (zk [1,71,72]) (ih1 (i64.wrap (x4 + 1)) h))))))
           ·exact zx 0 (hQ1 _ _ _ (j4 () h _ _ (zk [1])))
         exact XR.sub (zk [1,71,72]) (hL1 bf (0 : Int) h)
      rcases zW h with ⟨b25, h⟩ | ⟨b25, h⟩
      ·rcases zW h with ⟨b26, h⟩ | ⟨b26, h⟩
       ·refine zr (zu [] 4 [1,49] [[pi p1.kind, pi p1.scale, .ro (ab.els p1.fields)]] (zt 49 b25 (zv [] 3 [1,49,52] [[pi p1.kind, pi p1.scale, .ro (ab.els p1.fields)]] [(1, vR [pi p1.kind, pi p1.scale, .ro (ab.els p1.fields)]), (49, vb true), (52, vi ((ab.els p1.fields).length : Int))] [] ?_)))
        rw [ab.len p1.fields]
        exact zg [] 3 [1,55] (zt 55 b26 (zg [] 10 [1,65] (zd (j3 true h _ _ (zk [1,65])))))
       ·obtain ⟨r3, c27, h⟩ := zB h
        rcases zW h with ⟨b28, h⟩ | ⟨b28, h⟩
        ·refine zr (zv [] 4 [1,49] [[pi p1.kind, pi p1.scale, .ro (ab.els p1.fields)]] [(1, vR [pi p1.kind, pi p1.scale, .ro (ab.els p1.fields)]), (49, vb (p1.kind == 7))] [] (zt 49 b25 (zv [] 3 [1,49,52] [[pi p1.kind, pi p1.scale, .ro (ab.els p1.fields)]] [(1, vR [pi p1.kind, pi p1.scale, .ro (ab.els p1.fields)]), (49, vb true), (52, vi ((ab.els p1.fields).length : Int))] [] ?_)))
         rw [ab.len p1.fields]
         refine zg [] 3 [1,55] (zt 55 b26 (zu [] 2 [1,55,57] [[pi p1.kind, pi p1.scale, .ro (ab.els p1.fields)]] (zl 26 [vi p1.kind] (vb r3) [(58, vb r3), (1, vR [pi p1.kind, pi p1.scale, .ro (ab.els p1.fields)]), (55, vb false), (57, vi p1.kind)] (kH _ _ c27) (zg [] 1 [1,55,59] (zt 59 b28 (zv [] 3 [1,55,59,62] [[pi p1.kind, pi p1.scale, .ro (ab.els p1.fields)]] [(1, vR [pi p1.kind, pi p1.scale, .ro (ab.els p1.fields)]), (55, vb false), (59, vb true), (62, vi ((ab.els p1.fields).length : Int))] [] ?_))))))
         rw [ab.len p1.fields]
         exact zg [] 3 [1,65] (zd (j3 (decide ((0 : Int) < (p1.fields.length : Int))) h _ _ (zk [1,65])))
        ·refine zr (zu [] 4 [1,49] [[pi p1.kind, pi p1.scale, .ro (ab.els p1.fields)]] (zt 49 b25 (zv [] 3 [1,49,52] [[pi p1.kind, pi p1.scale, .ro (ab.els p1.fields)]] [(1, vR [pi p1.kind, pi p1.scale, .ro (ab.els p1.fields)]), (49, vb true), (52, vi ((ab.els p1.fields).length : Int))] [] ?_)))
         rw [ab.len p1.fields]
         refine zg [] 3 [1,55] (zt 55 b26 (zu [] 2 [1,55,57] [(aj p1)] (zl 26 [vi p1.kind] (vb r3) [(58, vb r3), (1, vR (aj p1)), (55, vb false), (57, vi p1.kind)] (kH _ _ c27) (zg [] 1 [1,55,59] (zt 59 b28 (zg [] 6 [1,65] (zd ?_)))))))
         exact j3 false h _ _ (zk [1,65])
      ·obtain ⟨r4, c29, h⟩ := zB h
       rcases zW h with ⟨b30, h⟩ | ⟨b30, h⟩
       ·refine zr (zu [] 4 [1,49] [[pi p1.kind, pi p1.scale, .ro (ab.els p1.fields)]] (zt 49 b25 (zv [] 8 [1,55,57] [[pi p1.kind, pi p1.scale, .ro (ab.els p1.fields)]] [(1, vR [pi p1.kind, pi p1.scale, .ro (ab.els p1.fields)]), (55, vb false), (57, vi p1.kind)] [] (za (kH _ _ c29) (zg [] 1 [1,55,59] (zt 59 b30 (zv [] 3 [1,55,59,62] [[pi p1.kind, pi p1.scale, .ro (ab.els p1.fields)]] [(1, vR [pi p1.kind, pi p1.scale, .ro (ab.els p1.fields)]), (55, vb false), (59, vb true), (62, vi ((ab.els p1.fields).length : Int))] [] ?_)))))))
        rw [ab.len p1.fields]
        exact zg [] 3 [1,65] (zd (j3 (decide ((0 : Int) < (p1.fields.length : Int))) h _ _ (zk [1,65])))
       ·refine zr (zu [] 4 [1,49] [(aj p1)] (zt 49 b25 (zv [] 8 [1,55,57] [(aj p1)] [(1, vR (aj p1)), (55, vb false), (57, vi p1.kind)] [] (za (kH _ _ c29) (zg [] 1 [1,55,59] (zt 59 b30 (zv [] 6 [1,65] [] [(1, vR (aj p1)), (65, vb false)] [] ?_)))))))
        exact zd (j3 false h _ _ (zk [1,65]))
    rcases zW h with ⟨b18, h⟩ | ⟨b18, h⟩
    ·rcases zW h with ⟨b19, h⟩ | ⟨b19, h⟩
     ·refine zr (zu [] 4 [1,32] [[pi p1.kind, pi p1.scale, .ro (ab.els p1.fields)]] (zt 32 b18 (zv [] 3 [1,32,35] [[pi p1.kind, pi p1.scale, .ro (ab.els p1.fields)]] [(1, vR [pi p1.kind, pi p1.scale, .ro (ab.els p1.fields)]), (32, vb true), (35, vi ((ab.els p1.fields).length : Int))] [] ?_)))
      rw [ab.len p1.fields]
      exact zg [] 2 [1,32,37] (zt 37 b19 (zg [] 8 [1,45] (zd (j2 true h _ _ (zk [1,45])))))
     ·obtain ⟨e1, a20, h⟩ := zB h
      refine zr (zv [] 4 [1,32] [[pi p1.kind, pi p1.scale, .ro (ab.els p1.fields)]] [(1, vR [pi p1.kind, pi p1.scale, .ro (ab.els p1.fields)]), (32, vb (p1.kind == 6))] [] (zt 32 b18 (zv [] 3 [1,32,35] [[pi p1.kind, pi p1.scale, .ro (ab.els p1.fields)]] [(1, vR [pi p1.kind, pi p1.scale, .ro (ab.els p1.fields)]), (32, vb true), (35, vi ((ab.els p1.fields).length : Int))] [] ?_)))
      rw [ab.len p1.fields]
      refine zg [] 2 [1,32,37] (zt 37 b19 ?_)
      refine zo [] 8 [1,45] [(aj p1), (aJ e1)] [([(aj p1)] : List (List PV))[0]? = some (aj p1), 0 ≤ (0 : Int) ∧ (0 : Int) < ((ab.els p1.fields).length : Int) ∧ aq 6 (ab.els p1.fields), (ab.els p1.fields)[(0 : Int).toNat]? = some (aJ e1)] (⟨rfl, ab.inb a20, ((ab.get a20).trans (by rcases e1 with ⟨_, _, _, ⟨_, _, _⟩⟩; rfl)), trivial⟩) ?_
      exact zd (j2 (!(e1.name.toList == (ByteArray.mk #[]).toList)) h _ _ (zk [1,45]))
    ·exact zr (zu [] 4 [1,32] [(aj p1)] (zt 32 b18 (zv [] 13 [1,45] [] [(1, vR (aj p1)), (45, vb false)] [] (zd (j2 false h _ _ (zk [1,45]))))))
  rcases zW h with ⟨b9, h⟩ | ⟨b9, h⟩
  ·obtain ⟨r2, c10, h⟩ := zB h
   rcases zW h with ⟨b11, h⟩ | ⟨b11, h⟩
   ·refine zr (zv [] 4 [1,13] [(aj p1)] (xh p1) [] (zt 13 b9 (zu [] 2 [1,13,15] [(aj p1)] (za (cm _ _ _ _ c10) (zv [] 3 [1,19] [] [(1, vR (aj p1)), (19, vb (!r2))] [] (zt 19 b11 (zg [] 9 [1,28] ?_)))))))
    exact zd (j1 true h _ _ (zk [1,28]))
   ·rcases zW h with ⟨b12, h⟩ | ⟨b12, h⟩
    ·refine zr (zu [] 4 [1,13] [(aj p1)] (zt 13 b9 (zv [] 2 [1,13,15] [(aj p1)] [(1, vR (aj p1)), (13, vb true), (15, vi p1.scale)] [] (za (cm _ _ _ _ c10) (zg [] 3 [1,19] (zt 19 b11 (zv [] 4 [1,19,23] [(aj p1)] (y0 p1) [] ?_)))))))
     exact zt 23 b12 (zu [] 5 [1,28] [(aj p1)] (zd (j1 (p1.scale != 0) h _ _ (zk [1,28]))))
    ·refine zr (zu [] 4 [1,13] [(aj p1)] (zt 13 b9 (zv [] 2 [1,13,15] [(aj p1)] [(1, vR (aj p1)), (13, vb true), (15, vi p1.scale)] [] (za (cm _ _ _ _ c10) (zg [] 3 [1,19] (zt 19 b11 (zv [] 4 [1,19,23] [(aj p1)] (y0 p1) [] ?_)))))))
     exact zt 23 b12 (zg [] 5 [1,28] (zd (j1 false h _ _ (zk [1,28]))))
  ·rcases zW h with ⟨b13, h⟩ | ⟨b13, h⟩
   ·exact zr (zv [] 4 [1,13] [(aj p1)] (xh p1) [] (zt 13 b9 (zu [] 10 [1,19,23] [(aj p1)] (zt 23 b13 (zu [] 5 [1,28] [(aj p1)] (zd (j1 (p1.scale != 0) h _ _ (zk [1,28]))))))))
   ·exact zr (zv [] 4 [1,13] [(aj p1)] (xh p1) [] (zt 13 b9 (zu [] 10 [1,19,23] [(aj p1)] (zt 23 b13 (zg [] 5 [1,28] (zd (j1 false h _ _ (zk [1,28]))))))))
def jZ (z3 : Int) : Option (Int × Int) := some ((0 : Int), z3)
def dz (q_ref1_checkType : aw → Int → Int → Option (Int × Int)) (p1 : aw) (p2 : Int) : Nat → Int → Int → Option (Int × Int)
 | 0, _, _ => none
 | k1 + 1, z2, x1 => aI (decide (x1 < (p1.fields.length : Int))) (aT (at? p1.fields x1) fun e1 => aT (q_ref1_checkType e1.type (i64.wrap (p2 + 1)) z2) fun r3 => aI (r3.1 != 0) (some (r3.1, r3.2)) ((dz q_ref1_checkType p1 p2 k1) r3.2 (i64.wrap (x1 + 1)))) (jZ z2)
def dY (q_ref1_checkType : aw → Int → Int → Option (Int × Int)) (p1 : aw) (p2 z1 : Int) : Option (Int × Int) := aT (ld p1) fun r2 => aI (r2 != 0) (some (r2, z1)) (dz q_ref1_checkType p1 p2 bf z1 (0 : Int))
def cB : Nat → aw → Int → Int → Option (Int × Int)
 | 0, _, _, _ => none
 | k0 + 1, p1, p2, p3 => aI (decide ((4 : Int) < p2)) (some ((7 : Int), p3)) (aT (iP p1.kind) fun r1 => aI r1 (aI (p3 == 40) (some ((7 : Int), p3)) (dY (cB k0) p1 p2 (i64.wrap (p3 + 1)))) (dY (cB k0) p1 p2 p3))
theorem my : ∀ (k0 : Nat) (p1 : aw) (p2 p3 : Int) (r : (Int × Int)), cB k0 p1 p2 p3 = some r → MC Tryz.prog 66 [.ag [ci p1.kind, ci p1.scale, cl ab p1.fields], vi p2, vq 0] [.box [ci p3]] (vi r.1) [.box [ci r.2]]
 | 0, _, _, _, r, h => by rw [cB.eq_1] at h; cases h
 | k0 + 1, p1, p2, p3, r, h => by
  rw [cB.eq_2] at h
  refine MC.of 1 (n := 49) (fn := Tryz.f66) (c := cd Tryz.f66 []) (by kernel_rfl) (by kernel_rfl) (by kernel_rfl) (Nat.le_of_ble_eq_true rfl) rfl (zq fun K1 m1 => zr (zg [] 2 [1,2,3] (zd (m1 _ _ (zq fun K2 m2 => zq fun K3 m3 => ?_)))))
  refine zr (zg [] 2 [1,2,3,11] (zd (m3 _ _ (zC h (fun b4 h => ?_) (fun b4 h => ?_)))))
  ·refine zq fun K5 m5 => zr (zv [] 1 [6] [] [(6, vi 7)] [.box [ci p3]] (zd (m5 _ _ (ze ?_))))
   obtain rfl := zj h
   exact eT.fin (.inr rfl) [] [vi 7] [] (by kernel_rfl) trivial (by kernel_rfl) (by kernel_rfl) (.one (.rfl _ rfl))
  ·refine zs (m2 _ _ (zq fun K6 m6 => ?_))
   have j1 : ∀ (z1 : Int), dY (cB k0) p1 p2 z1 = some r → ∀ w0 w1, aL 49 1 [] w0 w1 [(1, vi p2), (2, vq 0), (3, vR (aj p1))] [.box [ci z1]] → K6 w0 w1 := by
    intro z1 h w0 w1 hS
    unfold dY at h
    refine m6 _ _ (XW.sub hS ?_)
    refine zq fun K14 m14 => zq fun K15 m15 => ?_
    obtain ⟨r2, c16, h⟩ := zB h
    refine zr (zu [] 1 [1,2,3,24] [(aj p1)] (za (ua _ _ c16) (zv [] 1 [1,2,3,7] [] [(1, vi p2), (2, vq 0), (3, vR (aj p1)), (7, vi r2)] [.box [ci z1]] (zd (m15 _ _ (zq fun K17 m17 => zr ?_))))))
    refine zg [] 2 [1,2,3,7,27] (zd (m17 _ _ (zC h (fun b18 h => ?_) (fun b18 h => ?_))))
    ·refine zq fun K19 m19 => zr (zv [] 2 [6] [] [(6, vi r2)] [.box [ci z1]] (zd (m19 _ _ (ze ?_))))
     obtain rfl := zj h
     exact eT.fin (.inr rfl) [] [vi r2] [] (by kernel_rfl) trivial (by kernel_rfl) (by kernel_rfl) (.one (.rfl _ rfl))
    ·refine zs (m14 _ _ (zq fun K20 m20 => ?_))
     have j2 : ∀ (z3 : Int), jZ z3 = some r → ∀ w0 w1, aL 49 1 [] w0 w1 [] [.box [ci z3]] → K20 w0 w1 := by
      intro z3 h w0 w1 hS
      unfold jZ at h
      refine m20 _ _ (XW.sub hS ?_)
      refine zq fun K33 m33 => zr (zv [] 1 [6] [] [(6, vi 0)] [.box [ci z3]] (zd (m33 _ _ (ze ?_))))
      obtain rfl := zj h
      exact eT.fin (.inr rfl) [] [vi 0] [] (by kernel_rfl) trivial (by kernel_rfl) (by kernel_rfl) (.one (.rfl _ rfl))
     refine zq fun K21 m21 => zr (zv [] 3 [1,2,3,31] [[pi p1.kind, pi p1.scale, .ro (ab.els p1.fields)]] [(1, vi p2), (2, vq 0), (3, vR [pi p1.kind, pi p1.scale, .ro (ab.els p1.fields)]), (31, vi ((ab.els p1.fields).length : Int))] [.box [ci z1]] ?_)
     rw [ab.len p1.fields]
     refine zg [] 1 [1,2,3,31,32] (zd (m21 _ _ (zb 0 (XW.rounds' bf (x := cd Tryz.f66 [1,1,1,1,0,1,0,0]) (by kernel_rfl) fun Q1 hQ1 => ?_))))
     have hL1 : ∀ (k1 : Nat) (z2 x1 : Int), dz (cB k0) p1 p2 k1 z2 x1 = some r → XR Tryz.prog 49 1 [] (cd Tryz.f66 [1,1,1,1,0,1,0,0]) Q1 k1 [(1, vi p2), (2, vq 0), (3, vR (aj p1)), (31, vi (p1.fields.length : Int)), (32, vi x1)] [.box [ci z2]] := by
      intro k1
      induction k1 with
      | zero => intro z2 x1 h; rw [dz.eq_1] at h; cases h
      | succ k1 ih1 =>
       intro z2 x1 h
       rw [dz.eq_2] at h
       refine zq fun K22 m22 => zr (zg [] 1 [1,2,3,31,32,33] (zd (m22 _ _ (zq fun K23 m23 => zC h (fun b24 h => ?_) (fun b24 h => ?_)))))
       ·refine zs (m23 _ _ (zq fun K25 m25 => zb 1 (zq fun K26 m26 => zr (zg [] 2 [1,2,3,8,31,32] (zd ?_)))))
        refine m26 _ _ (zq fun K27 m27 => ?_)
        obtain ⟨e1, a28, h⟩ := zB h
        obtain ⟨r3, c29, h⟩ := zB h
        refine zr ?_
        refine zp [] 9 [1,2,3,31,32,40,42,43] [(aj p1), (aJ e1)] [(1, vi p2), (2, vq 0), (3, vR (aj p1)), (31, vi (p1.fields.length : Int)), (32, vi x1), (40, .ag (iY e1)), (42, vi (i64.wrap (p2 + 1))), (43, vq 0)] [.box [ci z2]] [([(aj p1)] : List (List PV))[0]? = some (aj p1), 0 ≤ x1 ∧ x1 < ((ab.els p1.fields).length : Int) ∧ aq 6 (ab.els p1.fields), (ab.els p1.fields)[x1.toNat]? = some (aJ e1)] (⟨rfl, ab.inb a28, ((ab.get a28).trans (by rcases e1 with ⟨_, _, _, ⟨_, _, _⟩⟩; rfl)), trivial⟩) ?_
        refine XO.calm 66 [.ag (iY e1), vi (i64.wrap (p2 + 1)), vq 0] [.box [ci z2]] [.box [ci r3.2]] (vi r3.1) [0] [(44, vi r3.1), (1, vi p2), (2, vq 0), (3, vR (aj p1)), (31, vi (p1.fields.length : Int)), (32, vi x1), (40, .ag (iY e1)), (42, vi (i64.wrap (p2 + 1))), (43, vq 0)] [.box [ci r3.2]] (by kernel_rfl) (my k0 _ _ _ _ c29) (by kernel_rfl) (by kernel_rfl) (by kernel_rfl) (by kernel_rfl) ?_
        refine zg [] 1 [1,2,3,9,31,32] (zd (m27 _ _ (zq fun K30 m30 => zr (zg [] 2 [1,2,3,9,31,32,46] (zd (m30 _ _ ?_))))))
        refine zC h (fun b31 h => ?_) (fun b31 h => ?_)
        ·refine zq fun K32 m32 => zr (zv [] 2 [6] [] [(6, vi r3.1)] [.box [ci r3.2]] (zd (m32 _ _ (ze (hQ1 _ _ _ ?_)))))
         obtain rfl := zj h
         exact eT.fin (.inr rfl) [] [vi r3.1] [] (by kernel_rfl) trivial (by kernel_rfl) (by kernel_rfl) (.one (.rfl _ rfl))
        ·exact zs (m25 _ _ (zr (zg [] 2 [1,2,3,31,32] (zd (XR.sub (zk [1,2,3,31,32]) (ih1 r3.2 (i64.wrap (x1 + 1)) h))))))
       ·exact zx 0 (hQ1 _ _ _ (j2 z2 h _ _ (zk [])))
     exact XR.sub (zk [1,2,3,31,32]) (hL1 bf z1 (0 : Int) h)
   refine zq fun K7 m7 => ?_
   obtain ⟨r1, c8, h⟩ := zB h
   refine zr (zu [] 2 [1,2,3,13] [(aj p1)] (za (kH _ _ c8) (zd (m7 _ _ (zC h (fun b9 h => ?_) (fun b9 h => ?_))))))
   ·refine zq fun K10 m10 => zq fun K11 m11 => zr (zv [] 4 [1,2,3,18] [] [(1, vi p2), (2, vq 0), (3, vR (aj p1)), (18, vb (p3 == 40))] [.box [ci p3]] (zd (m11 _ _ (zC h (fun b12 h => ?_) (fun b12 h => ?_)))))
    ·refine zq fun K13 m13 => zr (zv [] 1 [6] [] [(6, vi 7)] [.box [ci p3]] (zd (m13 _ _ (ze ?_))))
     obtain rfl := zj h
     exact eT.fin (.inr rfl) [] [vi 7] [] (by kernel_rfl) trivial (by kernel_rfl) (by kernel_rfl) (.one (.rfl _ rfl))
    ·exact zs (m10 _ _ (zr (zg [] 6 [1,2,3] (zd (j1 (i64.wrap (p3 + 1)) h _ _ (zk [1,2,3]))))))
   ·exact zs (j1 p3 h _ _ (zk [1,2,3]))
def f9 (p1 : aw) : Option Int := aT (cB bf p1 (1 : Int) (0 : Int)) fun r1 => some r1.1
theorem mA (p1 : aw) (r : Int) (h : f9 p1 = some r) : PC Tryz.prog 24 [.ag (gd p1)] (vi r) := by
 unfold f9 at h
 refine zF 6 Tryz.f24 (zq fun K1 m1 => zr (zg [3] 2 [1] (zd (m1 _ _ (zq fun K2 m2 => zr ?_)))))
 refine zg [3] 2 [1,3] (zd (m2 _ _ (zq fun K3 m3 => ?_)))
 obtain ⟨r1, c4, h⟩ := zB h
 refine zr (zv [3] 1 [3,4] [[pi p1.kind, pi p1.scale, .ro (ab.els p1.fields)]] [(3, vq 0), (4, .ag (gd p1))] [.box [ci 0]] (XO.calm 66 [.ag (gd p1), vi 1, vq 0] [.box [ci 0]] [.box [ci r1.2]] (vi r1.1) [0] [(5, vi r1.1), (3, vq 0), (4, .ag (gd p1))] [.box [ci r1.2]] (by kernel_rfl) (my bf _ _ _ _ c4) (by kernel_rfl) (by kernel_rfl) (by kernel_rfl) (by kernel_rfl) (zg [3] 1 [2] (zd (m3 _ _ ?_)))))
 refine ze ?_
 obtain rfl := zj h
 exact zf [vi r1.1] (.one (.rfl _ rfl))
def lT (l2 : List Int) : Option (List Int) := some l2
def gB (q_ref1_Ids : (List ah) → Option (List Int)) (p1 : (List ah)) : Nat → List Int → Int → Option (List Int)
 | 0, _, _ => none
 | k1 + 1, l1, x1 => aI (decide (x1 < (p1.length : Int))) (aT (at? p1 x1) fun e1 => fL (l1.length + 1 ≤ 4294967296) <| aT (q_ref1_Ids e1.type.fields) fun r1 => fL ((l1 ++ [e1.id]).length + r1.length ≤ 4294967296) <| (gB q_ref1_Ids p1 k1) ((l1 ++ [e1.id]) ++ r1) (i64.wrap (x1 + 1))) (lT l1)
def ja : Nat → (List ah) → Option (List Int)
 | 0, _ => none
 | k0 + 1, p1 => gB (ja k0) p1 bf [] (0 : Int)
theorem q8 : ∀ (k0 : Nat) (p1 : (List ah)) (r : (List Int)), ja k0 p1 = some r → PC Tryz.prog 102 [vl ab p1] (vl eI r)
 | 0, _, r, h => by rw [ja.eq_1] at h; cases h
 | k0 + 1, p1, r, h => by
  rw [ja.eq_2] at h
  refine zF 29 Tryz.f102 (zq fun K1 m1 => zr (zg [] 1 [0] (zd (m1 _ _ (zq fun K2 m2 => zr ?_)))))
  refine zg [] 1 [0,3] (zd (m2 _ _ (zq fun K3 m3 => ?_)))
  have j1 : ∀ (l2 : List Int), lT l2 = some r → ∀ w0 w1, aL 29 0 [] w0 w1 [(3, .one (.sl 0 1 0 l2.length))] [.arr 1 (eI.els l2)] → K3 w0 w1 := by
   intro l2 h w0 w1 hS
   unfold lT at h
   refine m3 _ _ (XW.sub hS ?_)
   refine zq fun K15 m15 => zr (zg [] 2 [2] (zd (m15 _ _ (ze ?_))))
   obtain rfl := zj h
   exact zf [.one (.sl 0 1 0 l2.length)] (.one (iS eI l2 rfl rfl rfl))
  refine zq fun K4 m4 => zr (zv [] 2 [0,3,6] [] [(0, vl ab p1), (3, .one (.pv (.s (.slice none 0 0)))), (6, vi ((ab.els p1).length : Int))] [] ?_)
  rw [ab.len p1]
  refine zv [] 1 [0,3,6,7] [] [(0, vl ab p1), (3, .one (.pv (.s (.slice none 0 0)))), (6, vi (p1.length : Int)), (7, vi 0)] [] (zd (m4 _ _ (zb 0 (XW.sub (aL.list (t := 3) (sz := 1) rfl) (XW.rounds' bf (x := cd Tryz.f102 [1,1,0,1,0,0]) (by kernel_rfl) fun Q1 hQ1 => ?_)))))
  have hL1 : ∀ (k1 : Nat) (l1 : List Int) (x1 : Int), gB (ja k0) p1 k1 l1 x1 = some r → XR Tryz.prog 29 0 [] (cd Tryz.f102 [1,1,0,1,0,0]) Q1 k1 [(0, vl ab p1), (3, .one (.sl 0 1 0 l1.length)), (6, vi (p1.length : Int)), (7, vi x1)] [.arr 1 (eI.els l1)] := by
   intro k1
   induction k1 with
   | zero => intro l1 x1 h; rw [gB.eq_1] at h; cases h
   | succ k1 ih1 =>
    intro l1 x1 h
    rw [gB.eq_2] at h
    refine zq fun K5 m5 => zr (zg [] 1 [0,3,6,7,8] (zd (m5 _ _ (zq fun K6 m6 => zC h (fun b7 h => ?_) (fun b7 h => ?_)))))
    ·refine zs (m6 _ _ (zq fun K8 m8 => zb 1 (zq fun K9 m9 => zr (zg [] 2 [0,3,4,6,7] (zd ?_)))))
     refine m9 _ _ (zq fun K10 m10 => ?_)
     obtain ⟨e1, a11, h⟩ := zB h
     obtain ⟨g12, h⟩ := zG h
     refine zr ?_
     refine zp [] 8 [0,4,6,7,17] [[pi e1.id, .s (.string e1.name), .s (.bool e1.need), pi e1.type.kind, pi e1.type.scale, .ro (ab.els e1.type.fields)]] [(0, vl ab p1), (4, vi x1), (6, vi (p1.length : Int)), (7, vi x1), (17, .one (.sl 0 1 0 (l1.length + (eI.els [e1.id]).length)))] [.arr 1 (eI.els l1 ++ eI.els [e1.id])] [0 ≤ x1 ∧ x1 < ((ab.els p1).length : Int) ∧ aq 6 (ab.els p1), (ab.els p1)[x1.toNat]? = some [pi e1.id, .s (.string e1.name), .s (.bool e1.need), pi e1.type.kind, pi e1.type.scale, .ro (ab.els e1.type.fields)], aq 1 (eI.els [e1.id]), l1.length = (eI.els l1).length, l1.length + (eI.els [e1.id]).length ≤ 4294967296] (⟨ab.inb a11, ((ab.get a11).trans (by rcases e1 with ⟨_, _, _, ⟨_, _, _⟩⟩; rfl)), eI.ok _, (eI.len l1).symm, g12, trivial⟩) ?_
     rw [show l1.length + (eI.els [e1.id]).length = (l1 ++ [e1.id]).length from eI.lapp _ _]
     rw [show eI.els l1 ++ eI.els [e1.id] = eI.els (l1 ++ [e1.id]) from eI.app2 _ _]
     refine zg [] 1 [0,3,4,6,7] (zd (m10 _ _ ?_))
     obtain ⟨r1, c13, h⟩ := zB h
     obtain ⟨g14, h⟩ := zG h
     refine zr (zo [] 7 [0,6,7,18,24] [(aJ e1)] [0 ≤ x1 ∧ x1 < ((ab.els p1).length : Int) ∧ aq 6 (ab.els p1), (ab.els p1)[x1.toNat]? = some (aJ e1)] (⟨ab.inb a11, ((ab.get a11).trans (by rcases e1 with ⟨_, _, _, ⟨_, _, _⟩⟩; rfl)), trivial⟩) ?_)
     refine zl 102 [vl ab e1.type.fields] (vl eI r1) [(25, vl eI r1), (0, vl ab p1), (6, vi (p1.length : Int)), (7, vi x1), (18, .one (.sl 0 1 0 ((l1 ++ [e1.id]).length))), (24, vl ab e1.type.fields)] (q8 k0 _ _ c13) ?_
     refine zp [] 1 [0,6,7,26] [] [(0, vl ab p1), (6, vi (p1.length : Int)), (7, vi x1), (26, .one (.sl 0 1 0 ((l1 ++ [e1.id]).length + (eI.els r1).length)))] [.arr 1 (eI.els (l1 ++ [e1.id]) ++ eI.els r1)] [aq 1 (eI.els r1), (l1 ++ [e1.id]).length = (eI.els (l1 ++ [e1.id])).length, (l1 ++ [e1.id]).length + (eI.els r1).length ≤ 4294967296] (⟨eI.ok _, (eI.len (l1 ++ [e1.id])).symm, (by rw [eI.len]; exact g14), trivial⟩) ?_
     rw [show (l1 ++ [e1.id]).length + (eI.els r1).length = ((l1 ++ [e1.id]) ++ r1).length from eI.lapp _ _]
     rw [show eI.els (l1 ++ [e1.id]) ++ eI.els r1 = eI.els ((l1 ++ [e1.id]) ++ r1) from eI.app2 _ _]
     exact zg [] 1 [0,3,6,7] (zd (m8 _ _ (zr (zg [] 2 [0,3,6,7] (zd (XR.sub (zk [0,3,6,7]) (ih1 ((l1 ++ [e1.id]) ++ r1) (i64.wrap (x1 + 1)) h)))))))
    ·exact zx 0 (hQ1 _ _ _ (j1 l1 h _ _ (zk [3])))
  exact XR.sub (zk [0,3,6,7]) (hL1 bf [] (0 : Int) h)
def f0 (rec1 : Int → Option Int) (x1 : Int) : Option Int := rec1 (i64.wrap (x1 + 1))
def bF (rec1 : Int → Option Int) (r2 : (List Int)) (x1 e1 : Int) : Nat → Int → Option Int
 | 0, _ => none
 | k2 + 1, x2 => aI (decide (x2 < x1)) (aT (at? r2 x2) fun e2 => aI (e2 == e1) (some (5 : Int)) ((bF rec1 r2 x1 e1 k2) (i64.wrap (x2 + 1)))) (f0 rec1 x1)
def iW : Option Int := some (0 : Int)
def bU (r2 : (List Int)) : Nat → Int → Option Int
 | 0, _ => none
 | k1 + 1, x1 => aI (decide (x1 < (r2.length : Int))) (aT (at? r2 x1) fun e1 => aI (decide (e1 < (1 : Int))) (some (3 : Int)) (bF (bU r2 k1) r2 x1 e1 bf (0 : Int))) (iW)
def fe (p1 : (List ah)) : Option Int := aT (f9 (aw.mk (7 : Int) (0 : Int) p1)) fun r1 => aI (r1 != 0) (some r1) (aT (ja bf p1) fun r2 => bU r2 bf (0 : Int))
theorem oA (p1 : (List ah)) (r : Int) (h : fe p1 = some r) : PC Tryz.prog 54 [vl ab p1] (vi r) := by
 unfold fe at h
 refine zF 40 Tryz.f54 (zq fun K1 m1 => zr (zg [] 1 [0] (zd (m1 _ _ (zq fun K2 m2 => zq fun K3 m3 => ?_)))))
 obtain ⟨r1, c4, h⟩ := zB h
 refine zr (zg [] 2 [0,8] (zl 24 [.ag [ci 7, ci 0, cl ab p1]] (vi r1) [(9, vi r1), (0, vl ab p1), (8, .ag [ci 7, ci 0, cl ab p1])] (mA _ _ c4) (zg [] 1 [0,3] (zd (m3 _ _ (zq fun K5 m5 => zr ?_))))))
 refine zg [] 2 [0,3,11] (zd (m5 _ _ (zC h (fun b6 h => ?_) (fun b6 h => ?_))))
 ·refine zq fun K7 m7 => zr (zv [] 2 [2] [] [(2, vi r1)] [] (zd (m7 _ _ (ze ?_))))
  obtain rfl := zj h
  exact zf [vi r1] (.one (.rfl _ rfl))
 ·refine zs (m2 _ _ (zq fun K8 m8 => ?_))
  obtain ⟨r2, c9, h⟩ := zB h
  refine zr (zg [] 1 [13] (za (q8 bf _ _ c9) (zv [] 1 [4] [] [(4, vl eI r2)] [] (zd (m8 _ _ (zq fun K10 m10 => ?_))))))
  have j2 : ∀ (_ : Unit), iW = some r → ∀ w0 w1, aL 40 0 [] w0 w1 [] [] → K10 w0 w1 := by
   intro _ h w0 w1 hS
   unfold iW at h
   refine m10 _ _ (XW.sub hS ?_)
   refine zq fun K31 m31 => zr (zg [] 1 [2] (zd (m31 _ _ (ze ?_))))
   obtain rfl := zj h
   exact zf [vi 0] (.one (.rfl _ rfl))
  refine zq fun K11 m11 => zr (zv [] 2 [4,16] [] [(4, vl eI r2), (16, vi ((eI.els r2).length : Int))] [] ?_)
  rw [eI.len r2]
  refine zg [] 1 [4,16,17] (zd (m11 _ _ (zb 0 (XW.rounds' bf (x := cd Tryz.f54 [1,1,1,0,1,0,0]) (by kernel_rfl) fun Q1 hQ1 => ?_))))
  have hL1 : ∀ (k1 : Nat) (x1 : Int), bU r2 k1 x1 = some r → XR Tryz.prog 40 0 [] (cd Tryz.f54 [1,1,1,0,1,0,0]) Q1 k1 [(4, vl eI r2), (16, vi (r2.length : Int)), (17, vi x1)] [] := by
   intro k1
   induction k1 with
   | zero => intro x1 h; rw [bU.eq_1] at h; cases h
   | succ k1 ih1 =>
    intro x1 h
    rw [bU.eq_2] at h
    refine zq fun K12 m12 => zr (zg [] 1 [4,16,17,18] (zd (m12 _ _ (zq fun K13 m13 => zC h (fun b14 h => ?_) (fun b14 h => ?_)))))
    ·refine zs (m13 _ _ (zq fun K15 m15 => ?_))
     have j1 : ∀ (_ : Unit), f0 (bU r2 k1) x1 = some r → ∀ w0 w1, aL 40 0 [] w0 w1 [(4, vl eI r2), (16, vi (r2.length : Int)), (17, vi x1)] [] → K15 w0 w1 := by
      intro _ h w0 w1 hS
      unfold f0 at h
      refine m15 _ _ (XW.sub hS ?_)
      exact zr (zg [] 2 [4,16,17] (zd (XR.sub (zk [4,16,17]) (ih1 (i64.wrap (x1 + 1)) h))))
     refine zb 1 (zq fun K16 m16 => zr (zg [] 2 [4,5,16,17] (zd (m16 _ _ (zq fun K17 m17 => zq fun K18 m18 => ?_)))))
     obtain ⟨e1, a19, h⟩ := zB h
     refine zr (zp [] 5 [4,5,16,17,24] [[pi e1]] [(4, vl eI r2), (5, vi x1), (16, vi (r2.length : Int)), (17, vi x1), (24, vb (decide (e1 < (1 : Int))))] [] [0 ≤ x1 ∧ x1 < ((eI.els r2).length : Int) ∧ aq 1 (eI.els r2), (eI.els r2)[x1.toNat]? = some [pi e1]] (⟨eI.inb a19, (eI.get a19), trivial⟩) (zd (m18 _ _ (zC h (fun b20 h => ?_) (fun b20 h => ?_)))))
     ·refine zq fun K21 m21 => zr (zg [] 1 [2] (zd (m21 _ _ (ze (hQ1 _ _ _ ?_)))))
      obtain rfl := zj h
      exact zf [vi 3] (.one (.rfl _ rfl))
     ·refine zs (m17 _ _ (zq fun K22 m22 => zr (zg [] 1 [4,5,6,16,17] (zd (m22 _ _ (zb 2 ?_))))))
      refine XW.rounds' bf (x := cd Tryz.f54 [1,1,1,0,1,0,0,1,1,0,0,1,1,1,0,0]) (by kernel_rfl) fun Q2 hQ2 => ?_
      have hL2 : ∀ (k2 : Nat) (x2 : Int), bF (bU r2 k1) r2 x1 e1 k2 x2 = some r → XR Tryz.prog 40 0 [] (cd Tryz.f54 [1,1,1,0,1,0,0,1,1,0,0,1,1,1,0,0]) Q2 k2 [(4, vl eI r2), (5, vi x1), (6, vi x2), (16, vi (r2.length : Int)), (17, vi x1)] [] := by
       intro k2
       induction k2 with
       | zero => intro x2 h; rw [bF.eq_1] at h; cases h
       | succ k2 ih2 =>
        intro x2 h
        rw [bF.eq_2] at h
        refine zq fun K23 m23 => zq fun K24 m24 => zr (zg [] 3 [4,5,6,16,17,27] (zd (m24 _ _ (zC h (fun b25 h => ?_) (fun b25 h => ?_)))))
        ·refine zs (m23 _ _ (zq fun K26 m26 => zb 3 (zq fun K27 m27 => ?_)))
         obtain ⟨e2, a28, h⟩ := zB h
         refine zw 8 [(37, vi e1), (36, .one (.pv (.rp (eI.els r2) x1.toNat 0))), (35, vi x1), (34, vl eI r2), (33, vi e2), (32, .one (.pv (.rp (eI.els r2) x2.toNat 0))), (31, vi x2), (30, vl eI r2), (4, vl eI r2), (5, vi x1), (6, vi x2), (16, vi (r2.length : Int)), (17, vi x1), (27, vb (decide (x2 < x1)))] ?_ ?_
         ·exact sd 8 [[pi e2], [pi e1]] [0 ≤ x2 ∧ x2 < ((eI.els r2).length : Int) ∧ aq 1 (eI.els r2), (eI.els r2)[x2.toNat]? = some [pi e2], 0 ≤ x1 ∧ x1 < ((eI.els r2).length : Int) ∧ aq 1 (eI.els r2), (eI.els r2)[x1.toNat]? = some [pi e1]] (⟨eI.inb a28, (eI.get a28), eI.inb a19, (eI.get a19), trivial⟩) lU
         refine zg [] 1 [4,5,6,16,17,38] (zd (m27 _ _ (zC h (fun b29 h => ?_) (fun b29 h => ?_))))
         ·refine zq fun K30 m30 => zr (zv [] 1 [2] [] [(2, vi 5)] [] (zd (m30 _ _ (ze (hQ2 _ _ _ (hQ1 _ _ _ ?_))))))
          obtain rfl := zj h
          exact zf [vi 5] (.one (.rfl _ rfl))
         ·exact zs (m26 _ _ (zr (zg [] 3 [4,5,6,16,17] (zd (XR.sub (zk [4,5,6,16,17]) (ih2 (i64.wrap (x2 + 1)) h))))))
        ·exact zx 2 (hQ2 _ _ _ (j1 () h _ _ (zk [4,16,17])))
      exact XR.sub (zk [4,5,6,16,17]) (hL2 bf (0 : Int) h)
    ·exact zx 0 (hQ1 _ _ _ (j2 () h _ _ (zk [])))
  exact XR.sub (zk [4,16,17]) (hL1 bf (0 : Int) h)
def fi (rec1 : Int → Option Bool) (x2 : Int) (x3 : Bool) : Option Bool := aI x3 (some false) (rec1 (i64.wrap (x2 + 1)))
def gO : Option Bool := some true
def cG (p1 : ByteArray) : Nat → Int → Option Bool
 | 0, _ => none
 | k1 + 1, x2 => aI (decide (x2 < (p1.size : Int))) (fL (0 ≤ x2 ∧ x2 < (p1.size : Int)) <| aT (some (decide (((p1.data.toList.getD x2.toNat 0).toNat : Int) < (32 : Int)))) fun y1 => aI y1 (fi (cG p1 k1) x2 true) (fL (0 ≤ x2 ∧ x2 < (p1.size : Int)) <| fi (cG p1 k1) x2 (((p1.data.toList.getD x2.toNat 0).toNat : Int) == 127))) (gO)
def fp (p1 : ByteArray) (x1 : Bool) : Option Bool := aI x1 (some false) (cG p1 bf (0 : Int))
def gS (p1 : ByteArray) : Option Bool := aT (utf8_ValidString p1) fun r1 => aI (!r1) (fp p1 true) (fp p1 (decide ((256 : Int) < (p1.size : Int))))
theorem o7 (p1 : ByteArray) (r : Bool) (h : gS p1 = some r) : PC Tryz.prog 163 [vs p1] (vb r) := by
 unfold gS at h
 refine zF 28 Tryz.f163 (zq fun K1 m1 => zr (zg [] 1 [0] (zd (m1 _ _ (zq fun K2 m2 => zq fun K3 m3 => ?_)))))
 have j1 : ∀ (x1 : Bool), fp p1 x1 = some r → ∀ w0 w1, aL 28 0 [] w0 w1 [(0, vs p1), (11, vb x1)] [] → K3 w0 w1 := by
  intro x1 h w0 w1 hS
  unfold fp at h
  refine m3 _ _ (XW.sub hS ?_)
  refine zC h (fun b6 h => ?_) (fun b6 h => ?_)
  ·refine zq fun K7 m7 => zr (zg [] 1 [2] (zd (m7 _ _ (ze ?_))))
   obtain rfl := zj h
   exact zf [vb false] (.one (.rfl _ rfl))
  ·refine zs (m2 _ _ (zq fun K8 m8 => ?_))
   have j3 : ∀ (_ : Unit), gO = some r → ∀ w0 w1, aL 28 0 [] w0 w1 [] [] → K8 w0 w1 := by
    intro _ h w0 w1 hS
    unfold gO at h
    refine m8 _ _ (XW.sub hS ?_)
    refine zq fun K21 m21 => zr (zg [] 1 [2] (zd (m21 _ _ (ze ?_))))
    obtain rfl := zj h
    exact zf [vb true] (.one (.rfl _ rfl))
   refine zq fun K9 m9 => zr (zg [] 1 [0,3] (zd (m9 _ _ (zb 0 (XW.rounds' bf (x := cd Tryz.f163 [1,1,0,1,0,0]) (by kernel_rfl) fun Q1 hQ1 => ?_)))))
   have hL1 : ∀ (k1 : Nat) (x2 : Int), cG p1 k1 x2 = some r → XR Tryz.prog 28 0 [] (cd Tryz.f163 [1,1,0,1,0,0]) Q1 k1 [(0, vs p1), (3, vi x2)] [] := by
    intro k1
    induction k1 with
    | zero => intro x2 h; rw [cG.eq_1] at h; cases h
    | succ k1 ih1 =>
     intro x2 h
     rw [cG.eq_2] at h
     refine zq fun K10 m10 => zq fun K11 m11 => zr (zg [] 4 [0,3,15] (zd (m11 _ _ (zC h (fun b12 h => ?_) (fun b12 h => ?_)))))
     ·refine zs (m10 _ _ (zq fun K13 m13 => zb 1 (zq fun K14 m14 => ?_)))
      have j2 : ∀ (x3 : Bool), fi (cG p1 k1) x2 x3 = some r → ∀ w0 w1, aL 28 0 [] w0 w1 [(0, vs p1), (3, vi x2), (27, vb x3)] [] → K14 w0 w1 := by
       intro x3 h w0 w1 hS
       unfold fi at h
       refine m14 _ _ (XW.sub hS ?_)
       refine zC h (fun b19 h => ?_) (fun b19 h => ?_)
       ·refine zq fun K20 m20 => zr (zg [] 1 [2] (zd (m20 _ _ (ze (hQ1 _ _ _ ?_)))))
        obtain rfl := zj h
        exact zf [vb false] (.one (.rfl _ rfl))
       ·exact zs (m13 _ _ (zr (zg [] 3 [0,3] (zd (XR.sub (zk [0,3]) (ih1 (i64.wrap (x2 + 1)) h))))))
      obtain ⟨g15, h⟩ := zG h
      obtain ⟨y1, hy16, h⟩ := zB h
      rcases zW h with ⟨b17, h⟩ | ⟨b17, h⟩
      ·refine zr (zp [] 4 [0,3,21] [] [(0, vs p1), (3, vi x2), (21, vb (decide (((p1.data.toList.getD x2.toNat 0).toNat : Int) < (32 : Int))))] [] [0 ≤ x2 ∧ x2 < (p1.size : Int)] (⟨g15, trivial⟩) ?_)
       rw [show (decide (((p1.data.toList.getD x2.toNat 0).toNat : Int) < (32 : Int))) = y1 from zj hy16]
       exact zg [] 1 [0,3,22] (zt 22 b17 (zg [] 5 [0,3,27] (zd (j2 true h _ _ (zk [0,3,27])))))
      ·obtain ⟨g18, h⟩ := zG h
       refine zr (zp [] 4 [0,3,21] [] [(0, vs p1), (3, vi x2), (21, vb (decide (((p1.data.toList.getD x2.toNat 0).toNat : Int) < (32 : Int))))] [] [0 ≤ x2 ∧ x2 < (p1.size : Int)] (⟨g15, trivial⟩) ?_)
       rw [show (decide (((p1.data.toList.getD x2.toNat 0).toNat : Int) < (32 : Int))) = y1 from zj hy16]
       exact zg [] 1 [0,3,22] (zt 22 b17 (zo [] 5 [0,3,27] [] [0 ≤ x2 ∧ x2 < (p1.size : Int)] (⟨g18, trivial⟩) (zd (j2 (((p1.data.toList.getD x2.toNat 0).toNat : Int) == 127) h _ _ (zk [0,3,27])))))
     ·exact zx 0 (hQ1 _ _ _ (j3 () h _ _ (zk [])))
   exact XR.sub (zk [0,3]) (hL1 bf (0 : Int) h)
 obtain ⟨r1, c4, h⟩ := zB h
 rcases zW h with ⟨b5, h⟩ | ⟨b5, h⟩
 ·exact zr (zg [] 1 [0,4] (zl 180 [vs p1] (vb r1) [(5, vb r1), (0, vs p1), (4, vs p1)] (jz _ _ c4) (zg [] 2 [0,7] (zt 7 b5 (zg [] 4 [0,11] (zd (j1 true h _ _ (zk [0,11]))))))))
 ·exact zr (zv [] 1 [0,4] [] [(0, vs p1), (4, vs p1)] [] (za (jz _ _ c4) (zg [] 2 [0,7] (zt 7 b5 (zv [] 4 [0,11] [] [(0, vs p1), (11, vb (decide ((256 : Int) < (p1.size : Int))))] [] (zd (j1 (decide ((256 : Int) < (p1.size : Int))) h _ _ (zk [0,11]))))))))
def gY (x2 : Bool) : Option Bool := some x2
def hY (x3 : Bool) : Option Bool := some x3
def hM (x4 : Bool) : Option Bool := some x4
def hE (x5 : Bool) : Option Bool := some x5
def fW (x6 : Bool) : Option Bool := some x6
def ia (x7 : Bool) : Option Bool := some x7
def fS (x8 : Bool) : Option Bool := some x8
def fR (x9 : Bool) : Option Bool := some x9
def ib (p1 : ac) (x1 : Bool) : Option Bool := aI (p1.kind == 0) (aI x1 (aI (p1.n == 0) (gY (p1.scale == 0)) (gY false)) (gY false)) (aI (p1.kind == 1) (aI x1 (aT (dB p1.n (0 : Int) (1 : Int)) fun r1 => aI r1 (hY (p1.scale == 0)) (hY false)) (hY false)) (aI (p1.kind == 2) (aI x1 (aT (dB p1.n (-999999999999999999 : Int) (999999999999999999 : Int)) fun r2 => aI r2 (hM (p1.scale == 0)) (hM false)) (hM false)) (aI (p1.kind == 3) (aI x1 (aT (dB p1.n (-999999999999999999 : Int) (999999999999999999 : Int)) fun r3 => aI r3 (aT (dB p1.scale (0 : Int) (12 : Int)) fun r4 => hE r4) (hE false)) (hE false)) (aI (p1.kind == 4) (aI ((p1.items.length : Int) == 0) (aI (p1.n == 0) (aI (p1.scale == 0) (aT (gS p1.s) fun r5 => fW r5) (fW false)) (fW false)) (fW false)) (aI (p1.kind == 5) (aI x1 (aT (dB p1.n (-62135596800 : Int) (253402300799 : Int)) fun r6 => aI r6 (ia (p1.scale == 0)) (ia false)) (ia false)) (aI (p1.kind == 6) (aI (p1.s.toList == (ByteArray.mk #[]).toList) (aI (p1.n == 0) (aI (p1.scale == 0) (fS (decide ((p1.items.length : Int) ≤ (64 : Int)))) (fS false)) (fS false)) (fS false)) (aI (p1.kind == 7) (aI (p1.s.toList == (ByteArray.mk #[]).toList) (aI (p1.n == 0) (aI (p1.scale == 0) (fR (decide ((0 : Int) < (p1.items.length : Int)))) (fR false)) (fR false)) (fR false)) (some false))))))))
def lm (p1 : ac) : Option Bool := aI (p1.s.toList == (ByteArray.mk #[]).toList) (ib p1 ((p1.items.length : Int) == 0)) (ib p1 false)
abbrev vV (p1 : ac) : Fr := [(1, vR (ae p1)), (106, vb (p1.s.toList == (ByteArray.mk #[]).toList))]
theorem tN (p1 : ac) (r : Bool) (h : lm p1 = some r) : PC Tryz.prog 124 [.ag [ci p1.kind, ci p1.n, ci p1.scale, cj p1.s, cl aa p1.items]] (vb r) := by
 unfold lm at h
 refine zF 143 Tryz.f124 (zq fun K1 m1 => zr (zg [] 2 [1] (zd (m1 _ _ (zq fun K2 m2 => ?_)))))
 have j1 : ∀ (x1 : Bool), ib p1 x1 = some r → ∀ w0 w1, aL 143 0 [] w0 w1 [(1, vR (ae p1)), (3, vb x1)] [] → K2 w0 w1 := by
  intro x1 h w0 w1 hS
  unfold ib at h
  refine m2 _ _ (XW.sub hS ?_)
  refine zq fun K4 m4 => zq fun K5 m5 => zr (zu [] 2 [1,3,14] [(ae p1)] (zd (m5 _ _ (zb 0 (zq fun K6 m6 => ?_)))))
  refine zr (zg [] 2 [1,3,14,15] (zd (m6 _ _ (zC h (fun b7 h => ?_) (fun b7 h => ?_)))))
  ·refine zq fun K8 m8 => ?_
   have j2 : ∀ (x2 : Bool), gY x2 = some r → ∀ w0 w1, aL 143 0 [] w0 w1 [(2, vb x2)] [] → K8 w0 w1 := by
    intro x2 h w0 w1 hS
    unfold gY at h
    refine m8 _ _ (XW.sub hS ?_)
    refine ze ?_
    obtain rfl := zj h
    exact zf [vb x2] (.one (.rfl _ rfl))
   rcases zW h with ⟨b9, h⟩ | ⟨b9, h⟩
   ·rcases zW h with ⟨b10, h⟩ | ⟨b10, h⟩
    ·exact zr (zv [] 2 [1,18] [] [(1, vR (ae p1)), (18, vb x1)] [] (zt 18 b9 (zu [] 5 [1,23] [(ae p1)] (zt 23 b10 (zu [] 5 [2] [(ae p1)] (zd (j2 (p1.scale == 0) h _ _ (zk [2]))))))))
    ·exact zr (zv [] 2 [1,18] [] [(1, vR (ae p1)), (18, vb x1)] [] (zt 18 b9 (zu [] 5 [1,23] [(ae p1)] (zt 23 b10 (zg [] 5 [2] (zd (j2 false h _ _ (zk [2]))))))))
   ·exact zr (zv [] 2 [1,18] [] [(1, vR (ae p1)), (18, vb x1)] [] (zt 18 b9 (zg [] 10 [2] (zd (j2 false h _ _ (zk [2]))))))
  ·refine zq fun K11 m11 => zr (zv [] 2 [1,3,14,28] [] [(1, vR (ae p1)), (3, vb x1), (14, vi p1.kind), (28, vb (p1.kind == 1))] [] (zd (m11 _ _ (zC h (fun b12 h => ?_) (fun b12 h => ?_)))))
   ·refine zq fun K13 m13 => ?_
    have j3 : ∀ (x3 : Bool), hY x3 = some r → ∀ w0 w1, aL 143 0 [] w0 w1 [(2, vb x3)] [] → K13 w0 w1 := by
     intro x3 h w0 w1 hS
     unfold hY at h
     refine m13 _ _ (XW.sub hS ?_)
     refine ze ?_
     obtain rfl := zj h
     exact zf [vb x3] (.one (.rfl _ rfl))
    rcases zW h with ⟨b14, h⟩ | ⟨b14, h⟩
    ·obtain ⟨r1, c15, h⟩ := zB h
     rcases zW h with ⟨b16, h⟩ | ⟨b16, h⟩
     ·refine zr (zg [] 2 [1,31] (zt 31 b14 (zu [] 2 [1,31,33] [(ae p1)] (zl 73 [vi p1.n, vi 0, vi 1] (vb r1) [(34, vb r1), (1, vR (ae p1)), (31, vb true), (33, vi p1.n)] (cm _ _ _ _ c15) (zg [] 2 [1,36] (zt 36 b16 (zu [] 5 [2] [(ae p1)] ?_)))))))
      exact zd (j3 (p1.scale == 0) h _ _ (zk [2]))
     ·refine zr (zv [] 2 [1,31] [] [(1, vR (ae p1)), (31, vb x1)] [] (zt 31 b14 (zu [] 2 [1,31,33] [(ae p1)] (za (cm _ _ _ _ c15) (zv [] 2 [1,36] [] [(1, vR (ae p1)), (36, vb r1)] [] (zt 36 b16 (zg [] 5 [2] ?_)))))))
      exact zd (j3 false h _ _ (zk [2]))
    ·exact zr (zg [] 2 [1,31] (zt 31 b14 (zg [] 10 [2] (zd (j3 false h _ _ (zk [2]))))))
   ·refine zq fun K17 m17 => zr (zg [] 2 [1,3,14,41] (zd (m17 _ _ (zC h (fun b18 h => ?_) (fun b18 h => ?_)))))
    ·refine zq fun K19 m19 => ?_
     have j4 : ∀ (x4 : Bool), hM x4 = some r → ∀ w0 w1, aL 143 0 [] w0 w1 [(2, vb x4)] [] → K19 w0 w1 := by
      intro x4 h w0 w1 hS
      unfold hM at h
      refine m19 _ _ (XW.sub hS ?_)
      refine ze ?_
      obtain rfl := zj h
      exact zf [vb x4] (.one (.rfl _ rfl))
     rcases zW h with ⟨b20, h⟩ | ⟨b20, h⟩
     ·obtain ⟨r2, c21, h⟩ := zB h
      rcases zW h with ⟨b22, h⟩ | ⟨b22, h⟩
      ·refine zr (zg [] 2 [1,44] (zt 44 b20 (zv [] 2 [1,44,46] [(ae p1)] [(1, vR (ae p1)), (44, vb true), (46, vi p1.n)] [] (za (cm _ _ _ _ c21) (zg [] 2 [1,49] (zt 49 b22 (zv [] 5 [2] [(ae p1)] [(2, vb (p1.scale == 0))] [] ?_)))))))
       exact zd (j4 (p1.scale == 0) h _ _ (zk [2]))
      ·refine zr (zg [] 2 [1,44] (zt 44 b20 (zu [] 2 [1,44,46] [(ae p1)] (zl 73 [vi p1.n, vi (-999999999999999999), vi 999999999999999999] (vb r2) [(47, vb r2), (1, vR (ae p1)), (44, vb true), (46, vi p1.n)] (cm _ _ _ _ c21) (zg [] 2 [1,49] (zt 49 b22 (zg [] 5 [2] ?_)))))))
       exact zd (j4 false h _ _ (zk [2]))
     ·exact zr (zg [] 2 [1,44] (zt 44 b20 (zv [] 10 [2] [] [(2, vb false)] [] (zd (j4 false h _ _ (zk [2]))))))
    ·refine zq fun K23 m23 => zr (zg [] 2 [1,3,14,54] (zd (m23 _ _ (zC h (fun b24 h => ?_) (fun b24 h => ?_)))))
     ·refine zq fun K25 m25 => ?_
      have j5 : ∀ (x5 : Bool), hE x5 = some r → ∀ w0 w1, aL 143 0 [] w0 w1 [(2, vb x5)] [] → K25 w0 w1 := by
       intro x5 h w0 w1 hS
       unfold hE at h
       refine m25 _ _ (XW.sub hS ?_)
       refine ze ?_
       obtain rfl := zj h
       exact zf [vb x5] (.one (.rfl _ rfl))
      rcases zW h with ⟨b26, h⟩ | ⟨b26, h⟩
      ·obtain ⟨r3, c27, h⟩ := zB h
       rcases zW h with ⟨b28, h⟩ | ⟨b28, h⟩
       ·obtain ⟨r4, c29, h⟩ := zB h
        refine zr (zv [] 2 [1,57] [] [(1, vR (ae p1)), (57, vb x1)] [] (zt 57 b26 (zu [] 2 [1,57,59] [(ae p1)] (za (cm _ _ _ _ c27) (zv [] 2 [1,62] [] [(1, vR (ae p1)), (62, vb r3)] [] (zt 62 b28 (zu [] 2 [62,64] [(ae p1)] ?_)))))))
        exact za (cm _ _ _ _ c29) (zv [] 2 [2] [] [(2, vb r4)] [] (zd (j5 r4 h _ _ (zk [2]))))
       ·refine zr (zg [] 2 [1,57] (zt 57 b26 (zu [] 2 [1,57,59] [(ae p1)] (zl 73 [vi p1.n, vi (-999999999999999999), vi 999999999999999999] (vb r3) [(60, vb r3), (1, vR (ae p1)), (57, vb true), (59, vi p1.n)] (cm _ _ _ _ c27) (zg [] 2 [1,62] (zt 62 b28 (zg [] 5 [2] ?_)))))))
        exact zd (j5 false h _ _ (zk [2]))
      ·exact zr (zv [] 2 [1,57] [] [(1, vR (ae p1)), (57, vb x1)] [] (zt 57 b26 (zg [] 10 [2] (zd (j5 false h _ _ (zk [2]))))))
     ·refine zq fun K30 m30 => zr (zv [] 2 [1,3,14,67] [] [(1, vR (ae p1)), (3, vb x1), (14, vi p1.kind), (67, vb (p1.kind == 4))] [] (zd (m30 _ _ (zC h (fun b31 h => ?_) (fun b31 h => ?_)))))
      ·refine zq fun K32 m32 => ?_
       have j6 : ∀ (x6 : Bool), fW x6 = some r → ∀ w0 w1, aL 143 0 [] w0 w1 [(2, vb x6)] [] → K32 w0 w1 := by
        intro x6 h w0 w1 hS
        unfold fW at h
        refine m32 _ _ (XW.sub hS ?_)
        refine ze ?_
        obtain rfl := zj h
        exact zf [vb x6] (.one (.rfl _ rfl))
       rcases zW h with ⟨b33, h⟩ | ⟨b33, h⟩
       ·rcases zW h with ⟨b34, h⟩ | ⟨b34, h⟩
        ·rcases zW h with ⟨b35, h⟩ | ⟨b35, h⟩
         ·obtain ⟨r5, c36, h⟩ := zB h
          refine zr (zv [] 3 [1,71] [[pi p1.kind, pi p1.n, pi p1.scale, .s (.string p1.s), .ro (aa.els p1.items)]] [(1, vR [pi p1.kind, pi p1.n, pi p1.scale, .s (.string p1.s), .ro (aa.els p1.items)]), (71, vi ((aa.els p1.items).length : Int))] [] ?_)
          rw [aa.len p1.items]
          refine zg [] 2 [1,73] (zt 73 b33 (zu [] 5 [1,78] [(ae p1)] (zt 78 b34 (zv [] 5 [1,83] [(ae p1)] [(1, vR (ae p1)), (83, vb (p1.scale == 0))] [] (zt 83 b35 (zu [] 2 [83,85] [(ae p1)] (za (o7 _ _ c36) ?_)))))))
          exact zv [] 2 [2] [] [(2, vb r5)] [] (zd (j6 r5 h _ _ (zk [2])))
         ·refine zr (zv [] 3 [1,71] [[pi p1.kind, pi p1.n, pi p1.scale, .s (.string p1.s), .ro (aa.els p1.items)]] [(1, vR [pi p1.kind, pi p1.n, pi p1.scale, .s (.string p1.s), .ro (aa.els p1.items)]), (71, vi ((aa.els p1.items).length : Int))] [] ?_)
          rw [aa.len p1.items]
          refine zg [] 2 [1,73] (zt 73 b33 (zu [] 5 [1,78] [(ae p1)] (zt 78 b34 (zv [] 5 [1,83] [(ae p1)] [(1, vR (ae p1)), (83, vb (p1.scale == 0))] [] (zt 83 b35 (zg [] 5 [2] (zd ?_)))))))
          exact j6 false h _ _ (zk [2])
        ·refine zr (zv [] 3 [1,71] [[pi p1.kind, pi p1.n, pi p1.scale, .s (.string p1.s), .ro (aa.els p1.items)]] [(1, vR [pi p1.kind, pi p1.n, pi p1.scale, .s (.string p1.s), .ro (aa.els p1.items)]), (71, vi ((aa.els p1.items).length : Int))] [] ?_)
         rw [aa.len p1.items]
         exact zg [] 2 [1,73] (zt 73 b33 (zu [] 5 [1,78] [(ae p1)] (zt 78 b34 (zv [] 10 [2] [] [(2, vb false)] [] (zd (j6 false h _ _ (zk [2])))))))
       ·refine zr (zv [] 3 [1,71] [[pi p1.kind, pi p1.n, pi p1.scale, .s (.string p1.s), .ro (aa.els p1.items)]] [(1, vR [pi p1.kind, pi p1.n, pi p1.scale, .s (.string p1.s), .ro (aa.els p1.items)]), (71, vi ((aa.els p1.items).length : Int))] [] ?_)
        rw [aa.len p1.items]
        exact zg [] 2 [1,73] (zt 73 b33 (zg [] 15 [2] (zd (j6 false h _ _ (zk [2])))))
      ·refine zq fun K37 m37 => zr (zg [] 2 [1,3,14,88] (zd (m37 _ _ (zC h (fun b38 h => ?_) (fun b38 h => ?_)))))
       ·refine zq fun K39 m39 => ?_
        have j7 : ∀ (x7 : Bool), ia x7 = some r → ∀ w0 w1, aL 143 0 [] w0 w1 [(2, vb x7)] [] → K39 w0 w1 := by
         intro x7 h w0 w1 hS
         unfold ia at h
         refine m39 _ _ (XW.sub hS ?_)
         refine ze ?_
         obtain rfl := zj h
         exact zf [vb x7] (.one (.rfl _ rfl))
        rcases zW h with ⟨b40, h⟩ | ⟨b40, h⟩
        ·obtain ⟨r6, c41, h⟩ := zB h
         rcases zW h with ⟨b42, h⟩ | ⟨b42, h⟩
         ·refine zr (zg [] 2 [1,91] (zt 91 b40 (zv [] 2 [1,91,93] [(ae p1)] [(1, vR (ae p1)), (91, vb true), (93, vi p1.n)] [] (za (cm _ _ _ _ c41) (zg [] 2 [1,96] (zt 96 b42 (zv [] 5 [2] [(ae p1)] [(2, vb (p1.scale == 0))] [] ?_)))))))
          exact zd (j7 (p1.scale == 0) h _ _ (zk [2]))
         ·refine zr (zg [] 2 [1,91] (zt 91 b40 (zu [] 2 [1,91,93] [(ae p1)] (zl 73 [vi p1.n, vi (-62135596800), vi 253402300799] (vb r6) [(94, vb r6), (1, vR (ae p1)), (91, vb true), (93, vi p1.n)] (cm _ _ _ _ c41) (zg [] 2 [1,96] (zt 96 b42 (zg [] 5 [2] ?_)))))))
          exact zd (j7 false h _ _ (zk [2]))
        ·exact zr (zg [] 2 [1,91] (zt 91 b40 (zv [] 10 [2] [] [(2, vb false)] [] (zd (j7 false h _ _ (zk [2]))))))
       ·refine zq fun K43 m43 => zr (zg [] 2 [1,14,101] (zd (m43 _ _ (zC h (fun b44 h => ?_) (fun b44 h => ?_)))))
        ·refine zq fun K45 m45 => ?_
         have j8 : ∀ (x8 : Bool), fS x8 = some r → ∀ w0 w1, aL 143 0 [] w0 w1 [(2, vb x8)] [] → K45 w0 w1 := by
          intro x8 h w0 w1 hS
          unfold fS at h
          refine m45 _ _ (XW.sub hS ?_)
          refine ze ?_
          obtain rfl := zj h
          exact zf [vb x8] (.one (.rfl _ rfl))
         rcases zW h with ⟨b46, h⟩ | ⟨b46, h⟩
         ·rcases zW h with ⟨b47, h⟩ | ⟨b47, h⟩
          ·rcases zW h with ⟨b48, h⟩ | ⟨b48, h⟩
           ·refine zr (zv [] 4 [1,106] [(ae p1)] (vV p1) [] (zt 106 b46 (zu [] 5 [1,111] [(ae p1)] (zt 111 b47 (zu [] 5 [1,116] [(ae p1)] (zt 116 b48 ?_))))))
            refine zv [] 3 [116,119] [[pi p1.kind, pi p1.n, pi p1.scale, .s (.string p1.s), .ro (aa.els p1.items)]] [(116, vb true), (119, vi ((aa.els p1.items).length : Int))] [] ?_
            rw [aa.len p1.items]
            exact zg [] 3 [2] (zd (j8 (decide ((p1.items.length : Int) ≤ (64 : Int))) h _ _ (zk [2])))
           ·refine zr (zu [] 4 [1,106] [(ae p1)] (zt 106 b46 (zv [] 5 [1,111] [(ae p1)] [(1, vR (ae p1)), (111, vb (p1.n == 0))] [] (zt 111 b47 (zu [] 5 [1,116] [(ae p1)] (zt 116 b48 (zg [] 6 [2] ?_)))))))
            exact zd (j8 false h _ _ (zk [2]))
          ·exact zr (zv [] 4 [1,106] [(ae p1)] (vV p1) [] (zt 106 b46 (zu [] 5 [1,111] [(ae p1)] (zt 111 b47 (zg [] 11 [2] (zd (j8 false h _ _ (zk [2]))))))))
         ·exact zr (zv [] 4 [1,106] [(ae p1)] (vV p1) [] (zt 106 b46 (zg [] 16 [2] (zd (j8 false h _ _ (zk [2]))))))
        ·refine zq fun K49 m49 => zr (zv [] 2 [1,122] [] [(1, vR (ae p1)), (122, vb (p1.kind == 7))] [] (zd (m49 _ _ (zC h (fun b50 h => ?_) (fun b50 h => ?_)))))
         ·refine zq fun K51 m51 => ?_
          have j9 : ∀ (x9 : Bool), fR x9 = some r → ∀ w0 w1, aL 143 0 [] w0 w1 [(2, vb x9)] [] → K51 w0 w1 := by
           intro x9 h w0 w1 hS
           unfold fR at h
           refine m51 _ _ (XW.sub hS ?_)
           refine ze ?_
           obtain rfl := zj h
           exact zf [vb x9] (.one (.rfl _ rfl))
          rcases zW h with ⟨b52, h⟩ | ⟨b52, h⟩
          ·rcases zW h with ⟨b53, h⟩ | ⟨b53, h⟩
           ·rcases zW h with ⟨b54, h⟩ | ⟨b54, h⟩
            ·refine zr (zu [] 4 [1,127] [(ae p1)] (zt 127 b52 (zu [] 5 [1,132] [(ae p1)] (zt 132 b53 (zv [] 5 [1,137] [(ae p1)] [(1, vR (ae p1)), (137, vb (p1.scale == 0))] [] (zt 137 b54 ?_))))))
             refine zv [] 3 [137,140] [[pi p1.kind, pi p1.n, pi p1.scale, .s (.string p1.s), .ro (aa.els p1.items)]] [(137, vb true), (140, vi ((aa.els p1.items).length : Int))] [] ?_
             rw [aa.len p1.items]
             exact zg [] 3 [2] (zd (j9 (decide ((0 : Int) < (p1.items.length : Int))) h _ _ (zk [2])))
            ·refine zr (zu [] 4 [1,127] [(ae p1)] (zt 127 b52 (zv [] 5 [1,132] [(ae p1)] [(1, vR (ae p1)), (132, vb (p1.n == 0))] [] (zt 132 b53 (zu [] 5 [1,137] [(ae p1)] (zt 137 b54 (zg [] 6 [2] ?_)))))))
             exact zd (j9 false h _ _ (zk [2]))
           ·exact zr (zu [] 4 [1,127] [(ae p1)] (zt 127 b52 (zu [] 5 [1,132] [(ae p1)] (zt 132 b53 (zv [] 11 [2] [] [(2, vb false)] [] (zd (j9 false h _ _ (zk [2]))))))))
          ·exact zr (zu [] 4 [1,127] [(ae p1)] (zt 127 b52 (zg [] 16 [2] (zd (j9 false h _ _ (zk [2]))))))
         ·refine zs (m4 _ _ (zq fun K55 m55 => zr (zg [] 1 [2] (zd (m55 _ _ (ze ?_))))))
          obtain rfl := zj h
          exact zf [vb false] (.one (.rfl _ rfl))
 rcases zW h with ⟨b3, h⟩ | ⟨b3, h⟩
 ·refine zr (zu [] 4 [1,7] [[pi p1.kind, pi p1.n, pi p1.scale, .s (.string p1.s), .ro (aa.els p1.items)]] (zt 7 b3 (zv [] 3 [1,7,10] [[pi p1.kind, pi p1.n, pi p1.scale, .s (.string p1.s), .ro (aa.els p1.items)]] [(1, vR [pi p1.kind, pi p1.n, pi p1.scale, .s (.string p1.s), .ro (aa.els p1.items)]), (7, vb true), (10, vi ((aa.els p1.items).length : Int))] [] ?_)))
  rw [aa.len p1.items]
  exact zg [] 3 [1,3] (zd (j1 ((p1.items.length : Int) == 0) h _ _ (zk [1,3])))
 ·exact zr (zu [] 4 [1,7] [(ae p1)] (zt 7 b3 (zv [] 6 [1,3] [] [(1, vR (ae p1)), (3, vb false)] [] (zd (j1 false h _ _ (zk [1,3]))))))
def ku (z3 : Int) : Option (Bool × Int) := some (true, z3)
def fP (q_ref1_sound : ac → Int → Int → Option (Bool × Int)) (p1 : ac) (p2 : Int) : Nat → Int → Int → Option (Bool × Int)
 | 0, _, _ => none
 | k1 + 1, z2, x2 => aI (decide (x2 < (p1.items.length : Int))) (aT (at? p1.items x2) fun e1 => aT (q_ref1_sound e1 (i64.wrap (p2 + 1)) z2) fun r2 => aI (!r2.1) (some (false, r2.2)) ((fP q_ref1_sound p1 p2 k1) r2.2 (i64.wrap (x2 + 1)))) (ku z2)
def fZ (q_ref1_sound : ac → Int → Int → Option (Bool × Int)) (p1 : ac) (p2 z1 : Int) (x1 : Bool) : Option (Bool × Int) := aI x1 (some (false, z1)) (fP q_ref1_sound p1 p2 bf z1 (0 : Int))
def gZ (q_ref1_sound : ac → Int → Int → Option (Bool × Int)) (p1 : ac) (p2 z1 : Int) : Option (Bool × Int) := aI (decide ((4 : Int) < p2)) (fZ q_ref1_sound p1 p2 z1 true) (aI (decide ((256 : Int) < z1)) (fZ q_ref1_sound p1 p2 z1 true) (aT (lm p1) fun r1 => fZ q_ref1_sound p1 p2 z1 (!r1)))
def er : Nat → ac → Int → Int → Option (Bool × Int)
 | 0, _, _, _ => none
 | k0 + 1, p1, p2, p3 => aI (p1.kind != 0) (gZ (er k0) p1 p2 (i64.wrap (p3 + 1))) (gZ (er k0) p1 p2 p3)
abbrev AG (p1 : ac) (p2 : Int) : Fr := [(1, vi p2), (2, vq 0), (3, vR (ae p1)), (18, vb (decide ((4 : Int) < p2)))]
theorem pw : ∀ (k0 : Nat) (p1 : ac) (p2 p3 : Int) (r : (Bool × Int)), er k0 p1 p2 p3 = some r → MC Tryz.prog 76 [.ag (aD p1), vi p2, vq 0] [.box [ci p3]] (vb r.1) [.box [ci r.2]]
 | 0, _, _, _, r, h => by rw [er.eq_1] at h; cases h
 | k0 + 1, p1, p2, p3, r, h => by
  rw [er.eq_2] at h
  refine MC.of 1 (n := 46) (fn := Tryz.f76) (c := cd Tryz.f76 []) (by kernel_rfl) (by kernel_rfl) (by kernel_rfl) (Nat.le_of_ble_eq_true rfl) rfl (zq fun K1 m1 => zr (zg [] 2 [1,2,3] (zd (m1 _ _ (zq fun K2 m2 => ?_)))))
  have j1 : ∀ (z1 : Int), gZ (er k0) p1 p2 z1 = some r → ∀ w0 w1, aL 46 1 [] w0 w1 [(1, vi p2), (2, vq 0), (3, vR (ae p1))] [.box [ci z1]] → K2 w0 w1 := by
   intro z1 h w0 w1 hS
   unfold gZ at h
   refine m2 _ _ (XW.sub hS ?_)
   refine zq fun K5 m5 => zq fun K6 m6 => ?_
   have j2 : ∀ (x1 : Bool), fZ (er k0) p1 p2 z1 x1 = some r → ∀ w0 w1, aL 46 1 [] w0 w1 [(1, vi p2), (2, vq 0), (3, vR (ae p1)), (28, vb x1)] [.box [ci z1]] → K6 w0 w1 := by
    intro x1 h w0 w1 hS
    unfold fZ at h
    refine m6 _ _ (XW.sub hS ?_)
    refine zC h (fun b10 h => ?_) (fun b10 h => ?_)
    ·refine zq fun K11 m11 => zr (zv [] 1 [6] [] [(6, vb false)] [.box [ci z1]] (zd (m11 _ _ (ze ?_))))
     obtain rfl := zj h
     exact eT.fin (.inr rfl) [] [vb false] [] (by kernel_rfl) trivial (by kernel_rfl) (by kernel_rfl) (.one (.rfl _ rfl))
    ·refine zs (m5 _ _ (zq fun K12 m12 => ?_))
     have j3 : ∀ (z3 : Int), ku z3 = some r → ∀ w0 w1, aL 46 1 [] w0 w1 [] [.box [ci z3]] → K12 w0 w1 := by
      intro z3 h w0 w1 hS
      unfold ku at h
      refine m12 _ _ (XW.sub hS ?_)
      refine zq fun K24 m24 => zr (zv [] 1 [6] [] [(6, vb true)] [.box [ci z3]] (zd (m24 _ _ (ze ?_))))
      obtain rfl := zj h
      exact eT.fin (.inr rfl) [] [vb true] [] (by kernel_rfl) trivial (by kernel_rfl) (by kernel_rfl) (.one (.rfl _ rfl))
     refine zq fun K13 m13 => zr (zv [] 3 [1,2,3,31] [[pi p1.kind, pi p1.n, pi p1.scale, .s (.string p1.s), .ro (aa.els p1.items)]] [(1, vi p2), (2, vq 0), (3, vR [pi p1.kind, pi p1.n, pi p1.scale, .s (.string p1.s), .ro (aa.els p1.items)]), (31, vi ((aa.els p1.items).length : Int))] [.box [ci z1]] ?_)
     rw [aa.len p1.items]
     refine zg [] 1 [1,2,3,31,32] (zd (m13 _ _ (zb 0 (XW.rounds' bf (x := cd Tryz.f76 [1,1,1,0,1,0,0]) (by kernel_rfl) fun Q1 hQ1 => ?_))))
     have hL1 : ∀ (k1 : Nat) (z2 x2 : Int), fP (er k0) p1 p2 k1 z2 x2 = some r → XR Tryz.prog 46 1 [] (cd Tryz.f76 [1,1,1,0,1,0,0]) Q1 k1 [(1, vi p2), (2, vq 0), (3, vR (ae p1)), (31, vi (p1.items.length : Int)), (32, vi x2)] [.box [ci z2]] := by
      intro k1
      induction k1 with
      | zero => intro z2 x2 h; rw [fP.eq_1] at h; cases h
      | succ k1 ih1 =>
       intro z2 x2 h
       rw [fP.eq_2] at h
       refine zq fun K14 m14 => zr (zg [] 1 [1,2,3,31,32,33] (zd (m14 _ _ (zq fun K15 m15 => zC h (fun b16 h => ?_) (fun b16 h => ?_)))))
       ·refine zs (m15 _ _ (zq fun K17 m17 => zb 1 (zq fun K18 m18 => zr (zg [] 2 [1,2,3,7,31,32] (zd ?_)))))
        refine m18 _ _ (zq fun K19 m19 => ?_)
        obtain ⟨e1, a20, h⟩ := zB h
        obtain ⟨r2, c21, h⟩ := zB h
        refine zr ?_
        refine zp [] 8 [1,2,3,31,32,39,41,42] [(ae p1), [pi e1.kind, pi e1.n, pi e1.scale, .s (.string e1.s), .ro (aa.els e1.items)]] [(1, vi p2), (2, vq 0), (3, vR (ae p1)), (31, vi (p1.items.length : Int)), (32, vi x2), (39, .ag (aD e1)), (41, vi (i64.wrap (p2 + 1))), (42, vq 0)] [.box [ci z2]] [([(ae p1)] : List (List PV))[0]? = some (ae p1), 0 ≤ x2 ∧ x2 < ((aa.els p1.items).length : Int) ∧ aq 5 (aa.els p1.items), (aa.els p1.items)[x2.toNat]? = some [pi e1.kind, pi e1.n, pi e1.scale, .s (.string e1.s), .ro (aa.els e1.items)]] (⟨rfl, aa.inb a20, ((aa.get a20).trans (by cases e1; rfl)), trivial⟩) ?_
        refine XO.calm 76 [.ag (aD e1), vi (i64.wrap (p2 + 1)), vq 0] [.box [ci z2]] [.box [ci r2.2]] (vb r2.1) [0] [(43, vb r2.1), (1, vi p2), (2, vq 0), (3, vR (ae p1)), (31, vi (p1.items.length : Int)), (32, vi x2), (39, .ag (aD e1)), (41, vi (i64.wrap (p2 + 1))), (42, vq 0)] [.box [ci r2.2]] (by kernel_rfl) (pw k0 _ _ _ _ c21) (by kernel_rfl) (by kernel_rfl) (by kernel_rfl) (by kernel_rfl) ?_
        refine zg [] 1 [1,2,3,31,32,44] (zd (m19 _ _ (zC h (fun b22 h => ?_) (fun b22 h => ?_))))
        ·refine zq fun K23 m23 => zr (zv [] 1 [6] [] [(6, vb false)] [.box [ci r2.2]] (zd (m23 _ _ (ze (hQ1 _ _ _ ?_)))))
         obtain rfl := zj h
         exact eT.fin (.inr rfl) [] [vb false] [] (by kernel_rfl) trivial (by kernel_rfl) (by kernel_rfl) (.one (.rfl _ rfl))
        ·exact zs (m17 _ _ (zr (zg [] 2 [1,2,3,31,32] (zd (XR.sub (zk [1,2,3,31,32]) (ih1 r2.2 (i64.wrap (x2 + 1)) h))))))
       ·exact zx 0 (hQ1 _ _ _ (j3 z2 h _ _ (zk [])))
     exact XR.sub (zk [1,2,3,31,32]) (hL1 bf z1 (0 : Int) h)
   rcases zW h with ⟨b7, h⟩ | ⟨b7, h⟩
   ·exact zr (zg [] 3 [1,2,3,18] (zt 18 b7 (zg [] 10 [1,2,3,28] (zd (j2 true h _ _ (zk [1,2,3,28]))))))
   ·rcases zW h with ⟨b8, h⟩ | ⟨b8, h⟩
    ·exact zr (zv [] 3 [1,2,3,18] [] (AG p1 p2) [.box [ci z1]] (zt 18 b7 (zg [] 6 [1,2,3,24] (zt 24 b8 (zg [] 4 [1,2,3,28] (zd (j2 true h _ _ (zk [1,2,3,28]))))))))
    ·obtain ⟨r1, c9, h⟩ := zB h
     refine zr (zv [] 3 [1,2,3,18] [] (AG p1 p2) [.box [ci z1]] (zt 18 b7 (zg [] 6 [1,2,3,24] (zt 24 b8 (zu [] 1 [1,2,3,24,25] [(ae p1)] ?_)))))
     exact zl 124 [.ag (aD p1)] (vb r1) [(26, vb r1), (1, vi p2), (2, vq 0), (3, vR (ae p1)), (24, vb false), (25, .ag (aD p1))] (tN _ _ c9) (zg [] 2 [1,2,3,28] (zd (j2 (!r1) h _ _ (zk [1,2,3,28]))))
  refine zq fun K3 m3 => zr (zu [] 3 [1,2,3,10] [(ae p1)] (zd (m3 _ _ (zC h (fun b4 h => ?_) (fun b4 h => ?_)))))
  ·exact zr (zv [] 6 [1,2,3] [] [(1, vi p2), (2, vq 0), (3, vR (ae p1))] [.box [ci (i64.wrap (p3 + 1))]] (zd (j1 (i64.wrap (p3 + 1)) h _ _ (zk [1,2,3]))))
  ·exact zs (j1 p3 h _ _ (zk [1,2,3]))
def lL (p1 : ac) : Option Bool := aT (er bf p1 (1 : Int) (0 : Int)) fun r1 => some r1.1
theorem tB (p1 : ac) (r : Bool) (h : lL p1 = some r) : PC Tryz.prog 37 [.ag (aD p1)] (vb r) := by
 unfold lL at h
 refine zF 6 Tryz.f37 (zq fun K1 m1 => zr (zg [3] 2 [1] (zd (m1 _ _ (zq fun K2 m2 => zr ?_)))))
 refine zg [3] 2 [1,3] (zd (m2 _ _ (zq fun K3 m3 => ?_)))
 obtain ⟨r1, c4, h⟩ := zB h
 refine zr (zv [3] 1 [3,4] [[pi p1.kind, pi p1.n, pi p1.scale, .s (.string p1.s), .ro (aa.els p1.items)]] [(3, vq 0), (4, .ag (aD p1))] [.box [ci 0]] ?_)
 refine XO.calm 76 [.ag (aD p1), vi 1, vq 0] [.box [ci 0]] [.box [ci r1.2]] (vb r1.1) [0] [(5, vb r1.1), (3, vq 0), (4, .ag (aD p1))] [.box [ci r1.2]] (by kernel_rfl) (pw bf _ _ _ _ c4) (by kernel_rfl) (by kernel_rfl) (by kernel_rfl) (by kernel_rfl) (zg [3] 1 [2] (zd (m3 _ _ (ze ?_))))
 obtain rfl := zj h
 exact zf [vb r1.1] (.one (.rfl _ rfl))
def lf (rec1 : Int → Option Bool) (q_ref1_of : aw → ac → Option Bool) (p1 : aw) (p2 : ac) (x3 x4 : Int) : Option Bool := aT (at? p1.fields x4) fun e1 => aT (at? p2.items x3) fun e2 => aT (q_ref1_of e1.type e2) fun r1 => aI (!r1) (some false) (rec1 (i64.wrap (x3 + 1)))
def mN : Option Bool := some true
def dV (q_ref1_of : aw → ac → Option Bool) (p1 : aw) (p2 : ac) : Nat → Int → Option Bool
 | 0, _ => none
 | k1 + 1, x3 => aI (decide (x3 < (p2.items.length : Int))) (aI (p1.kind == 6) (lf (dV q_ref1_of p1 p2 k1) q_ref1_of p1 p2 x3 (0 : Int)) (lf (dV q_ref1_of p1 p2 k1) q_ref1_of p1 p2 x3 x3)) (mN)
def ju (q_ref1_of : aw → ac → Option Bool) (p1 : aw) (p2 : ac) (x2 : Bool) : Option Bool := aI x2 (some false) (dV q_ref1_of p1 p2 bf (0 : Int))
def lJ (q_ref1_of : aw → ac → Option Bool) (p1 : aw) (p2 : ac) (x1 : Bool) : Option Bool := aI x1 (some false) (aI (p1.kind == 7) (ju q_ref1_of p1 p2 ((p2.items.length : Int) != (p1.fields.length : Int))) (ju q_ref1_of p1 p2 false))
def eh : Nat → aw → ac → Option Bool
 | 0, _, _ => none
 | k0 + 1, p1, p2 => aI (p2.kind == 0) (some true) (aI (p2.kind != p1.kind) (lJ (eh k0) p1 p2 true) (lJ (eh k0) p1 p2 (p2.scale != p1.scale)))
theorem sC : ∀ (k0 : Nat) (p1 : aw) (p2 : ac) (r : Bool), eh k0 p1 p2 = some r → PC Tryz.prog 92 [.ag [ci p1.kind, ci p1.scale, cl ab p1.fields], .ag [ci p2.kind, ci p2.n, ci p2.scale, cj p2.s, cl aa p2.items]] (vb r)
 | 0, _, _, r, h => by rw [eh.eq_1] at h; cases h
 | k0 + 1, p1, p2, r, h => by
  rw [eh.eq_2] at h
  refine zF 58 Tryz.f92 (zq fun K1 m1 => zr (zg [] 3 [2,3] (zd (m1 _ _ (zq fun K2 m2 => zq fun K3 m3 => ?_)))))
  refine zr (zu [] 3 [2,3,9] [(ae p2)] (zd (m3 _ _ (zC h (fun b4 h => ?_) (fun b4 h => ?_)))))
  ·refine zq fun K5 m5 => zr (zv [] 1 [4] [] [(4, vb true)] [] (zd (m5 _ _ (ze ?_))))
   obtain rfl := zj h
   exact zf [vb true] (.one (.rfl _ rfl))
  ·refine zs (m2 _ _ (zq fun K6 m6 => zq fun K7 m7 => ?_))
   have j1 : ∀ (x1 : Bool), lJ (eh k0) p1 p2 x1 = some r → ∀ w0 w1, aL 58 0 [] w0 w1 [(2, vR (aj p1)), (3, vR (ae p2)), (21, vb x1)] [] → K7 w0 w1 := by
    intro x1 h w0 w1 hS
    unfold lJ at h
    refine m7 _ _ (XW.sub hS ?_)
    refine zC h (fun b9 h => ?_) (fun b9 h => ?_)
    ·refine zq fun K10 m10 => zr (zg [] 1 [4] (zd (m10 _ _ (ze ?_))))
     obtain rfl := zj h
     exact zf [vb false] (.one (.rfl _ rfl))
    ·refine zs (m6 _ _ (zq fun K11 m11 => zq fun K12 m12 => ?_))
     have j2 : ∀ (x2 : Bool), ju (eh k0) p1 p2 x2 = some r → ∀ w0 w1, aL 58 0 [] w0 w1 [(2, vR (aj p1)), (3, vR (ae p2)), (33, vb x2)] [] → K12 w0 w1 := by
      intro x2 h w0 w1 hS
      unfold ju at h
      refine m12 _ _ (XW.sub hS ?_)
      refine zC h (fun b14 h => ?_) (fun b14 h => ?_)
      ·refine zq fun K15 m15 => zr (zg [] 1 [4] (zd (m15 _ _ (ze ?_))))
       obtain rfl := zj h
       exact zf [vb false] (.one (.rfl _ rfl))
      ·refine zs (m11 _ _ (zq fun K16 m16 => ?_))
       have j4 : ∀ (_ : Unit), mN = some r → ∀ w0 w1, aL 58 0 [] w0 w1 [] [] → K16 w0 w1 := by
        intro _ h w0 w1 hS
        unfold mN at h
        refine m16 _ _ (XW.sub hS ?_)
        refine zq fun K33 m33 => zr (zg [] 1 [4] (zd (m33 _ _ (ze ?_))))
        obtain rfl := zj h
        exact zf [vb true] (.one (.rfl _ rfl))
       refine zq fun K17 m17 => zr (zv [] 3 [2,3,36] [[pi p2.kind, pi p2.n, pi p2.scale, .s (.string p2.s), .ro (aa.els p2.items)]] [(2, vR [pi p1.kind, pi p1.scale, .ro (ab.els p1.fields)]), (3, vR [pi p2.kind, pi p2.n, pi p2.scale, .s (.string p2.s), .ro (aa.els p2.items)]), (36, vi ((aa.els p2.items).length : Int))] [] ?_)
       rw [aa.len p2.items]
       refine zg [] 1 [2,3,36,37] (zd (m17 _ _ (zb 0 (XW.rounds' bf (x := cd Tryz.f92 [1,1,1,1,0,1,0,0]) (by kernel_rfl) fun Q1 hQ1 => ?_))))
       have hL1 : ∀ (k1 : Nat) (x3 : Int), dV (eh k0) p1 p2 k1 x3 = some r → XR Tryz.prog 58 0 [] (cd Tryz.f92 [1,1,1,1,0,1,0,0]) Q1 k1 [(2, vR (aj p1)), (3, vR (ae p2)), (36, vi (p2.items.length : Int)), (37, vi x3)] [] := by
        intro k1
        induction k1 with
        | zero => intro x3 h; rw [dV.eq_1] at h; cases h
        | succ k1 ih1 =>
         intro x3 h
         rw [dV.eq_2] at h
         refine zq fun K18 m18 => zr (zg [] 1 [2,3,36,37,38] (zd (m18 _ _ (zq fun K19 m19 => zC h (fun b20 h => ?_) (fun b20 h => ?_)))))
         ·refine zs (m19 _ _ (zq fun K21 m21 => zb 1 (zq fun K22 m22 => zr (zg [] 2 [2,3,5,36,37] (zd ?_)))))
          refine m22 _ _ (zq fun K23 m23 => zr (zv [] 2 [2,3,5,6,36,37] [] [(2, vR (aj p1)), (3, vR (ae p2)), (5, vi x3), (6, vi x3), (36, vi (p2.items.length : Int)), (37, vi x3)] [] (zd (m23 _ _ (zq fun K24 m24 => ?_)))))
          have j3 : ∀ (x4 : Int), lf (dV (eh k0) p1 p2 k1) (eh k0) p1 p2 x3 x4 = some r → ∀ w0 w1, aL 58 0 [] w0 w1 [(2, vR (aj p1)), (3, vR (ae p2)), (5, vi x3), (6, vi x4), (36, vi (p2.items.length : Int)), (37, vi x3)] [] → K24 w0 w1 := by
           intro x4 h w0 w1 hS
           unfold lf at h
           refine m24 _ _ (XW.sub hS ?_)
           refine zq fun K27 m27 => ?_
           obtain ⟨e1, a28, h⟩ := zB h
           obtain ⟨e2, a29, h⟩ := zB h
           obtain ⟨r1, c30, h⟩ := zB h
           refine zw 11 [(54, .ag [ci e2.kind, ci e2.n, ci e2.scale, cj e2.s, cl aa e2.items]), (53, .one (.pv (.rp (aa.els p2.items) x3.toNat 0))), (52, vi x3), (51, vl aa p2.items), (50, .one (.pv (.rp [(ae p2)] 0 4))), (49, .ag [ci e1.type.kind, ci e1.type.scale, cl ab e1.type.fields]), (48, .one (.pv (.rp (ab.els p1.fields) x4.toNat 3))), (47, .one (.pv (.rp (ab.els p1.fields) x4.toNat 0))), (46, vi x4), (45, vl ab p1.fields), (44, .one (.pv (.rp [(aj p1)] 0 2))), (2, vR (aj p1)), (3, vR (ae p2)), (5, vi x3), (6, vi x4), (36, vi (p2.items.length : Int)), (37, vi x3)] ?_ ?_
           ·refine sd 11 [(aj p1), (aJ e1), (ae p2), [pi e2.kind, pi e2.n, pi e2.scale, .s (.string e2.s), .ro (aa.els e2.items)]] [([(aj p1)] : List (List PV))[0]? = some (aj p1), 0 ≤ x4 ∧ x4 < ((ab.els p1.fields).length : Int) ∧ aq 6 (ab.els p1.fields), (ab.els p1.fields)[x4.toNat]? = some (aJ e1), ([(ae p2)] : List (List PV))[0]? = some (ae p2), 0 ≤ x3 ∧ x3 < ((aa.els p2.items).length : Int) ∧ aq 5 (aa.els p2.items), (aa.els p2.items)[x3.toNat]? = some [pi e2.kind, pi e2.n, pi e2.scale, .s (.string e2.s), .ro (aa.els e2.items)]] (⟨rfl, ab.inb a28, ((ab.get a28).trans (by rcases e1 with ⟨_, _, _, ⟨_, _, _⟩⟩; rfl)), rfl, aa.inb a29, ((aa.get a29).trans (by cases e2; rfl)), trivial⟩) ?_
            exact lU
           refine za (sC k0 _ _ _ c30) (zg [] 1 [2,3,36,37,56] (zd (m27 _ _ (zC h (fun b31 h => ?_) (fun b31 h => ?_)))))
           ·refine zq fun K32 m32 => zr (zv [] 1 [4] [] [(4, vb false)] [] (zd (m32 _ _ (ze (hQ1 _ _ _ ?_)))))
            obtain rfl := zj h
            exact zf [vb false] (.one (.rfl _ rfl))
           ·exact zs (m21 _ _ (zr (zg [] 2 [2,3,36,37] (zd (XR.sub (zk [2,3,36,37]) (ih1 (i64.wrap (x3 + 1)) h))))))
          refine zq fun K25 m25 => zr (zu [] 3 [2,3,5,6,36,37,43] [(aj p1)] (zd (m25 _ _ (zC h (fun b26 h => ?_) (fun b26 h => ?_)))))
          ·exact zr (zg [] 1 [2,3,5,6,36,37] (zd (j3 (0 : Int) h _ _ (zk [2,3,5,6,36,37]))))
          ·exact zs (j3 x3 h _ _ (zk [2,3,5,6,36,37]))
         ·exact zx 0 (hQ1 _ _ _ (j4 () h _ _ (zk [])))
       exact XR.sub (zk [2,3,36,37]) (hL1 bf (0 : Int) h)
     rcases zW h with ⟨b13, h⟩ | ⟨b13, h⟩
     ·refine zr (zu [] 4 [2,3,25] [[pi p1.kind, pi p1.scale, .ro (ab.els p1.fields)]] (zt 25 b13 (zv [] 3 [2,3,25,28] [[pi p2.kind, pi p2.n, pi p2.scale, .s (.string p2.s), .ro (aa.els p2.items)]] [(2, vR [pi p1.kind, pi p1.scale, .ro (ab.els p1.fields)]), (3, vR [pi p2.kind, pi p2.n, pi p2.scale, .s (.string p2.s), .ro (aa.els p2.items)]), (25, vb true), (28, vi ((aa.els p2.items).length : Int))] [] ?_)))
      rw [aa.len p2.items]
      refine zv [] 3 [2,3,25,28,31] [[pi p1.kind, pi p1.scale, .ro (ab.els p1.fields)]] [(2, vR [pi p1.kind, pi p1.scale, .ro (ab.els p1.fields)]), (3, vR [pi p2.kind, pi p2.n, pi p2.scale, .s (.string p2.s), .ro (aa.els p2.items)]), (25, vb true), (28, vi (p2.items.length : Int)), (31, vi ((ab.els p1.fields).length : Int))] [] ?_
      rw [ab.len p1.fields]
      exact zg [] 2 [2,3,33] (zd (j2 ((p2.items.length : Int) != (p1.fields.length : Int)) h _ _ (zk [2,3,33])))
     ·exact zr (zu [] 4 [2,3,25] [(aj p1)] (zt 25 b13 (zv [] 8 [2,3,33] [] [(2, vR (aj p1)), (3, vR (ae p2)), (33, vb false)] [] (zd (j2 false h _ _ (zk [2,3,33]))))))
   rcases zW h with ⟨b8, h⟩ | ⟨b8, h⟩
   ·exact zr (zu [] 6 [2,3,15] [(ae p2), (aj p1)] (zt 15 b8 (zg [] 6 [2,3,21] (zd (j1 true h _ _ (zk [2,3,21]))))))
   ·refine zr (zv [] 6 [2,3,15] [(ae p2), (aj p1)] [(2, vR (aj p1)), (3, vR (ae p2)), (15, vb (p2.kind != p1.kind))] [] (zt 15 b8 (zu [] 6 [2,3,21] [(ae p2), (aj p1)] (zd ?_))))
    exact j1 (p2.scale != p1.scale) h _ _ (zk [2,3,21])
def fD (rec1 : Int → Option Bool) (x1 : Int) (x3 : Bool) : Option Bool := aI x3 (some true) (rec1 (i64.wrap (x1 + 1)))
def fC (rec1 : Int → Option Bool) (q_ref1_missing : aw → ac → Option Bool) (p1 : aw) (p2 : ac) (x1 x2 : Int) : Option Bool := aT (at? p1.fields x2) fun e1 => aI e1.need (aT (at? p2.items x1) fun e2 => aI (e2.kind == 0) (fD rec1 x1 true) (aT (q_ref1_missing e1.type e2) fun r1 => fD rec1 x1 r1)) (aT (at? p2.items x1) fun e3 => aT (q_ref1_missing e1.type e3) fun r2 => fD rec1 x1 r2)
def jr : Option Bool := some false
def ca (q_ref1_missing : aw → ac → Option Bool) (p1 : aw) (p2 : ac) : Nat → Int → Option Bool
 | 0, _ => none
 | k1 + 1, x1 => aI (decide (x1 < (p2.items.length : Int))) (aI (p1.kind == 6) (fC (ca q_ref1_missing p1 p2 k1) q_ref1_missing p1 p2 x1 (0 : Int)) (fC (ca q_ref1_missing p1 p2 k1) q_ref1_missing p1 p2 x1 x1)) (jr)
def cy : Nat → aw → ac → Option Bool
 | 0, _, _ => none
 | k0 + 1, p1, p2 => ca (cy k0) p1 p2 bf (0 : Int)
abbrev Ba (p1 : aw) (p2 : ac) (x1 : Int) : Fr := [(2, vR (aj p1)), (3, vR (ae p2)), (10, vi (p2.items.length : Int)), (11, vi (i64.wrap (x1 + 1)))]
abbrev zn (p1 : aw) (p2 : ac) (x1 : Int) : Fr := [(2, vR (aj p1)), (3, vR (ae p2)), (10, vi (p2.items.length : Int)), (11, vi x1), (43, vb true)]
abbrev rY (p1 : aw) (p2 : ac) (x1 : Int) (r1 : Bool) : Fr := [(2, vR (aj p1)), (3, vR (ae p2)), (10, vi (p2.items.length : Int)), (11, vi x1), (43, vb r1)]
theorem lx : ∀ (k0 : Nat) (p1 : aw) (p2 : ac) (r : Bool), cy k0 p1 p2 = some r → PC Tryz.prog 93 [.ag [ci p1.kind, ci p1.scale, cl ab p1.fields], .ag [ci p2.kind, ci p2.n, ci p2.scale, cj p2.s, cl aa p2.items]] (vb r)
 | 0, _, _, r, h => by rw [cy.eq_1] at h; cases h
 | k0 + 1, p1, p2, r, h => by
  rw [cy.eq_2] at h
  refine zF 45 Tryz.f93 (zq fun K1 m1 => zr (zg [7] 3 [2,3] (zd (m1 _ _ (zq fun K2 m2 => ?_)))))
  have j3 : ∀ (_ : Unit), jr = some r → ∀ w0 w1, aL 45 0 [] w0 w1 [] [] → K2 w0 w1 := by
   intro _ h w0 w1 hS
   unfold jr at h
   refine m2 _ _ (XW.sub hS ?_)
   refine zq fun K24 m24 => zr (zg [7] 1 [4] (zd (m24 _ _ (ze ?_))))
   obtain rfl := zj h
   exact zf [vb false] (.one (.rfl _ rfl))
  refine zq fun K3 m3 => zr (zv [7] 3 [2,3,10] [[pi p2.kind, pi p2.n, pi p2.scale, .s (.string p2.s), .ro (aa.els p2.items)]] [(2, vR [pi p1.kind, pi p1.scale, .ro (ab.els p1.fields)]), (3, vR [pi p2.kind, pi p2.n, pi p2.scale, .s (.string p2.s), .ro (aa.els p2.items)]), (10, vi ((aa.els p2.items).length : Int))] [] ?_)
  rw [aa.len p2.items]
  refine zg [7] 1 [2,3,10,11] (zd (m3 _ _ (zb 0 (XW.rounds' bf (x := cd Tryz.f93 [1,0,1,0,0]) (by kernel_rfl) fun Q1 hQ1 => ?_))))
  have hL1 : ∀ (k1 : Nat) (x1 : Int), ca (cy k0) p1 p2 k1 x1 = some r → XR Tryz.prog 45 0 [] (cd Tryz.f93 [1,0,1,0,0]) Q1 k1 [(2, vR (aj p1)), (3, vR (ae p2)), (10, vi (p2.items.length : Int)), (11, vi x1)] [] := by
   intro k1
   induction k1 with
   | zero => intro x1 h; rw [ca.eq_1] at h; cases h
   | succ k1 ih1 =>
    intro x1 h
    rw [ca.eq_2] at h
    refine zq fun K4 m4 => zr (zg [7] 1 [2,3,10,11,12] (zd (m4 _ _ (zq fun K5 m5 => zC h (fun b6 h => ?_) (fun b6 h => ?_)))))
    ·refine zs (m5 _ _ (zq fun K7 m7 => zb 1 (zq fun K8 m8 => zr (zg [7] 2 [2,3,5,10,11] (zd ?_)))))
     refine m8 _ _ (zq fun K9 m9 => zr (zv [7] 2 [2,3,5,6,10,11] [] [(2, vR (aj p1)), (3, vR (ae p2)), (5, vi x1), (6, vi x1), (10, vi (p2.items.length : Int)), (11, vi x1)] [] (zd (m9 _ _ (zq fun K10 m10 => ?_)))))
     have j1 : ∀ (x2 : Int), fC (ca (cy k0) p1 p2 k1) (cy k0) p1 p2 x1 x2 = some r → ∀ w0 w1, aL 45 0 [] w0 w1 [(2, vR (aj p1)), (3, vR (ae p2)), (5, vi x1), (6, vi x2), (10, vi (p2.items.length : Int)), (11, vi x1)] [] → K10 w0 w1 := by
      intro x2 h w0 w1 hS
      unfold fC at h
      refine m10 _ _ (XW.sub hS ?_)
      refine zq fun K13 m13 => ?_
      obtain ⟨e1, a14, h⟩ := zB h
      refine zr ?_
      refine zo [7] 7 [2,3,5,7,10,11] [(aj p1), (aJ e1)] [([(aj p1)] : List (List PV))[0]? = some (aj p1), 0 ≤ x2 ∧ x2 < ((ab.els p1.fields).length : Int) ∧ aq 6 (ab.els p1.fields), (ab.els p1.fields)[x2.toNat]? = some (aJ e1)] (⟨rfl, ab.inb a14, ((ab.get a14).trans (by rcases e1 with ⟨_, _, _, ⟨_, _, _⟩⟩; rfl)), trivial⟩) ?_
      refine zd (m13 _ _ (zq fun K15 m15 => ?_))
      have j2 : ∀ (x3 : Bool), fD (ca (cy k0) p1 p2 k1) x1 x3 = some r → ∀ w0 w1, aL 45 0 [] w0 w1 [(2, vR (aj p1)), (3, vR (ae p2)), (10, vi (p2.items.length : Int)), (11, vi x1), (43, vb x3)] [.dead] → K15 w0 w1 := by
       intro x3 h w0 w1 hS
       unfold fD at h
       refine m15 _ _ (XW.sub hS ?_)
       refine zC h (fun b22 h => ?_) (fun b22 h => ?_)
       ·refine zq fun K23 m23 => zr (zg [7] 1 [4] (zd (m23 _ _ (ze (hQ1 _ _ _ ?_)))))
        obtain rfl := zj h
        exact zf [vb true] (.one (.rfl _ rfl))
       ·refine zs (m7 _ _ (zr (zg [7] 2 [2,3,10,11] (zd ?_))))
        exact XR.sub (aL.trans (aL.pick (fr' := (Ba p1 p2 x1)) [2,3,10,11] (by kernel_rfl)) (aL.take (fr' := (Ba p1 p2 x1)) 0 (Nat.zero_le _) (by kernel_rfl) (by kernel_rfl))) (ih1 (i64.wrap (x1 + 1)) h)
      rcases zW h with ⟨b16, h⟩ | ⟨b16, h⟩
      ·obtain ⟨e2, a17, h⟩ := zB h
       rcases zW h with ⟨b18, h⟩ | ⟨b18, h⟩
       ·refine zw 19 [(41, .tp []), (40, .tp []), (39, .tp []), (38, .tp []), (37, .tp []), (36, .tp []), (35, .tp []), (34, vb true), (33, vb (e2.kind == 0)), (32, vb (e2.kind == 0)), (31, vi e2.kind), (30, .one (.pv (.rp (aa.els p2.items) x1.toNat 0))), (29, .one (.pv (.rp (aa.els p2.items) x1.toNat 0))), (28, vi x1), (27, vl aa p2.items), (26, .one (.pv (.rp [(ae p2)] 0 4))), (25, vb true), (24, vb e1.need), (23, .one (.pt 0 0 0 2)), (2, vR (aj p1)), (3, vR (ae p2)), (5, vi x1), (7, vq 0), (10, vi (p2.items.length : Int)), (11, vi x1)] ?_ ?_
        ·refine ut 3 [] [(25, vb e1.need), (24, vb e1.need), (23, .one (.pt 0 0 0 2)), (2, vR [pi p1.kind, pi p1.scale, .ro (ab.els p1.fields)]), (3, vR [pi p2.kind, pi p2.n, pi p2.scale, .s (.string p2.s), .ro (aa.els p2.items)]), (5, vi x1), (7, vq 0), (10, vi (p2.items.length : Int)), (11, vi x1)] ?_
         refine DX.eq (fr1 := [(25, vb true), (24, vb e1.need), (23, .one (.pt 0 0 0 2)), (2, vR [pi p1.kind, pi p1.scale, .ro (ab.els p1.fields)]), (3, vR [pi p2.kind, pi p2.n, pi p2.scale, .s (.string p2.s), .ro (aa.els p2.items)]), (5, vi x1), (7, vq 0), (10, vi (p2.items.length : Int)), (11, vi x1)]) (by rw [b16]) ?_
         refine vI 9 [[pi p2.kind, pi p2.n, pi p2.scale, .s (.string p2.s), .ro (aa.els p2.items)], [pi e2.kind, pi e2.n, pi e2.scale, .s (.string e2.s), .ro (aa.els e2.items)]] [(34, vb (e2.kind == 0)), (33, vb (e2.kind == 0)), (32, vb (e2.kind == 0)), (31, vi e2.kind), (30, .one (.pv (.rp (aa.els p2.items) x1.toNat 0))), (29, .one (.pv (.rp (aa.els p2.items) x1.toNat 0))), (28, vi x1), (27, vl aa p2.items), (26, .one (.pv (.rp [[pi p2.kind, pi p2.n, pi p2.scale, .s (.string p2.s), .ro (aa.els p2.items)]] 0 4))), (25, vb true), (24, vb e1.need), (23, .one (.pt 0 0 0 2)), (2, vR [pi p1.kind, pi p1.scale, .ro (ab.els p1.fields)]), (3, vR [pi p2.kind, pi p2.n, pi p2.scale, .s (.string p2.s), .ro (aa.els p2.items)]), (5, vi x1), (7, vq 0), (10, vi (p2.items.length : Int)), (11, vi x1)] [([[pi p2.kind, pi p2.n, pi p2.scale, .s (.string p2.s), .ro (aa.els p2.items)]] : List (List PV))[0]? = some [pi p2.kind, pi p2.n, pi p2.scale, .s (.string p2.s), .ro (aa.els p2.items)], 0 ≤ x1 ∧ x1 < ((aa.els p2.items).length : Int) ∧ aq 5 (aa.els p2.items), (aa.els p2.items)[x1.toNat]? = some [pi e2.kind, pi e2.n, pi e2.scale, .s (.string e2.s), .ro (aa.els e2.items)]] (⟨rfl, aa.inb a17, ((aa.get a17).trans (by cases e2; rfl)), trivial⟩) ?_
         refine DX.eq (fr1 := [(34, vb true), (33, vb (e2.kind == 0)), (32, vb (e2.kind == 0)), (31, vi e2.kind), (30, .one (.pv (.rp (aa.els p2.items) x1.toNat 0))), (29, .one (.pv (.rp (aa.els p2.items) x1.toNat 0))), (28, vi x1), (27, vl aa p2.items), (26, .one (.pv (.rp [[pi p2.kind, pi p2.n, pi p2.scale, .s (.string p2.s), .ro (aa.els p2.items)]] 0 4))), (25, vb true), (24, vb e1.need), (23, .one (.pt 0 0 0 2)), (2, vR [pi p1.kind, pi p1.scale, .ro (ab.els p1.fields)]), (3, vR [pi p2.kind, pi p2.n, pi p2.scale, .s (.string p2.s), .ro (aa.els p2.items)]), (5, vi x1), (7, vq 0), (10, vi (p2.items.length : Int)), (11, vi x1)]) (by rw [b18]) ?_
         exact BB 7 lU
        refine zg [7] 2 [2,3,10,11,43] (zd ?_)
        exact j2 true h _ _ (aL.trans (aL.pick (fr' := (zn p1 p2 x1)) [2,3,10,11,43] (by kernel_rfl)) (aL.only (fr' := (zn p1 p2 x1)) (st' := [.dead]) [] 1 (by kernel_rfl) (by kernel_rfl) (by kernel_rfl) (by kernel_rfl)))
       ·obtain ⟨r1, c19, h⟩ := zB h
        refine zw 19 [(41, .ag (aD e2)), (40, .one (.pv (.rp (aa.els p2.items) x1.toNat 0))), (39, vi x1), (38, vl aa p2.items), (37, .one (.pv (.rp [(ae p2)] 0 4))), (36, .ag (iY e1)), (35, .one (.pt 0 0 0 3)), (34, vb false), (33, vb (e2.kind == 0)), (32, vb (e2.kind == 0)), (31, vi e2.kind), (30, .one (.pv (.rp (aa.els p2.items) x1.toNat 0))), (29, .one (.pv (.rp (aa.els p2.items) x1.toNat 0))), (28, vi x1), (27, vl aa p2.items), (26, .one (.pv (.rp [(ae p2)] 0 4))), (25, vb true), (24, vb e1.need), (23, .one (.pt 0 0 0 2)), (2, vR (aj p1)), (3, vR (ae p2)), (5, vi x1), (7, vq 0), (10, vi (p2.items.length : Int)), (11, vi x1)] ?_ ?_
        ·refine ut 3 [] [(25, vb e1.need), (24, vb e1.need), (23, .one (.pt 0 0 0 2)), (2, vR [pi p1.kind, pi p1.scale, .ro (ab.els p1.fields)]), (3, vR [pi p2.kind, pi p2.n, pi p2.scale, .s (.string p2.s), .ro (aa.els p2.items)]), (5, vi x1), (7, vq 0), (10, vi (p2.items.length : Int)), (11, vi x1)] ?_
         refine DX.eq (fr1 := [(25, vb true), (24, vb e1.need), (23, .one (.pt 0 0 0 2)), (2, vR [pi p1.kind, pi p1.scale, .ro (ab.els p1.fields)]), (3, vR [pi p2.kind, pi p2.n, pi p2.scale, .s (.string p2.s), .ro (aa.els p2.items)]), (5, vi x1), (7, vq 0), (10, vi (p2.items.length : Int)), (11, vi x1)]) (by rw [b16]) ?_
         refine vI 9 [[pi p2.kind, pi p2.n, pi p2.scale, .s (.string p2.s), .ro (aa.els p2.items)], [pi e2.kind, pi e2.n, pi e2.scale, .s (.string e2.s), .ro (aa.els e2.items)]] [(34, vb (e2.kind == 0)), (33, vb (e2.kind == 0)), (32, vb (e2.kind == 0)), (31, vi e2.kind), (30, .one (.pv (.rp (aa.els p2.items) x1.toNat 0))), (29, .one (.pv (.rp (aa.els p2.items) x1.toNat 0))), (28, vi x1), (27, vl aa p2.items), (26, .one (.pv (.rp [[pi p2.kind, pi p2.n, pi p2.scale, .s (.string p2.s), .ro (aa.els p2.items)]] 0 4))), (25, vb true), (24, vb e1.need), (23, .one (.pt 0 0 0 2)), (2, vR [pi p1.kind, pi p1.scale, .ro (ab.els p1.fields)]), (3, vR [pi p2.kind, pi p2.n, pi p2.scale, .s (.string p2.s), .ro (aa.els p2.items)]), (5, vi x1), (7, vq 0), (10, vi (p2.items.length : Int)), (11, vi x1)] [([[pi p2.kind, pi p2.n, pi p2.scale, .s (.string p2.s), .ro (aa.els p2.items)]] : List (List PV))[0]? = some [pi p2.kind, pi p2.n, pi p2.scale, .s (.string p2.s), .ro (aa.els p2.items)], 0 ≤ x1 ∧ x1 < ((aa.els p2.items).length : Int) ∧ aq 5 (aa.els p2.items), (aa.els p2.items)[x1.toNat]? = some [pi e2.kind, pi e2.n, pi e2.scale, .s (.string e2.s), .ro (aa.els e2.items)]] (⟨rfl, aa.inb a17, ((aa.get a17).trans (by cases e2; rfl)), trivial⟩) ?_
         refine DX.eq (fr1 := [(34, vb false), (33, vb (e2.kind == 0)), (32, vb (e2.kind == 0)), (31, vi e2.kind), (30, .one (.pv (.rp (aa.els p2.items) x1.toNat 0))), (29, .one (.pv (.rp (aa.els p2.items) x1.toNat 0))), (28, vi x1), (27, vl aa p2.items), (26, .one (.pv (.rp [[pi p2.kind, pi p2.n, pi p2.scale, .s (.string p2.s), .ro (aa.els p2.items)]] 0 4))), (25, vb true), (24, vb e1.need), (23, .one (.pt 0 0 0 2)), (2, vR [pi p1.kind, pi p1.scale, .ro (ab.els p1.fields)]), (3, vR [pi p2.kind, pi p2.n, pi p2.scale, .s (.string p2.s), .ro (aa.els p2.items)]), (5, vi x1), (7, vq 0), (10, vi (p2.items.length : Int)), (11, vi x1)]) (by rw [b18]) ?_
         refine sd 7 [(ae p2), [pi e2.kind, pi e2.n, pi e2.scale, .s (.string e2.s), .ro (aa.els e2.items)]] [([(ae p2)] : List (List PV))[0]? = some (ae p2), 0 ≤ x1 ∧ x1 < ((aa.els p2.items).length : Int) ∧ aq 5 (aa.els p2.items), (aa.els p2.items)[x1.toNat]? = some [pi e2.kind, pi e2.n, pi e2.scale, .s (.string e2.s), .ro (aa.els e2.items)]] (⟨rfl, aa.inb a17, ((aa.get a17).trans (by cases e2; rfl)), trivial⟩) ?_
         exact lU
        refine zl 93 [.ag (iY e1), .ag (aD e2)] (vb r1) [(42, vb r1), (41, .ag (aD e2)), (40, .one (.pv (.rp (aa.els p2.items) x1.toNat 0))), (39, vi x1), (38, vl aa p2.items), (37, .one (.pv (.rp [(ae p2)] 0 4))), (36, .ag (iY e1)), (35, .one (.pt 0 0 0 3)), (34, vb false), (33, vb (e2.kind == 0)), (32, vb (e2.kind == 0)), (31, vi e2.kind), (30, .one (.pv (.rp (aa.els p2.items) x1.toNat 0))), (29, .one (.pv (.rp (aa.els p2.items) x1.toNat 0))), (28, vi x1), (27, vl aa p2.items), (26, .one (.pv (.rp [(ae p2)] 0 4))), (25, vb true), (24, vb e1.need), (23, .one (.pt 0 0 0 2)), (2, vR (aj p1)), (3, vR (ae p2)), (5, vi x1), (7, vq 0), (10, vi (p2.items.length : Int)), (11, vi x1)] (lx k0 _ _ _ c19) ?_
        refine zg [7] 1 [2,3,10,11,43] (zd ?_)
        exact j2 r1 h _ _ (aL.trans (aL.pick (fr' := (rY p1 p2 x1 r1)) [2,3,10,11,43] (by kernel_rfl)) (aL.only (fr' := (rY p1 p2 x1 r1)) (st' := [.dead]) [] 1 (by kernel_rfl) (by kernel_rfl) (by kernel_rfl) (by kernel_rfl)))
      ·obtain ⟨e3, a20, h⟩ := zB h
       obtain ⟨r2, c21, h⟩ := zB h
       refine zw 19 [(41, .ag [ci e3.kind, ci e3.n, ci e3.scale, cj e3.s, cl aa e3.items]), (40, .one (.pv (.rp (aa.els p2.items) x1.toNat 0))), (39, vi x1), (38, vl aa p2.items), (37, .one (.pv (.rp [(ae p2)] 0 4))), (36, .ag (iY e1)), (35, .one (.pt 0 0 0 3)), (34, vb false), (33, vb false), (32, .tp []), (31, .tp []), (30, .tp []), (29, .tp []), (28, .tp []), (27, .tp []), (26, .tp []), (25, vb false), (24, vb e1.need), (23, .one (.pt 0 0 0 2)), (2, vR (aj p1)), (3, vR (ae p2)), (5, vi x1), (7, vq 0), (10, vi (p2.items.length : Int)), (11, vi x1)] ?_ ?_
       ·refine ut 3 [] [(25, vb e1.need), (24, vb e1.need), (23, .one (.pt 0 0 0 2)), (2, vR [pi p1.kind, pi p1.scale, .ro (ab.els p1.fields)]), (3, vR [pi p2.kind, pi p2.n, pi p2.scale, .s (.string p2.s), .ro (aa.els p2.items)]), (5, vi x1), (7, vq 0), (10, vi (p2.items.length : Int)), (11, vi x1)] ?_
        refine DX.eq (fr1 := [(25, vb false), (24, vb e1.need), (23, .one (.pt 0 0 0 2)), (2, vR [pi p1.kind, pi p1.scale, .ro (ab.els p1.fields)]), (3, vR [pi p2.kind, pi p2.n, pi p2.scale, .s (.string p2.s), .ro (aa.els p2.items)]), (5, vi x1), (7, vq 0), (10, vi (p2.items.length : Int)), (11, vi x1)]) (by rw [b16]) ?_
        refine sd 16 [(ae p2), [pi e3.kind, pi e3.n, pi e3.scale, .s (.string e3.s), .ro (aa.els e3.items)]] [([(ae p2)] : List (List PV))[0]? = some (ae p2), 0 ≤ x1 ∧ x1 < ((aa.els p2.items).length : Int) ∧ aq 5 (aa.els p2.items), (aa.els p2.items)[x1.toNat]? = some [pi e3.kind, pi e3.n, pi e3.scale, .s (.string e3.s), .ro (aa.els e3.items)]] (⟨rfl, aa.inb a20, ((aa.get a20).trans (by cases e3; rfl)), trivial⟩) ?_
        exact lU
       refine za (lx k0 _ _ _ c21) (zv [7] 1 [2,3,10,11,43] [] (rY p1 p2 x1 r2) [.box [ci e1.id, cj e1.name, cb e1.need, ci e1.type.kind, ci e1.type.scale, cl ab e1.type.fields]] (zd ?_))
       exact j2 r2 h _ _ (aL.trans (aL.pick (fr' := (rY p1 p2 x1 r2)) [2,3,10,11,43] (by kernel_rfl)) (aL.only (fr' := (rY p1 p2 x1 r2)) (st' := [.dead]) [] 1 (by kernel_rfl) (by kernel_rfl) (by kernel_rfl) (by kernel_rfl)))
     refine zq fun K11 m11 => zr (zu [7] 3 [2,3,5,6,10,11,17] [(aj p1)] (zd (m11 _ _ (zC h (fun b12 h => ?_) (fun b12 h => ?_)))))
     ·exact zr (zg [7] 1 [2,3,5,6,10,11] (zd (j1 (0 : Int) h _ _ (zk [2,3,5,6,10,11]))))
     ·exact zs (j1 x1 h _ _ (zk [2,3,5,6,10,11]))
    ·exact zx 0 (hQ1 _ _ _ (j3 () h _ _ (zk [])))
  exact XR.sub (zk [2,3,10,11]) (hL1 bf (0 : Int) h)
def kl (p1 : aw) (p2 : ac) : Option Int := aT (f9 p1) fun r1 => aI (r1 != 0) (some r1) (aT (lL p2) fun r2 => aI (!r2) (some (1 : Int)) (aT (eh bf p1 p2) fun r3 => aI (!r3) (some (2 : Int)) (aT (cy bf p1 p2) fun r4 => aI r4 (some (9 : Int)) (some (0 : Int)))))
theorem tj (p1 : aw) (p2 : ac) (r : Int) (h : kl p1 p2 = some r) : PC Tryz.prog 48 [.ag (gd p1), .ag (aD p2)] (vi r) := by
 unfold kl at h
 refine zF 21 Tryz.f48 (zq fun K1 m1 => zr (zg [] 3 [2,3] (zd (m1 _ _ (zq fun K2 m2 => zq fun K3 m3 => ?_)))))
 obtain ⟨r1, c4, h⟩ := zB h
 refine zr (zu [] 1 [2,3,6] [(aj p1)] (zl 24 [.ag (gd p1)] (vi r1) [(7, vi r1), (2, vR (aj p1)), (3, vR (ae p2)), (6, .ag (gd p1))] (mA _ _ c4) (zg [] 1 [2,3,5] (zd (m3 _ _ (zq fun K5 m5 => zr ?_))))))
 refine zg [] 2 [2,3,5,9] (zd (m5 _ _ (zC h (fun b6 h => ?_) (fun b6 h => ?_))))
 ·refine zq fun K7 m7 => zr (zv [] 2 [4] [] [(4, vi r1)] [] (zd (m7 _ _ (ze ?_))))
  obtain rfl := zj h
  exact zf [vi r1] (.one (.rfl _ rfl))
 ·refine zs (m2 _ _ (zq fun K8 m8 => zq fun K9 m9 => ?_))
  obtain ⟨r2, c10, h⟩ := zB h
  refine zr (zu [] 1 [2,3,11] [(ae p2)] (za (tB _ _ c10) (zv [] 1 [2,3,13] [] [(2, vR (aj p1)), (3, vR (ae p2)), (13, vb (!r2))] [] (zd (m9 _ _ (zC h (fun b11 h => ?_) (fun b11 h => ?_)))))))
  ·refine zq fun K12 m12 => zr (zg [] 1 [4] (zd (m12 _ _ (ze ?_))))
   obtain rfl := zj h
   exact zf [vi 1] (.one (.rfl _ rfl))
  ·refine zs (m8 _ _ (zq fun K13 m13 => zq fun K14 m14 => ?_))
   obtain ⟨r3, c15, h⟩ := zB h
   refine zr (zu [] 2 [2,3,14,15] [(aj p1), (ae p2)] ?_)
   refine zl 92 [.ag (gd p1), .ag (aD p2)] (vb r3) [(16, vb r3), (2, vR (aj p1)), (3, vR (ae p2)), (14, .ag (gd p1)), (15, .ag (aD p2))] (sC bf _ _ _ c15) (zg [] 1 [2,3,17] (zd (m14 _ _ (zC h (fun b16 h => ?_) (fun b16 h => ?_)))))
   ·refine zq fun K17 m17 => zr (zg [] 1 [4] (zd (m17 _ _ (ze ?_))))
    obtain rfl := zj h
    exact zf [vi 2] (.one (.rfl _ rfl))
   ·refine zs (m13 _ _ (zq fun K18 m18 => zq fun K19 m19 => ?_))
    obtain ⟨r4, c20, h⟩ := zB h
    refine zr (zv [] 2 [18,19] [(aj p1), (ae p2)] [(18, .ag (gd p1)), (19, .ag (aD p2))] [] (za (lx bf _ _ _ c20) (zd (m19 _ _ (zC h (fun b21 h => ?_) (fun b21 h => ?_))))))
    ·refine zq fun K22 m22 => zr (zg [] 1 [4] (zd (m22 _ _ (ze ?_))))
     obtain rfl := zj h
     exact zf [vi 9] (.one (.rfl _ rfl))
    ·refine zs (m18 _ _ (zq fun K23 m23 => zr (zv [] 1 [4] [] [(4, vi 0)] [] (zd (m23 _ _ (ze ?_))))))
     obtain rfl := zj h
     exact zf [vi 0] (.one (.rfl _ rfl))
def gz (rec1 : Int → Option Int) (x1 : Int) (x2 : Bool) : Option Int := aI x2 (some (9 : Int)) (rec1 (i64.wrap (x1 + 1)))
def iM : Option Int := some (0 : Int)
def cT (p1 : (List ah)) (p2 : (List ac)) : Nat → Int → Option Int
 | 0, _ => none
 | k1 + 1, x1 => aI (decide (x1 < (p1.length : Int))) (aT (at? p1 x1) fun e1 => aT (at? p2 x1) fun e2 => aT (kl e1.type e2) fun r1 => aI (r1 != 0) (some r1) (aI e1.need (gz (cT p1 p2 k1) x1 (e2.kind == 0)) (gz (cT p1 p2 k1) x1 false))) (iM)
def kw (p1 : (List ah)) (p2 : (List ac)) : Option Int := aI ((p2.length : Int) != (p1.length : Int)) (some (1 : Int)) (cT p1 p2 bf (0 : Int))
abbrev A4 (p1 : (List ah)) (p2 : (List ac)) (x1 : Int) (e1 : ah) (e2 : ac) : Fr := [(25, .ag (aD e2)), (24, .one (.pv (.rp (aa.els p2) x1.toNat 0))), (23, vi x1), (22, vl aa p2), (21, .ag (iY e1)), (20, .one (.pv (.rp (ab.els p1) x1.toNat 3))), (19, .one (.pv (.rp (ab.els p1) x1.toNat 0))), (18, vi x1), (17, vl ab p1), (0, vl ab p1), (1, vl aa p2), (5, vi x1), (13, vi (p1.length : Int)), (14, vi x1)]
theorem qF (p1 : (List ah)) (p2 : (List ac)) (r : Int) (h : kw p1 p2 = some r) : PC Tryz.prog 61 [vl ab p1, vl aa p2] (vi r) := by
 unfold kw at h
 refine zF 44 Tryz.f61 (zq fun K1 m1 => zr (zg [] 1 [0,1] (zd (m1 _ _ (zq fun K2 m2 => zq fun K3 m3 => ?_)))))
 refine zr (zv [] 2 [0,1,8] [] [(0, vl ab p1), (1, vl aa p2), (8, vi ((aa.els p2).length : Int))] [] ?_)
 rw [aa.len p2]
 refine zv [] 2 [0,1,8,10] [] [(0, vl ab p1), (1, vl aa p2), (8, vi (p2.length : Int)), (10, vi ((ab.els p1).length : Int))] [] ?_
 rw [ab.len p1]
 refine zg [] 1 [0,1,11] (zd (m3 _ _ (zC h (fun b4 h => ?_) (fun b4 h => ?_))))
 ·refine zq fun K5 m5 => zr (zg [] 1 [4] (zd (m5 _ _ (ze ?_))))
  obtain rfl := zj h
  exact zf [vi 1] (.one (.rfl _ rfl))
 ·refine zs (m2 _ _ (zq fun K6 m6 => ?_))
  have j2 : ∀ (_ : Unit), iM = some r → ∀ w0 w1, aL 44 0 [] w0 w1 [] [] → K6 w0 w1 := by
   intro _ h w0 w1 hS
   unfold iM at h
   refine m6 _ _ (XW.sub hS ?_)
   refine zq fun K25 m25 => zr (zg [] 1 [4] (zd (m25 _ _ (ze ?_))))
   obtain rfl := zj h
   exact zf [vi 0] (.one (.rfl _ rfl))
  refine zq fun K7 m7 => zr (zv [] 2 [0,1,13] [] [(0, vl ab p1), (1, vl aa p2), (13, vi ((ab.els p1).length : Int))] [] ?_)
  rw [ab.len p1]
  refine zg [] 1 [0,1,13,14] (zd (m7 _ _ (zb 0 (XW.rounds' bf (x := cd Tryz.f61 [1,1,0,1,0,0]) (by kernel_rfl) fun Q1 hQ1 => ?_))))
  have hL1 : ∀ (k1 : Nat) (x1 : Int), cT p1 p2 k1 x1 = some r → XR Tryz.prog 44 0 [] (cd Tryz.f61 [1,1,0,1,0,0]) Q1 k1 [(0, vl ab p1), (1, vl aa p2), (13, vi (p1.length : Int)), (14, vi x1)] [] := by
   intro k1
   induction k1 with
   | zero => intro x1 h; rw [cT.eq_1] at h; cases h
   | succ k1 ih1 =>
    intro x1 h
    rw [cT.eq_2] at h
    refine zq fun K8 m8 => zr (zg [] 1 [0,1,13,14,15] (zd (m8 _ _ (zq fun K9 m9 => zC h (fun b10 h => ?_) (fun b10 h => ?_)))))
    ·refine zs (m9 _ _ (zq fun K11 m11 => zb 1 (zq fun K12 m12 => zr (zg [] 2 [0,1,5,13,14] (zd ?_)))))
     refine m12 _ _ (zq fun K13 m13 => zq fun K14 m14 => ?_)
     obtain ⟨e1, a15, h⟩ := zB h
     obtain ⟨e2, a16, h⟩ := zB h
     obtain ⟨r1, c17, h⟩ := zB h
     refine zw 9 (A4 p1 p2 x1 e1 e2) ?_ ?_
     ·refine vI 9 [(aJ e1), (ae e2)] (A4 p1 p2 x1 e1 e2) [0 ≤ x1 ∧ x1 < ((ab.els p1).length : Int) ∧ aq 6 (ab.els p1), (ab.els p1)[x1.toNat]? = some (aJ e1), 0 ≤ x1 ∧ x1 < ((aa.els p2).length : Int) ∧ aq 5 (aa.els p2), (aa.els p2)[x1.toNat]? = some (ae e2)] (⟨ab.inb a15, ((ab.get a15).trans (by rcases e1 with ⟨_, _, _, ⟨_, _, _⟩⟩; rfl)), aa.inb a16, ((aa.get a16).trans (by cases e2; rfl)), trivial⟩) ?_
      exact lU
     refine zl 48 [.ag (iY e1), .ag (aD e2)] (vi r1) [(26, vi r1), (25, .ag (aD e2)), (24, .one (.pv (.rp (aa.els p2) x1.toNat 0))), (23, vi x1), (22, vl aa p2), (21, .ag (iY e1)), (20, .one (.pv (.rp (ab.els p1) x1.toNat 3))), (19, .one (.pv (.rp (ab.els p1) x1.toNat 0))), (18, vi x1), (17, vl ab p1), (0, vl ab p1), (1, vl aa p2), (5, vi x1), (13, vi (p1.length : Int)), (14, vi x1)] (tj _ _ _ c17) ?_
     refine zg [] 1 [0,1,5,6,13,14] (zd (m14 _ _ (zq fun K18 m18 => zr (zg [] 2 [0,1,5,6,13,14,28] (zd (m18 _ _ ?_))))))
     refine zC h (fun b19 h => ?_) (fun b19 h => ?_)
     ·refine zq fun K20 m20 => zr (zv [] 2 [4] [] [(4, vi r1)] [] (zd (m20 _ _ (ze (hQ1 _ _ _ ?_)))))
      obtain rfl := zj h
      exact zf [vi r1] (.one (.rfl _ rfl))
     ·refine zs (m13 _ _ (zq fun K21 m21 => ?_))
      have j1 : ∀ (x2 : Bool), gz (cT p1 p2 k1) x1 x2 = some r → ∀ w0 w1, aL 44 0 [] w0 w1 [(0, vl ab p1), (1, vl aa p2), (13, vi (p1.length : Int)), (14, vi x1), (42, vb x2)] [] → K21 w0 w1 := by
       intro x2 h w0 w1 hS
       unfold gz at h
       refine m21 _ _ (XW.sub hS ?_)
       refine zC h (fun b23 h => ?_) (fun b23 h => ?_)
       ·refine zq fun K24 m24 => zr (zg [] 1 [4] (zd (m24 _ _ (ze (hQ1 _ _ _ ?_)))))
        obtain rfl := zj h
        exact zf [vi 9] (.one (.rfl _ rfl))
       ·exact zs (m11 _ _ (zr (zg [] 2 [0,1,13,14] (zd (XR.sub (zk [0,1,13,14]) (ih1 (i64.wrap (x1 + 1)) h))))))
      rcases zW h with ⟨b22, h⟩ | ⟨b22, h⟩
      ·refine zr (zo [] 6 [0,1,5,13,14,35] [(aJ e1)] [0 ≤ x1 ∧ x1 < ((ab.els p1).length : Int) ∧ aq 6 (ab.els p1), (ab.els p1)[x1.toNat]? = some (aJ e1)] (⟨ab.inb a15, ((ab.get a15).trans (by rcases e1 with ⟨_, _, _, ⟨_, _, _⟩⟩; rfl)), trivial⟩) (zt 35 b22 ?_))
       exact zo [] 7 [0,1,13,14,42] [(ae e2)] [0 ≤ x1 ∧ x1 < ((aa.els p2).length : Int) ∧ aq 5 (aa.els p2), (aa.els p2)[x1.toNat]? = some (ae e2)] (⟨aa.inb a16, ((aa.get a16).trans (by cases e2; rfl)), trivial⟩) (zd (j1 (e2.kind == 0) h _ _ (zk [0,1,13,14,42])))
      ·refine zr ?_
       refine zp [] 6 [0,1,5,13,14,35] [(aJ e1)] [(0, vl ab p1), (1, vl aa p2), (5, vi x1), (13, vi (p1.length : Int)), (14, vi x1), (35, vb e1.need)] [] [0 ≤ x1 ∧ x1 < ((ab.els p1).length : Int) ∧ aq 6 (ab.els p1), (ab.els p1)[x1.toNat]? = some (aJ e1)] (⟨ab.inb a15, ((ab.get a15).trans (by rcases e1 with ⟨_, _, _, ⟨_, _, _⟩⟩; rfl)), trivial⟩) ?_
       exact zt 35 b22 (zg [] 7 [0,1,13,14,42] (zd (j1 false h _ _ (zk [0,1,13,14,42]))))
    ·exact zx 0 (hQ1 _ _ _ (j2 () h _ _ (zk [])))
  exact XR.sub (zk [0,1,13,14]) (hL1 bf (0 : Int) h)
def jK : Option Int := some (0 : Int)
def dD (p1 : (List ah)) (p2 : (List (List ac))) : Nat → Int → Option Int
 | 0, _ => none
 | k1 + 1, x1 => aI (decide (x1 < (p2.length : Int))) (aT (at? p2 x1) fun e1 => aT (kw p1 e1) fun r2 => aI (r2 != 0) (some r2) ((dD p1 p2 k1) (i64.wrap (x1 + 1)))) (jK)
def iD (p1 : (List ah)) (p2 : (List (List ac))) : Option Int := aT (fe p1) fun r1 => aI (r1 != 0) (some r1) (aI (decide ((2000 : Int) < (p2.length : Int))) (some (7 : Int)) (dD p1 p2 bf (0 : Int)))
theorem qb (p1 : (List ah)) (p2 : (List (List ac))) (r : Int) (h : iD p1 p2 = some r) : PC Tryz.prog 20 [vl ab p1, vl (eL aa) p2] (vi r) := by
 unfold iD at h
 refine zF 30 Tryz.f20 (zq fun K1 m1 => zr (zg [] 1 [0,1] (zd (m1 _ _ (zq fun K2 m2 => zq fun K3 m3 => ?_)))))
 obtain ⟨r1, c4, h⟩ := zB h
 refine zr (zg [] 1 [0,1,9] (zl 54 [vl ab p1] (vi r1) [(10, vi r1), (0, vl ab p1), (1, vl (eL aa) p2), (9, vl ab p1)] (oA _ _ c4) (zg [] 1 [0,1,5] (zd (m3 _ _ (zq fun K5 m5 => zr ?_))))))
 refine zg [] 2 [0,1,5,12] (zd (m5 _ _ (zC h (fun b6 h => ?_) (fun b6 h => ?_))))
 ·refine zq fun K7 m7 => zr (zv [] 2 [4] [] [(4, vi r1)] [] (zd (m7 _ _ (ze ?_))))
  obtain rfl := zj h
  exact zf [vi r1] (.one (.rfl _ rfl))
 ·refine zs (m2 _ _ (zq fun K8 m8 => zq fun K9 m9 => zr (zv [] 2 [0,1,15] [] [(0, vl ab p1), (1, vl (eL aa) p2), (15, vi (((eL aa).els p2).length : Int))] [] ?_)))
  rw [(eL aa).len p2]
  refine zg [] 1 [0,1,16] (zd (m9 _ _ (zC h (fun b10 h => ?_) (fun b10 h => ?_))))
  ·refine zq fun K11 m11 => zr (zg [] 1 [4] (zd (m11 _ _ (ze ?_))))
   obtain rfl := zj h
   exact zf [vi 7] (.one (.rfl _ rfl))
  ·refine zs (m8 _ _ (zq fun K12 m12 => ?_))
   have j1 : ∀ (_ : Unit), jK = some r → ∀ w0 w1, aL 30 0 [] w0 w1 [] [] → K12 w0 w1 := by
    intro _ h w0 w1 hS
    unfold jK at h
    refine m12 _ _ (XW.sub hS ?_)
    refine zq fun K25 m25 => zr (zg [] 1 [4] (zd (m25 _ _ (ze ?_))))
    obtain rfl := zj h
    exact zf [vi 0] (.one (.rfl _ rfl))
   refine zq fun K13 m13 => zr (zv [] 2 [0,17,18] [] [(0, vl ab p1), (17, vl (eL aa) p2), (18, vi (((eL aa).els p2).length : Int))] [] ?_)
   rw [(eL aa).len p2]
   refine zg [] 1 [0,17,18,19] (zd (m13 _ _ (zb 0 (XW.rounds' bf (x := cd Tryz.f20 [1,1,1,0,1,0,0]) (by kernel_rfl) fun Q1 hQ1 => ?_))))
   have hL1 : ∀ (k1 : Nat) (x1 : Int), dD p1 p2 k1 x1 = some r → XR Tryz.prog 30 0 [] (cd Tryz.f20 [1,1,1,0,1,0,0]) Q1 k1 [(0, vl ab p1), (17, vl (eL aa) p2), (18, vi (p2.length : Int)), (19, vi x1)] [] := by
    intro k1
    induction k1 with
    | zero => intro x1 h; rw [dD.eq_1] at h; cases h
    | succ k1 ih1 =>
     intro x1 h
     rw [dD.eq_2] at h
     refine zq fun K14 m14 => zr (zg [] 1 [0,17,18,19,20] (zd (m14 _ _ (zq fun K15 m15 => zC h (fun b16 h => ?_) (fun b16 h => ?_)))))
     ·refine zs (m15 _ _ (zq fun K17 m17 => zb 1 (zq fun K18 m18 => ?_)))
      obtain ⟨e1, a19, h⟩ := zB h
      refine zr (zo [] 3 [0,7,17,18,19] [[.ro (aa.els e1)]] [0 ≤ x1 ∧ x1 < (((eL aa).els p2).length : Int) ∧ aq 1 ((eL aa).els p2), ((eL aa).els p2)[x1.toNat]? = some [.ro (aa.els e1)]] (⟨(eL aa).inb a19, ((eL aa).get a19), trivial⟩) (zd (m18 _ _ (zq fun K20 m20 => ?_))))
      obtain ⟨r2, c21, h⟩ := zB h
      refine zr (zv [] 2 [0,17,18,19,23,24] [] [(0, vl ab p1), (17, vl (eL aa) p2), (18, vi (p2.length : Int)), (19, vi x1), (23, vl ab p1), (24, vl aa e1)] [] (za (qF _ _ _ c21) (zg [] 1 [0,8,17,18,19] (zd (m20 _ _ (zq fun K22 m22 => zr ?_))))))
      refine zv [] 2 [0,8,17,18,19,27] [] [(0, vl ab p1), (8, vi r2), (17, vl (eL aa) p2), (18, vi (p2.length : Int)), (19, vi x1), (27, vb (r2 != 0))] [] (zd (m22 _ _ (zC h (fun b23 h => ?_) (fun b23 h => ?_))))
      ·refine zq fun K24 m24 => zr (zg [] 2 [4] (zd (m24 _ _ (ze (hQ1 _ _ _ ?_)))))
       obtain rfl := zj h
       exact zf [vi r2] (.one (.rfl _ rfl))
      ·exact zs (m17 _ _ (zr (zg [] 2 [0,17,18,19] (zd (XR.sub (zk [0,17,18,19]) (ih1 (i64.wrap (x1 + 1)) h))))))
     ·exact zx 0 (hQ1 _ _ _ (j1 () h _ _ (zk [])))
   exact XR.sub (zk [0,17,18,19]) (hL1 bf (0 : Int) h)
def iH (x3 : Int) : Option Int := some x3
def dN (q_column_leaves : aw → Option Int) (p1 : aw) : Nat → Int → Int → Option Int
 | 0, _, _ => none
 | k1 + 1, x1, x2 => aI (decide (x2 < (p1.fields.length : Int))) (aT (at? p1.fields x2) fun e1 => aT (q_column_leaves e1.type) fun r1 => (dN q_column_leaves p1 k1) (i64.wrap (x1 + r1)) (i64.wrap (x2 + 1))) (iH x1)
def dk : Nat → aw → Option Int
 | 0, _ => none
 | k0 + 1, p1 => aI ((p1.fields.length : Int) == 0) (some (1 : Int)) (dN (dk k0) p1 bf (0 : Int) (0 : Int))
abbrev wJ (p1 : aw) (x1 x2 r1 : Int) : Fr := [(3, vi (i64.wrap (x1 + r1))), (11, vl ab p1.fields), (12, vi (p1.fields.length : Int)), (13, vi (i64.wrap (x2 + 1)))]
theorem jl : ∀ (k0 : Nat) (p1 : aw) (r : Int), dk k0 p1 = some r → PC Tryz.prog 98 [.ag [ci p1.kind, ci p1.scale, cl ab p1.fields]] (vi r)
 | 0, _, r, h => by rw [dk.eq_1] at h; cases h
 | k0 + 1, p1, r, h => by
  rw [dk.eq_2] at h
  refine zF 24 Tryz.f98 (zq fun K1 m1 => zr (zg [5] 2 [1] (zd (m1 _ _ (zq fun K2 m2 => zq fun K3 m3 => ?_)))))
  refine zr (zv [5] 3 [1,8] [[pi p1.kind, pi p1.scale, .ro (ab.els p1.fields)]] [(1, vR [pi p1.kind, pi p1.scale, .ro (ab.els p1.fields)]), (8, vi ((ab.els p1.fields).length : Int))] [] ?_)
  rw [ab.len p1.fields]
  refine zg [5] 1 [1,9] (zd (m3 _ _ (zC h (fun b4 h => ?_) (fun b4 h => ?_))))
  ·refine zq fun K5 m5 => zr (zg [5] 1 [2] (zd (m5 _ _ (ze ?_))))
   obtain rfl := zj h
   exact zf [vi 1] (.one (.rfl _ rfl))
  ·refine zs (m2 _ _ (zq fun K6 m6 => zr (zv [5] 1 [1,3] [] [(1, vR [pi p1.kind, pi p1.scale, .ro (ab.els p1.fields)]), (3, vi 0)] [] (zd (m6 _ _ (zq fun K7 m7 => ?_))))))
   have j1 : ∀ (x3 : Int), iH x3 = some r → ∀ w0 w1, aL 24 0 [] w0 w1 [(3, vi x3)] [] → K7 w0 w1 := by
    intro x3 h w0 w1 hS
    unfold iH at h
    refine m7 _ _ (XW.sub hS ?_)
    refine zq fun K16 m16 => zr (zg [5] 2 [2] (zd (m16 _ _ (ze ?_))))
    obtain rfl := zj h
    exact zf [vi x3] (.one (.rfl _ rfl))
   refine zq fun K8 m8 => zr (zv [5] 3 [3,11,12] [[pi p1.kind, pi p1.scale, .ro (ab.els p1.fields)]] [(3, vi 0), (11, vl ab p1.fields), (12, vi ((ab.els p1.fields).length : Int))] [] ?_)
   rw [ab.len p1.fields]
   refine zg [5] 1 [3,11,12,13] (zd (m8 _ _ (zb 0 (XW.rounds' bf (x := cd Tryz.f98 [1,1,1,0,1,0,0]) (by kernel_rfl) fun Q1 hQ1 => ?_))))
   have hL1 : ∀ (k1 : Nat) (x1 x2 : Int), dN (dk k0) p1 k1 x1 x2 = some r → XR Tryz.prog 24 0 [] (cd Tryz.f98 [1,1,1,0,1,0,0]) Q1 k1 [(3, vi x1), (11, vl ab p1.fields), (12, vi (p1.fields.length : Int)), (13, vi x2)] [] := by
    intro k1
    induction k1 with
    | zero => intro x1 x2 h; rw [dN.eq_1] at h; cases h
    | succ k1 ih1 =>
     intro x1 x2 h
     rw [dN.eq_2] at h
     refine zq fun K9 m9 => zr (zg [5] 1 [3,11,12,13,14] (zd (m9 _ _ (zq fun K10 m10 => zC h (fun b11 h => ?_) (fun b11 h => ?_)))))
     ·refine zs (m10 _ _ (zq fun K12 m12 => zb 1 (zq fun K13 m13 => ?_)))
      obtain ⟨e1, a14, h⟩ := zB h
      refine zr (zo [5] 4 [3,5,11,12,13] [(aJ e1)] [0 ≤ x2 ∧ x2 < ((ab.els p1.fields).length : Int) ∧ aq 6 (ab.els p1.fields), (ab.els p1.fields)[x2.toNat]? = some (aJ e1)] (⟨ab.inb a14, ((ab.get a14).trans (by rcases e1 with ⟨_, _, _, ⟨_, _, _⟩⟩; rfl)), trivial⟩) (zd (m13 _ _ ?_)))
      obtain ⟨r1, c15, h⟩ := zB h
      refine zr (zv [5] 3 [11,12,13,17,19] [] [(11, vl ab p1.fields), (12, vi (p1.fields.length : Int)), (13, vi x2), (17, vi x1), (19, .ag [ci e1.type.kind, ci e1.type.scale, cl ab e1.type.fields])] [.box (aS e1)] (za (jl k0 _ _ c15) (zg [5] 2 [3,11,12,13] (zd (m12 _ _ (zr ?_))))))
      refine zv [5] 2 [3,11,12,13] [] (wJ p1 x1 x2 r1) [.box (aS e1)] (zd ?_)
      exact XR.sub (aL.trans (aL.pick (fr' := (wJ p1 x1 x2 r1)) [3,11,12,13] (by kernel_rfl)) (aL.take (fr' := (wJ p1 x1 x2 r1)) 0 (Nat.zero_le _) (by kernel_rfl) (by kernel_rfl))) (ih1 (i64.wrap (x1 + r1)) (i64.wrap (x2 + 1)) h)
     ·exact zx 0 (hQ1 _ _ _ (j1 x1 h _ _ (zk [3])))
   exact XR.sub (zk [3,11,12,13]) (hL1 bf (0 : Int) (0 : Int) h)
def dK (p1 : Int) (p2 : (List ak)) (p3 : Bool) (p4 p5 : (List Int)) (e1 : ak) (x1 : Bool) : Option (Int × (List ak) × Bool × (List Int) × (List Int)) := aI x1 (aT (at? p4 p1) fun e3 => aT (at? e1.defs e3) fun e4 => some (e4, p2, p3, p4, p5)) (some ((-1 : Int), p2, true, p4, p5))
def da (p1 : Int) (p2 : (List ak)) (p3 : Bool) (p4 p5 : (List Int)) : Option (Int × (List ak) × Bool × (List Int) × (List Int)) := aT (at? p2 p1) fun e1 => aT (at? p4 p1) fun e2 => aI (decide (e2 < (e1.defs.length : Int))) (dK p1 p2 p3 p4 p5 e1 (decide (e2 < (e1.reps.length : Int)))) (dK p1 p2 p3 p4 p5 e1 false)
abbrev nB (e1 : ak) : List CV := [cl eI e1.reps, cl eI e1.defs, cl aa e1.values]
abbrev wO (p2 : (List ak)) (p3 : Bool) (p4 p5 : (List Int)) (e1 : ak) : St := [.box [cl af p2, .sl 1 1 0 p4.length, .sl 2 1 0 p5.length, cb p3], .arr 1 (eI.els p4), .arr 1 (eI.els p5), .box (nB e1)]
theorem gI (p1 : Int) (p2 : (List ak)) (p3 : Bool) (p4 p5 : (List Int)) (r : (Int × (List ak) × Bool × (List Int) × (List Int))) (h : da p1 p2 p3 p4 p5 = some r) : MC Tryz.prog 143 [vq 0, vi p1] [.box [cl af p2, .sl 1 1 0 p4.length, .sl 2 1 0 p5.length, cb p3], .arr 1 (eI.els p4), .arr 1 (eI.els p5)] (vi r.1) [.box [cl af r.2.1, .sl 1 1 0 p4.length, .sl 2 1 0 p5.length, cb r.2.2.1], .arr 1 (eI.els r.2.2.2.1), .arr 1 (eI.els r.2.2.2.2)] := by
 unfold da at h
 refine MC.of 3 (n := 51) (fn := Tryz.f143) (c := cd Tryz.f143 []) (by kernel_rfl) (by kernel_rfl) (by kernel_rfl) (Nat.le_of_ble_eq_true rfl) rfl (zq fun K1 m1 => zr (zg [5] 1 [0,1] (zd (m1 _ _ (zq fun K2 m2 => zq fun K3 m3 => ?_)))))
 obtain ⟨e1, a4, h⟩ := zB h
 refine zr (zo [5] 9 [0,1,5] [[.ro (eI.els e1.reps), .ro (eI.els e1.defs), .ro (aa.els e1.values)]] [0 ≤ p1 ∧ p1 < ((af.els p2).length : Int) ∧ aq 3 (af.els p2), (af.els p2)[p1.toNat]? = some [.ro (eI.els e1.reps), .ro (eI.els e1.defs), .ro (aa.els e1.values)]] (⟨af.inb a4, (af.get a4), trivial⟩) (zd (m3 _ _ (zq fun K5 m5 => ?_))))
 have j1 : ∀ (x1 : Bool), dK p1 p2 p3 p4 p5 e1 x1 = some r → ∀ w0 w1, aL 51 3 [] w0 w1 [(0, vq 0), (1, vi p1), (5, vq 3), (36, vb x1)] (wO p2 p3 p4 p5 e1) → K5 w0 w1 := by
  intro x1 h w0 w1 hS
  unfold dK at h
  refine m5 _ _ (XW.sub hS ?_)
  refine zC h (fun b8 h => ?_) (fun b8 h => ?_)
  ·refine zq fun K9 m9 => ?_
   obtain ⟨e3, a10, h⟩ := zB h
   obtain ⟨e4, a11, h⟩ := zB h
   refine zw 9 [(45, vi e3), (44, .one (.pt 1 1 (0 + p1.toNat) 0)), (43, vi p1), (42, .one (.sl 1 1 0 p4.length)), (41, .one (.pt 0 0 0 1)), (40, vq 0), (39, vq 0), (38, vl eI e1.defs), (37, .one (.pt 3 0 0 1)), (0, vq 0), (1, vi p1), (5, vq 3), (36, vb x1)] ?_ ?_
   ·exact sd 9 [[pi e3]] [0 ≤ p1 ∧ p1 < ((p4.length : Nat) : Int), (eI.els p4)[(0 + p1.toNat)]? = some [pi e3]] (⟨oo.inb' a10, (eI.get0 a10), trivial⟩) lU
   refine zp [5] 3 [4] [[pi e4]] [(4, vi e4)] (wO p2 p3 p4 p5 e1) [0 ≤ e3 ∧ e3 < ((eI.els e1.defs).length : Int) ∧ aq 1 (eI.els e1.defs), (eI.els e1.defs)[e3.toNat]? = some [pi e4]] (⟨eI.inb a11, (eI.get a11), trivial⟩) (zd (m9 _ _ (ze ?_)))
   obtain rfl := zj h
   exact eT.fin (.inr rfl) [] [vi e4] [] (by kernel_rfl) trivial (by kernel_rfl) (by kernel_rfl) (.one (.rfl _ rfl))
  ·refine zs (m2 _ _ (zq fun K12 m12 => zr (zg [5] 4 [] (zd (m12 _ _ (zq fun K13 m13 => ?_))))))
   refine zr (zv [5] 1 [4] [] [(4, vi (-1))] [.box [cl af p2, .sl 1 1 0 p4.length, .sl 2 1 0 p5.length, cb true], .arr 1 (eI.els p4), .arr 1 (eI.els p5), .box (nB e1)] (zd (m13 _ _ (ze ?_))))
   obtain rfl := zj h
   exact eT.fin (.inr rfl) [] [vi (-1)] [] (by kernel_rfl) trivial (by kernel_rfl) (by kernel_rfl) (.one (.rfl _ rfl))
 obtain ⟨e2, a6, h⟩ := zB h
 rcases zW h with ⟨b7, h⟩ | ⟨b7, h⟩
 ·refine zw 22 [(34, vi (e1.reps.length : Int)), (33, vl eI e1.reps), (32, vq 3), (31, vi e2), (30, .one (.pt 1 1 (0 + p1.toNat) 0)), (29, vi p1), (28, .one (.sl 1 1 0 p4.length)), (27, .one (.pt 0 0 0 1)), (26, vq 0), (25, vq 0), (24, vb true), (23, vb (decide (e2 < (e1.defs.length : Int)))), (22, vi (e1.defs.length : Int)), (21, vl eI e1.defs), (20, .one (.pt 3 0 0 1)), (19, vi e2), (18, .one (.pt 1 1 (0 + p1.toNat) 0)), (17, vi p1), (16, .one (.sl 1 1 0 p4.length)), (15, .one (.pt 0 0 0 1)), (14, vq 0), (13, vq 0), (0, vq 0), (1, vi p1), (5, vq 3)] ?_ ?_
  ·refine vI 10 [[pi e2]] [(22, vi ((eI.els e1.defs).length : Int)), (21, vl eI e1.defs), (20, .one (.pt 3 0 0 1)), (19, vi e2), (18, .one (.pt 1 1 (0 + p1.toNat) 0)), (17, vi p1), (16, .one (.sl 1 1 0 p4.length)), (15, .one (.pt 0 0 0 1)), (14, vq 0), (13, vq 0), (0, vq 0), (1, vi p1), (5, vq 3)] [0 ≤ p1 ∧ p1 < ((p4.length : Nat) : Int), (eI.els p4)[(0 + p1.toNat)]? = some [pi e2]] (⟨oo.inb' a6, (eI.get0 a6), trivial⟩) ?_
   rw [eI.len e1.defs]
   refine ut 2 [] [(24, vb (decide (e2 < (e1.defs.length : Int)))), (23, vb (decide (e2 < (e1.defs.length : Int)))), (22, vi (e1.defs.length : Int)), (21, vl eI e1.defs), (20, .one (.pt 3 0 0 1)), (19, vi e2), (18, .one (.pt 1 1 (0 + p1.toNat) 0)), (17, vi p1), (16, .one (.sl 1 1 0 p4.length)), (15, .one (.pt 0 0 0 1)), (14, vq 0), (13, vq 0), (0, vq 0), (1, vi p1), (5, vq 3)] ?_
   refine DX.eq (fr1 := [(24, vb true), (23, vb (decide (e2 < (e1.defs.length : Int)))), (22, vi (e1.defs.length : Int)), (21, vl eI e1.defs), (20, .one (.pt 3 0 0 1)), (19, vi e2), (18, .one (.pt 1 1 (0 + p1.toNat) 0)), (17, vi p1), (16, .one (.sl 1 1 0 p4.length)), (15, .one (.pt 0 0 0 1)), (14, vq 0), (13, vq 0), (0, vq 0), (1, vi p1), (5, vq 3)]) (by rw [b7]) ?_
   refine vI 10 [[pi e2]] [(34, vi ((eI.els e1.reps).length : Int)), (33, vl eI e1.reps), (32, vq 3), (31, vi e2), (30, .one (.pt 1 1 (0 + p1.toNat) 0)), (29, vi p1), (28, .one (.sl 1 1 0 p4.length)), (27, .one (.pt 0 0 0 1)), (26, vq 0), (25, vq 0), (24, vb true), (23, vb (decide (e2 < (e1.defs.length : Int)))), (22, vi (e1.defs.length : Int)), (21, vl eI e1.defs), (20, .one (.pt 3 0 0 1)), (19, vi e2), (18, .one (.pt 1 1 (0 + p1.toNat) 0)), (17, vi p1), (16, .one (.sl 1 1 0 p4.length)), (15, .one (.pt 0 0 0 1)), (14, vq 0), (13, vq 0), (0, vq 0), (1, vi p1), (5, vq 3)] [0 ≤ p1 ∧ p1 < ((p4.length : Nat) : Int), (eI.els p4)[(0 + p1.toNat)]? = some [pi e2]] (⟨oo.inb' a6, (eI.get0 a6), trivial⟩) ?_
   rw [eI.len e1.reps]
   exact lU
  exact zv [5] 2 [0,1,5,36] [] [(0, vq 0), (1, vi p1), (5, vq 3), (36, vb (decide (e2 < (e1.reps.length : Int))))] (wO p2 p3 p4 p5 e1) (zd (j1 (decide (e2 < (e1.reps.length : Int))) h _ _ (zk [0,1,5,36])))
 ·refine zw 22 [(34, .tp []), (33, .tp []), (32, .tp []), (31, .tp []), (30, .tp []), (29, .tp []), (28, .tp []), (27, .tp []), (26, .tp []), (25, .tp []), (24, vb false), (23, vb (decide (e2 < (e1.defs.length : Int)))), (22, vi (e1.defs.length : Int)), (21, vl eI e1.defs), (20, .one (.pt 3 0 0 1)), (19, vi e2), (18, .one (.pt 1 1 (0 + p1.toNat) 0)), (17, vi p1), (16, .one (.sl 1 1 0 p4.length)), (15, .one (.pt 0 0 0 1)), (14, vq 0), (13, vq 0), (0, vq 0), (1, vi p1), (5, vq 3)] ?_ ?_
  ·refine vI 10 [[pi e2]] [(22, vi ((eI.els e1.defs).length : Int)), (21, vl eI e1.defs), (20, .one (.pt 3 0 0 1)), (19, vi e2), (18, .one (.pt 1 1 (0 + p1.toNat) 0)), (17, vi p1), (16, .one (.sl 1 1 0 p4.length)), (15, .one (.pt 0 0 0 1)), (14, vq 0), (13, vq 0), (0, vq 0), (1, vi p1), (5, vq 3)] [0 ≤ p1 ∧ p1 < ((p4.length : Nat) : Int), (eI.els p4)[(0 + p1.toNat)]? = some [pi e2]] (⟨oo.inb' a6, (eI.get0 a6), trivial⟩) ?_
   rw [eI.len e1.defs]
   refine ut 2 [] [(24, vb (decide (e2 < (e1.defs.length : Int)))), (23, vb (decide (e2 < (e1.defs.length : Int)))), (22, vi (e1.defs.length : Int)), (21, vl eI e1.defs), (20, .one (.pt 3 0 0 1)), (19, vi e2), (18, .one (.pt 1 1 (0 + p1.toNat) 0)), (17, vi p1), (16, .one (.sl 1 1 0 p4.length)), (15, .one (.pt 0 0 0 1)), (14, vq 0), (13, vq 0), (0, vq 0), (1, vi p1), (5, vq 3)] ?_
   exact DX.eq (fr1 := [(24, vb false), (23, vb (decide (e2 < (e1.defs.length : Int)))), (22, vi (e1.defs.length : Int)), (21, vl eI e1.defs), (20, .one (.pt 3 0 0 1)), (19, vi e2), (18, .one (.pt 1 1 (0 + p1.toNat) 0)), (17, vi p1), (16, .one (.sl 1 1 0 p4.length)), (15, .one (.pt 0 0 0 1)), (14, vq 0), (13, vq 0), (0, vq 0), (1, vi p1), (5, vq 3)]) (by rw [b7]) (BB 10 lU)
  exact zg [5] 2 [0,1,5,36] (zd (j1 false h _ _ (zk [0,1,5,36])))
def bA (p1 p2 : Int) (p5 p6 : (List Int)) : Nat → List Int → List Int → List ak → Bool → Int → Option (Unit × (List ak) × Bool × (List Int) × (List Int))
 | 0, _, _, _, _, _ => none
 | k1 + 1, l1, l2, z1, z2, x1 => aI (decide (x1 < (i64.wrap (p1 + p2)))) (aT (da x1 z1 z2 l1 l2) fun r1 => fL (r1.2.2.2.1.length = l1.length) <| fL (r1.2.2.2.2.length = l2.length) <| aT (at? r1.2.2.2.1 x1) fun e1 => (bA p1 p2 p5 p6 k1) (r1.2.2.2.1.set x1.toNat (i64.wrap (e1 + 1))) r1.2.2.2.2 r1.2.1 r1.2.2.1 (i64.wrap (x1 + 1))) (fL (l1.length = p5.length) <| fL (l2.length = p6.length) <| some ((), z1, z2, l1, l2))
def bK (p1 p2 : Int) (p3 : (List ak)) (p4 : Bool) (p5 p6 : (List Int)) : Option (Unit × (List ak) × Bool × (List Int) × (List Int)) := bA p1 p2 p5 p6 bf p5 p6 p3 p4 p1
abbrev w7 (l1 l2 : List Int) (z1 : List ak) (z2 : Bool) : St := [.box [cl af z1, .sl 1 1 0 l1.length, .sl 2 1 0 l2.length, cb z2], .arr 1 (eI.els l1), .arr 1 (eI.els l2)]
theorem gy (p1 p2 : Int) (p3 : (List ak)) (p4 : Bool) (p5 p6 : (List Int)) (r : (Unit × (List ak) × Bool × (List Int) × (List Int))) (h : bK p1 p2 p3 p4 p5 p6 = some r) : MC Tryz.prog 144 [vq 0, vi p1, vi p2] [.box [cl af p3, .sl 1 1 0 p5.length, .sl 2 1 0 p6.length, cb p4], .arr 1 (eI.els p5), .arr 1 (eI.els p6)] (.tp []) [.box [cl af r.2.1, .sl 1 1 0 p5.length, .sl 2 1 0 p6.length, cb r.2.2.1], .arr 1 (eI.els r.2.2.2.1), .arr 1 (eI.els r.2.2.2.2)] := by
 unfold bK at h
 refine MC.of 3 (n := 27) (fn := Tryz.f144) (c := cd Tryz.f144 []) (by kernel_rfl) (by kernel_rfl) (by kernel_rfl) (Nat.le_of_ble_eq_true rfl) rfl (zq fun K1 m1 => zr (zg [] 2 [0,1,2,6] (zd (m1 _ _ (zb 0 (XW.rounds' bf (x := cd Tryz.f144 [1,0,0]) (by kernel_rfl) fun Q1 hQ1 => ?_))))))
 have hL1 : ∀ (k1 : Nat) (l1 l2 : List Int) (z1 : List ak) (z2 : Bool) (x1 : Int), bA p1 p2 p5 p6 k1 l1 l2 z1 z2 x1 = some r → XR Tryz.prog 27 3 [] (cd Tryz.f144 [1,0,0]) Q1 k1 [(0, vq 0), (1, vi p1), (2, vi p2), (6, vi x1)] (w7 l1 l2 z1 z2) := by
  intro k1
  induction k1 with
  | zero => intro l1 l2 z1 z2 x1 h; rw [bA.eq_1] at h; cases h
  | succ k1 ih1 =>
   intro l1 l2 z1 z2 x1 h
   rw [bA.eq_2] at h
   refine zq fun K2 m2 => zq fun K3 m3 => zr (zg [] 5 [0,1,2,6,12] (zd (m3 _ _ (zC h (fun b4 h => ?_) (fun b4 h => ?_)))))
   ·refine zs (m2 _ _ (zq fun K7 m7 => zb 1 (zq fun K8 m8 => ?_)))
    obtain ⟨r1, c9, h⟩ := zB h
    obtain ⟨g10, h⟩ := zG h
    obtain ⟨g11, h⟩ := zG h
    refine zr (zv [] 2 [0,1,2,6,15,16] [] [(0, vq 0), (1, vi p1), (2, vi p2), (6, vi x1), (15, vq 0), (16, vi x1)] (w7 l1 l2 z1 z2) ?_)
    refine XO.calm 143 [vq 0, vi x1] (w7 l1 l2 z1 z2) [.box [cl af r1.2.1, .sl 1 1 0 l1.length, .sl 2 1 0 l2.length, cb r1.2.2.1], .arr 1 (eI.els r1.2.2.2.1), .arr 1 (eI.els r1.2.2.2.2)] (vi r1.1) [0, 1, 2] [(17, vi r1.1), (0, vq 0), (1, vi p1), (2, vi p2), (6, vi x1), (15, vq 0), (16, vi x1)] [.box [cl af r1.2.1, .sl 1 1 0 l1.length, .sl 2 1 0 l2.length, cb r1.2.2.1], .arr 1 (eI.els r1.2.2.2.1), .arr 1 (eI.els r1.2.2.2.2)] (by kernel_rfl) (gI _ _ _ _ _ _ c9) (by kernel_rfl) (by kernel_rfl) (by kernel_rfl) (by kernel_rfl) ?_
    refine XO.sub (aL.eq (fr' := [(17, vi r1.1), (0, vq 0), (1, vi p1), (2, vi p2), (6, vi x1), (15, vq 0), (16, vi x1)]) (st' := [.box [cl af r1.2.1, .sl 1 1 0 r1.2.2.2.1.length, .sl 2 1 0 l2.length, cb r1.2.2.1], .arr 1 (eI.els r1.2.2.2.1), .arr 1 (eI.els r1.2.2.2.2)]) rfl (by rw [g10])) ?_
    refine XO.sub (aL.eq (fr' := [(17, vi r1.1), (0, vq 0), (1, vi p1), (2, vi p2), (6, vi x1), (15, vq 0), (16, vi x1)]) (st' := [.box [cl af r1.2.1, .sl 1 1 0 r1.2.2.2.1.length, .sl 2 1 0 r1.2.2.2.2.length, cb r1.2.2.1], .arr 1 (eI.els r1.2.2.2.1), .arr 1 (eI.els r1.2.2.2.2)]) rfl (by rw [g11])) (zd (m8 _ _ ?_))
    obtain ⟨e1, a12, h⟩ := zB h
    refine zr ?_
    refine zp [] 10 [0,1,2,6] [[pi e1], [pi e1]] [(0, vq 0), (1, vi p1), (2, vi p2), (6, vi x1)] [.box [cl af r1.2.1, .sl 1 1 0 r1.2.2.2.1.length, .sl 2 1 0 r1.2.2.2.2.length, cb r1.2.2.1], .arr 1 ((eI.els r1.2.2.2.1).set (0 + x1.toNat) [pi (i64.wrap (e1 + 1))]), .arr 1 (eI.els r1.2.2.2.2)] [0 ≤ x1 ∧ x1 < ((r1.2.2.2.1.length : Nat) : Int), (eI.els r1.2.2.2.1)[(0 + x1.toNat)]? = some [pi e1], 0 ≤ x1 ∧ x1 < ((r1.2.2.2.1.length : Nat) : Int), (eI.els r1.2.2.2.1)[(0 + x1.toNat)]? = some [pi e1]] (⟨oo.inb' a12, (eI.get0 a12), oo.inb' a12, (eI.get0 a12), trivial⟩) ?_
    rw [show (eI.els r1.2.2.2.1).set (0 + x1.toNat) [pi (i64.wrap (e1 + 1))] = eI.els (r1.2.2.2.1.set x1.toNat (i64.wrap (e1 + 1))) from eI.set0 _ _ (i64.wrap (e1 + 1))]
    refine XO.sub (aL.eq (fr' := [(0, vq 0), (1, vi p1), (2, vi p2), (6, vi x1)]) (st' := [.box [cl af r1.2.1, .sl 1 1 0 ((r1.2.2.2.1.set x1.toNat (i64.wrap (e1 + 1))).length), .sl 2 1 0 r1.2.2.2.2.length, cb r1.2.2.1], .arr 1 (eI.els (r1.2.2.2.1.set x1.toNat (i64.wrap (e1 + 1)))), .arr 1 (eI.els r1.2.2.2.2)]) rfl (show ([.box [cl af r1.2.1, .sl 1 1 0 r1.2.2.2.1.length, .sl 2 1 0 r1.2.2.2.2.length, cb r1.2.2.1], .arr 1 (eI.els (r1.2.2.2.1.set x1.toNat (i64.wrap (e1 + 1)))), .arr 1 (eI.els r1.2.2.2.2)] : St) = [.box [cl af r1.2.1, .sl 1 1 0 ((r1.2.2.2.1.set x1.toNat (i64.wrap (e1 + 1))).length), .sl 2 1 0 r1.2.2.2.2.length, cb r1.2.2.1], .arr 1 (eI.els (r1.2.2.2.1.set x1.toNat (i64.wrap (e1 + 1)))), .arr 1 (eI.els r1.2.2.2.2)] from by rw [show r1.2.2.2.1.length = (r1.2.2.2.1.set x1.toNat (i64.wrap (e1 + 1))).length from by simp])) ?_
    exact zd (m7 _ _ (zr (zg [] 3 [0,1,2,6] (zd (XR.sub (zk [0,1,2,6]) (ih1 (r1.2.2.2.1.set x1.toNat (i64.wrap (e1 + 1))) r1.2.2.2.2 r1.2.1 r1.2.2.1 (i64.wrap (x1 + 1)) h))))))
   ·refine zx 0 (hQ1 _ _ _ ?_)
    obtain ⟨g5, h⟩ := zG h
    obtain ⟨g6, h⟩ := zG h
    obtain rfl := zj h
    rw [← g5]
    rw [← g6]
    exact eT.fin (.inl rfl) [] [] [] (by kernel_rfl) trivial (by kernel_rfl) (by kernel_rfl) (.tp0)
 exact XR.sub (zk [0,1,2,6]) (hL1 bf p5 p6 p3 p4 p1 h)
def ky (p1 : ac) (l2 : List ac) : Option ac := aT (bp l2) fun r2 => some (ac.mk p1.kind p1.n p1.scale p1.s r2)
def hJ (q_value_Copy : ac → Option ac) (p1 : ac) : Nat → List ac → Int → Option ac
 | 0, _, _ => none
 | k1 + 1, l1, x1 => aI (decide (x1 < (p1.items.length : Int))) (aT (at? p1.items x1) fun e1 => aT (q_value_Copy e1) fun r1 => fL (l1.length + 1 ≤ 4294967296) <| (hJ q_value_Copy p1 k1) (l1 ++ [r1]) (i64.wrap (x1 + 1))) (ky p1 l1)
def iE : Nat → ac → Option ac
 | 0, _ => none
 | k0 + 1, p1 => hJ (iE k0) p1 bf [] (0 : Int)
abbrev dt : List CV := [ci 0, ci 0, ci 0, cj ByteArray.empty, .pv (.s (.slice none 0 0))]
abbrev BA (p1 : ac) (l1 : List ac) (x1 : Int) (r1 : ac) : Fr := [(1, vq 0), (2, vq 1), (3, .one (.sl 2 5 0 ((l1 ++ [r1]).length))), (7, vl aa p1.items), (8, vi (p1.items.length : Int)), (9, vi (i64.wrap (x1 + 1)))]
theorem pD : ∀ (k0 : Nat) (p1 r : ac), iE k0 p1 = some r → PC Tryz.prog 145 [.ag (aD p1)] (.ag [ci r.kind, ci r.n, ci r.scale, cj r.s, cl aa r.items])
 | 0, _, r, h => by rw [iE.eq_1] at h; cases h
 | k0 + 1, p1, r, h => by
  rw [iE.eq_2] at h
  refine zF 23 Tryz.f145 (zq fun K1 m1 => zr (zg [1, 2, 5] 2 [1,2] (zd (m1 _ _ (zq fun K2 m2 => zr ?_)))))
  refine zg [1, 2, 5] 1 [1,2,3] (zd (m2 _ _ (zq fun K3 m3 => ?_)))
  have j1 : ∀ (l2 : List ac), ky p1 l2 = some r → ∀ w0 w1, aL 23 0 [] w0 w1 [(1, vq 0), (2, vq 1), (3, .one (.sl 2 5 0 l2.length))] [.box (aD p1), .box dt, .arr 5 (aa.els l2)] → K3 w0 w1 := by
   intro l2 h w0 w1 hS
   unfold ky at h
   refine m3 _ _ (XW.sub hS ?_)
   refine zq fun K13 m13 => ?_
   obtain ⟨r2, c14, h⟩ := zB h
   refine zr (zv [1, 2, 5] 1 [1,2,19] [] [(1, vq 0), (2, vq 1), (19, .one (.sl 2 5 0 l2.length))] [.box (aD p1), .box dt, .arr 5 (aa.els l2)] (XO.sub (aL.kill (fr' := [(1, vq 0), (2, vq 1), (19, vl aa l2)]) 2 (Nat.zero_le _) (by kernel_rfl) ⟨.one (.rfl _ rfl), .one (.rfl _ rfl), .one (iS aa l2 rfl rfl rfl), trivial⟩) (za (cN _ _ c14) ?_)))
   refine zg [1, 2, 5] 2 [1,2] (zd (m13 _ _ (zq fun K15 m15 => zr (zv [1, 2, 5] 2 [2] [] [(2, vq 1)] [.box [ci p1.kind, ci p1.n, ci p1.scale, cj p1.s, cl aa r2], .box [ci p1.kind, ci p1.n, ci p1.scale, cj p1.s, cl aa r2], .dead] (zd (m15 _ _ ?_))))))
   refine ze ?_
   obtain rfl := zj h
   exact zf [.ag [ci p1.kind, ci p1.n, ci p1.scale, cj p1.s, cl aa r2]] (.ag (.cons (.rfl _ rfl) (.cons (.rfl _ rfl) (.cons (.rfl _ rfl) (.cons (.rfl _ rfl) (.cons (.rfl _ rfl) .nil))))))
  refine zq fun K4 m4 => zr (zv [1, 2, 5] 3 [1,2,3,7,8] [] [(1, vq 0), (2, vq 1), (3, .one (.pv (.s (.slice none 0 0)))), (7, vl aa p1.items), (8, vi ((aa.els p1.items).length : Int))] [.box [ci p1.kind, ci p1.n, ci p1.scale, cj p1.s, cl aa p1.items], .box [ci 0, ci 0, ci 0, cj ByteArray.empty, .pv (.s (.slice none 0 0))]] ?_)
  rw [aa.len p1.items]
  refine zv [1, 2, 5] 1 [1,2,3,7,8,9] [] [(1, vq 0), (2, vq 1), (3, .one (.pv (.s (.slice none 0 0)))), (7, vl aa p1.items), (8, vi (p1.items.length : Int)), (9, vi 0)] [.box [ci p1.kind, ci p1.n, ci p1.scale, cj p1.s, cl aa p1.items], .box [ci 0, ci 0, ci 0, cj ByteArray.empty, .pv (.s (.slice none 0 0))]] (zd (m4 _ _ (zb 0 (XW.sub (aL.list (t := 3) (sz := 5) rfl) (XW.rounds' bf (x := cd Tryz.f145 [1,1,0,1,0,0]) (by kernel_rfl) fun Q1 hQ1 => ?_)))))
  have hL1 : ∀ (k1 : Nat) (l1 : List ac) (x1 : Int), hJ (iE k0) p1 k1 l1 x1 = some r → XR Tryz.prog 23 0 [] (cd Tryz.f145 [1,1,0,1,0,0]) Q1 k1 [(1, vq 0), (2, vq 1), (3, .one (.sl 2 5 0 l1.length)), (7, vl aa p1.items), (8, vi (p1.items.length : Int)), (9, vi x1)] [.box (aD p1), .box dt, .arr 5 (aa.els l1)] := by
   intro k1
   induction k1 with
   | zero => intro l1 x1 h; rw [hJ.eq_1] at h; cases h
   | succ k1 ih1 =>
    intro l1 x1 h
    rw [hJ.eq_2] at h
    refine zq fun K5 m5 => zr (zg [1, 2, 5] 1 [1,2,3,7,8,9,10] (zd (m5 _ _ (zq fun K6 m6 => zC h (fun b7 h => ?_) (fun b7 h => ?_)))))
    ·refine zs (m6 _ _ (zq fun K8 m8 => zb 1 (zq fun K9 m9 => ?_)))
     obtain ⟨e1, a10, h⟩ := zB h
     refine zr (zo [1, 2, 5] 4 [1,2,3,5,7,8,9] [[pi e1.kind, pi e1.n, pi e1.scale, .s (.string e1.s), .ro (aa.els e1.items)]] [0 ≤ x1 ∧ x1 < ((aa.els p1.items).length : Int) ∧ aq 5 (aa.els p1.items), (aa.els p1.items)[x1.toNat]? = some [pi e1.kind, pi e1.n, pi e1.scale, .s (.string e1.s), .ro (aa.els e1.items)]] (⟨aa.inb a10, ((aa.get a10).trans (by cases e1; rfl)), trivial⟩) (zd (m9 _ _ ?_)))
     obtain ⟨r1, c11, h⟩ := zB h
     obtain ⟨g12, h⟩ := zG h
     refine zr (zv [1, 2, 5] 2 [1,2,7,8,9,13,14] [] [(1, vq 0), (2, vq 1), (7, vl aa p1.items), (8, vi (p1.items.length : Int)), (9, vi x1), (13, .one (.sl 2 5 0 l1.length)), (14, .ag [ci e1.kind, ci e1.n, ci e1.scale, cj e1.s, cl aa e1.items])] [.box (aD p1), .box dt, .arr 5 (aa.els l1), .box [ci e1.kind, ci e1.n, ci e1.scale, cj e1.s, cl aa e1.items]] (za (pD k0 _ _ c11) ?_))
     refine zv [1, 2, 5] 1 [1,2,7,8,9,13,16] [] [(1, vq 0), (2, vq 1), (7, vl aa p1.items), (8, vi (p1.items.length : Int)), (9, vi x1), (13, .one (.sl 2 5 0 l1.length)), (16, .one (.pv (.ro [[pi r1.kind, pi r1.n, pi r1.scale, .s (.string r1.s), .ro (aa.els r1.items)]])))] [.box [ci p1.kind, ci p1.n, ci p1.scale, cj p1.s, cl aa p1.items], .box [ci 0, ci 0, ci 0, cj ByteArray.empty, .pv (.s (.slice none 0 0))], .arr 5 (aa.els l1), .box [ci e1.kind, ci e1.n, ci e1.scale, cj e1.s, cl aa e1.items]] ?_
     rw [show ([[pi r1.kind, pi r1.n, pi r1.scale, .s (.string r1.s), .ro (aa.els r1.items)]] : List (List PV)) = aa.els [r1] from by cases r1; rfl]
     refine zp [1, 2, 5] 1 [1,2,7,8,9,17] [] [(1, vq 0), (2, vq 1), (7, vl aa p1.items), (8, vi (p1.items.length : Int)), (9, vi x1), (17, .one (.sl 2 5 0 (l1.length + (aa.els [r1]).length)))] [.box [ci p1.kind, ci p1.n, ci p1.scale, cj p1.s, cl aa p1.items], .box [ci 0, ci 0, ci 0, cj ByteArray.empty, .pv (.s (.slice none 0 0))], .arr 5 (aa.els l1 ++ aa.els [r1]), .box [ci e1.kind, ci e1.n, ci e1.scale, cj e1.s, cl aa e1.items]] [aq 5 (aa.els [r1]), l1.length = (aa.els l1).length, l1.length + (aa.els [r1]).length ≤ 4294967296] (⟨aa.ok _, (aa.len l1).symm, g12, trivial⟩) ?_
     rw [show l1.length + (aa.els [r1]).length = (l1 ++ [r1]).length from aa.lapp _ _]
     rw [show aa.els l1 ++ aa.els [r1] = aa.els (l1 ++ [r1]) from aa.app2 _ _]
     refine zg [1, 2, 5] 1 [1,2,3,7,8,9] (zd (m8 _ _ (zr (zg [1, 2, 5] 2 [1,2,3,7,8,9] (zd ?_)))))
     exact XR.sub (aL.trans (aL.pick (fr' := (BA p1 l1 x1 r1)) [1,2,3,7,8,9] (by kernel_rfl)) (aL.take (fr' := (BA p1 l1 x1 r1)) 3 (Nat.zero_le _) (by kernel_rfl) (by kernel_rfl))) (ih1 (l1 ++ [r1]) (i64.wrap (x1 + 1)) h)
    ·exact zx 0 (hQ1 _ _ _ (j1 l1 h _ _ (zk [1,2,3])))
  exact XR.sub (zk [1,2,3,7,8,9]) (hL1 bf [] (0 : Int) h)
end Go.Proofs.YtmaemlebpjnmoaaGreatDoor
