/- Printed by a program: what the functions compute, and the proofs of their contracts. -/
import Derived.Test.YtmaemlebpjnmoaaDoorGeA
namespace Go.Proofs.YtmaemlebpjnmoaaDoor
open Go.SX Go
open Go.IntKind (i64 u64 u8 i32 u32)
set_option linter.unusedVariables false
set_option linter.unusedSimpArgs false
set_option maxRecDepth 100000
set_option maxHeartbeats 8000000
def column_shredder_put_j2 (q_column_shredder_put : GValue → Int → Int → Int → Int → GShredder → Option (Unit × GShredder)) (rec1 : List Int → List Int → List GValue → List Int → Int → Int → List GField → Int → Int → List GField → List Int → Int → Int → Option (Unit × GShredder)) (p2 : Int) (p5 : Int) (x1 : Int) (l1 : List Int) (l2 : List Int) (l3 : List GValue) (z1 : List Int) (z2 : Int) (z3 : Int) (z4 : List GField) (z5 : Int) (z6 : Int) (z7 : List GField) (z8 : List Int) (x3 : Int) (e2 : GValue) (x4 : Int) : Option (Unit × GShredder) := bnd (q_column_shredder_put e2 (i64.wrap (p2 + (1 : Int))) x4 (i64.wrap (x1 + (1 : Int))) (i64.wrap (p5 + (1 : Int))) (GShredder.mk (GPath.mk (GLeaf.mk z1 (GType.mk z2 z3 z4) z5 z6) z7 z8) (GColumn.mk l1 l2 l3))) fun r3 => rec1 r3.2.c.reps r3.2.c.defs r3.2.c.values r3.2.p.leaf.path r3.2.p.leaf.type.kind r3.2.p.leaf.type.scale r3.2.p.leaf.type.fields r3.2.p.leaf.df r3.2.p.leaf.rep r3.2.p.fields r3.2.p.pos x4 (i64.wrap (x3 + (1 : Int)))
def column_shredder_put_l1 (q_column_shredder_put : GValue → Int → Int → Int → Int → GShredder → Option (Unit × GShredder)) (p1 : GValue) (p2 : Int) (p5 : Int) (x1 : Int) : Nat → List Int → List Int → List GValue → List Int → Int → Int → List GField → Int → Int → List GField → List Int → Int → Int → Option (Unit × GShredder)
 | 0, _, _, _, _, _, _, _, _, _, _, _, _, _ => none
 | k1 + 1, l1, l2, l3, z1, z2, z3, z4, z5, z6, z7, z8, x2, x3 => ift (decide (x3 < (p1.items.length : Int))) (bnd (at? p1.items x3) fun e2 => ift (decide ((0 : Int) < x3)) (column_shredder_put_j2 q_column_shredder_put (column_shredder_put_l1 q_column_shredder_put p1 p2 p5 x1 k1) p2 p5 x1 l1 l2 l3 z1 z2 z3 z4 z5 z6 z7 z8 x3 e2 (i64.wrap (p5 + (1 : Int)))) (column_shredder_put_j2 q_column_shredder_put (column_shredder_put_l1 q_column_shredder_put p1 p2 p5 x1 k1) p2 p5 x1 l1 l2 l3 z1 z2 z3 z4 z5 z6 z7 z8 x3 e2 x2)) (some ((), (GShredder.mk (GPath.mk (GLeaf.mk z1 (GType.mk z2 z3 z4) z5 z6) z7 z8) (GColumn.mk l1 l2 l3))))
def column_shredder_put_j1 (q_column_shredder_put : GValue → Int → Int → Int → Int → GShredder → Option (Unit × GShredder)) (p1 : GValue) (p2 : Int) (p3 : Int) (p5 : Int) (p6 : GShredder) (e1 : GField) (x1 : Int) : Option (Unit × GShredder) := ift (e1.type.kind == (6 : Int)) (ift ((p1.items.length : Int) == (0 : Int)) (bnd (column_shredder_entry p3 x1 p6) fun r2 => some ((), r2.2)) (column_shredder_put_l1 q_column_shredder_put p1 p2 p5 x1 BIG p6.c.reps p6.c.defs p6.c.values p6.p.leaf.path p6.p.leaf.type.kind p6.p.leaf.type.scale p6.p.leaf.type.fields p6.p.leaf.df p6.p.leaf.rep p6.p.fields p6.p.pos p3 (0 : Int))) (ift (e1.type.kind == (7 : Int)) (bnd (at? p6.p.pos (i64.wrap (p2 + (1 : Int)))) fun e3 => bnd (at? p1.items e3) fun e4 => bnd (q_column_shredder_put e4 (i64.wrap (p2 + (1 : Int))) p3 x1 p5 p6) fun r4 => some ((), r4.2)) (bnd (column_shredder_entry p3 x1 p6) fun r5 => grd (r5.2.c.values.length + 1 ≤ 4294967296) <| bnd (at? (r5.2.c.values ++ [(GValue.mk (0 : Int) (0 : Int) (0 : Int) (ByteArray.mk #[]) [])]) ((r5.2.c.values.length : Nat) : Int)) fun e5 => some ((), (GShredder.mk r5.2.p (GColumn.mk r5.2.c.reps r5.2.c.defs ((r5.2.c.values ++ [(GValue.mk (0 : Int) (0 : Int) (0 : Int) (ByteArray.mk #[]) [])]).set ((r5.2.c.values.length : Nat) : Int).toNat p1))))))
def column_shredder_put : Nat → GValue → Int → Int → Int → Int → GShredder → Option (Unit × GShredder)
 | 0, _, _, _, _, _, _ => none
 | k0 + 1, p1, p2, p3, p4, p5, p6 => bnd (at? p6.p.fields p2) fun e1 => ift (!e1.need) (ift (p1.kind == (0 : Int)) (bnd (column_shredder_entry p3 p4 p6) fun r1 => some ((), r1.2)) (column_shredder_put_j1 (column_shredder_put k0) p1 p2 p3 p5 p6 e1 (i64.wrap (p4 + (1 : Int))))) (column_shredder_put_j1 (column_shredder_put k0) p1 p2 p3 p5 p6 e1 p4)
abbrev qa1796 (p6 : GShredder) : List CV := [cl eI p6.p.leaf.path, ci p6.p.leaf.type.kind, ci p6.p.leaf.type.scale, cl eField p6.p.leaf.type.fields, ci p6.p.leaf.df, ci p6.p.leaf.rep, cl eField p6.p.fields, cl eI p6.p.pos, .sl 1 1 0 p6.c.reps.length, .sl 2 1 0 p6.c.defs.length, .sl 3 5 0 p6.c.values.length]
abbrev qa1802 (r2 : (Unit × GShredder)) : List CV := [cl eI r2.2.p.leaf.path, ci r2.2.p.leaf.type.kind, ci r2.2.p.leaf.type.scale, cl eField r2.2.p.leaf.type.fields, ci r2.2.p.leaf.df, ci r2.2.p.leaf.rep, cl eField r2.2.p.fields, cl eI r2.2.p.pos, .sl 1 1 0 r2.2.c.reps.length, .sl 2 1 0 r2.2.c.defs.length, .sl 3 5 0 r2.2.c.values.length]
abbrev qa1805 (l1 : List Int) (l2 : List Int) (l3 : List GValue) (z1 : List Int) (z2 : Int) (z3 : Int) (z4 : List GField) (z5 : Int) (z6 : Int) (z7 : List GField) (z8 : List Int) : List CV := [cl eI z1, ci z2, ci z3, cl eField z4, ci z5, ci z6, cl eField z7, cl eI z8, .sl 1 1 0 l1.length, .sl 2 1 0 l2.length, .sl 3 5 0 l3.length]
abbrev qa1810 (p1 : GValue) (p2 : Int) (p5 : Int) (x1 : Int) (x3 : Int) (x4 : Int) : Fr := [(0, vq 0), (2, vi p2), (3, vi x4), (4, vi x1), (5, vi p5), (66, vl eValue p1.items), (67, vi (p1.items.length : Int)), (68, vi (i64.wrap (x3 + (1 : Int))))]
abbrev qa1812 (p1 : GValue) (p2 : Int) (p3 : Int) (p5 : Int) (x1 : Int) : Fr := [(0, vq 0), (2, vi p2), (3, vi p3), (4, vi x1), (5, vi p5), (66, vl eValue p1.items), (67, vi (p1.items.length : Int)), (68, vi 0)]
abbrev qa1818 (r5 : (Unit × GShredder)) : List CV := [cl eI r5.2.p.leaf.path, ci r5.2.p.leaf.type.kind, ci r5.2.p.leaf.type.scale, cl eField r5.2.p.leaf.type.fields, ci r5.2.p.leaf.df, ci r5.2.p.leaf.rep, cl eField r5.2.p.fields, cl eI r5.2.p.pos, .sl 1 1 0 r5.2.c.reps.length, .sl 2 1 0 r5.2.c.defs.length, .sl 5 5 0 ((r5.2.c.values ++ [(GValue.mk (0 : Int) (0 : Int) (0 : Int) (ByteArray.mk #[]) [])]).length)]
abbrev qa1823 (p6 : GShredder) : St := [.box (qa1796 p6), .arr 1 (eI.els p6.c.reps), .arr 1 (eI.els p6.c.defs), .arr 5 (eValue.els p6.c.values)]
abbrev qa1826 (p6 : GShredder) (e1 : GField) : St := [.box (qa1796 p6), .arr 1 (eI.els p6.c.reps), .arr 1 (eI.els p6.c.defs), .arr 5 (eValue.els p6.c.values), .box (qa1305 e1)]
abbrev qa1837 (p1 : GValue) (p2 : Int) (p3 : Int) (p5 : Int) (p6 : GShredder) (e1 : GField) (x1 : Int) (e3 : Int) (e4 : GValue) : Fr := [(108, vi p5), (107, vi x1), (106, vi p3), (105, vi (i64.wrap (p2 + (1 : Int)))), (104, vi p2), (103, .ag (qa1518 e4)), (102, .one (.pv (.rp (eValue.els p1.items) e3.toNat 0))), (101, vi e3), (100, .one (.pv (.rp (eI.els p6.p.pos) ((i64.wrap (p2 + (1 : Int))).toNat) 0))), (99, vi (i64.wrap (p2 + (1 : Int)))), (98, vi p2), (97, vl eI p6.p.pos), (96, .one (.pt 0 0 0 7)), (95, vq 0), (94, vq 0), (93, vq 0), (92, vl eValue p1.items), (91, .one (.pv (.rp [(qa1467 p1)] 0 4))), (90, vq 0), (0, vq 0), (2, vi p2), (3, vi p3), (4, vi x1), (5, vi p5), (7, vR (qa1467 p1)), (88, vb (e1.type.kind == (7 : Int)))]
abbrev qa1845 (p1 : GValue) (p3 : Int) (x1 : Int) (r5 : (Unit × GShredder)) : Fr := [(54, .one (.pt 0 0 0 10)), (53, .one (.pt 0 0 0 8)), (52, vq 0), (51, .one (.pt 5 5 (0 + ((r5.2.c.values.length : Nat) : Int).toNat) 0)), (50, .one (.sl 5 5 0 ((r5.2.c.values ++ [(GValue.mk (0 : Int) (0 : Int) (0 : Int) (ByteArray.mk #[]) [])]).length))), (49, vl eValue ([(GValue.mk (0 : Int) (0 : Int) (0 : Int) (ByteArray.mk #[]) [])])), (48, vi ((r5.2.c.values.length : Nat) : Int)), (47, .ag (qa1518 p1)), (46, .one (.sl 3 5 0 r5.2.c.values.length)), (45, .one (.pt 0 0 0 10)), (44, .one (.pt 0 0 0 8)), (43, vq 0), (42, vq 0), (41, .tp []), (0, vq 0), (7, vR (qa1467 p1)), (38, vq 0), (39, vi p3), (40, vi x1)]
abbrev qa1846 (p1 : GValue) (e1 : GField) (r5 : (Unit × GShredder)) : St := [.box (qa1818 r5), .arr 1 (eI.els r5.2.c.reps), .arr 1 (eI.els r5.2.c.defs), .dead, .box (qa1305 e1), .arr 5 (eValue.els ((r5.2.c.values ++ [(GValue.mk (0 : Int) (0 : Int) (0 : Int) (ByteArray.mk #[]) [])]).set ((r5.2.c.values.length : Nat) : Int).toNat p1))]
theorem c_column_shredder_put : ∀ (k0 : Nat) (p1 : GValue) (p2 : Int) (p3 : Int) (p4 : Int) (p5 : Int) (p6 : GShredder) (r : (Unit × GShredder)), column_shredder_put k0 p1 p2 p3 p4 p5 p6 = some r → MX Tryd.prog 58 [vq 0, .ag (qa1518 p1), vi p2, vi p3, vi p4, vi p5] (qa1823 p6) [1, 2, 3] (.tp []) [.box [cl eI r.2.p.leaf.path, ci r.2.p.leaf.type.kind, ci r.2.p.leaf.type.scale, cl eField r.2.p.leaf.type.fields, ci r.2.p.leaf.df, ci r.2.p.leaf.rep, cl eField r.2.p.fields, cl eI r.2.p.pos, .sl 1 1 0 r.2.c.reps.length, .sl 2 1 0 r.2.c.defs.length, .sl 3 5 0 r.2.c.values.length], .arr 1 (eI.els r.2.c.reps), .arr 1 (eI.els r.2.c.defs), .arr 5 (eValue.els r.2.c.values)]
 | 0, _, _, _, _, _, _, r, h => by rw [column_shredder_put.eq_1] at h; cases h
 | k0 + 1, p1, p2, p3, p4, p5, p6, r, h => by
  rw [column_shredder_put.eq_2] at h
  refine MX.of 4 4 rfl (n := 110) (fn := Tryd.f58) (c := cd Tryd.f58 []) (by kernel_rfl) (by kernel_rfl) (by kernel_rfl) (Nat.le_of_ble_eq_true rfl) rfl (zq fun K1 m1 => zr (zg [12, 14] 1 [0,2,3,4,5,7] (zd (m1 _ _ (zq fun K2 m2 => ?_)))))
  obtain ⟨e1, a3, h⟩ := zB h
  refine zr (zo [12, 14] 10 [0,2,3,4,5,7,12] [(qa1299 e1)] [0 ≤ p2 ∧ p2 < ((eField.els p6.p.fields).length : Int) ∧ elemsOk 6 (eField.els p6.p.fields), (eField.els p6.p.fields)[p2.toNat]? = some (qa1299 e1)] (⟨eField.inb a3, ((eField.get a3).trans (by rcases e1 with ⟨_, _, _, ⟨_, _, _⟩⟩; rfl)), trivial⟩) (zd (m2 _ _ (zq fun K4 m4 => ?_))))
  have j1 : ∀ (x1 : Int), column_shredder_put_j1 (column_shredder_put k0) p1 p2 p3 p5 p6 e1 x1 = some r → ∀ w0 w1, Sub 110 4 [1, 2, 3] w0 w1 [(0, vq 0), (2, vi p2), (3, vi p3), (4, vi x1), (5, vi p5), (7, vR (qa1467 p1)), (12, vq 4)] (qa1826 p6 e1) → K4 w0 w1 := by
   intro x1 h w0 w1 hS
   unfold column_shredder_put_j1 at h
   refine m4 _ _ (XW.sub hS ?_)
   refine zq fun K12 m12 => zr (zg [12, 14] 3 [0,2,3,4,5,7,37] (zd (m12 _ _ (zb 0 (zq fun K13 m13 => zr ?_)))))
   refine zg [12, 14] 2 [0,2,3,4,5,7,37,55] (zd (m13 _ _ (zC h (fun b14 h => ?_) (fun b14 h => ?_))))
   ·refine zq fun K15 m15 => zq fun K16 m16 => zr ?_
    refine zv [12, 14] 3 [0,2,3,4,5,7,59] [[pi p1.kind, pi p1.n, pi p1.scale, .s (.string p1.s), .ro (eValue.els p1.items)]] [(0, vq 0), (2, vi p2), (3, vi p3), (4, vi x1), (5, vi p5), (7, vR [pi p1.kind, pi p1.n, pi p1.scale, .s (.string p1.s), .ro (eValue.els p1.items)]), (59, vi ((eValue.els p1.items).length : Int))] [.box [cl eI p6.p.leaf.path, ci p6.p.leaf.type.kind, ci p6.p.leaf.type.scale, cl eField p6.p.leaf.type.fields, ci p6.p.leaf.df, ci p6.p.leaf.rep, cl eField p6.p.fields, cl eI p6.p.pos, .sl 1 1 0 p6.c.reps.length, .sl 2 1 0 p6.c.defs.length, .sl 3 5 0 p6.c.values.length], .arr 1 (eI.els p6.c.reps), .arr 1 (eI.els p6.c.defs), .arr 5 (eValue.els p6.c.values), .box [ci e1.id, cst e1.name, cb e1.need, ci e1.type.kind, ci e1.type.scale, cl eField e1.type.fields]] ?_
    rw [eValue.len p1.items]
    refine zg [12, 14] 1 [0,2,3,4,5,7,60] (zd (m16 _ _ (zC h (fun b17 h => ?_) (fun b17 h => ?_))))
    ·refine zq fun K18 m18 => ?_
     obtain ⟨r2, c19, h⟩ := zB h
     refine zr (zv [12, 14] 3 [61,62,63] [] [(61, vq 0), (62, vi p3), (63, vi x1)] (qa1826 p6 e1) ?_)
     refine XO.calx 82 [vq 0, vi p3, vi x1] (qa1823 p6) [.box (qa1802 r2), .arr 1 (eI.els r2.2.c.reps), .arr 1 (eI.els r2.2.c.defs), .arr 5 (eValue.els r2.2.c.values)] [1, 2, 3] (.tp []) [0, 1, 2, 3] [1, 2, 3] [(64, .tp []), (61, vq 0), (62, vi p3), (63, vi x1)] [.box (qa1802 r2), .arr 1 (eI.els r2.2.c.reps), .arr 1 (eI.els r2.2.c.defs), .arr 5 (eValue.els r2.2.c.values), .box (qa1305 e1)] (by kernel_rfl) (c_column_shredder_entry _ _ _ _ c19) (by kernel_rfl) (by kernel_rfl) (by kernel_rfl) (by kernel_rfl) (by kernel_rfl) (by kernel_rfl) (by kernel_rfl) ?_
     refine zd (m18 _ _ (ze ?_))
     obtain rfl := zj h
     exact FinM.fin (.inr rfl) [] [] [] (by kernel_rfl) trivial (by kernel_rfl) (by kernel_rfl) (.tp0)
    ·refine zs (m15 _ _ (zq fun K20 m20 => zr ?_))
     refine zv [12, 14] 3 [0,2,3,4,5,66,67] [[pi p1.kind, pi p1.n, pi p1.scale, .s (.string p1.s), .ro (eValue.els p1.items)]] [(0, vq 0), (2, vi p2), (3, vi p3), (4, vi x1), (5, vi p5), (66, vl eValue p1.items), (67, vi ((eValue.els p1.items).length : Int))] [.box [cl eI p6.p.leaf.path, ci p6.p.leaf.type.kind, ci p6.p.leaf.type.scale, cl eField p6.p.leaf.type.fields, ci p6.p.leaf.df, ci p6.p.leaf.rep, cl eField p6.p.fields, cl eI p6.p.pos, .sl 1 1 0 p6.c.reps.length, .sl 2 1 0 p6.c.defs.length, .sl 3 5 0 p6.c.values.length], .arr 1 (eI.els p6.c.reps), .arr 1 (eI.els p6.c.defs), .arr 5 (eValue.els p6.c.values), .box [ci e1.id, cst e1.name, cb e1.need, ci e1.type.kind, ci e1.type.scale, cl eField e1.type.fields]] ?_
     rw [eValue.len p1.items]
     refine zg [12, 14] 1 [0,2,3,4,5,66,67,68] (zd (m20 _ _ (zb 1 (XW.rounds' BIG (x := cd Tryd.f58 [1,1,1,1,0,1,0,1,1,0,0]) (by kernel_rfl) fun Q1 hQ1 => ?_))))
     have hL1 : ∀ (k1 : Nat) (l1 : List Int) (l2 : List Int) (l3 : List GValue) (z1 : List Int) (z2 : Int) (z3 : Int) (z4 : List GField) (z5 : Int) (z6 : Int) (z7 : List GField) (z8 : List Int) (x2 : Int) (x3 : Int), column_shredder_put_l1 (column_shredder_put k0) p1 p2 p5 x1 k1 l1 l2 l3 z1 z2 z3 z4 z5 z6 z7 z8 x2 x3 = some r → XR Tryd.prog 110 4 [1, 2, 3] (cd Tryd.f58 [1,1,1,1,0,1,0,1,1,0,0]) Q1 k1 [(0, vq 0), (2, vi p2), (3, vi x2), (4, vi x1), (5, vi p5), (66, vl eValue p1.items), (67, vi (p1.items.length : Int)), (68, vi x3)] [.box (qa1805 l1 l2 l3 z1 z2 z3 z4 z5 z6 z7 z8), .arr 1 (eI.els l1), .arr 1 (eI.els l2), .arr 5 (eValue.els l3), .dead] := by
      intro k1
      induction k1 with
      | zero => intro l1 l2 l3 z1 z2 z3 z4 z5 z6 z7 z8 x2 x3 h; rw [column_shredder_put_l1.eq_1] at h; cases h
      | succ k1 ih1 =>
       intro l1 l2 l3 z1 z2 z3 z4 z5 z6 z7 z8 x2 x3 h
       rw [column_shredder_put_l1.eq_2] at h
       refine zq fun K21 m21 => zr (zg [12, 14] 1 [0,2,3,4,5,66,67,68,69] (zd (m21 _ _ (zq fun K22 m22 => zC h (fun b23 h => ?_) (fun b23 h => ?_)))))
       ·refine zs (m22 _ _ (zq fun K24 m24 => zb 2 (zq fun K25 m25 => ?_)))
        obtain ⟨e2, a26, h⟩ := zB h
        refine zr (zo [12, 14] 6 [0,2,3,4,5,13,14,66,67,68] [[pi e2.kind, pi e2.n, pi e2.scale, .s (.string e2.s), .ro (eValue.els e2.items)]] [0 ≤ x3 ∧ x3 < ((eValue.els p1.items).length : Int) ∧ elemsOk 5 (eValue.els p1.items), (eValue.els p1.items)[x3.toNat]? = some [pi e2.kind, pi e2.n, pi e2.scale, .s (.string e2.s), .ro (eValue.els e2.items)]] (⟨eValue.inb a26, ((eValue.get a26).trans (by cases e2; rfl)), trivial⟩) (zd (m25 _ _ (zq fun K27 m27 => ?_))))
        have j2 : ∀ (x4 : Int), column_shredder_put_j2 (column_shredder_put k0) (column_shredder_put_l1 (column_shredder_put k0) p1 p2 p5 x1 k1) p2 p5 x1 l1 l2 l3 z1 z2 z3 z4 z5 z6 z7 z8 x3 e2 x4 = some r → ∀ w0 w1, Sub 110 4 [1, 2, 3] w0 w1 [(0, vq 0), (2, vi p2), (3, vi x4), (4, vi x1), (5, vi p5), (14, vq 5), (66, vl eValue p1.items), (67, vi (p1.items.length : Int)), (68, vi x3)] [.box (qa1805 l1 l2 l3 z1 z2 z3 z4 z5 z6 z7 z8), .arr 1 (eI.els l1), .arr 1 (eI.els l2), .arr 5 (eValue.els l3), .dead, .box (qa1518 e2)] → K27 w0 w1 := by
         intro x4 h w0 w1 hS
         unfold column_shredder_put_j2 at h
         refine m27 _ _ (XW.sub hS ?_)
         obtain ⟨r3, c30, h⟩ := zB h
         refine zr ?_
         refine zv [12, 14] 9 [0,2,3,4,5,66,67,68,77,78,80,81,83,85] [] [(0, vq 0), (2, vi p2), (3, vi x4), (4, vi x1), (5, vi p5), (66, vl eValue p1.items), (67, vi (p1.items.length : Int)), (68, vi x3), (77, vq 0), (78, .ag (qa1518 e2)), (80, vi (i64.wrap (p2 + (1 : Int)))), (81, vi x4), (83, vi (i64.wrap (x1 + (1 : Int)))), (85, vi (i64.wrap (p5 + (1 : Int))))] [.box (qa1805 l1 l2 l3 z1 z2 z3 z4 z5 z6 z7 z8), .arr 1 (eI.els l1), .arr 1 (eI.els l2), .arr 5 (eValue.els l3), .dead, .box (qa1518 e2)] ?_
         refine XO.calx 58 [vq 0, .ag (qa1518 e2), vi (i64.wrap (p2 + (1 : Int))), vi x4, vi (i64.wrap (x1 + (1 : Int))), vi (i64.wrap (p5 + (1 : Int)))] [.box (qa1805 l1 l2 l3 z1 z2 z3 z4 z5 z6 z7 z8), .arr 1 (eI.els l1), .arr 1 (eI.els l2), .arr 5 (eValue.els l3)] [.box (qa1802 r3), .arr 1 (eI.els r3.2.c.reps), .arr 1 (eI.els r3.2.c.defs), .arr 5 (eValue.els r3.2.c.values)] [1, 2, 3] (.tp []) [0, 1, 2, 3] [1, 2, 3] [(86, .tp []), (0, vq 0), (2, vi p2), (3, vi x4), (4, vi x1), (5, vi p5), (66, vl eValue p1.items), (67, vi (p1.items.length : Int)), (68, vi x3), (77, vq 0), (78, .ag (qa1518 e2)), (80, vi (i64.wrap (p2 + (1 : Int)))), (81, vi x4), (83, vi (i64.wrap (x1 + (1 : Int)))), (85, vi (i64.wrap (p5 + (1 : Int))))] [.box (qa1802 r3), .arr 1 (eI.els r3.2.c.reps), .arr 1 (eI.els r3.2.c.defs), .arr 5 (eValue.els r3.2.c.values), .dead, .box (qa1518 e2)] (by kernel_rfl) (c_column_shredder_put k0 _ _ _ _ _ _ _ c30) (by kernel_rfl) (by kernel_rfl) (by kernel_rfl) (by kernel_rfl) (by kernel_rfl) (by kernel_rfl) (by kernel_rfl) ?_
         refine zd (m24 _ _ (zr (zg [12, 14] 2 [0,2,3,4,5,66,67,68] (zd ?_))))
         exact XR.sub (Sub.trans (Sub.pick (fr' := (qa1810 p1 p2 p5 x1 x3 x4)) [0,2,3,4,5,66,67,68] (by kernel_rfl)) (Sub.take (fr' := (qa1810 p1 p2 p5 x1 x3 x4)) 5 (by decide) (by kernel_rfl) (by kernel_rfl))) (ih1 r3.2.c.reps r3.2.c.defs r3.2.c.values r3.2.p.leaf.path r3.2.p.leaf.type.kind r3.2.p.leaf.type.scale r3.2.p.leaf.type.fields r3.2.p.leaf.df r3.2.p.leaf.rep r3.2.p.fields r3.2.p.pos x4 (i64.wrap (x3 + (1 : Int))) h)
        refine zq fun K28 m28 => zr (zv [12, 14] 2 [0,2,3,4,5,14,66,67,68,74] [] [(0, vq 0), (2, vi p2), (3, vi x2), (4, vi x1), (5, vi p5), (14, vq 5), (66, vl eValue p1.items), (67, vi (p1.items.length : Int)), (68, vi x3), (74, vb (decide ((0 : Int) < x3)))] [.box (qa1805 l1 l2 l3 z1 z2 z3 z4 z5 z6 z7 z8), .arr 1 (eI.els l1), .arr 1 (eI.els l2), .arr 5 (eValue.els l3), .dead, .box (qa1518 e2)] (zd (m28 _ _ ?_)))
        refine zC h (fun b29 h => ?_) (fun b29 h => ?_)
        ·exact zr (zg [12, 14] 3 [0,2,3,4,5,14,66,67,68] (zd (j2 (i64.wrap (p5 + (1 : Int))) h _ _ (zk [0,2,3,4,5,14,66,67,68]))))
        ·exact zs (j2 x2 h _ _ (zk [0,2,3,4,5,14,66,67,68]))
       ·refine zx 1 (hQ1 _ _ _ ?_)
        obtain rfl := zj h
        exact FinM.fin (.inl rfl) [] [] [] (by kernel_rfl) trivial (by kernel_rfl) (by kernel_rfl) (.tp0)
     exact XR.sub (Sub.trans (Sub.pick (fr' := (qa1812 p1 p2 p3 p5 x1)) [0,2,3,4,5,66,67,68] (by kernel_rfl)) (Sub.only (fr' := (qa1812 p1 p2 p3 p5 x1)) (st' := [.box (qa1796 p6), .arr 1 (eI.els p6.c.reps), .arr 1 (eI.els p6.c.defs), .arr 5 (eValue.els p6.c.values), .dead]) [0, 1, 2, 3] 5 (by kernel_rfl) (by kernel_rfl) (by kernel_rfl) (by kernel_rfl))) (hL1 BIG p6.c.reps p6.c.defs p6.c.values p6.p.leaf.path p6.p.leaf.type.kind p6.p.leaf.type.scale p6.p.leaf.type.fields p6.p.leaf.df p6.p.leaf.rep p6.p.fields p6.p.pos p3 (0 : Int) h)
   ·refine zq fun K31 m31 => zr (zg [12, 14] 2 [0,2,3,4,5,7,88] (zd (m31 _ _ (zC h (fun b32 h => ?_) (fun b32 h => ?_)))))
    ·obtain ⟨e3, a33, h⟩ := zB h
     obtain ⟨e4, a34, h⟩ := zB h
     obtain ⟨r4, c35, h⟩ := zB h
     refine zw 19 (qa1837 p1 p2 p3 p5 p6 e1 x1 e3 e4) ?_ ?_
     ·refine zyp 19 [(qa1467 p1), [pi e3], [pi e4.kind, pi e4.n, pi e4.scale, .s (.string e4.s), .ro (eValue.els e4.items)]] (qa1837 p1 p2 p3 p5 p6 e1 x1 e3 e4) [([(qa1467 p1)] : List (List PV))[0]? = some (qa1467 p1), 0 ≤ (i64.wrap (p2 + (1 : Int))) ∧ (i64.wrap (p2 + (1 : Int))) < ((eI.els p6.p.pos).length : Int) ∧ elemsOk 1 (eI.els p6.p.pos), (eI.els p6.p.pos)[(i64.wrap (p2 + (1 : Int))).toNat]? = some [pi e3], 0 ≤ e3 ∧ e3 < ((eValue.els p1.items).length : Int) ∧ elemsOk 5 (eValue.els p1.items), (eValue.els p1.items)[e3.toNat]? = some [pi e4.kind, pi e4.n, pi e4.scale, .s (.string e4.s), .ro (eValue.els e4.items)]] (⟨rfl, eI.inb a33, (eI.get a33), eValue.inb a34, ((eValue.get a34).trans (by cases e4; rfl)), trivial⟩) ?_
      exact zyd
     refine XO.calx 58 [vq 0, .ag (qa1518 e4), vi (i64.wrap (p2 + (1 : Int))), vi p3, vi x1, vi p5] (qa1823 p6) [.box (qa1802 r4), .arr 1 (eI.els r4.2.c.reps), .arr 1 (eI.els r4.2.c.defs), .arr 5 (eValue.els r4.2.c.values)] [1, 2, 3] (.tp []) [0, 1, 2, 3] [1, 2, 3] [(109, .tp []), (108, vi p5), (107, vi x1), (106, vi p3), (105, vi (i64.wrap (p2 + (1 : Int)))), (104, vi p2), (103, .ag (qa1518 e4)), (102, .one (.pv (.rp (eValue.els p1.items) e3.toNat 0))), (101, vi e3), (100, .one (.pv (.rp (eI.els p6.p.pos) ((i64.wrap (p2 + (1 : Int))).toNat) 0))), (99, vi (i64.wrap (p2 + (1 : Int)))), (98, vi p2), (97, vl eI p6.p.pos), (96, .one (.pt 0 0 0 7)), (95, vq 0), (94, vq 0), (93, vq 0), (92, vl eValue p1.items), (91, .one (.pv (.rp [(qa1467 p1)] 0 4))), (90, vq 0), (0, vq 0), (2, vi p2), (3, vi p3), (4, vi x1), (5, vi p5), (7, vR (qa1467 p1)), (88, vb (e1.type.kind == (7 : Int)))] [.box (qa1802 r4), .arr 1 (eI.els r4.2.c.reps), .arr 1 (eI.els r4.2.c.defs), .arr 5 (eValue.els r4.2.c.values), .box (qa1305 e1)] (by kernel_rfl) (c_column_shredder_put k0 _ _ _ _ _ _ _ c35) (by kernel_rfl) (by kernel_rfl) (by kernel_rfl) (by kernel_rfl) (by kernel_rfl) (by kernel_rfl) (by kernel_rfl) ?_
     refine zd ?_
     obtain rfl := zj h
     exact FinM.fin (.inl rfl) [] [] [] (by kernel_rfl) trivial (by kernel_rfl) (by kernel_rfl) (.tp0)
    ·refine zq fun K36 m36 => ?_
     obtain ⟨r5, c37, h⟩ := zB h
     refine zr ?_
     refine zv [12, 14] 3 [0,7,38,39,40] [] [(0, vq 0), (7, vR (qa1467 p1)), (38, vq 0), (39, vi p3), (40, vi x1)] (qa1826 p6 e1) ?_
     refine XO.calx 82 [vq 0, vi p3, vi x1] (qa1823 p6) [.box (qa1802 r5), .arr 1 (eI.els r5.2.c.reps), .arr 1 (eI.els r5.2.c.defs), .arr 5 (eValue.els r5.2.c.values)] [1, 2, 3] (.tp []) [0, 1, 2, 3] [1, 2, 3] [(41, .tp []), (0, vq 0), (7, vR (qa1467 p1)), (38, vq 0), (39, vi p3), (40, vi x1)] [.box (qa1802 r5), .arr 1 (eI.els r5.2.c.reps), .arr 1 (eI.els r5.2.c.defs), .arr 5 (eValue.els r5.2.c.values), .box (qa1305 e1)] (by kernel_rfl) (c_column_shredder_entry _ _ _ _ c37) (by kernel_rfl) (by kernel_rfl) (by kernel_rfl) (by kernel_rfl) (by kernel_rfl) (by kernel_rfl) (by kernel_rfl) ?_
     refine zd (m36 _ _ ?_)
     obtain ⟨g38, h⟩ := zG h
     obtain ⟨e5, a39, h⟩ := zB h
     refine XW.sub (Sub.dead 1) ?_
     refine XW.drwG 15 [5, 6] [([], []), ([], []), ([], []), ([], []), ([0], []), ([], []), ([], []), ([], []), ([5, 3, 1005], [5, 3, 1005]), ([1005], []), ([5, 1005], [5]), ([], []), ([], []), ([], []), ([0, 1005], [0])] (qa1845 p1 p3 x1 r5) (qa1846 p1 e1 r5) (by kernel_rfl) (by kernel_rfl) ?_ ?_
     ·refine zgv 8 [(qa1467 p1)] [(49, vl eValue ([(GValue.mk (0 : Int) (0 : Int) (0 : Int) (ByteArray.mk #[]) [])])), (48, vi ((r5.2.c.values.length : Nat) : Int)), (47, .ag (qa1518 p1)), (46, .one (.sl 3 5 0 r5.2.c.values.length)), (45, .one (.pt 0 0 0 10)), (44, .one (.pt 0 0 0 8)), (43, vq 0), (42, vq 0), (41, .tp []), (0, vq 0), (7, vR (qa1467 p1)), (38, vq 0), (39, vi p3), (40, vi x1)] ?_
      refine GY.new true 5 [] [(50, .one (.sl 5 5 0 (r5.2.c.values.length + (eValue.els ([(GValue.mk (0 : Int) (0 : Int) (0 : Int) (ByteArray.mk #[]) [])])).length))), (49, vl eValue ([(GValue.mk (0 : Int) (0 : Int) (0 : Int) (ByteArray.mk #[]) [])])), (48, vi ((r5.2.c.values.length : Nat) : Int)), (47, .ag [ci p1.kind, ci p1.n, ci p1.scale, cst p1.s, cl eValue p1.items]), (46, .one (.sl 3 5 0 r5.2.c.values.length)), (45, .one (.pt 0 0 0 10)), (44, .one (.pt 0 0 0 8)), (43, vq 0), (42, vq 0), (41, .tp []), (0, vq 0), (7, vR [pi p1.kind, pi p1.n, pi p1.scale, .s (.string p1.s), .ro (eValue.els p1.items)]), (38, vq 0), (39, vi p3), (40, vi x1)] [5, 3] [.box [cl eI r5.2.p.leaf.path, ci r5.2.p.leaf.type.kind, ci r5.2.p.leaf.type.scale, cl eField r5.2.p.leaf.type.fields, ci r5.2.p.leaf.df, ci r5.2.p.leaf.rep, cl eField r5.2.p.fields, cl eI r5.2.p.pos, .sl 1 1 0 r5.2.c.reps.length, .sl 2 1 0 r5.2.c.defs.length, .sl 3 5 0 r5.2.c.values.length], .arr 1 (eI.els r5.2.c.reps), .arr 1 (eI.els r5.2.c.defs), .dead, .box [ci e1.id, cst e1.name, cb e1.need, ci e1.type.kind, ci e1.type.scale, cl eField e1.type.fields], .arr 5 (eValue.els r5.2.c.values ++ eValue.els ([(GValue.mk (0 : Int) (0 : Int) (0 : Int) (ByteArray.mk #[]) [])]))] [elemsOk 5 (eValue.els ([(GValue.mk (0 : Int) (0 : Int) (0 : Int) (ByteArray.mk #[]) [])])), r5.2.c.values.length = (eValue.els r5.2.c.values).length, r5.2.c.values.length + (eValue.els ([(GValue.mk (0 : Int) (0 : Int) (0 : Int) (ByteArray.mk #[]) [])])).length ≤ 4294967296] (by kernel_rfl) (by kernel_rfl) (⟨eValue.ok _, (eValue.len r5.2.c.values).symm, g38, trivial⟩) (by kernel_rfl) ?_
      rw [show r5.2.c.values.length + (eValue.els ([(GValue.mk (0 : Int) (0 : Int) (0 : Int) (ByteArray.mk #[]) [])])).length = (r5.2.c.values ++ [(GValue.mk (0 : Int) (0 : Int) (0 : Int) (ByteArray.mk #[]) [])]).length from eValue.lapp _ _]
      rw [show eValue.els r5.2.c.values ++ eValue.els ([(GValue.mk (0 : Int) (0 : Int) (0 : Int) (ByteArray.mk #[]) [])]) = eValue.els (r5.2.c.values ++ [(GValue.mk (0 : Int) (0 : Int) (0 : Int) (ByteArray.mk #[]) [])]) from eValue.app2 _ _]
      refine GY.go 1 [] [(51, .one (.pt 5 5 (0 + ((r5.2.c.values.length : Nat) : Int).toNat) 0)), (50, .one (.sl 5 5 0 ((r5.2.c.values ++ [(GValue.mk (0 : Int) (0 : Int) (0 : Int) (ByteArray.mk #[]) [])]).length))), (49, vl eValue ([(GValue.mk (0 : Int) (0 : Int) (0 : Int) (ByteArray.mk #[]) [])])), (48, vi ((r5.2.c.values.length : Nat) : Int)), (47, .ag (qa1518 p1)), (46, .one (.sl 3 5 0 r5.2.c.values.length)), (45, .one (.pt 0 0 0 10)), (44, .one (.pt 0 0 0 8)), (43, vq 0), (42, vq 0), (41, .tp []), (0, vq 0), (7, vR (qa1467 p1)), (38, vq 0), (39, vi p3), (40, vi x1)] [0 ≤ ((r5.2.c.values.length : Nat) : Int) ∧ ((r5.2.c.values.length : Nat) : Int) < (((r5.2.c.values ++ [(GValue.mk (0 : Int) (0 : Int) (0 : Int) (ByteArray.mk #[]) [])]).length : Nat) : Int)] (by kernel_rfl) (⟨Enc.inb' a39, trivial⟩) ?_
      refine GY.wr [[pi e5.kind, pi e5.n, pi e5.scale, .s (.string e5.s), .ro (eValue.els e5.items)]] [(51, .one (.pt 5 5 (0 + ((r5.2.c.values.length : Nat) : Int).toNat) 0)), (50, .one (.sl 5 5 0 ((r5.2.c.values ++ [(GValue.mk (0 : Int) (0 : Int) (0 : Int) (ByteArray.mk #[]) [])]).length))), (49, vl eValue ([(GValue.mk (0 : Int) (0 : Int) (0 : Int) (ByteArray.mk #[]) [])])), (48, vi ((r5.2.c.values.length : Nat) : Int)), (47, .ag [ci p1.kind, ci p1.n, ci p1.scale, cst p1.s, cl eValue p1.items]), (46, .one (.sl 3 5 0 r5.2.c.values.length)), (45, .one (.pt 0 0 0 10)), (44, .one (.pt 0 0 0 8)), (43, vq 0), (42, vq 0), (41, .tp []), (0, vq 0), (7, vR [pi p1.kind, pi p1.n, pi p1.scale, .s (.string p1.s), .ro (eValue.els p1.items)]), (38, vq 0), (39, vi p3), (40, vi x1)] [5] [] [.box [cl eI r5.2.p.leaf.path, ci r5.2.p.leaf.type.kind, ci r5.2.p.leaf.type.scale, cl eField r5.2.p.leaf.type.fields, ci r5.2.p.leaf.df, ci r5.2.p.leaf.rep, cl eField r5.2.p.fields, cl eI r5.2.p.pos, .sl 1 1 0 r5.2.c.reps.length, .sl 2 1 0 r5.2.c.defs.length, .sl 3 5 0 r5.2.c.values.length], .arr 1 (eI.els r5.2.c.reps), .arr 1 (eI.els r5.2.c.defs), .dead, .box [ci e1.id, cst e1.name, cb e1.need, ci e1.type.kind, ci e1.type.scale, cl eField e1.type.fields], .arr 5 ((eValue.els (r5.2.c.values ++ [(GValue.mk (0 : Int) (0 : Int) (0 : Int) (ByteArray.mk #[]) [])])).set (0 + ((r5.2.c.values.length : Nat) : Int).toNat) [pi p1.kind, pi p1.n, pi p1.scale, .s (.string p1.s), .ro (eValue.els p1.items)])] [(eValue.els (r5.2.c.values ++ [(GValue.mk (0 : Int) (0 : Int) (0 : Int) (ByteArray.mk #[]) [])]))[(0 + ((r5.2.c.values.length : Nat) : Int).toNat)]? = some [pi e5.kind, pi e5.n, pi e5.scale, .s (.string e5.s), .ro (eValue.els e5.items)]] (by kernel_rfl) (by kernel_rfl) (⟨((eValue.get0 a39).trans (by cases e5; rfl)), trivial⟩) (by kernel_rfl) ?_
      rw [show (eValue.els (r5.2.c.values ++ [(GValue.mk (0 : Int) (0 : Int) (0 : Int) (ByteArray.mk #[]) [])])).set (0 + ((r5.2.c.values.length : Nat) : Int).toNat) [pi p1.kind, pi p1.n, pi p1.scale, .s (.string p1.s), .ro (eValue.els p1.items)] = eValue.els ((r5.2.c.values ++ [(GValue.mk (0 : Int) (0 : Int) (0 : Int) (ByteArray.mk #[]) [])]).set ((r5.2.c.values.length : Nat) : Int).toNat p1) from by have hq : ([pi p1.kind, pi p1.n, pi p1.scale, .s (.string p1.s), .ro (eValue.els p1.items)] : List PV) = eValue.cells p1 := (by cases p1; rfl); rw [hq]; exact eValue.set0 _ _ _]
      refine zgv 3 [] (qa1845 p1 p3 x1 r5) ?_
      refine GY.sto [0] [] (qa1845 p1 p3 x1 r5) ([0] ++ [1005]) (qa1846 p1 e1 r5) [] (by kernel_rfl) (by kernel_rfl) trivial (by kernel_rfl) ?_
      exact GY.done (by kernel_rfl) (by kernel_rfl)
     refine XO.sub (Sub.swap 3 5 [(54, .one (.pt 0 0 0 10)), (53, .one (.pt 0 0 0 8)), (52, vq 0), (51, .one (.pt 3 5 (0 + ((r5.2.c.values.length : Nat) : Int).toNat) 0)), (50, .one (.sl 3 5 0 ((r5.2.c.values ++ [(GValue.mk (0 : Int) (0 : Int) (0 : Int) (ByteArray.mk #[]) [])]).length))), (49, vl eValue ([(GValue.mk (0 : Int) (0 : Int) (0 : Int) (ByteArray.mk #[]) [])])), (48, vi ((r5.2.c.values.length : Nat) : Int)), (47, .ag (qa1518 p1)), (46, .one (.sl 5 5 0 r5.2.c.values.length)), (45, .one (.pt 0 0 0 10)), (44, .one (.pt 0 0 0 8)), (43, vq 0), (42, vq 0), (41, .tp []), (0, vq 0), (7, vR (qa1467 p1)), (38, vq 0), (39, vi p3), (40, vi x1)] [.box [cl eI r5.2.p.leaf.path, ci r5.2.p.leaf.type.kind, ci r5.2.p.leaf.type.scale, cl eField r5.2.p.leaf.type.fields, ci r5.2.p.leaf.df, ci r5.2.p.leaf.rep, cl eField r5.2.p.fields, cl eI r5.2.p.pos, .sl 1 1 0 r5.2.c.reps.length, .sl 2 1 0 r5.2.c.defs.length, .sl 3 5 0 ((r5.2.c.values ++ [(GValue.mk (0 : Int) (0 : Int) (0 : Int) (ByteArray.mk #[]) [])]).length)], .arr 1 (eI.els r5.2.c.reps), .arr 1 (eI.els r5.2.c.defs), .arr 5 (eValue.els ((r5.2.c.values ++ [(GValue.mk (0 : Int) (0 : Int) (0 : Int) (ByteArray.mk #[]) [])]).set ((r5.2.c.values.length : Nat) : Int).toNat p1)), .box (qa1305 e1), .dead] (by kernel_rfl) (by kernel_rfl) (by kernel_rfl) (by kernel_rfl)) ?_
     refine XO.sub (Sub.eq (fr' := [(54, .one (.pt 0 0 0 10)), (53, .one (.pt 0 0 0 8)), (52, vq 0), (51, .one (.pt 3 5 (0 + ((r5.2.c.values.length : Nat) : Int).toNat) 0)), (50, .one (.sl 3 5 0 ((r5.2.c.values ++ [(GValue.mk (0 : Int) (0 : Int) (0 : Int) (ByteArray.mk #[]) [])]).length))), (49, vl eValue ([(GValue.mk (0 : Int) (0 : Int) (0 : Int) (ByteArray.mk #[]) [])])), (48, vi ((r5.2.c.values.length : Nat) : Int)), (47, .ag [ci p1.kind, ci p1.n, ci p1.scale, cst p1.s, cl eValue p1.items]), (46, .one (.sl 5 5 0 r5.2.c.values.length)), (45, .one (.pt 0 0 0 10)), (44, .one (.pt 0 0 0 8)), (43, vq 0), (42, vq 0), (41, .tp []), (0, vq 0), (7, vR [pi p1.kind, pi p1.n, pi p1.scale, .s (.string p1.s), .ro (eValue.els p1.items)]), (38, vq 0), (39, vi p3), (40, vi x1)]) (st' := [.box [cl eI r5.2.p.leaf.path, ci r5.2.p.leaf.type.kind, ci r5.2.p.leaf.type.scale, cl eField r5.2.p.leaf.type.fields, ci r5.2.p.leaf.df, ci r5.2.p.leaf.rep, cl eField r5.2.p.fields, cl eI r5.2.p.pos, .sl 1 1 0 r5.2.c.reps.length, .sl 2 1 0 r5.2.c.defs.length, .sl 3 5 0 (((r5.2.c.values ++ [(GValue.mk (0 : Int) (0 : Int) (0 : Int) (ByteArray.mk #[]) [])]).set ((r5.2.c.values.length : Nat) : Int).toNat p1).length)], .arr 1 (eI.els r5.2.c.reps), .arr 1 (eI.els r5.2.c.defs), .arr 5 (eValue.els ((r5.2.c.values ++ [(GValue.mk (0 : Int) (0 : Int) (0 : Int) (ByteArray.mk #[]) [])]).set ((r5.2.c.values.length : Nat) : Int).toNat p1)), .box [ci e1.id, cst e1.name, cb e1.need, ci e1.type.kind, ci e1.type.scale, cl eField e1.type.fields], .dead]) rfl (show ([.box [cl eI r5.2.p.leaf.path, ci r5.2.p.leaf.type.kind, ci r5.2.p.leaf.type.scale, cl eField r5.2.p.leaf.type.fields, ci r5.2.p.leaf.df, ci r5.2.p.leaf.rep, cl eField r5.2.p.fields, cl eI r5.2.p.pos, .sl 1 1 0 r5.2.c.reps.length, .sl 2 1 0 r5.2.c.defs.length, .sl 3 5 0 ((r5.2.c.values ++ [(GValue.mk (0 : Int) (0 : Int) (0 : Int) (ByteArray.mk #[]) [])]).length)], .arr 1 (eI.els r5.2.c.reps), .arr 1 (eI.els r5.2.c.defs), .arr 5 (eValue.els ((r5.2.c.values ++ [(GValue.mk (0 : Int) (0 : Int) (0 : Int) (ByteArray.mk #[]) [])]).set ((r5.2.c.values.length : Nat) : Int).toNat p1)), .box [ci e1.id, cst e1.name, cb e1.need, ci e1.type.kind, ci e1.type.scale, cl eField e1.type.fields], .dead] : St) = [.box [cl eI r5.2.p.leaf.path, ci r5.2.p.leaf.type.kind, ci r5.2.p.leaf.type.scale, cl eField r5.2.p.leaf.type.fields, ci r5.2.p.leaf.df, ci r5.2.p.leaf.rep, cl eField r5.2.p.fields, cl eI r5.2.p.pos, .sl 1 1 0 r5.2.c.reps.length, .sl 2 1 0 r5.2.c.defs.length, .sl 3 5 0 (((r5.2.c.values ++ [(GValue.mk (0 : Int) (0 : Int) (0 : Int) (ByteArray.mk #[]) [])]).set ((r5.2.c.values.length : Nat) : Int).toNat p1).length)], .arr 1 (eI.els r5.2.c.reps), .arr 1 (eI.els r5.2.c.defs), .arr 5 (eValue.els ((r5.2.c.values ++ [(GValue.mk (0 : Int) (0 : Int) (0 : Int) (ByteArray.mk #[]) [])]).set ((r5.2.c.values.length : Nat) : Int).toNat p1)), .box [ci e1.id, cst e1.name, cb e1.need, ci e1.type.kind, ci e1.type.scale, cl eField e1.type.fields], .dead] from by rw [show (r5.2.c.values ++ [(GValue.mk (0 : Int) (0 : Int) (0 : Int) (ByteArray.mk #[]) [])]).length = ((r5.2.c.values ++ [(GValue.mk (0 : Int) (0 : Int) (0 : Int) (ByteArray.mk #[]) [])]).set ((r5.2.c.values.length : Nat) : Int).toNat p1).length from by simp])) ?_
     refine zd ?_
     obtain rfl := zj h
     exact FinM.fin (.inl rfl) [] [] [] (by kernel_rfl) trivial (by kernel_rfl) (by kernel_rfl) (.tp0)
  refine zq fun K5 m5 => zr ?_
  refine zv [12, 14] 3 [0,2,3,4,5,7,12,25] [] [(0, vq 0), (2, vi p2), (3, vi p3), (4, vi p4), (5, vi p5), (7, vR (qa1467 p1)), (12, vq 4), (25, vb (!e1.need))] (qa1826 p6 e1) ?_
  refine zd (m5 _ _ (zC h (fun b6 h => ?_) (fun b6 h => ?_)))
  ·refine zq fun K7 m7 => zq fun K8 m8 => zr (zu [12, 14] 3 [0,2,3,4,5,7,12,28] [(qa1467 p1)] (zd (m8 _ _ (zC h (fun b9 h => ?_) (fun b9 h => ?_)))))
   ·refine zq fun K10 m10 => ?_
    obtain ⟨r1, c11, h⟩ := zB h
    refine zr (zv [12, 14] 3 [29,30,31] [] [(29, vq 0), (30, vi p3), (31, vi p4)] (qa1826 p6 e1) ?_)
    refine XO.calx 82 [vq 0, vi p3, vi p4] (qa1823 p6) [.box (qa1802 r1), .arr 1 (eI.els r1.2.c.reps), .arr 1 (eI.els r1.2.c.defs), .arr 5 (eValue.els r1.2.c.values)] [1, 2, 3] (.tp []) [0, 1, 2, 3] [1, 2, 3] [(32, .tp []), (29, vq 0), (30, vi p3), (31, vi p4)] [.box (qa1802 r1), .arr 1 (eI.els r1.2.c.reps), .arr 1 (eI.els r1.2.c.defs), .arr 5 (eValue.els r1.2.c.values), .box (qa1305 e1)] (by kernel_rfl) (c_column_shredder_entry _ _ _ _ c11) (by kernel_rfl) (by kernel_rfl) (by kernel_rfl) (by kernel_rfl) (by kernel_rfl) (by kernel_rfl) (by kernel_rfl) ?_
    refine zd (m10 _ _ (ze ?_))
    obtain rfl := zj h
    exact FinM.fin (.inr rfl) [] [] [] (by kernel_rfl) trivial (by kernel_rfl) (by kernel_rfl) (.tp0)
   ·exact zs (m7 _ _ (zr (zg [12, 14] 3 [0,2,3,4,5,7,12] (zd (j1 (i64.wrap (p4 + (1 : Int))) h _ _ (zk [0,2,3,4,5,7,12]))))))
  ·exact zs (j1 p4 h _ _ (zk [0,2,3,4,5,7,12]))
def slices_Clip_int_int (p1 : (List Int)) : Option (List Int) := grd (0 ≤ (0 : Int) ∧ (0 : Int) ≤ (p1.length : Int) ∧ (p1.length : Int) ≤ (p1.length : Int) ∧ (p1.length : Int) ≤ (p1.length : Int)) <| some ((p1.drop (0 : Int).toNat).take ((p1.length : Int).toNat - (0 : Int).toNat))
theorem c_slices_Clip_int_int (p1 : (List Int)) (r : (List Int)) (h : slices_Clip_int_int p1 = some r) : PC Tryd.prog 23 [vl eI p1] (vl eI r) := by
 unfold slices_Clip_int_int at h
 refine zF 9 Tryd.f23 (zq fun K1 m1 => zr (zg [] 1 [0] (zd (m1 _ _ (zq fun K2 m2 => ?_)))))
 obtain ⟨g3, h⟩ := zG h
 refine zr (zv [] 3 [0,3,5] [] [(0, vl eI p1), (3, vl eI p1), (5, vi ((eI.els p1).length : Int))] [] ?_)
 rw [eI.len p1]
 refine zv [] 2 [3,5,7] [] [(3, vl eI p1), (5, vi (p1.length : Int)), (7, vi ((eI.els p1).length : Int))] [] ?_
 rw [eI.len p1]
 refine zp [] 1 [8] [] [(8, .one (.pv (.ro (((eI.els p1).drop (0 : Int).toNat).take ((p1.length : Int).toNat - (0 : Int).toNat)))))] [] [(0 ≤ (0 : Int) ∧ (0 : Int) ≤ (p1.length : Int) ∧ (p1.length : Int) ≤ (p1.length : Int) ∧ (p1.length : Int) ≤ ((eI.els p1).length : Int)) ∧ elemsOk 1 (eI.els p1)] (⟨eI.cutMOk g3, trivial⟩) ?_
 rw [show ((eI.els p1).drop (0 : Int).toNat).take ((p1.length : Int).toNat - (0 : Int).toNat) = eI.els ((p1.drop (0 : Int).toNat).take ((p1.length : Int).toNat - (0 : Int).toNat)) from eI.cut _ _ _]
 refine zg [] 1 [2] (zd (m2 _ _ (ze ?_)))
 obtain rfl := zj h
 exact zf [vl eI ((p1.drop (0 : Int).toNat).take ((p1.length : Int).toNat - (0 : Int).toNat))] (.one (.rfl _ rfl))
def slices_Clip_api_Value_api_Value (p1 : (List GValue)) : Option (List GValue) := grd (0 ≤ (0 : Int) ∧ (0 : Int) ≤ (p1.length : Int) ∧ (p1.length : Int) ≤ (p1.length : Int) ∧ (p1.length : Int) ≤ (p1.length : Int)) <| some ((p1.drop (0 : Int).toNat).take ((p1.length : Int).toNat - (0 : Int).toNat))
theorem c_slices_Clip_api_Value_api_Value (p1 : (List GValue)) (r : (List GValue)) (h : slices_Clip_api_Value_api_Value p1 = some r) : PC Tryd.prog 59 [vl eValue p1] (vl eValue r) := by
 unfold slices_Clip_api_Value_api_Value at h
 refine zF 9 Tryd.f59 (zq fun K1 m1 => zr (zg [] 1 [0] (zd (m1 _ _ (zq fun K2 m2 => ?_)))))
 obtain ⟨g3, h⟩ := zG h
 refine zr (zv [] 3 [0,3,5] [] [(0, vl eValue p1), (3, vl eValue p1), (5, vi ((eValue.els p1).length : Int))] [] ?_)
 rw [eValue.len p1]
 refine zv [] 2 [3,5,7] [] [(3, vl eValue p1), (5, vi (p1.length : Int)), (7, vi ((eValue.els p1).length : Int))] [] ?_
 rw [eValue.len p1]
 refine zp [] 1 [8] [] [(8, .one (.pv (.ro (((eValue.els p1).drop (0 : Int).toNat).take ((p1.length : Int).toNat - (0 : Int).toNat)))))] [] [(0 ≤ (0 : Int) ∧ (0 : Int) ≤ (p1.length : Int) ∧ (p1.length : Int) ≤ (p1.length : Int) ∧ (p1.length : Int) ≤ ((eValue.els p1).length : Int)) ∧ elemsOk 5 (eValue.els p1)] (⟨eValue.cutMOk g3, trivial⟩) ?_
 rw [show ((eValue.els p1).drop (0 : Int).toNat).take ((p1.length : Int).toNat - (0 : Int).toNat) = eValue.els ((p1.drop (0 : Int).toNat).take ((p1.length : Int).toNat - (0 : Int).toNat)) from eValue.cut _ _ _]
 refine zg [] 1 [2] (zd (m2 _ _ (ze ?_)))
 obtain rfl := zj h
 exact zf [vl eValue ((p1.drop (0 : Int).toNat).take ((p1.length : Int).toNat - (0 : Int).toNat))] (.one (.rfl _ rfl))
def column_shred_j1 (l4 : List Int) (l5 : List Int) (l6 : List GValue) (z9 : List Int) (z10 : Int) (z11 : Int) (z12 : List GField) (z13 : Int) (z14 : Int) (z15 : List GField) (z16 : List Int) : Option GColumn := bnd (slices_Clip_int_int l4) fun r3 => bnd (slices_Clip_int_int l5) fun r4 => bnd (slices_Clip_api_Value_api_Value l6) fun r5 => some (GColumn.mk r3 r4 r5)
def column_shred_l1 (p1 : GPath) (p2 : (List (List GValue))) : Nat → List Int → List Int → List GValue → List Int → Int → Int → List GField → Int → Int → List GField → List Int → Int → Option GColumn
 | 0, _, _, _, _, _, _, _, _, _, _, _, _ => none
 | k1 + 1, l1, l2, l3, z1, z2, z3, z4, z5, z6, z7, z8, x1 => ift (decide (x1 < (p2.length : Int))) (bnd (at? p2 x1) fun e1 => bnd (at? p1.pos (0 : Int)) fun e2 => bnd (at? e1 e2) fun e3 => bnd (column_shredder_put BIG e3 (0 : Int) (0 : Int) (0 : Int) (0 : Int) (GShredder.mk (GPath.mk (GLeaf.mk z1 (GType.mk z2 z3 z4) z5 z6) z7 z8) (GColumn.mk l1 l2 l3))) fun r1 => (column_shred_l1 p1 p2 k1) r1.2.c.reps r1.2.c.defs r1.2.c.values r1.2.p.leaf.path r1.2.p.leaf.type.kind r1.2.p.leaf.type.scale r1.2.p.leaf.type.fields r1.2.p.leaf.df r1.2.p.leaf.rep r1.2.p.fields r1.2.p.pos (i64.wrap (x1 + (1 : Int)))) (column_shred_j1 l1 l2 l3 z1 z2 z3 z4 z5 z6 z7 z8)
def column_shred (p1 : GPath) (p2 : (List (List GValue))) : Option GColumn := column_shred_l1 p1 p2 BIG [] [] [] p1.leaf.path p1.leaf.type.kind p1.leaf.type.scale p1.leaf.type.fields p1.leaf.df p1.leaf.rep p1.fields p1.pos (0 : Int)
abbrev qa1857 : List CV := [.pv (.s (.slice none 0 0)), .pv (.s (.slice none 0 0)), .pv (.s (.slice none 0 0))]
abbrev qa1858 (p1 : GPath) : List CV := [cl eI p1.leaf.path, ci p1.leaf.type.kind, ci p1.leaf.type.scale, cl eField p1.leaf.type.fields, ci p1.leaf.df, ci p1.leaf.rep, cl eField p1.fields, cl eI p1.pos, .pv (.s (.slice none 0 0)), .pv (.s (.slice none 0 0)), .pv (.s (.slice none 0 0))]
abbrev qa1859 : Fr := [(4, vq 0), (5, vq 1)]
abbrev qa1870 (p1 : GPath) : List CV := [cl eI p1.leaf.path, ci p1.leaf.type.kind, ci p1.leaf.type.scale, cl eField p1.leaf.type.fields, ci p1.leaf.df, ci p1.leaf.rep, cl eField p1.fields, cl eI p1.pos, .sl 2 1 0 0, .pv (.s (.slice none 0 0)), .pv (.s (.slice none 0 0))]
abbrev qa1871 (p1 : GPath) : List CV := [cl eI p1.leaf.path, ci p1.leaf.type.kind, ci p1.leaf.type.scale, cl eField p1.leaf.type.fields, ci p1.leaf.df, ci p1.leaf.rep, cl eField p1.fields, cl eI p1.pos, .sl 2 1 0 0, .sl 3 1 0 0, .pv (.s (.slice none 0 0))]
theorem c_column_shred (p1 : GPath) (p2 : (List (List GValue))) (r : GColumn) (h : column_shred p1 p2 = some r) : PC Tryd.prog 30 [.ag [cl eI p1.leaf.path, ci p1.leaf.type.kind, ci p1.leaf.type.scale, cl eField p1.leaf.type.fields, ci p1.leaf.df, ci p1.leaf.rep, cl eField p1.fields, cl eI p1.pos], vl (eL eValue) p2] (.ag [cl eI r.reps, cl eI r.defs, cl eValue r.values]) := by
 unfold column_shred at h
 refine zF 46 Tryd.f30 (zq fun K1 m1 => zr (zg [4, 10] 2 [1,2,4] (zd (m1 _ _ (zq fun K2 m2 => zr ?_)))))
 refine zv [4, 10] 4 [1,2,4,5] [(qa1677 p1)] [(1, vl (eL eValue) p2), (2, vR (qa1677 p1)), (4, vq 0), (5, vq 1)] [.box qa1857, .box (qa1858 p1)] ?_
 refine zd (m2 _ _ (zq fun K3 m3 => ?_))
 have j1 : ∀ (l4 : List Int) (l5 : List Int) (l6 : List GValue) (z9 : List Int) (z10 : Int) (z11 : Int) (z12 : List GField) (z13 : Int) (z14 : Int) (z15 : List GField) (z16 : List Int), column_shred_j1 l4 l5 l6 z9 z10 z11 z12 z13 z14 z15 z16 = some r → ∀ w0 w1, Sub 46 0 [] w0 w1 qa1859 [.box qa1857, .box [cl eI z9, ci z10, ci z11, cl eField z12, ci z13, ci z14, cl eField z15, cl eI z16, .sl 2 1 0 l4.length, .sl 3 1 0 l5.length, .sl 4 5 0 l6.length], .arr 1 (eI.els l4), .arr 1 (eI.els l5), .arr 5 (eValue.els l6)] → K3 w0 w1 := by
  intro l4 l5 l6 z9 z10 z11 z12 z13 z14 z15 z16 h w0 w1 hS
  unfold column_shred_j1 at h
  refine m3 _ _ (XW.sub hS ?_)
  refine zq fun K14 m14 => ?_
  refine XW.sub (Sub.killb eI l4 (fr' := qa1859) 1 8 2 [cl eI z9, ci z10, ci z11, cl eField z12, ci z13, ci z14, cl eField z15, cl eI z16, .sl 2 1 0 l4.length, .sl 3 1 0 l5.length, .sl 4 5 0 l6.length] l4.length (Nat.zero_le _) rfl rfl rfl rfl [.box qa1857, .box [cl eI z9, ci z10, ci z11, cl eField z12, ci z13, ci z14, cl eField z15, cl eI z16, .sl 5 1 0 l4.length, .sl 3 1 0 l5.length, .sl 4 5 0 l6.length], .arr 1 (eI.els l4), .arr 1 (eI.els l5), .arr 5 (eValue.els l6), .dead] rfl (by kernel_rfl) ⟨.one (.rfl _ rfl), .one (.rfl _ rfl), trivial⟩ [.box qa1857, .box [cl eI z9, ci z10, ci z11, cl eField z12, ci z13, ci z14, cl eField z15, cl eI z16, cl eI l4, .sl 3 1 0 l5.length, .sl 4 5 0 l6.length], .dead, .arr 1 (eI.els l5), .arr 5 (eValue.els l6), .dead] (by kernel_rfl)) ?_
  refine XW.sub (Sub.killb eI l5 (fr' := qa1859) 1 9 3 [cl eI z9, ci z10, ci z11, cl eField z12, ci z13, ci z14, cl eField z15, cl eI z16, cl eI l4, .sl 3 1 0 l5.length, .sl 4 5 0 l6.length] l5.length (Nat.zero_le _) rfl rfl rfl rfl [.box qa1857, .box [cl eI z9, ci z10, ci z11, cl eField z12, ci z13, ci z14, cl eField z15, cl eI z16, cl eI l4, .sl 6 1 0 l5.length, .sl 4 5 0 l6.length], .dead, .arr 1 (eI.els l5), .arr 5 (eValue.els l6), .dead, .dead] rfl (by kernel_rfl) ⟨.one (.rfl _ rfl), .one (.rfl _ rfl), trivial⟩ [.box qa1857, .box [cl eI z9, ci z10, ci z11, cl eField z12, ci z13, ci z14, cl eField z15, cl eI z16, cl eI l4, cl eI l5, .sl 4 5 0 l6.length], .dead, .dead, .arr 5 (eValue.els l6), .dead, .dead] (by kernel_rfl)) ?_
  obtain ⟨r3, c16, h⟩ := zB h
  obtain ⟨r4, c17, h⟩ := zB h
  obtain ⟨r5, c18, h⟩ := zB h
  refine zw 17 [(43, .one (.sl 4 5 0 l6.length)), (42, .one (.pt 1 0 0 10)), (41, .one (.pt 1 0 0 8)), (40, vq 1), (39, vq 1), (38, vl eI r4), (37, vl eI l5), (36, .one (.pt 1 0 0 9)), (35, .one (.pt 1 0 0 8)), (34, vq 1), (33, vq 1), (32, vl eI r3), (31, vl eI l4), (30, .one (.pt 1 0 0 8)), (29, .one (.pt 1 0 0 8)), (28, vq 1), (27, vq 1), (4, vq 0), (5, vq 1)] ?_ ?_
  ·exact zyg 5 (zya (c_slices_Clip_int_int _ _ c16) (zyv 5 [] [(37, vl eI l5), (36, .one (.pt 1 0 0 9)), (35, .one (.pt 1 0 0 8)), (34, vq 1), (33, vq 1), (32, vl eI r3), (31, vl eI l4), (30, .one (.pt 1 0 0 8)), (29, .one (.pt 1 0 0 8)), (28, vq 1), (27, vq 1), (4, vq 0), (5, vq 1)] (zya (c_slices_Clip_int_int _ _ c17) (zyg 5 zyd))))
  refine XO.sub (Sub.trans (Sub.stale 1 10 4 5 0 l6.length [cl eI z9, ci z10, ci z11, cl eField z12, ci z13, ci z14, cl eField z15, cl eI z16, cl eI l4, cl eI l5, .sl 4 5 0 l6.length] rfl rfl [.box qa1857, .box [cl eI z9, ci z10, ci z11, cl eField z12, ci z13, ci z14, cl eField z15, cl eI z16, cl eI l4, cl eI l5, .sl 7 5 0 l6.length], .dead, .dead, .arr 5 (eValue.els l6), .dead, .dead, .dead] rfl) (Sub.kill (fr' := [(43, vl eValue l6), (42, .one (.pt 1 0 0 10)), (41, .one (.pt 1 0 0 8)), (40, vq 1), (39, vq 1), (38, vl eI r4), (37, vl eI l5), (36, .one (.pt 1 0 0 9)), (35, .one (.pt 1 0 0 8)), (34, vq 1), (33, vq 1), (32, vl eI r3), (31, vl eI l4), (30, .one (.pt 1 0 0 8)), (29, .one (.pt 1 0 0 8)), (28, vq 1), (27, vq 1), (4, vq 0), (5, vq 1)]) 4 (Nat.zero_le _) (by kernel_rfl) ⟨.one (cf_sl eValue l6 rfl rfl rfl), .one (.rfl _ rfl), .one (.rfl _ rfl), .one (.rfl _ rfl), .one (.rfl _ rfl), .one (.rfl _ rfl), .one (.rfl _ rfl), .one (.rfl _ rfl), .one (.rfl _ rfl), .one (.rfl _ rfl), .one (.rfl _ rfl), .one (.rfl _ rfl), .one (.rfl _ rfl), .one (.rfl _ rfl), .one (.rfl _ rfl), .one (.rfl _ rfl), .one (.rfl _ rfl), .one (.rfl _ rfl), .one (.rfl _ rfl), trivial⟩)) ?_
  refine za (c_slices_Clip_api_Value_api_Value _ _ c18) (zg [4, 10] 2 [4] (zd (m14 _ _ (ze ?_))))
  obtain rfl := zj h
  exact zf [.ag [cl eI r3, cl eI r4, cl eValue r5]] (.ag (.cons (.rfl _ rfl) (.cons (.rfl _ rfl) (.cons (.rfl _ rfl) .nil))))
 refine zq fun K4 m4 => zr ?_
 refine zv [4, 10] 2 [2,4,5,11,12] [] [(2, vR [.ro (eI.els p1.leaf.path), pi p1.leaf.type.kind, pi p1.leaf.type.scale, .ro (eField.els p1.leaf.type.fields), pi p1.leaf.df, pi p1.leaf.rep, .ro (eField.els p1.fields), .ro (eI.els p1.pos)]), (4, vq 0), (5, vq 1), (11, vl (eL eValue) p2), (12, vi (((eL eValue).els p2).length : Int))] [.box [.pv (.s (.slice none 0 0)), .pv (.s (.slice none 0 0)), .pv (.s (.slice none 0 0))], .box [cl eI p1.leaf.path, ci p1.leaf.type.kind, ci p1.leaf.type.scale, cl eField p1.leaf.type.fields, ci p1.leaf.df, ci p1.leaf.rep, cl eField p1.fields, cl eI p1.pos, .pv (.s (.slice none 0 0)), .pv (.s (.slice none 0 0)), .pv (.s (.slice none 0 0))]] ?_
 rw [(eL eValue).len p2]
 refine zv [4, 10] 1 [2,4,5,11,12,13] [] [(2, vR (qa1677 p1)), (4, vq 0), (5, vq 1), (11, vl (eL eValue) p2), (12, vi (p2.length : Int)), (13, vi 0)] [.box qa1857, .box (qa1858 p1)] ?_
 refine zd (m4 _ _ (zb 0 ?_))
 refine XW.sub (Sub.listb 1 8 1 (qa1858 p1) rfl rfl [.box qa1857, .box (qa1870 p1), .arr 1 (eI.els [])] rfl) ?_
 refine XW.sub (Sub.listb 1 9 1 (qa1870 p1) rfl rfl [.box qa1857, .box (qa1871 p1), .arr 1 (eI.els []), .arr 1 (eI.els [])] rfl) ?_
 refine XW.sub (Sub.listb 1 10 5 (qa1871 p1) rfl rfl [.box qa1857, .box [cl eI p1.leaf.path, ci p1.leaf.type.kind, ci p1.leaf.type.scale, cl eField p1.leaf.type.fields, ci p1.leaf.df, ci p1.leaf.rep, cl eField p1.fields, cl eI p1.pos, .sl 2 1 0 0, .sl 3 1 0 0, .sl 4 5 0 0], .arr 1 (eI.els []), .arr 1 (eI.els []), .arr 5 (eValue.els [])] rfl) ?_
 refine XW.rounds' BIG (x := cd Tryd.f30 [1,1,0,1,0,0]) (by kernel_rfl) fun Q1 hQ1 => ?_
 have hL1 : ∀ (k1 : Nat) (l1 : List Int) (l2 : List Int) (l3 : List GValue) (z1 : List Int) (z2 : Int) (z3 : Int) (z4 : List GField) (z5 : Int) (z6 : Int) (z7 : List GField) (z8 : List Int) (x1 : Int), column_shred_l1 p1 p2 k1 l1 l2 l3 z1 z2 z3 z4 z5 z6 z7 z8 x1 = some r → XR Tryd.prog 46 0 [] (cd Tryd.f30 [1,1,0,1,0,0]) Q1 k1 [(2, vR (qa1677 p1)), (4, vq 0), (5, vq 1), (11, vl (eL eValue) p2), (12, vi (p2.length : Int)), (13, vi x1)] [.box qa1857, .box [cl eI z1, ci z2, ci z3, cl eField z4, ci z5, ci z6, cl eField z7, cl eI z8, .sl 2 1 0 l1.length, .sl 3 1 0 l2.length, .sl 4 5 0 l3.length], .arr 1 (eI.els l1), .arr 1 (eI.els l2), .arr 5 (eValue.els l3)] := by
  intro k1
  induction k1 with
  | zero => intro l1 l2 l3 z1 z2 z3 z4 z5 z6 z7 z8 x1 h; rw [column_shred_l1.eq_1] at h; cases h
  | succ k1 ih1 =>
   intro l1 l2 l3 z1 z2 z3 z4 z5 z6 z7 z8 x1 h
   rw [column_shred_l1.eq_2] at h
   refine zq fun K5 m5 => zr (zg [4, 10] 1 [2,4,5,11,12,13,14] (zd (m5 _ _ (zq fun K6 m6 => zC h (fun b7 h => ?_) (fun b7 h => ?_)))))
   ·refine zs (m6 _ _ (zq fun K8 m8 => zb 1 (zq fun K9 m9 => ?_)))
    obtain ⟨e1, a10, h⟩ := zB h
    refine zr (zo [4, 10] 3 [2,4,5,7,11,12,13] [[.ro (eValue.els e1)]] [0 ≤ x1 ∧ x1 < (((eL eValue).els p2).length : Int) ∧ elemsOk 1 ((eL eValue).els p2), ((eL eValue).els p2)[x1.toNat]? = some [.ro (eValue.els e1)]] (⟨(eL eValue).inb a10, ((eL eValue).get a10), trivial⟩) (zd (m9 _ _ ?_)))
    obtain ⟨e2, a11, h⟩ := zB h
    obtain ⟨e3, a12, h⟩ := zB h
    obtain ⟨r1, c13, h⟩ := zB h
    refine zr ?_
    refine zp [4, 10] 8 [2,4,5,11,12,13,17,24] [(qa1677 p1), [pi e2], [pi e3.kind, pi e3.n, pi e3.scale, .s (.string e3.s), .ro (eValue.els e3.items)]] [(2, vR (qa1677 p1)), (4, vq 0), (5, vq 1), (11, vl (eL eValue) p2), (12, vi (p2.length : Int)), (13, vi x1), (17, vq 1), (24, .ag (qa1518 e3))] [.box qa1857, .box [cl eI z1, ci z2, ci z3, cl eField z4, ci z5, ci z6, cl eField z7, cl eI z8, .sl 2 1 0 l1.length, .sl 3 1 0 l2.length, .sl 4 5 0 l3.length], .arr 1 (eI.els l1), .arr 1 (eI.els l2), .arr 5 (eValue.els l3)] [([(qa1677 p1)] : List (List PV))[0]? = some (qa1677 p1), 0 ≤ (0 : Int) ∧ (0 : Int) < ((eI.els p1.pos).length : Int) ∧ elemsOk 1 (eI.els p1.pos), (eI.els p1.pos)[(0 : Int).toNat]? = some [pi e2], 0 ≤ e2 ∧ e2 < ((eValue.els e1).length : Int) ∧ elemsOk 5 (eValue.els e1), (eValue.els e1)[e2.toNat]? = some [pi e3.kind, pi e3.n, pi e3.scale, .s (.string e3.s), .ro (eValue.els e3.items)]] (⟨rfl, eI.inb a11, (eI.get a11), eValue.inb a12, ((eValue.get a12).trans (by cases e3; rfl)), trivial⟩) ?_
    refine XO.calx 58 [vq 0, .ag (qa1518 e3), vi 0, vi 0, vi 0, vi 0] [.box [cl eI z1, ci z2, ci z3, cl eField z4, ci z5, ci z6, cl eField z7, cl eI z8, .sl 1 1 0 l1.length, .sl 2 1 0 l2.length, .sl 3 5 0 l3.length], .arr 1 (eI.els l1), .arr 1 (eI.els l2), .arr 5 (eValue.els l3)] [.box [cl eI r1.2.p.leaf.path, ci r1.2.p.leaf.type.kind, ci r1.2.p.leaf.type.scale, cl eField r1.2.p.leaf.type.fields, ci r1.2.p.leaf.df, ci r1.2.p.leaf.rep, cl eField r1.2.p.fields, cl eI r1.2.p.pos, .sl 1 1 0 r1.2.c.reps.length, .sl 2 1 0 r1.2.c.defs.length, .sl 3 5 0 r1.2.c.values.length], .arr 1 (eI.els r1.2.c.reps), .arr 1 (eI.els r1.2.c.defs), .arr 5 (eValue.els r1.2.c.values)] [1, 2, 3] (.tp []) [1, 2, 3, 4] [2, 3, 4] [(25, .tp []), (2, vR (qa1677 p1)), (4, vq 0), (5, vq 1), (11, vl (eL eValue) p2), (12, vi (p2.length : Int)), (13, vi x1), (17, vq 1), (24, .ag (qa1518 e3))] [.box qa1857, .box [cl eI r1.2.p.leaf.path, ci r1.2.p.leaf.type.kind, ci r1.2.p.leaf.type.scale, cl eField r1.2.p.leaf.type.fields, ci r1.2.p.leaf.df, ci r1.2.p.leaf.rep, cl eField r1.2.p.fields, cl eI r1.2.p.pos, .sl 2 1 0 r1.2.c.reps.length, .sl 3 1 0 r1.2.c.defs.length, .sl 4 5 0 r1.2.c.values.length], .arr 1 (eI.els r1.2.c.reps), .arr 1 (eI.els r1.2.c.defs), .arr 5 (eValue.els r1.2.c.values)] (by kernel_rfl) (c_column_shredder_put BIG _ _ _ _ _ _ _ c13) (by kernel_rfl) (by kernel_rfl) (by kernel_rfl) (by kernel_rfl) (by kernel_rfl) (by kernel_rfl) (by kernel_rfl) ?_
    exact zd (m8 _ _ (zr (zg [4, 10] 2 [2,4,5,11,12,13] (zd (XR.sub (zk [2,4,5,11,12,13]) (ih1 r1.2.c.reps r1.2.c.defs r1.2.c.values r1.2.p.leaf.path r1.2.p.leaf.type.kind r1.2.p.leaf.type.scale r1.2.p.leaf.type.fields r1.2.p.leaf.df r1.2.p.leaf.rep r1.2.p.fields r1.2.p.pos (i64.wrap (x1 + (1 : Int))) h))))))
   ·exact zx 0 (hQ1 _ _ _ (j1 l1 l2 l3 z1 z2 z3 z4 z5 z6 z7 z8 h _ _ (zk [4,5])))
 exact XR.sub (zk [2,4,5,11,12,13]) (hL1 BIG [] [] [] p1.leaf.path p1.leaf.type.kind p1.leaf.type.scale p1.leaf.type.fields p1.leaf.df p1.leaf.rep p1.fields p1.pos (0 : Int) h)
def slices_Clip_api_Column_api_Column (p1 : (List GColumn)) : Option (List GColumn) := grd (0 ≤ (0 : Int) ∧ (0 : Int) ≤ (p1.length : Int) ∧ (p1.length : Int) ≤ (p1.length : Int) ∧ (p1.length : Int) ≤ (p1.length : Int)) <| some ((p1.drop (0 : Int).toNat).take ((p1.length : Int).toNat - (0 : Int).toNat))
theorem c_slices_Clip_api_Column_api_Column (p1 : (List GColumn)) (r : (List GColumn)) (h : slices_Clip_api_Column_api_Column p1 = some r) : PC Tryd.prog 31 [vl eColumn p1] (vl eColumn r) := by
 unfold slices_Clip_api_Column_api_Column at h
 refine zF 9 Tryd.f31 (zq fun K1 m1 => zr (zg [] 1 [0] (zd (m1 _ _ (zq fun K2 m2 => ?_)))))
 obtain ⟨g3, h⟩ := zG h
 refine zr (zv [] 3 [0,3,5] [] [(0, vl eColumn p1), (3, vl eColumn p1), (5, vi ((eColumn.els p1).length : Int))] [] ?_)
 rw [eColumn.len p1]
 refine zv [] 2 [3,5,7] [] [(3, vl eColumn p1), (5, vi (p1.length : Int)), (7, vi ((eColumn.els p1).length : Int))] [] ?_
 rw [eColumn.len p1]
 refine zp [] 1 [8] [] [(8, .one (.pv (.ro (((eColumn.els p1).drop (0 : Int).toNat).take ((p1.length : Int).toNat - (0 : Int).toNat)))))] [] [(0 ≤ (0 : Int) ∧ (0 : Int) ≤ (p1.length : Int) ∧ (p1.length : Int) ≤ (p1.length : Int) ∧ (p1.length : Int) ≤ ((eColumn.els p1).length : Int)) ∧ elemsOk 3 (eColumn.els p1)] (⟨eColumn.cutMOk g3, trivial⟩) ?_
 rw [show ((eColumn.els p1).drop (0 : Int).toNat).take ((p1.length : Int).toNat - (0 : Int).toNat) = eColumn.els ((p1.drop (0 : Int).toNat).take ((p1.length : Int).toNat - (0 : Int).toNat)) from eColumn.cut _ _ _]
 refine zg [] 1 [2] (zd (m2 _ _ (ze ?_)))
 obtain rfl := zj h
 exact zf [vl eColumn ((p1.drop (0 : Int).toNat).take ((p1.length : Int).toNat - (0 : Int).toNat))] (.one (.rfl _ rfl))
def column_Shred_j1 (l2 : List GColumn) : Option ((List GColumn) × Int) := bnd (slices_Clip_api_Column_api_Column l2) fun r4 => some (r4, (0 : Int))
def column_Shred_l1 (p2 : (List (List GValue))) (r2 : (List GPath)) : Nat → List GColumn → Int → Option ((List GColumn) × Int)
 | 0, _, _ => none
 | k1 + 1, l1, x1 => ift (decide (x1 < (r2.length : Int))) (bnd (at? r2 x1) fun e1 => bnd (column_shred e1 p2) fun r3 => grd (l1.length + 1 ≤ 4294967296) <| (column_Shred_l1 p2 r2 k1) (l1 ++ [r3]) (i64.wrap (x1 + (1 : Int)))) (column_Shred_j1 l1)
def column_Shred (p1 : (List GField)) (p2 : (List (List GValue))) : Option ((List GColumn) × Int) := bnd (column_CheckRows p1 p2) fun r1 => ift (r1 != (0 : Int)) (some ([], r1)) (bnd (column_paths p1) fun r2 => column_Shred_l1 p2 r2 BIG [] (0 : Int))
abbrev qa1909 (e1 : GPath) : List CV := [cl eI e1.leaf.path, ci e1.leaf.type.kind, ci e1.leaf.type.scale, cl eField e1.leaf.type.fields, ci e1.leaf.df, ci e1.leaf.rep, cl eField e1.fields, cl eI e1.pos]
theorem c_column_Shred (p1 : (List GField)) (p2 : (List (List GValue))) (r : ((List GColumn) × Int)) (h : column_Shred p1 p2 = some r) : PC Tryd.prog 12 [vl eField p1, vl (eL eValue) p2] (.tp [vl eColumn r.1, vi r.2]) := by
 unfold column_Shred at h
 refine zF 32 Tryd.f12 (zq fun K1 m1 => zr (zg [9] 2 [0,1] (zd (m1 _ _ (zq fun K2 m2 => zq fun K3 m3 => ?_)))))
 obtain ⟨r1, c4, h⟩ := zB h
 refine zr (zg [9] 2 [0,1,10,11] (zl 8 [vl eField p1, vl (eL eValue) p2] (vi r1) [(12, vi r1), (0, vl eField p1), (1, vl (eL eValue) p2), (10, vl eField p1), (11, vl (eL eValue) p2)] (c_column_CheckRows _ _ _ c4) (zg [9] 1 [0,1,6] (zd (m3 _ _ (zq fun K5 m5 => zr ?_))))))
 refine zg [9] 2 [0,1,6,14] (zd (m5 _ _ (zC h (fun b6 h => ?_) (fun b6 h => ?_))))
 ·refine zq fun K7 m7 => zr (zv [9] 3 [4,5] [] [(4, .one (.pv (.s (.slice none 0 0)))), (5, vi r1)] [] (zd (m7 _ _ (ze ?_))))
  obtain rfl := zj h
  exact zf [.one (.pv (.s (.slice none 0 0))), vi r1] (.tpc (.one (.nl)) (.tpc (.one (.rfl _ rfl)) (.tp0)))
 ·refine zs (m2 _ _ (zq fun K8 m8 => zr (zg [9] 1 [0,1,7] (zd (m8 _ _ (zq fun K9 m9 => ?_))))))
  have j1 : ∀ (l2 : List GColumn), column_Shred_j1 l2 = some r → ∀ w0 w1, Sub 32 0 [] w0 w1 [(7, .one (.sl 0 3 0 l2.length))] [.arr 3 (eColumn.els l2)] → K9 w0 w1 := by
   intro l2 h w0 w1 hS
   unfold column_Shred_j1 at h
   refine m9 _ _ (XW.sub hS ?_)
   refine zq fun K20 m20 => ?_
   obtain ⟨r4, c21, h⟩ := zB h
   refine zr (zv [9] 1 [30] [] [(30, .one (.sl 0 3 0 l2.length))] [.arr 3 (eColumn.els l2)] (XO.sub (Sub.kill (fr' := [(30, vl eColumn l2)]) 0 (Nat.zero_le _) (by kernel_rfl) ⟨.one (cf_sl eColumn l2 rfl rfl rfl), trivial⟩) (za (c_slices_Clip_api_Column_api_Column _ _ c21) (zg [9] 2 [4,5] (zd (m20 _ _ (ze ?_)))))))
   obtain rfl := zj h
   exact zf [vl eColumn r4, vi 0] (.tpc (.one (.rfl _ rfl)) (.tpc (.one (.rfl _ rfl)) (.tp0)))
  refine zq fun K10 m10 => ?_
  obtain ⟨r2, c11, h⟩ := zB h
  refine zr (zg [9] 1 [1,7,16] (zl 22 [vl eField p1] (vl ePath r2) [(17, vl ePath r2), (1, vl (eL eValue) p2), (7, .one (.pv (.s (.slice none 0 0)))), (16, vl eField p1)] (c_column_paths _ _ c11) (zv [9] 1 [1,7,17,18] [] [(1, vl (eL eValue) p2), (7, .one (.pv (.s (.slice none 0 0)))), (17, vl ePath r2), (18, vi ((ePath.els r2).length : Int))] [] ?_)))
  rw [ePath.len r2]
  refine zv [9] 1 [1,7,17,18,19] [] [(1, vl (eL eValue) p2), (7, .one (.pv (.s (.slice none 0 0)))), (17, vl ePath r2), (18, vi (r2.length : Int)), (19, vi 0)] [] (zd (m10 _ _ (zb 0 (XW.sub (Sub.list (t := 7) (sz := 3) rfl) (XW.rounds' BIG (x := cd Tryd.f12 [1,1,1,0,1,0,0]) (by kernel_rfl) fun Q1 hQ1 => ?_)))))
  have hL1 : ∀ (k1 : Nat) (l1 : List GColumn) (x1 : Int), column_Shred_l1 p2 r2 k1 l1 x1 = some r → XR Tryd.prog 32 0 [] (cd Tryd.f12 [1,1,1,0,1,0,0]) Q1 k1 [(1, vl (eL eValue) p2), (7, .one (.sl 0 3 0 l1.length)), (17, vl ePath r2), (18, vi (r2.length : Int)), (19, vi x1)] [.arr 3 (eColumn.els l1)] := by
   intro k1
   induction k1 with
   | zero => intro l1 x1 h; rw [column_Shred_l1.eq_1] at h; cases h
   | succ k1 ih1 =>
    intro l1 x1 h
    rw [column_Shred_l1.eq_2] at h
    refine zq fun K12 m12 => zr (zg [9] 1 [1,7,17,18,19,20] (zd (m12 _ _ (zq fun K13 m13 => zC h (fun b14 h => ?_) (fun b14 h => ?_)))))
    ·refine zs (m13 _ _ (zq fun K15 m15 => zb 1 (zq fun K16 m16 => ?_)))
     obtain ⟨e1, a17, h⟩ := zB h
     refine zr (zo [9] 4 [1,7,9,17,18,19] [(qa1677 e1)] [0 ≤ x1 ∧ x1 < ((ePath.els r2).length : Int) ∧ elemsOk 8 (ePath.els r2), (ePath.els r2)[x1.toNat]? = some (qa1677 e1)] (⟨ePath.inb a17, (ePath.get a17), trivial⟩) (zd (m16 _ _ ?_)))
     obtain ⟨r3, c18, h⟩ := zB h
     obtain ⟨g19, h⟩ := zG h
     refine zr (zv [9] 3 [1,17,18,19,23,24,25] [] [(1, vl (eL eValue) p2), (17, vl ePath r2), (18, vi (r2.length : Int)), (19, vi x1), (23, .one (.sl 0 3 0 l1.length)), (24, .ag (qa1909 e1)), (25, vl (eL eValue) p2)] [.arr 3 (eColumn.els l1), .box (qa1909 e1)] (za (c_column_shred _ _ _ c18) ?_))
     refine zp [9] 2 [1,17,18,19,28] [] [(1, vl (eL eValue) p2), (17, vl ePath r2), (18, vi (r2.length : Int)), (19, vi x1), (28, .one (.sl 0 3 0 (l1.length + (eColumn.els [r3]).length)))] [.arr 3 (eColumn.els l1 ++ eColumn.els [r3]), .box [cl eI e1.leaf.path, ci e1.leaf.type.kind, ci e1.leaf.type.scale, cl eField e1.leaf.type.fields, ci e1.leaf.df, ci e1.leaf.rep, cl eField e1.fields, cl eI e1.pos]] [elemsOk 3 (eColumn.els [r3]), l1.length = (eColumn.els l1).length, l1.length + (eColumn.els [r3]).length ≤ 4294967296] (⟨eColumn.ok _, (eColumn.len l1).symm, g19, trivial⟩) ?_
     rw [show l1.length + (eColumn.els [r3]).length = (l1 ++ [r3]).length from eColumn.lapp _ _]
     rw [show eColumn.els l1 ++ eColumn.els [r3] = eColumn.els (l1 ++ [r3]) from eColumn.app2 _ _]
     refine zg [9] 1 [1,7,17,18,19] (zd (m15 _ _ (zr (zg [9] 2 [1,7,17,18,19] (zd ?_)))))
     exact XR.sub (Sub.trans (Sub.pick (fr' := [(1, vl (eL eValue) p2), (7, .one (.sl 0 3 0 ((l1 ++ [r3]).length))), (17, vl ePath r2), (18, vi (r2.length : Int)), (19, vi (i64.wrap (x1 + (1 : Int))))]) [1,7,17,18,19] (by kernel_rfl)) (Sub.take (fr' := [(1, vl (eL eValue) p2), (7, .one (.sl 0 3 0 ((l1 ++ [r3]).length))), (17, vl ePath r2), (18, vi (r2.length : Int)), (19, vi (i64.wrap (x1 + (1 : Int))))]) 1 (Nat.zero_le _) (by kernel_rfl) (by kernel_rfl))) (ih1 (l1 ++ [r3]) (i64.wrap (x1 + (1 : Int))) h)
    ·exact zx 0 (hQ1 _ _ _ (j1 l1 h _ _ (zk [7])))
  exact XR.sub (zk [1,7,17,18,19]) (hL1 BIG [] (0 : Int) h)
def law2_shreds_j1 (x1 : Bool) : Option Bool := some x1
def law2_shreds : Option Bool := bnd (law2_plain) fun r1 => bnd (law2_number (5 : Int)) fun r2 => bnd (column_Shred r1 ([[r2]])) fun r3 => ift (r3.2 == (0 : Int)) (ift ((r3.1.length : Int) == (1 : Int)) (bnd (at? r3.1 (0 : Int)) fun e1 => law2_shreds_j1 ((e1.values.length : Int) == (1 : Int))) (law2_shreds_j1 false)) (law2_shreds_j1 false)
theorem c_law2_shreds (r : Bool) (h : law2_shreds = some r) : PC Tryd.prog 5 [] (vb r) := by
 unfold law2_shreds at h
 refine zF 26 Tryd.f5 (zq fun K1 m1 => zr (zg [] 1 [] (zd (m1 _ _ (zq fun K2 m2 => ?_)))))
 obtain ⟨r1, c3, h⟩ := zB h
 obtain ⟨r2, c4, h⟩ := zB h
 obtain ⟨r3, c5, h⟩ := zB h
 refine zr (za (c_law2_plain _ c3) (zl 20 [vi 5] (.ag [ci r2.kind, ci r2.n, ci r2.scale, cst r2.s, cl eValue r2.items]) [(5, .ag [ci r2.kind, ci r2.n, ci r2.scale, cst r2.s, cl eValue r2.items]), (4, vl eField r1)] (c_law2_number _ _ c4) (zv [] 1 [4,6] [] [(4, vl eField r1), (6, .one (.pv (.ro [[pi r2.kind, pi r2.n, pi r2.scale, .s (.string r2.s), .ro (eValue.els r2.items)]])))] [] ?_)))
 rw [show ([[pi r2.kind, pi r2.n, pi r2.scale, .s (.string r2.s), .ro (eValue.els r2.items)]] : List (List PV)) = eValue.els [r2] from by cases r2; rfl]
 refine zg [] 1 [4,7] (za (c_column_Shred _ _ _ c5) (zv [] 5 [1,2] [] [(1, vl eColumn r3.1), (2, vi r3.2)] [] (zd (m2 _ _ (zq fun K6 m6 => ?_)))))
 have j1 : ∀ (x1 : Bool), law2_shreds_j1 x1 = some r → ∀ w0 w1, Sub 26 0 [] w0 w1 [(0, vb x1)] [] → K6 w0 w1 := by
  intro x1 h w0 w1 hS
  unfold law2_shreds_j1 at h
  refine m6 _ _ (XW.sub hS ?_)
  refine ze ?_
  obtain rfl := zj h
  exact zf [vb x1] (.one (.rfl _ rfl))
 rcases zW h with ⟨b7, h⟩ | ⟨b7, h⟩
 ·rcases zW h with ⟨b8, h⟩ | ⟨b8, h⟩
  ·obtain ⟨e1, a9, h⟩ := zB h
   refine zr (zg [] 3 [1,13] (zt 13 b7 (zv [] 2 [1,13,15] [] [(1, vl eColumn r3.1), (13, vb true), (15, vi ((eColumn.els r3.1).length : Int))] [] ?_)))
   rw [eColumn.len r3.1]
   refine zg [] 3 [1,18] (zt 18 b8 (zp [] 5 [18,23] [[.ro (eI.els e1.reps), .ro (eI.els e1.defs), .ro (eValue.els e1.values)]] [(18, vb true), (23, vi ((eValue.els e1.values).length : Int))] [] [0 ≤ (0 : Int) ∧ (0 : Int) < ((eColumn.els r3.1).length : Int) ∧ elemsOk 3 (eColumn.els r3.1), (eColumn.els r3.1)[(0 : Int).toNat]? = some [.ro (eI.els e1.reps), .ro (eI.els e1.defs), .ro (eValue.els e1.values)]] (⟨eColumn.inb a9, (eColumn.get a9), trivial⟩) ?_))
   rw [eValue.len e1.values]
   exact zg [] 3 [0] (zd (j1 ((e1.values.length : Int) == (1 : Int)) h _ _ (zk [0])))
  ·refine zr (zg [] 3 [1,13] (zt 13 b7 (zv [] 2 [1,13,15] [] [(1, vl eColumn r3.1), (13, vb true), (15, vi ((eColumn.els r3.1).length : Int))] [] ?_)))
   rw [eColumn.len r3.1]
   exact zg [] 3 [1,18] (zt 18 b8 (zg [] 8 [0] (zd (j1 false h _ _ (zk [0])))))
 ·exact zr (zg [] 3 [1,13] (zt 13 b7 (zg [] 13 [0] (zd (j1 false h _ _ (zk [0]))))))
def slices_Clone_int_int (p1 : (List Int)) : Option (List Int) := grd (p1 ≠ []) <| grd (([] : List Int).length + p1.length ≤ 4294967296) <| some (([] : List Int) ++ p1)
theorem c_slices_Clone_int_int (p1 : (List Int)) (r : (List Int)) (h : slices_Clone_int_int p1 = some r) : MX Tryd.prog 24 [vl eI p1] [] [] (.one (.sl 0 1 0 r.length)) [.arr 1 (eI.els r)] := by
 unfold slices_Clone_int_int at h
 refine MX.of 0 1 rfl (n := 8) (fn := Tryd.f24) (c := cd Tryd.f24 []) (by kernel_rfl) (by kernel_rfl) (by kernel_rfl) (Nat.le_of_ble_eq_true rfl) rfl (zq fun K1 m1 => zr (zg [5] 1 [0] (zd (m1 _ _ (zq fun K2 m2 => zq fun K3 m3 => ?_)))))
 obtain ⟨g4, h⟩ := zG h
 refine zr (zo [5] 2 [0,4] [] [eI.els p1 ≠ []] (⟨eI.ne g4, trivial⟩) (zd (m3 _ _ (zc false (fun hx => by cases hx) (fun _ => ?_)))))
 refine zs (m2 _ _ (zq fun K5 m5 => ?_))
 obtain ⟨g6, h⟩ := zG h
 refine zr (zp [5] 3 [7] [] [(7, .one (.sl 0 1 0 (0 + (eI.els p1).length)))] [.arr 1 (eI.els [] ++ eI.els p1)] [elemsOk 1 (eI.els p1), 0 = (eI.els []).length, 0 + (eI.els p1).length ≤ 4294967296] (⟨eI.ok _, (by simp [Enc.len]), (by simp [Enc.len] at * <;> omega), trivial⟩) ?_)
 rw [show 0 + (eI.els p1).length = (([] : List Int) ++ p1).length from (by simp [Enc.len] <;> omega)]
 rw [show eI.els [] ++ eI.els p1 = eI.els (([] : List Int) ++ p1) from eI.app2 _ _]
 refine zv [5] 1 [2] [] [(2, .one (.sl 0 1 0 ((([] : List Int) ++ p1).length)))] [.arr 1 (eI.els (([] : List Int) ++ p1))] (zd (m5 _ _ (ze ?_)))
 obtain rfl := zj h
 exact FinM.fin (.inr rfl) [] [.one (.sl 0 1 0 ((([] : List Int) ++ p1).length))] [] (by kernel_rfl) trivial (by kernel_rfl) (by kernel_rfl) (.one (.rfl _ rfl))
def slices_Clip_api_Leaf_api_Leaf (p1 : (List GLeaf)) : Option (List GLeaf) := grd (0 ≤ (0 : Int) ∧ (0 : Int) ≤ (p1.length : Int) ∧ (p1.length : Int) ≤ (p1.length : Int) ∧ (p1.length : Int) ≤ (p1.length : Int)) <| some ((p1.drop (0 : Int).toNat).take ((p1.length : Int).toNat - (0 : Int).toNat))
theorem c_slices_Clip_api_Leaf_api_Leaf (p1 : (List GLeaf)) (r : (List GLeaf)) (h : slices_Clip_api_Leaf_api_Leaf p1 = some r) : PC Tryd.prog 25 [vl eLeaf p1] (vl eLeaf r) := by
 unfold slices_Clip_api_Leaf_api_Leaf at h
 refine zF 9 Tryd.f25 (zq fun K1 m1 => zr (zg [] 1 [0] (zd (m1 _ _ (zq fun K2 m2 => ?_)))))
 obtain ⟨g3, h⟩ := zG h
 refine zr (zv [] 3 [0,3,5] [] [(0, vl eLeaf p1), (3, vl eLeaf p1), (5, vi ((eLeaf.els p1).length : Int))] [] ?_)
 rw [eLeaf.len p1]
 refine zv [] 2 [3,5,7] [] [(3, vl eLeaf p1), (5, vi (p1.length : Int)), (7, vi ((eLeaf.els p1).length : Int))] [] ?_
 rw [eLeaf.len p1]
 refine zp [] 1 [8] [] [(8, .one (.pv (.ro (((eLeaf.els p1).drop (0 : Int).toNat).take ((p1.length : Int).toNat - (0 : Int).toNat)))))] [] [(0 ≤ (0 : Int) ∧ (0 : Int) ≤ (p1.length : Int) ∧ (p1.length : Int) ≤ (p1.length : Int) ∧ (p1.length : Int) ≤ ((eLeaf.els p1).length : Int)) ∧ elemsOk 6 (eLeaf.els p1)] (⟨eLeaf.cutMOk g3, trivial⟩) ?_
 rw [show ((eLeaf.els p1).drop (0 : Int).toNat).take ((p1.length : Int).toNat - (0 : Int).toNat) = eLeaf.els ((p1.drop (0 : Int).toNat).take ((p1.length : Int).toNat - (0 : Int).toNat)) from eLeaf.cut _ _ _]
 refine zg [] 1 [2] (zd (m2 _ _ (ze ?_)))
 obtain rfl := zj h
 exact zf [vl eLeaf ((p1.drop (0 : Int).toNat).take ((p1.length : Int).toNat - (0 : Int).toNat))] (.one (.rfl _ rfl))
def column_Leaves_j1 (l2 : List GLeaf) : Option ((List GLeaf) × Int) := bnd (slices_Clip_api_Leaf_api_Leaf l2) fun r5 => some (r5, (0 : Int))
def column_Leaves_l1 (r2 : (List GPath)) : Nat → List GLeaf → Int → Option ((List GLeaf) × Int)
 | 0, _, _ => none
 | k1 + 1, l1, x1 => ift (decide (x1 < (r2.length : Int))) (bnd (at? r2 x1) fun e1 => bnd (slices_Clone_int_int e1.leaf.path) fun r3 => bnd (slices_Clip_int_int r3) fun r4 => grd (l1.length + 1 ≤ 4294967296) <| (column_Leaves_l1 r2 k1) (l1 ++ [(GLeaf.mk r4 e1.leaf.type e1.leaf.df e1.leaf.rep)]) (i64.wrap (x1 + (1 : Int)))) (column_Leaves_j1 l1)
def column_Leaves (p1 : (List GField)) : Option ((List GLeaf) × Int) := bnd (value_CheckSchema p1) fun r1 => ift (r1 != (0 : Int)) (some ([], r1)) (bnd (column_paths p1) fun r2 => column_Leaves_l1 r2 BIG [] (0 : Int))
abbrev qa1934 (r2 : (List GPath)) (l1 : List GLeaf) (x1 : Int) (e1 : GPath) (r4 : (List Int)) : Fr := [(5, .one (.sl 0 6 0 ((l1 ++ [(GLeaf.mk r4 e1.leaf.type e1.leaf.df e1.leaf.rep)]).length))), (15, vl ePath r2), (16, vi (r2.length : Int)), (17, vi (i64.wrap (x1 + (1 : Int))))]
theorem c_column_Leaves (p1 : (List GField)) (r : ((List GLeaf) × Int)) (h : column_Leaves p1 = some r) : PC Tryd.prog 6 [vl eField p1] (.tp [vl eLeaf r.1, vi r.2]) := by
 unfold column_Leaves at h
 refine zF 35 Tryd.f6 (zq fun K1 m1 => zr (zg [7, 8] 2 [0] (zd (m1 _ _ (zq fun K2 m2 => zq fun K3 m3 => ?_)))))
 obtain ⟨r1, c4, h⟩ := zB h
 refine zr (zg [7, 8] 1 [0,9] (zl 21 [vl eField p1] (vi r1) [(10, vi r1), (0, vl eField p1), (9, vl eField p1)] (c_value_CheckSchema _ _ c4) (zg [7, 8] 1 [0,4] (zd (m3 _ _ (zq fun K5 m5 => zr ?_))))))
 refine zg [7, 8] 2 [0,4,12] (zd (m5 _ _ (zC h (fun b6 h => ?_) (fun b6 h => ?_))))
 ·refine zq fun K7 m7 => zr (zv [7, 8] 3 [2,3] [] [(2, .one (.pv (.s (.slice none 0 0)))), (3, vi r1)] [] (zd (m7 _ _ (ze ?_))))
  obtain rfl := zj h
  exact zf [.one (.pv (.s (.slice none 0 0))), vi r1] (.tpc (.one (.nl)) (.tpc (.one (.rfl _ rfl)) (.tp0)))
 ·refine zs (m2 _ _ (zq fun K8 m8 => zr (zg [7, 8] 1 [0,5] (zd (m8 _ _ (zq fun K9 m9 => ?_))))))
  have j1 : ∀ (l2 : List GLeaf), column_Leaves_j1 l2 = some r → ∀ w0 w1, Sub 35 0 [] w0 w1 [(5, .one (.sl 0 6 0 l2.length))] [.arr 6 (eLeaf.els l2)] → K9 w0 w1 := by
   intro l2 h w0 w1 hS
   unfold column_Leaves_j1 at h
   refine m9 _ _ (XW.sub hS ?_)
   refine zq fun K23 m23 => ?_
   obtain ⟨r5, c24, h⟩ := zB h
   refine zr (zv [7, 8] 1 [33] [] [(33, .one (.sl 0 6 0 l2.length))] [.arr 6 (eLeaf.els l2)] (XO.sub (Sub.kill (fr' := [(33, vl eLeaf l2)]) 0 (Nat.zero_le _) (by kernel_rfl) ⟨.one (cf_sl eLeaf l2 rfl rfl rfl), trivial⟩) (za (c_slices_Clip_api_Leaf_api_Leaf _ _ c24) (zg [7, 8] 2 [2,3] (zd (m23 _ _ (ze ?_)))))))
   obtain rfl := zj h
   exact zf [vl eLeaf r5, vi 0] (.tpc (.one (.rfl _ rfl)) (.tpc (.one (.rfl _ rfl)) (.tp0)))
  refine zq fun K10 m10 => ?_
  obtain ⟨r2, c11, h⟩ := zB h
  refine zr (zg [7, 8] 1 [5,14] (zl 22 [vl eField p1] (vl ePath r2) [(15, vl ePath r2), (5, .one (.pv (.s (.slice none 0 0)))), (14, vl eField p1)] (c_column_paths _ _ c11) (zv [7, 8] 1 [5,15,16] [] [(5, .one (.pv (.s (.slice none 0 0)))), (15, vl ePath r2), (16, vi ((ePath.els r2).length : Int))] [] ?_)))
  rw [ePath.len r2]
  refine zv [7, 8] 1 [5,15,16,17] [] [(5, .one (.pv (.s (.slice none 0 0)))), (15, vl ePath r2), (16, vi (r2.length : Int)), (17, vi 0)] [] (zd (m10 _ _ (zb 0 (XW.sub (Sub.list (t := 5) (sz := 6) rfl) (XW.rounds' BIG (x := cd Tryd.f6 [1,1,1,0,1,0,0]) (by kernel_rfl) fun Q1 hQ1 => ?_)))))
  have hL1 : ∀ (k1 : Nat) (l1 : List GLeaf) (x1 : Int), column_Leaves_l1 r2 k1 l1 x1 = some r → XR Tryd.prog 35 0 [] (cd Tryd.f6 [1,1,1,0,1,0,0]) Q1 k1 [(5, .one (.sl 0 6 0 l1.length)), (15, vl ePath r2), (16, vi (r2.length : Int)), (17, vi x1)] [.arr 6 (eLeaf.els l1)] := by
   intro k1
   induction k1 with
   | zero => intro l1 x1 h; rw [column_Leaves_l1.eq_1] at h; cases h
   | succ k1 ih1 =>
    intro l1 x1 h
    rw [column_Leaves_l1.eq_2] at h
    refine zq fun K12 m12 => zr (zg [7, 8] 1 [5,15,16,17,18] (zd (m12 _ _ (zq fun K13 m13 => zC h (fun b14 h => ?_) (fun b14 h => ?_)))))
    ·refine zs (m13 _ _ (zq fun K15 m15 => zb 1 (zq fun K16 m16 => ?_)))
     obtain ⟨e1, a17, h⟩ := zB h
     refine zr (zo [7, 8] 4 [5,7,15,16,17] [(qa1677 e1)] [0 ≤ x1 ∧ x1 < ((ePath.els r2).length : Int) ∧ elemsOk 8 (ePath.els r2), (ePath.els r2)[x1.toNat]? = some (qa1677 e1)] (⟨ePath.inb a17, (ePath.get a17), trivial⟩) (zd (m16 _ _ ?_)))
     refine zq fun K18 m18 => zr (zv [7, 8] 4 [5,8,15,16,17] [] [(5, .one (.sl 0 6 0 l1.length)), (8, vq 2), (15, vl ePath r2), (16, vi (r2.length : Int)), (17, vi x1)] [.arr 6 (eLeaf.els l1), .box (qa1909 e1), .box (qa1683 e1)] (zd (m18 _ _ (zq fun K19 m19 => ?_))))
     obtain ⟨r3, c20, h⟩ := zB h
     obtain ⟨r4, c21, h⟩ := zB h
     refine zr (zv [7, 8] 2 [5,8,15,16,17,24] [] [(5, .one (.sl 0 6 0 l1.length)), (8, vq 2), (15, vl ePath r2), (16, vi (r2.length : Int)), (17, vi x1), (24, vl eI e1.leaf.path)] [.arr 6 (eLeaf.els l1), .box (qa1909 e1), .box (qa1683 e1)] ?_)
     refine XO.calx 24 [vl eI e1.leaf.path] [] [.arr 1 (eI.els r3)] [] (.one (.sl 0 1 0 r3.length)) [] [] [(25, .one (.sl 3 1 0 r3.length)), (5, .one (.sl 0 6 0 l1.length)), (8, vq 2), (15, vl ePath r2), (16, vi (r2.length : Int)), (17, vi x1), (24, vl eI e1.leaf.path)] [.arr 6 (eLeaf.els l1), .box (qa1909 e1), .box (qa1683 e1), .arr 1 (eI.els r3)] (by kernel_rfl) (c_slices_Clone_int_int _ _ c20) (by kernel_rfl) (by kernel_rfl) (by kernel_rfl) (by kernel_rfl) (by kernel_rfl) (by kernel_rfl) (by kernel_rfl) ?_
     refine XO.sub (Sub.kill (fr' := [(25, vl eI r3), (5, .one (.sl 0 6 0 l1.length)), (8, vq 2), (15, vl ePath r2), (16, vi (r2.length : Int)), (17, vi x1), (24, vl eI e1.leaf.path)]) 3 (Nat.zero_le _) (by kernel_rfl) ⟨.one (cf_sl eI r3 rfl rfl rfl), .one (.rfl _ rfl), .one (.rfl _ rfl), .one (.rfl _ rfl), .one (.rfl _ rfl), .one (.rfl _ rfl), .one (.rfl _ rfl), trivial⟩) (za (c_slices_Clip_int_int _ _ c21) (zg [7, 8] 2 [5,8,15,16,17] (zd (m19 _ _ ?_))))
     obtain ⟨g22, h⟩ := zG h
     refine zr ?_
     refine zp [7, 8] 4 [15,16,17,31] [] [(15, vl ePath r2), (16, vi (r2.length : Int)), (17, vi x1), (31, .one (.sl 0 6 0 (l1.length + (eLeaf.els [(GLeaf.mk r4 e1.leaf.type e1.leaf.df e1.leaf.rep)]).length)))] [.arr 6 (eLeaf.els l1 ++ eLeaf.els [(GLeaf.mk r4 e1.leaf.type e1.leaf.df e1.leaf.rep)]), .box [cl eI e1.leaf.path, ci e1.leaf.type.kind, ci e1.leaf.type.scale, cl eField e1.leaf.type.fields, ci e1.leaf.df, ci e1.leaf.rep, cl eField e1.fields, cl eI e1.pos], .box [cl eI r4, ci e1.leaf.type.kind, ci e1.leaf.type.scale, cl eField e1.leaf.type.fields, ci e1.leaf.df, ci e1.leaf.rep], .dead] [elemsOk 6 (eLeaf.els [(GLeaf.mk r4 e1.leaf.type e1.leaf.df e1.leaf.rep)]), l1.length = (eLeaf.els l1).length, l1.length + (eLeaf.els [(GLeaf.mk r4 e1.leaf.type e1.leaf.df e1.leaf.rep)]).length ≤ 4294967296] (⟨eLeaf.ok _, (eLeaf.len l1).symm, g22, trivial⟩) ?_
     rw [show l1.length + (eLeaf.els [(GLeaf.mk r4 e1.leaf.type e1.leaf.df e1.leaf.rep)]).length = (l1 ++ [(GLeaf.mk r4 e1.leaf.type e1.leaf.df e1.leaf.rep)]).length from eLeaf.lapp _ _]
     rw [show eLeaf.els l1 ++ eLeaf.els [(GLeaf.mk r4 e1.leaf.type e1.leaf.df e1.leaf.rep)] = eLeaf.els (l1 ++ [(GLeaf.mk r4 e1.leaf.type e1.leaf.df e1.leaf.rep)]) from eLeaf.app2 _ _]
     refine zg [7, 8] 1 [5,15,16,17] (zd (m15 _ _ (zr (zg [7, 8] 2 [5,15,16,17] (zd ?_)))))
     exact XR.sub (Sub.trans (Sub.pick (fr' := (qa1934 r2 l1 x1 e1 r4)) [5,15,16,17] (by kernel_rfl)) (Sub.take (fr' := (qa1934 r2 l1 x1 e1 r4)) 1 (Nat.zero_le _) (by kernel_rfl) (by kernel_rfl))) (ih1 (l1 ++ [(GLeaf.mk r4 e1.leaf.type e1.leaf.df e1.leaf.rep)]) (i64.wrap (x1 + (1 : Int))) h)
    ·exact zx 0 (hQ1 _ _ _ (j1 l1 h _ _ (zk [5])))
  exact XR.sub (zk [5,15,16,17]) (hL1 BIG [] (0 : Int) h)
def ref1_Leaf_j1 (x1 : Bool) : Option Bool := some x1
def ref1_Leaf (p1 : Int) : Option Bool := ift (p1 != (6 : Int)) (ref1_Leaf_j1 (p1 != (7 : Int))) (ref1_Leaf_j1 false)
theorem c_ref1_Leaf (p1 : Int) (r : Bool) (h : ref1_Leaf p1 = some r) : PC Tryd.prog 74 [vi p1] (vb r) := by
 unfold ref1_Leaf at h
 refine zF 9 Tryd.f74 (zq fun K1 m1 => zr (zg [] 1 [0] (zd (m1 _ _ (zq fun K2 m2 => ?_)))))
 have j1 : ∀ (x1 : Bool), ref1_Leaf_j1 x1 = some r → ∀ w0 w1, Sub 9 0 [] w0 w1 [(2, vb x1)] [] → K2 w0 w1 := by
  intro x1 h w0 w1 hS
  unfold ref1_Leaf_j1 at h
  refine m2 _ _ (XW.sub hS ?_)
  refine ze ?_
  obtain rfl := zj h
  exact zf [vb x1] (.one (.rfl _ rfl))
 rcases zW h with ⟨b3, h⟩ | ⟨b3, h⟩
 ·exact zr (zg [] 3 [0,5] (zt 5 b3 (zv [] 4 [2] [] [(2, vb (p1 != (7 : Int)))] [] (zd (j1 (p1 != (7 : Int)) h _ _ (zk [2]))))))
 ·exact zr (zg [] 3 [0,5] (zt 5 b3 (zg [] 4 [2] (zd (j1 false h _ _ (zk [2]))))))
def ref1_within_j1 (x1 : Bool) : Option Bool := some x1
def ref1_within (p1 : Int) (p2 : Int) (p3 : Int) : Option Bool := ift (decide (p2 ≤ p1)) (ref1_within_j1 (decide (p1 ≤ p3))) (ref1_within_j1 false)
theorem c_ref1_within (p1 : Int) (p2 : Int) (p3 : Int) (r : Bool) (h : ref1_within p1 p2 p3 = some r) : PC Tryd.prog 68 [vi p1, vi p2, vi p3] (vb r) := by
 unfold ref1_within at h
 refine zF 15 Tryd.f68 (zq fun K1 m1 => zr (zg [] 1 [0,1,2] (zd (m1 _ _ (zq fun K2 m2 => ?_)))))
 have j1 : ∀ (x1 : Bool), ref1_within_j1 x1 = some r → ∀ w0 w1, Sub 15 0 [] w0 w1 [(6, vb x1)] [] → K2 w0 w1 := by
  intro x1 h w0 w1 hS
  unfold ref1_within_j1 at h
  refine m2 _ _ (XW.sub hS ?_)
  refine ze ?_
  obtain rfl := zj h
  exact zf [vb x1] (.one (.rfl _ rfl))
 rcases zW h with ⟨b3, h⟩ | ⟨b3, h⟩
 ·exact zr (zg [] 4 [0,2,10] (zt 10 b3 (zv [] 5 [6] [] [(6, vb (decide (p1 ≤ p3)))] [] (zd (j1 (decide (p1 ≤ p3)) h _ _ (zk [6]))))))
 ·exact zr (zg [] 4 [0,2,10] (zt 10 b3 (zg [] 5 [6] (zd (j1 false h _ _ (zk [6]))))))
def ref1_Name_j4 (rec1 : Int → Option Bool) (x2 : Int) (x5 : Bool) : Option Bool := ift x5 (some false) (rec1 (i64.wrap (x2 + (1 : Int))))
def ref1_Name_j3 (rec1 : Int → Option Bool) (x2 : Int) (x3 : Bool) (x4 : Bool) : Option Bool := ift (!x3) (ift (x2 == (0 : Int)) (ref1_Name_j4 rec1 x2 true) (ref1_Name_j4 rec1 x2 (!x4))) (ref1_Name_j4 rec1 x2 false)
def ref1_Name_j2 (rec1 : Int → Option Bool) (p1 : ByteArray) (x2 : Int) (x3 : Bool) : Option Bool := grd (0 ≤ x2 ∧ x2 < (p1.size : Int)) <| ift (((p1.data.toList.getD x2.toNat 0).toNat : Int) == (95 : Int)) (ref1_Name_j3 rec1 x2 x3 true) (grd (0 ≤ x2 ∧ x2 < (p1.size : Int)) <| bnd (some (decide ((48 : Int) ≤ ((p1.data.toList.getD x2.toNat 0).toNat : Int)))) fun y3 => ift y3 (grd (0 ≤ x2 ∧ x2 < (p1.size : Int)) <| bnd (some (decide (((p1.data.toList.getD x2.toNat 0).toNat : Int) ≤ (57 : Int)))) fun y4 => ref1_Name_j3 rec1 x2 x3 y4) (ref1_Name_j3 rec1 x2 x3 false))
def ref1_Name_j5 : Option Bool := some true
def ref1_Name_l1 (p1 : ByteArray) : Nat → Int → Option Bool
 | 0, _ => none
 | k1 + 1, x2 => ift (decide (x2 < (p1.size : Int))) (grd (0 ≤ x2 ∧ x2 < (p1.size : Int)) <| bnd (some (decide ((97 : Int) ≤ ((p1.data.toList.getD x2.toNat 0).toNat : Int)))) fun y1 => ift y1 (grd (0 ≤ x2 ∧ x2 < (p1.size : Int)) <| bnd (some (decide (((p1.data.toList.getD x2.toNat 0).toNat : Int) ≤ (122 : Int)))) fun y2 => ref1_Name_j2 (ref1_Name_l1 p1 k1) p1 x2 y2) (ref1_Name_j2 (ref1_Name_l1 p1 k1) p1 x2 false)) (ref1_Name_j5)
def ref1_Name_j1 (p1 : ByteArray) (x1 : Bool) : Option Bool := ift x1 (some false) (ref1_Name_l1 p1 BIG (0 : Int))
def ref1_Name (p1 : ByteArray) : Option Bool := ift (decide ((p1.size : Int) < (1 : Int))) (ref1_Name_j1 p1 true) (ref1_Name_j1 p1 (decide ((24 : Int) < (p1.size : Int))))
theorem c_ref1_Name (p1 : ByteArray) (r : Bool) (h : ref1_Name p1 = some r) : PC Tryd.prog 115 [vs p1] (vb r) := by
 unfold ref1_Name at h
 refine zF 56 Tryd.f115 (zq fun K1 m1 => zr (zg [] 1 [0] (zd (m1 _ _ (zq fun K2 m2 => zq fun K3 m3 => ?_)))))
 have j1 : ∀ (x1 : Bool), ref1_Name_j1 p1 x1 = some r → ∀ w0 w1, Sub 56 0 [] w0 w1 [(0, vs p1), (13, vb x1)] [] → K3 w0 w1 := by
  intro x1 h w0 w1 hS
  unfold ref1_Name_j1 at h
  refine m3 _ _ (XW.sub hS ?_)
  refine zC h (fun b5 h => ?_) (fun b5 h => ?_)
  ·refine zq fun K6 m6 => zr (zg [] 1 [2] (zd (m6 _ _ (ze ?_))))
   obtain rfl := zj h
   exact zf [vb false] (.one (.rfl _ rfl))
  ·refine zs (m2 _ _ (zq fun K7 m7 => ?_))
   have j5 : ∀ (_ : Unit), ref1_Name_j5 = some r → ∀ w0 w1, Sub 56 0 [] w0 w1 [] [] → K7 w0 w1 := by
    intro _ h w0 w1 hS
    unfold ref1_Name_j5 at h
    refine m7 _ _ (XW.sub hS ?_)
    refine zq fun K32 m32 => zr (zg [] 1 [2] (zd (m32 _ _ (ze ?_))))
    obtain rfl := zj h
    exact zf [vb true] (.one (.rfl _ rfl))
   refine zq fun K8 m8 => zr (zg [] 1 [0,3] (zd (m8 _ _ (zb 0 (XW.rounds' BIG (x := cd Tryd.f115 [1,1,0,1,0,0]) (by kernel_rfl) fun Q1 hQ1 => ?_)))))
   have hL1 : ∀ (k1 : Nat) (x2 : Int), ref1_Name_l1 p1 k1 x2 = some r → XR Tryd.prog 56 0 [] (cd Tryd.f115 [1,1,0,1,0,0]) Q1 k1 [(0, vs p1), (3, vi x2)] [] := by
    intro k1
    induction k1 with
    | zero => intro x2 h; rw [ref1_Name_l1.eq_1] at h; cases h
    | succ k1 ih1 =>
     intro x2 h
     rw [ref1_Name_l1.eq_2] at h
     refine zq fun K9 m9 => zq fun K10 m10 => zr (zg [] 4 [0,3,17] (zd (m10 _ _ (zC h (fun b11 h => ?_) (fun b11 h => ?_)))))
     ·refine zs (m9 _ _ (zq fun K12 m12 => zb 1 (zq fun K13 m13 => ?_)))
      have j2 : ∀ (x3 : Bool), ref1_Name_j2 (ref1_Name_l1 p1 k1) p1 x2 x3 = some r → ∀ w0 w1, Sub 56 0 [] w0 w1 [(0, vs p1), (3, vi x2), (4, vb x3)] [] → K13 w0 w1 := by
       intro x3 h w0 w1 hS
       unfold ref1_Name_j2 at h
       refine m13 _ _ (XW.sub hS ?_)
       refine zq fun K19 m19 => ?_
       have j3 : ∀ (x4 : Bool), ref1_Name_j3 (ref1_Name_l1 p1 k1) x2 x3 x4 = some r → ∀ w0 w1, Sub 56 0 [] w0 w1 [(0, vs p1), (3, vi x2), (4, vb x3), (5, vb x4)] [] → K19 w0 w1 := by
        intro x4 h w0 w1 hS
        unfold ref1_Name_j3 at h
        refine m19 _ _ (XW.sub hS ?_)
        refine zq fun K27 m27 => ?_
        have j4 : ∀ (x5 : Bool), ref1_Name_j4 (ref1_Name_l1 p1 k1) x2 x5 = some r → ∀ w0 w1, Sub 56 0 [] w0 w1 [(0, vs p1), (3, vi x2), (55, vb x5)] [] → K27 w0 w1 := by
         intro x5 h w0 w1 hS
         unfold ref1_Name_j4 at h
         refine m27 _ _ (XW.sub hS ?_)
         refine zC h (fun b30 h => ?_) (fun b30 h => ?_)
         ·refine zq fun K31 m31 => zr (zg [] 1 [2] (zd (m31 _ _ (ze (hQ1 _ _ _ ?_)))))
          obtain rfl := zj h
          exact zf [vb false] (.one (.rfl _ rfl))
         ·exact zs (m12 _ _ (zr (zg [] 3 [0,3] (zd (XR.sub (zk [0,3]) (ih1 (i64.wrap (x2 + (1 : Int))) h))))))
        rcases zW h with ⟨b28, h⟩ | ⟨b28, h⟩
        ·rcases zW h with ⟨b29, h⟩ | ⟨b29, h⟩
         ·exact zr (zg [] 3 [0,3,5,48] (zt 48 b28 (zg [] 3 [0,3,5,48,51] (zt 51 b29 (zv [] 4 [0,3,55] [] [(0, vs p1), (3, vi x2), (55, vb true)] [] (zd (j4 true h _ _ (zk [0,3,55]))))))))
         ·exact zr (zg [] 3 [0,3,5,48] (zt 48 b28 (zg [] 3 [0,3,5,48,51] (zt 51 b29 (zv [] 4 [0,3,55] [] [(0, vs p1), (3, vi x2), (55, vb (!x4))] [] (zd (j4 (!x4) h _ _ (zk [0,3,55]))))))))
        ·exact zr (zg [] 3 [0,3,5,48] (zt 48 b28 (zg [] 7 [0,3,55] (zd (j4 false h _ _ (zk [0,3,55]))))))
       obtain ⟨g20, h⟩ := zG h
       rcases zW h with ⟨b21, h⟩ | ⟨b21, h⟩
       ·exact zr (zo [] 5 [0,3,4,34] [] [0 ≤ x2 ∧ x2 < (p1.size : Int)] (⟨g20, trivial⟩) (zt 34 b21 (zg [] 12 [0,3,4,5] (zd (j3 true h _ _ (zk [0,3,4,5]))))))
       ·obtain ⟨g22, h⟩ := zG h
        obtain ⟨y3, hy23, h⟩ := zB h
        rcases zW h with ⟨b24, h⟩ | ⟨b24, h⟩
        ·obtain ⟨g25, h⟩ := zG h
         obtain ⟨y4, hy26, h⟩ := zB h
         refine zr (zp [] 5 [0,3,4,34] [] [(0, vs p1), (3, vi x2), (4, vb x3), (34, vb (((p1.data.toList.getD x2.toNat 0).toNat : Int) == (95 : Int)))] [] [0 ≤ x2 ∧ x2 < (p1.size : Int)] (⟨g20, trivial⟩) (zt 34 b21 (zp [] 4 [0,3,4,34,38] [] [(0, vs p1), (3, vi x2), (4, vb x3), (34, vb false), (38, vb (decide ((48 : Int) ≤ ((p1.data.toList.getD x2.toNat 0).toNat : Int))))] [] [0 ≤ x2 ∧ x2 < (p1.size : Int)] (⟨g22, trivial⟩) ?_)))
         rw [show (decide ((48 : Int) ≤ ((p1.data.toList.getD x2.toNat 0).toNat : Int))) = y3 from zj hy23]
         refine zg [] 1 [0,3,4,34,39] (zt 39 b24 (zp [] 4 [0,3,4,34,39,43] [] [(0, vs p1), (3, vi x2), (4, vb x3), (34, vb false), (39, vb true), (43, vb (decide (((p1.data.toList.getD x2.toNat 0).toNat : Int) ≤ (57 : Int))))] [] [0 ≤ x2 ∧ x2 < (p1.size : Int)] (⟨g25, trivial⟩) ?_))
         rw [show (decide (((p1.data.toList.getD x2.toNat 0).toNat : Int) ≤ (57 : Int))) = y4 from zj hy26]
         exact zg [] 3 [0,3,4,5] (zd (j3 y4 h _ _ (zk [0,3,4,5])))
        ·refine zr (zo [] 5 [0,3,4,34] [] [0 ≤ x2 ∧ x2 < (p1.size : Int)] (⟨g20, trivial⟩) (zt 34 b21 (zp [] 4 [0,3,4,34,38] [] [(0, vs p1), (3, vi x2), (4, vb x3), (34, vb false), (38, vb (decide ((48 : Int) ≤ ((p1.data.toList.getD x2.toNat 0).toNat : Int))))] [] [0 ≤ x2 ∧ x2 < (p1.size : Int)] (⟨g22, trivial⟩) ?_)))
         rw [show (decide ((48 : Int) ≤ ((p1.data.toList.getD x2.toNat 0).toNat : Int))) = y3 from zj hy23]
         exact zg [] 1 [0,3,4,34,39] (zt 39 b24 (zg [] 7 [0,3,4,5] (zd (j3 false h _ _ (zk [0,3,4,5])))))
      obtain ⟨g14, h⟩ := zG h
      obtain ⟨y1, hy15, h⟩ := zB h
      rcases zW h with ⟨b16, h⟩ | ⟨b16, h⟩
      ·obtain ⟨g17, h⟩ := zG h
       obtain ⟨y2, hy18, h⟩ := zB h
       refine zr (zp [] 4 [0,3,23] [] [(0, vs p1), (3, vi x2), (23, vb (decide ((97 : Int) ≤ ((p1.data.toList.getD x2.toNat 0).toNat : Int))))] [] [0 ≤ x2 ∧ x2 < (p1.size : Int)] (⟨g14, trivial⟩) ?_)
       rw [show (decide ((97 : Int) ≤ ((p1.data.toList.getD x2.toNat 0).toNat : Int))) = y1 from zj hy15]
       refine zg [] 1 [0,3,24] (zt 24 b16 (zp [] 4 [0,3,24,28] [] [(0, vs p1), (3, vi x2), (24, vb true), (28, vb (decide (((p1.data.toList.getD x2.toNat 0).toNat : Int) ≤ (122 : Int))))] [] [0 ≤ x2 ∧ x2 < (p1.size : Int)] (⟨g17, trivial⟩) ?_))
       rw [show (decide (((p1.data.toList.getD x2.toNat 0).toNat : Int) ≤ (122 : Int))) = y2 from zj hy18]
       exact zg [] 2 [0,3,4] (zd (j2 y2 h _ _ (zk [0,3,4])))
      ·refine zr (zp [] 4 [0,3,23] [] [(0, vs p1), (3, vi x2), (23, vb (decide ((97 : Int) ≤ ((p1.data.toList.getD x2.toNat 0).toNat : Int))))] [] [0 ≤ x2 ∧ x2 < (p1.size : Int)] (⟨g14, trivial⟩) ?_)
       rw [show (decide ((97 : Int) ≤ ((p1.data.toList.getD x2.toNat 0).toNat : Int))) = y1 from zj hy15]
       exact zg [] 1 [0,3,24] (zt 24 b16 (zg [] 6 [0,3,4] (zd (j2 false h _ _ (zk [0,3,4])))))
     ·exact zx 0 (hQ1 _ _ _ (j5 () h _ _ (zk [])))
   exact XR.sub (zk [0,3]) (hL1 BIG (0 : Int) h)
 rcases zW h with ⟨b4, h⟩ | ⟨b4, h⟩
 ·exact zr (zg [] 4 [0,9] (zt 9 b4 (zv [] 4 [0,13] [] [(0, vs p1), (13, vb true)] [] (zd (j1 true h _ _ (zk [0,13]))))))
 ·exact zr (zg [] 4 [0,9] (zt 9 b4 (zg [] 4 [0,13] (zd (j1 (decide ((24 : Int) < (p1.size : Int))) h _ _ (zk [0,13]))))))
def ref1_shape_j5 (rec2 : Int → Option Int) (x5 : Int) : Option Int := rec2 (i64.wrap (x5 + (1 : Int)))
def ref1_shape_l3 (rec2 : Int → Option Int) (p1 : GType) (x5 : Int) : Nat → Int → Option Int
 | 0, _ => none
 | k3 + 1, x6 => ift (decide (x6 < x5)) (bnd (at? p1.fields x6) fun e3 => bnd (at? p1.fields x5) fun e4 => ift (e3.name.toList == e4.name.toList) (some (5 : Int)) ((ref1_shape_l3 rec2 p1 x5 k3) (i64.wrap (x6 + (1 : Int))))) (ref1_shape_j5 rec2 x5)
def ref1_shape_j6 : Option Int := some (0 : Int)
def ref1_shape_l2 (p1 : GType) : Nat → Int → Option Int
 | 0, _ => none
 | k2 + 1, x5 => ift (decide (x5 < (p1.fields.length : Int))) (ref1_shape_l3 (ref1_shape_l2 p1 k2) p1 x5 BIG (0 : Int)) (ref1_shape_j6)
def ref1_shape_j4 (p1 : GType) : Option Int := ref1_shape_l2 p1 BIG (0 : Int)
def ref1_shape_l1 (p1 : GType) : Nat → Int → Option Int
 | 0, _ => none
 | k1 + 1, x4 => ift (decide (x4 < (p1.fields.length : Int))) (bnd (at? p1.fields x4) fun e2 => bnd (ref1_Name e2.name) fun r5 => ift (!r5) (some (4 : Int)) ((ref1_shape_l1 p1 k1) (i64.wrap (x4 + (1 : Int))))) (ref1_shape_j4 p1)
def ref1_shape_j3 (p1 : GType) (x3 : Bool) : Option Int := ift x3 (some (1 : Int)) (ift (p1.kind != (7 : Int)) (some (0 : Int)) (ref1_shape_l1 p1 BIG (0 : Int)))
def ref1_shape_j2 (p1 : GType) (x2 : Bool) : Option Int := ift x2 (some (1 : Int)) (ift (p1.kind == (7 : Int)) (ift ((p1.fields.length : Int) == (0 : Int)) (ref1_shape_j3 p1 true) (bnd (ref1_Leaf p1.kind) fun r3 => ift r3 (ref1_shape_j3 p1 (decide ((0 : Int) < (p1.fields.length : Int)))) (ref1_shape_j3 p1 false))) (bnd (ref1_Leaf p1.kind) fun r4 => ift r4 (ref1_shape_j3 p1 (decide ((0 : Int) < (p1.fields.length : Int)))) (ref1_shape_j3 p1 false)))
def ref1_shape_j1 (p1 : GType) (x1 : Bool) : Option Int := ift x1 (some (1 : Int)) (ift (p1.kind == (6 : Int)) (ift ((p1.fields.length : Int) != (1 : Int)) (ref1_shape_j2 p1 true) (bnd (at? p1.fields (0 : Int)) fun e1 => ref1_shape_j2 p1 (!(e1.name.toList == (ByteArray.mk #[]).toList)))) (ref1_shape_j2 p1 false))
def ref1_shape (p1 : GType) : Option Int := bnd (ref1_within p1.kind (1 : Int) (7 : Int)) fun r1 => ift (!r1) (some (3 : Int)) (ift (p1.kind == (3 : Int)) (bnd (ref1_within p1.scale (0 : Int) (12 : Int)) fun r2 => ift (!r2) (ref1_shape_j1 p1 true) (ift (p1.kind != (3 : Int)) (ref1_shape_j1 p1 (p1.scale != (0 : Int))) (ref1_shape_j1 p1 false))) (ift (p1.kind != (3 : Int)) (ref1_shape_j1 p1 (p1.scale != (0 : Int))) (ref1_shape_j1 p1 false)))
abbrev qa1972 (p1 : GType) : Fr := [(1, vR (qa1274 p1)), (13, vb (p1.kind == (3 : Int)))]
abbrev qa1975 (p1 : GType) : Fr := [(1, vR (qa1274 p1)), (19, vb false), (23, vb (p1.kind != (3 : Int)))]
theorem c_ref1_shape (p1 : GType) (r : Int) (h : ref1_shape p1 = some r) : PC Tryd.prog 99 [.ag [ci p1.kind, ci p1.scale, cl eField p1.fields]] (vi r) := by
 unfold ref1_shape at h
 refine zF 109 Tryd.f99 (zq fun K1 m1 => zr (zg [] 2 [1] (zd (m1 _ _ (zq fun K2 m2 => zq fun K3 m3 => ?_)))))
 obtain ⟨r1, c4, h⟩ := zB h
 refine zr (zu [] 2 [1,7] [(qa1274 p1)] (zl 68 [vi p1.kind, vi 1, vi 7] (vb r1) [(8, vb r1), (1, vR (qa1274 p1)), (7, vi p1.kind)] (c_ref1_within _ _ _ _ c4) (zg [] 1 [1,9] (zd (m3 _ _ (zC h (fun b5 h => ?_) (fun b5 h => ?_)))))))
 ·refine zq fun K6 m6 => zr (zg [] 1 [2] (zd (m6 _ _ (ze ?_))))
  obtain rfl := zj h
  exact zf [vi 3] (.one (.rfl _ rfl))
 ·refine zs (m2 _ _ (zq fun K7 m7 => zq fun K8 m8 => ?_))
  have j1 : ∀ (x1 : Bool), ref1_shape_j1 p1 x1 = some r → ∀ w0 w1, Sub 109 0 [] w0 w1 [(1, vR (qa1274 p1)), (28, vb x1)] [] → K8 w0 w1 := by
   intro x1 h w0 w1 hS
   unfold ref1_shape_j1 at h
   refine m8 _ _ (XW.sub hS ?_)
   refine zC h (fun b14 h => ?_) (fun b14 h => ?_)
   ·refine zq fun K15 m15 => zr (zg [] 1 [2] (zd (m15 _ _ (ze ?_))))
    obtain rfl := zj h
    exact zf [vi 1] (.one (.rfl _ rfl))
   ·refine zs (m7 _ _ (zq fun K16 m16 => zq fun K17 m17 => ?_))
    have j2 : ∀ (x2 : Bool), ref1_shape_j2 p1 x2 = some r → ∀ w0 w1, Sub 109 0 [] w0 w1 [(1, vR (qa1274 p1)), (45, vb x2)] [] → K17 w0 w1 := by
     intro x2 h w0 w1 hS
     unfold ref1_shape_j2 at h
     refine m17 _ _ (XW.sub hS ?_)
     refine zC h (fun b21 h => ?_) (fun b21 h => ?_)
     ·refine zq fun K22 m22 => zr (zg [] 1 [2] (zd (m22 _ _ (ze ?_))))
      obtain rfl := zj h
      exact zf [vi 1] (.one (.rfl _ rfl))
     ·refine zs (m16 _ _ (zq fun K23 m23 => zq fun K24 m24 => ?_))
      have j3 : ∀ (x3 : Bool), ref1_shape_j3 p1 x3 = some r → ∀ w0 w1, Sub 109 0 [] w0 w1 [(1, vR (qa1274 p1)), (65, vb x3)] [] → K24 w0 w1 := by
       intro x3 h w0 w1 hS
       unfold ref1_shape_j3 at h
       refine m24 _ _ (XW.sub hS ?_)
       refine zC h (fun b31 h => ?_) (fun b31 h => ?_)
       ·refine zq fun K32 m32 => zr (zg [] 1 [2] (zd (m32 _ _ (ze ?_))))
        obtain rfl := zj h
        exact zf [vi 1] (.one (.rfl _ rfl))
       ·refine zs (m23 _ _ (zq fun K33 m33 => zq fun K34 m34 => zr (zu [] 3 [1,68] [(qa1274 p1)] (zd (m34 _ _ ?_)))))
        refine zC h (fun b35 h => ?_) (fun b35 h => ?_)
        ·refine zq fun K36 m36 => zr (zv [] 1 [2] [] [(2, vi 0)] [] (zd (m36 _ _ (ze ?_))))
         obtain rfl := zj h
         exact zf [vi 0] (.one (.rfl _ rfl))
        ·refine zs (m33 _ _ (zq fun K37 m37 => ?_))
         have j4 : ∀ (_ : Unit), ref1_shape_j4 p1 = some r → ∀ w0 w1, Sub 109 0 [] w0 w1 [(1, vR (qa1274 p1))] [] → K37 w0 w1 := by
          intro _ h w0 w1 hS
          unfold ref1_shape_j4 at h
          refine m37 _ _ (XW.sub hS ?_)
          refine zq fun K49 m49 => ?_
          have j6 : ∀ (_ : Unit), ref1_shape_j6 = some r → ∀ w0 w1, Sub 109 0 [] w0 w1 [] [] → K49 w0 w1 := by
           intro _ h w0 w1 hS
           unfold ref1_shape_j6 at h
           refine m49 _ _ (XW.sub hS ?_)
           refine zq fun K66 m66 => zr (zg [] 1 [2] (zd (m66 _ _ (ze ?_))))
           obtain rfl := zj h
           exact zf [vi 0] (.one (.rfl _ rfl))
          refine zq fun K50 m50 => zr (zv [] 3 [1,86] [[pi p1.kind, pi p1.scale, .ro (eField.els p1.fields)]] [(1, vR [pi p1.kind, pi p1.scale, .ro (eField.els p1.fields)]), (86, vi ((eField.els p1.fields).length : Int))] [] ?_)
          rw [eField.len p1.fields]
          refine zg [] 1 [1,86,87] (zd (m50 _ _ (zb 2 (XW.rounds' BIG (x := cd Tryd.f99 [1,1,1,1,1,1,1,0,1,0,0]) (by kernel_rfl) fun Q2 hQ2 => ?_))))
          have hL2 : ∀ (k2 : Nat) (x5 : Int), ref1_shape_l2 p1 k2 x5 = some r → XR Tryd.prog 109 0 [] (cd Tryd.f99 [1,1,1,1,1,1,1,0,1,0,0]) Q2 k2 [(1, vR (qa1274 p1)), (86, vi (p1.fields.length : Int)), (87, vi x5)] [] := by
           intro k2
           induction k2 with
           | zero => intro x5 h; rw [ref1_shape_l2.eq_1] at h; cases h
           | succ k2 ih2 =>
            intro x5 h
            rw [ref1_shape_l2.eq_2] at h
            refine zq fun K51 m51 => zr (zg [] 1 [1,86,87,88] (zd (m51 _ _ (zq fun K52 m52 => zC h (fun b53 h => ?_) (fun b53 h => ?_)))))
            ·refine zs (m52 _ _ (zq fun K54 m54 => ?_))
             have j5 : ∀ (_ : Unit), ref1_shape_j5 (ref1_shape_l2 p1 k2) x5 = some r → ∀ w0 w1, Sub 109 0 [] w0 w1 [(1, vR (qa1274 p1)), (86, vi (p1.fields.length : Int)), (87, vi x5)] [] → K54 w0 w1 := by
              intro _ h w0 w1 hS
              unfold ref1_shape_j5 at h
              refine m54 _ _ (XW.sub hS ?_)
              exact zr (zg [] 2 [1,86,87] (zd (XR.sub (zk [1,86,87]) (ih2 (i64.wrap (x5 + (1 : Int))) h))))
             refine zb 3 (zq fun K55 m55 => zr (zg [] 2 [1,4,86,87] (zd (m55 _ _ (zq fun K56 m56 => zr ?_)))))
             refine zv [] 1 [1,4,5,86,87] [] [(1, vR [pi p1.kind, pi p1.scale, .ro (eField.els p1.fields)]), (4, vi x5), (5, vi 0), (86, vi (p1.fields.length : Int)), (87, vi x5)] [] (zd (m56 _ _ (zb 4 (XW.rounds' BIG (x := cd Tryd.f99 [1,1,1,1,1,1,1,0,1,0,0,1,1,0,0,1,1,0,0]) (by kernel_rfl) fun Q3 hQ3 => ?_))))
             have hL3 : ∀ (k3 : Nat) (x6 : Int), ref1_shape_l3 (ref1_shape_l2 p1 k2) p1 x5 k3 x6 = some r → XR Tryd.prog 109 0 [] (cd Tryd.f99 [1,1,1,1,1,1,1,0,1,0,0,1,1,0,0,1,1,0,0]) Q3 k3 [(1, vR (qa1274 p1)), (4, vi x5), (5, vi x6), (86, vi (p1.fields.length : Int)), (87, vi x5)] [] := by
              intro k3
              induction k3 with
              | zero => intro x6 h; rw [ref1_shape_l3.eq_1] at h; cases h
              | succ k3 ih3 =>
               intro x6 h
               rw [ref1_shape_l3.eq_2] at h
               refine zq fun K57 m57 => zq fun K58 m58 => zr (zg [] 3 [1,4,5,86,87,92] (zd (m58 _ _ (zC h (fun b59 h => ?_) (fun b59 h => ?_)))))
               ·refine zs (m57 _ _ (zq fun K60 m60 => zb 5 (zq fun K61 m61 => ?_)))
                obtain ⟨e3, a62, h⟩ := zB h
                obtain ⟨e4, a63, h⟩ := zB h
                refine zw 12 [(106, vs e4.name), (105, .one (.pv (.rp (eField.els p1.fields) x5.toNat 1))), (104, .one (.pv (.rp (eField.els p1.fields) x5.toNat 0))), (103, vi x5), (102, vl eField p1.fields), (101, .one (.pv (.rp [(qa1274 p1)] 0 2))), (100, vs e3.name), (99, .one (.pv (.rp (eField.els p1.fields) x6.toNat 1))), (98, .one (.pv (.rp (eField.els p1.fields) x6.toNat 0))), (97, vi x6), (96, vl eField p1.fields), (95, .one (.pv (.rp [(qa1274 p1)] 0 2))), (1, vR (qa1274 p1)), (4, vi x5), (5, vi x6), (86, vi (p1.fields.length : Int)), (87, vi x5), (92, vb (decide (x6 < x5)))] ?_ ?_
                ·refine zyo 12 [(qa1274 p1), (qa1299 e3), (qa1274 p1), (qa1299 e4)] [([(qa1274 p1)] : List (List PV))[0]? = some (qa1274 p1), 0 ≤ x6 ∧ x6 < ((eField.els p1.fields).length : Int) ∧ elemsOk 6 (eField.els p1.fields), (eField.els p1.fields)[x6.toNat]? = some (qa1299 e3), ([(qa1274 p1)] : List (List PV))[0]? = some (qa1274 p1), 0 ≤ x5 ∧ x5 < ((eField.els p1.fields).length : Int) ∧ elemsOk 6 (eField.els p1.fields), (eField.els p1.fields)[x5.toNat]? = some (qa1299 e4)] (⟨rfl, eField.inb a62, ((eField.get a62).trans (by rcases e3 with ⟨_, _, _, ⟨_, _, _⟩⟩; rfl)), rfl, eField.inb a63, ((eField.get a63).trans (by rcases e4 with ⟨_, _, _, ⟨_, _, _⟩⟩; rfl)), trivial⟩) ?_
                 exact zyd
                refine zg [] 1 [1,4,5,86,87,107] (zd (m61 _ _ (zC h (fun b64 h => ?_) (fun b64 h => ?_))))
                ·refine zq fun K65 m65 => zr (zv [] 1 [2] [] [(2, vi 5)] [] (zd (m65 _ _ (ze (hQ3 _ _ _ (hQ2 _ _ _ ?_))))))
                 obtain rfl := zj h
                 exact zf [vi 5] (.one (.rfl _ rfl))
                ·exact zs (m60 _ _ (zr (zg [] 3 [1,4,5,86,87] (zd (XR.sub (zk [1,4,5,86,87]) (ih3 (i64.wrap (x6 + (1 : Int))) h))))))
               ·exact zx 4 (hQ3 _ _ _ (j5 () h _ _ (zk [1,86,87])))
             exact XR.sub (zk [1,4,5,86,87]) (hL3 BIG (0 : Int) h)
            ·exact zx 2 (hQ2 _ _ _ (j6 () h _ _ (zk [])))
          exact XR.sub (zk [1,86,87]) (hL2 BIG (0 : Int) h)
         refine zq fun K38 m38 => zr (zv [] 3 [1,71] [[pi p1.kind, pi p1.scale, .ro (eField.els p1.fields)]] [(1, vR [pi p1.kind, pi p1.scale, .ro (eField.els p1.fields)]), (71, vi ((eField.els p1.fields).length : Int))] [] ?_)
         rw [eField.len p1.fields]
         refine zg [] 1 [1,71,72] (zd (m38 _ _ (zb 0 (XW.rounds' BIG (x := cd Tryd.f99 [1,1,1,1,1,1,0,1,0,0]) (by kernel_rfl) fun Q1 hQ1 => ?_))))
         have hL1 : ∀ (k1 : Nat) (x4 : Int), ref1_shape_l1 p1 k1 x4 = some r → XR Tryd.prog 109 0 [] (cd Tryd.f99 [1,1,1,1,1,1,0,1,0,0]) Q1 k1 [(1, vR (qa1274 p1)), (71, vi (p1.fields.length : Int)), (72, vi x4)] [] := by
          intro k1
          induction k1 with
          | zero => intro x4 h; rw [ref1_shape_l1.eq_1] at h; cases h
          | succ k1 ih1 =>
           intro x4 h
           rw [ref1_shape_l1.eq_2] at h
           refine zq fun K39 m39 => zr (zg [] 1 [1,71,72,73] (zd (m39 _ _ (zq fun K40 m40 => zC h (fun b41 h => ?_) (fun b41 h => ?_)))))
           ·refine zs (m40 _ _ (zq fun K42 m42 => zb 1 (zq fun K43 m43 => zr (zg [] 2 [1,3,71,72] (zd ?_)))))
            refine m43 _ _ (zq fun K44 m44 => ?_)
            obtain ⟨e2, a45, h⟩ := zB h
            obtain ⟨r5, c46, h⟩ := zB h
            refine zr ?_
            refine zp [] 6 [1,71,72,80] [(qa1274 p1), (qa1299 e2)] [(1, vR (qa1274 p1)), (71, vi (p1.fields.length : Int)), (72, vi x4), (80, vs e2.name)] [] [([(qa1274 p1)] : List (List PV))[0]? = some (qa1274 p1), 0 ≤ x4 ∧ x4 < ((eField.els p1.fields).length : Int) ∧ elemsOk 6 (eField.els p1.fields), (eField.els p1.fields)[x4.toNat]? = some (qa1299 e2)] (⟨rfl, eField.inb a45, ((eField.get a45).trans (by rcases e2 with ⟨_, _, _, ⟨_, _, _⟩⟩; rfl)), trivial⟩) ?_
            refine za (c_ref1_Name _ _ c46) (zg [] 1 [1,71,72,82] (zd (m44 _ _ (zC h (fun b47 h => ?_) (fun b47 h => ?_)))))
            ·refine zq fun K48 m48 => zr (zv [] 1 [2] [] [(2, vi 4)] [] (zd (m48 _ _ (ze (hQ1 _ _ _ ?_)))))
             obtain rfl := zj h
             exact zf [vi 4] (.one (.rfl _ rfl))
            ·exact zs (m42 _ _ (zr (zg [] 2 [1,71,72] (zd (XR.sub (zk [1,71,72]) (ih1 (i64.wrap (x4 + (1 : Int))) h))))))
           ·exact zx 0 (hQ1 _ _ _ (j4 () h _ _ (zk [1])))
         exact XR.sub (zk [1,71,72]) (hL1 BIG (0 : Int) h)
      rcases zW h with ⟨b25, h⟩ | ⟨b25, h⟩
      ·rcases zW h with ⟨b26, h⟩ | ⟨b26, h⟩
       ·refine zr (zu [] 4 [1,49] [[pi p1.kind, pi p1.scale, .ro (eField.els p1.fields)]] (zt 49 b25 (zv [] 3 [1,49,52] [[pi p1.kind, pi p1.scale, .ro (eField.els p1.fields)]] [(1, vR [pi p1.kind, pi p1.scale, .ro (eField.els p1.fields)]), (49, vb true), (52, vi ((eField.els p1.fields).length : Int))] [] ?_)))
        rw [eField.len p1.fields]
        exact zg [] 3 [1,55] (zt 55 b26 (zg [] 10 [1,65] (zd (j3 true h _ _ (zk [1,65])))))
       ·obtain ⟨r3, c27, h⟩ := zB h
        rcases zW h with ⟨b28, h⟩ | ⟨b28, h⟩
        ·refine zr (zv [] 4 [1,49] [[pi p1.kind, pi p1.scale, .ro (eField.els p1.fields)]] [(1, vR [pi p1.kind, pi p1.scale, .ro (eField.els p1.fields)]), (49, vb (p1.kind == (7 : Int)))] [] (zt 49 b25 (zv [] 3 [1,49,52] [[pi p1.kind, pi p1.scale, .ro (eField.els p1.fields)]] [(1, vR [pi p1.kind, pi p1.scale, .ro (eField.els p1.fields)]), (49, vb true), (52, vi ((eField.els p1.fields).length : Int))] [] ?_)))
         rw [eField.len p1.fields]
         refine zg [] 3 [1,55] (zt 55 b26 (zu [] 2 [1,55,57] [[pi p1.kind, pi p1.scale, .ro (eField.els p1.fields)]] (zl 74 [vi p1.kind] (vb r3) [(58, vb r3), (1, vR [pi p1.kind, pi p1.scale, .ro (eField.els p1.fields)]), (55, vb false), (57, vi p1.kind)] (c_ref1_Leaf _ _ c27) (zg [] 1 [1,55,59] (zt 59 b28 (zv [] 3 [1,55,59,62] [[pi p1.kind, pi p1.scale, .ro (eField.els p1.fields)]] [(1, vR [pi p1.kind, pi p1.scale, .ro (eField.els p1.fields)]), (55, vb false), (59, vb true), (62, vi ((eField.els p1.fields).length : Int))] [] ?_))))))
         rw [eField.len p1.fields]
         exact zg [] 3 [1,65] (zd (j3 (decide ((0 : Int) < (p1.fields.length : Int))) h _ _ (zk [1,65])))
        ·refine zr (zu [] 4 [1,49] [[pi p1.kind, pi p1.scale, .ro (eField.els p1.fields)]] (zt 49 b25 (zv [] 3 [1,49,52] [[pi p1.kind, pi p1.scale, .ro (eField.els p1.fields)]] [(1, vR [pi p1.kind, pi p1.scale, .ro (eField.els p1.fields)]), (49, vb true), (52, vi ((eField.els p1.fields).length : Int))] [] ?_)))
         rw [eField.len p1.fields]
         refine zg [] 3 [1,55] (zt 55 b26 (zu [] 2 [1,55,57] [(qa1274 p1)] (zl 74 [vi p1.kind] (vb r3) [(58, vb r3), (1, vR (qa1274 p1)), (55, vb false), (57, vi p1.kind)] (c_ref1_Leaf _ _ c27) (zg [] 1 [1,55,59] (zt 59 b28 (zg [] 6 [1,65] (zd ?_)))))))
         exact j3 false h _ _ (zk [1,65])
      ·obtain ⟨r4, c29, h⟩ := zB h
       rcases zW h with ⟨b30, h⟩ | ⟨b30, h⟩
       ·refine zr (zu [] 4 [1,49] [[pi p1.kind, pi p1.scale, .ro (eField.els p1.fields)]] (zt 49 b25 (zv [] 8 [1,55,57] [[pi p1.kind, pi p1.scale, .ro (eField.els p1.fields)]] [(1, vR [pi p1.kind, pi p1.scale, .ro (eField.els p1.fields)]), (55, vb false), (57, vi p1.kind)] [] (za (c_ref1_Leaf _ _ c29) (zg [] 1 [1,55,59] (zt 59 b30 (zv [] 3 [1,55,59,62] [[pi p1.kind, pi p1.scale, .ro (eField.els p1.fields)]] [(1, vR [pi p1.kind, pi p1.scale, .ro (eField.els p1.fields)]), (55, vb false), (59, vb true), (62, vi ((eField.els p1.fields).length : Int))] [] ?_)))))))
        rw [eField.len p1.fields]
        exact zg [] 3 [1,65] (zd (j3 (decide ((0 : Int) < (p1.fields.length : Int))) h _ _ (zk [1,65])))
       ·refine zr (zu [] 4 [1,49] [(qa1274 p1)] (zt 49 b25 (zv [] 8 [1,55,57] [(qa1274 p1)] [(1, vR (qa1274 p1)), (55, vb false), (57, vi p1.kind)] [] (za (c_ref1_Leaf _ _ c29) (zg [] 1 [1,55,59] (zt 59 b30 (zv [] 6 [1,65] [] [(1, vR (qa1274 p1)), (65, vb false)] [] ?_)))))))
        exact zd (j3 false h _ _ (zk [1,65]))
    rcases zW h with ⟨b18, h⟩ | ⟨b18, h⟩
    ·rcases zW h with ⟨b19, h⟩ | ⟨b19, h⟩
     ·refine zr (zu [] 4 [1,32] [[pi p1.kind, pi p1.scale, .ro (eField.els p1.fields)]] (zt 32 b18 (zv [] 3 [1,32,35] [[pi p1.kind, pi p1.scale, .ro (eField.els p1.fields)]] [(1, vR [pi p1.kind, pi p1.scale, .ro (eField.els p1.fields)]), (32, vb true), (35, vi ((eField.els p1.fields).length : Int))] [] ?_)))
      rw [eField.len p1.fields]
      exact zg [] 2 [1,32,37] (zt 37 b19 (zg [] 8 [1,45] (zd (j2 true h _ _ (zk [1,45])))))
     ·obtain ⟨e1, a20, h⟩ := zB h
      refine zr (zv [] 4 [1,32] [[pi p1.kind, pi p1.scale, .ro (eField.els p1.fields)]] [(1, vR [pi p1.kind, pi p1.scale, .ro (eField.els p1.fields)]), (32, vb (p1.kind == (6 : Int)))] [] (zt 32 b18 (zv [] 3 [1,32,35] [[pi p1.kind, pi p1.scale, .ro (eField.els p1.fields)]] [(1, vR [pi p1.kind, pi p1.scale, .ro (eField.els p1.fields)]), (32, vb true), (35, vi ((eField.els p1.fields).length : Int))] [] ?_)))
      rw [eField.len p1.fields]
      refine zg [] 2 [1,32,37] (zt 37 b19 ?_)
      refine zo [] 8 [1,45] [(qa1274 p1), (qa1299 e1)] [([(qa1274 p1)] : List (List PV))[0]? = some (qa1274 p1), 0 ≤ (0 : Int) ∧ (0 : Int) < ((eField.els p1.fields).length : Int) ∧ elemsOk 6 (eField.els p1.fields), (eField.els p1.fields)[(0 : Int).toNat]? = some (qa1299 e1)] (⟨rfl, eField.inb a20, ((eField.get a20).trans (by rcases e1 with ⟨_, _, _, ⟨_, _, _⟩⟩; rfl)), trivial⟩) ?_
      exact zd (j2 (!(e1.name.toList == (ByteArray.mk #[]).toList)) h _ _ (zk [1,45]))
    ·exact zr (zu [] 4 [1,32] [(qa1274 p1)] (zt 32 b18 (zv [] 13 [1,45] [] [(1, vR (qa1274 p1)), (45, vb false)] [] (zd (j2 false h _ _ (zk [1,45]))))))
  rcases zW h with ⟨b9, h⟩ | ⟨b9, h⟩
  ·obtain ⟨r2, c10, h⟩ := zB h
   rcases zW h with ⟨b11, h⟩ | ⟨b11, h⟩
   ·refine zr (zv [] 4 [1,13] [(qa1274 p1)] (qa1972 p1) [] (zt 13 b9 (zu [] 2 [1,13,15] [(qa1274 p1)] (za (c_ref1_within _ _ _ _ c10) (zv [] 3 [1,19] [] [(1, vR (qa1274 p1)), (19, vb (!r2))] [] (zt 19 b11 (zg [] 9 [1,28] ?_)))))))
    exact zd (j1 true h _ _ (zk [1,28]))
   ·rcases zW h with ⟨b12, h⟩ | ⟨b12, h⟩
    ·refine zr (zu [] 4 [1,13] [(qa1274 p1)] (zt 13 b9 (zv [] 2 [1,13,15] [(qa1274 p1)] [(1, vR (qa1274 p1)), (13, vb true), (15, vi p1.scale)] [] (za (c_ref1_within _ _ _ _ c10) (zg [] 3 [1,19] (zt 19 b11 (zv [] 4 [1,19,23] [(qa1274 p1)] (qa1975 p1) [] ?_)))))))
     exact zt 23 b12 (zu [] 5 [1,28] [(qa1274 p1)] (zd (j1 (p1.scale != (0 : Int)) h _ _ (zk [1,28]))))
    ·refine zr (zu [] 4 [1,13] [(qa1274 p1)] (zt 13 b9 (zv [] 2 [1,13,15] [(qa1274 p1)] [(1, vR (qa1274 p1)), (13, vb true), (15, vi p1.scale)] [] (za (c_ref1_within _ _ _ _ c10) (zg [] 3 [1,19] (zt 19 b11 (zv [] 4 [1,19,23] [(qa1274 p1)] (qa1975 p1) [] ?_)))))))
     exact zt 23 b12 (zg [] 5 [1,28] (zd (j1 false h _ _ (zk [1,28]))))
  ·rcases zW h with ⟨b13, h⟩ | ⟨b13, h⟩
   ·exact zr (zv [] 4 [1,13] [(qa1274 p1)] (qa1972 p1) [] (zt 13 b9 (zu [] 10 [1,19,23] [(qa1274 p1)] (zt 23 b13 (zu [] 5 [1,28] [(qa1274 p1)] (zd (j1 (p1.scale != (0 : Int)) h _ _ (zk [1,28]))))))))
   ·exact zr (zv [] 4 [1,13] [(qa1274 p1)] (qa1972 p1) [] (zt 13 b9 (zu [] 10 [1,19,23] [(qa1274 p1)] (zt 23 b13 (zg [] 5 [1,28] (zd (j1 false h _ _ (zk [1,28]))))))))
def ref1_checkType_j2 (z3 : Int) : Option (Int × Int) := some ((0 : Int), z3)
def ref1_checkType_l1 (q_ref1_checkType : GType → Int → Int → Option (Int × Int)) (p1 : GType) (p2 : Int) : Nat → Int → Int → Option (Int × Int)
 | 0, _, _ => none
 | k1 + 1, z2, x1 => ift (decide (x1 < (p1.fields.length : Int))) (bnd (at? p1.fields x1) fun e1 => bnd (q_ref1_checkType e1.type (i64.wrap (p2 + (1 : Int))) z2) fun r3 => ift (r3.1 != (0 : Int)) (some (r3.1, r3.2)) ((ref1_checkType_l1 q_ref1_checkType p1 p2 k1) r3.2 (i64.wrap (x1 + (1 : Int))))) (ref1_checkType_j2 z2)
def ref1_checkType_j1 (q_ref1_checkType : GType → Int → Int → Option (Int × Int)) (p1 : GType) (p2 : Int) (z1 : Int) : Option (Int × Int) := bnd (ref1_shape p1) fun r2 => ift (r2 != (0 : Int)) (some (r2, z1)) (ref1_checkType_l1 q_ref1_checkType p1 p2 BIG z1 (0 : Int))
def ref1_checkType : Nat → GType → Int → Int → Option (Int × Int)
 | 0, _, _, _ => none
 | k0 + 1, p1, p2, p3 => ift (decide ((4 : Int) < p2)) (some ((7 : Int), p3)) (bnd (ref1_Leaf p1.kind) fun r1 => ift r1 (ift (p3 == (40 : Int)) (some ((7 : Int), p3)) (ref1_checkType_j1 (ref1_checkType k0) p1 p2 (i64.wrap (p3 + (1 : Int))))) (ref1_checkType_j1 (ref1_checkType k0) p1 p2 p3))
theorem c_ref1_checkType : ∀ (k0 : Nat) (p1 : GType) (p2 : Int) (p3 : Int) (r : (Int × Int)), ref1_checkType k0 p1 p2 p3 = some r → MC Tryd.prog 73 [.ag [ci p1.kind, ci p1.scale, cl eField p1.fields], vi p2, vq 0] [.box [ci p3]] (vi r.1) [.box [ci r.2]]
 | 0, _, _, _, r, h => by rw [ref1_checkType.eq_1] at h; cases h
 | k0 + 1, p1, p2, p3, r, h => by
  rw [ref1_checkType.eq_2] at h
  refine MC.of 1 (n := 49) (fn := Tryd.f73) (c := cd Tryd.f73 []) (by kernel_rfl) (by kernel_rfl) (by kernel_rfl) (Nat.le_of_ble_eq_true rfl) rfl (zq fun K1 m1 => zr (zg [] 2 [1,2,3] (zd (m1 _ _ (zq fun K2 m2 => zq fun K3 m3 => ?_)))))
  refine zr (zg [] 2 [1,2,3,11] (zd (m3 _ _ (zC h (fun b4 h => ?_) (fun b4 h => ?_)))))
  ·refine zq fun K5 m5 => zr (zv [] 1 [6] [] [(6, vi 7)] [.box [ci p3]] (zd (m5 _ _ (ze ?_))))
   obtain rfl := zj h
   exact FinM.fin (.inr rfl) [] [vi 7] [] (by kernel_rfl) trivial (by kernel_rfl) (by kernel_rfl) (.one (.rfl _ rfl))
  ·refine zs (m2 _ _ (zq fun K6 m6 => ?_))
   have j1 : ∀ (z1 : Int), ref1_checkType_j1 (ref1_checkType k0) p1 p2 z1 = some r → ∀ w0 w1, Sub 49 1 [] w0 w1 [(1, vi p2), (2, vq 0), (3, vR (qa1274 p1))] [.box [ci z1]] → K6 w0 w1 := by
    intro z1 h w0 w1 hS
    unfold ref1_checkType_j1 at h
    refine m6 _ _ (XW.sub hS ?_)
    refine zq fun K14 m14 => zq fun K15 m15 => ?_
    obtain ⟨r2, c16, h⟩ := zB h
    refine zr (zu [] 1 [1,2,3,24] [(qa1274 p1)] (za (c_ref1_shape _ _ c16) (zv [] 1 [1,2,3,7] [] [(1, vi p2), (2, vq 0), (3, vR (qa1274 p1)), (7, vi r2)] [.box [ci z1]] (zd (m15 _ _ (zq fun K17 m17 => zr ?_))))))
    refine zg [] 2 [1,2,3,7,27] (zd (m17 _ _ (zC h (fun b18 h => ?_) (fun b18 h => ?_))))
    ·refine zq fun K19 m19 => zr (zv [] 2 [6] [] [(6, vi r2)] [.box [ci z1]] (zd (m19 _ _ (ze ?_))))
     obtain rfl := zj h
     exact FinM.fin (.inr rfl) [] [vi r2] [] (by kernel_rfl) trivial (by kernel_rfl) (by kernel_rfl) (.one (.rfl _ rfl))
    ·refine zs (m14 _ _ (zq fun K20 m20 => ?_))
     have j2 : ∀ (z3 : Int), ref1_checkType_j2 z3 = some r → ∀ w0 w1, Sub 49 1 [] w0 w1 [] [.box [ci z3]] → K20 w0 w1 := by
      intro z3 h w0 w1 hS
      unfold ref1_checkType_j2 at h
      refine m20 _ _ (XW.sub hS ?_)
      refine zq fun K33 m33 => zr (zv [] 1 [6] [] [(6, vi 0)] [.box [ci z3]] (zd (m33 _ _ (ze ?_))))
      obtain rfl := zj h
      exact FinM.fin (.inr rfl) [] [vi 0] [] (by kernel_rfl) trivial (by kernel_rfl) (by kernel_rfl) (.one (.rfl _ rfl))
     refine zq fun K21 m21 => zr (zv [] 3 [1,2,3,31] [[pi p1.kind, pi p1.scale, .ro (eField.els p1.fields)]] [(1, vi p2), (2, vq 0), (3, vR [pi p1.kind, pi p1.scale, .ro (eField.els p1.fields)]), (31, vi ((eField.els p1.fields).length : Int))] [.box [ci z1]] ?_)
     rw [eField.len p1.fields]
     refine zg [] 1 [1,2,3,31,32] (zd (m21 _ _ (zb 0 (XW.rounds' BIG (x := cd Tryd.f73 [1,1,1,1,0,1,0,0]) (by kernel_rfl) fun Q1 hQ1 => ?_))))
     have hL1 : ∀ (k1 : Nat) (z2 : Int) (x1 : Int), ref1_checkType_l1 (ref1_checkType k0) p1 p2 k1 z2 x1 = some r → XR Tryd.prog 49 1 [] (cd Tryd.f73 [1,1,1,1,0,1,0,0]) Q1 k1 [(1, vi p2), (2, vq 0), (3, vR (qa1274 p1)), (31, vi (p1.fields.length : Int)), (32, vi x1)] [.box [ci z2]] := by
      intro k1
      induction k1 with
      | zero => intro z2 x1 h; rw [ref1_checkType_l1.eq_1] at h; cases h
      | succ k1 ih1 =>
       intro z2 x1 h
       rw [ref1_checkType_l1.eq_2] at h
       refine zq fun K22 m22 => zr (zg [] 1 [1,2,3,31,32,33] (zd (m22 _ _ (zq fun K23 m23 => zC h (fun b24 h => ?_) (fun b24 h => ?_)))))
       ·refine zs (m23 _ _ (zq fun K25 m25 => zb 1 (zq fun K26 m26 => zr (zg [] 2 [1,2,3,8,31,32] (zd ?_)))))
        refine m26 _ _ (zq fun K27 m27 => ?_)
        obtain ⟨e1, a28, h⟩ := zB h
        obtain ⟨r3, c29, h⟩ := zB h
        refine zr ?_
        refine zp [] 9 [1,2,3,31,32,40,42,43] [(qa1274 p1), (qa1299 e1)] [(1, vi p2), (2, vq 0), (3, vR (qa1274 p1)), (31, vi (p1.fields.length : Int)), (32, vi x1), (40, .ag (qa1367 e1)), (42, vi (i64.wrap (p2 + (1 : Int)))), (43, vq 0)] [.box [ci z2]] [([(qa1274 p1)] : List (List PV))[0]? = some (qa1274 p1), 0 ≤ x1 ∧ x1 < ((eField.els p1.fields).length : Int) ∧ elemsOk 6 (eField.els p1.fields), (eField.els p1.fields)[x1.toNat]? = some (qa1299 e1)] (⟨rfl, eField.inb a28, ((eField.get a28).trans (by rcases e1 with ⟨_, _, _, ⟨_, _, _⟩⟩; rfl)), trivial⟩) ?_
        refine XO.calm 73 [.ag (qa1367 e1), vi (i64.wrap (p2 + (1 : Int))), vq 0] [.box [ci z2]] [.box [ci r3.2]] (vi r3.1) [0] [(44, vi r3.1), (1, vi p2), (2, vq 0), (3, vR (qa1274 p1)), (31, vi (p1.fields.length : Int)), (32, vi x1), (40, .ag (qa1367 e1)), (42, vi (i64.wrap (p2 + (1 : Int)))), (43, vq 0)] [.box [ci r3.2]] (by kernel_rfl) (c_ref1_checkType k0 _ _ _ _ c29) (by kernel_rfl) (by kernel_rfl) (by kernel_rfl) (by kernel_rfl) ?_
        refine zg [] 1 [1,2,3,9,31,32] (zd (m27 _ _ (zq fun K30 m30 => zr (zg [] 2 [1,2,3,9,31,32,46] (zd (m30 _ _ ?_))))))
        refine zC h (fun b31 h => ?_) (fun b31 h => ?_)
        ·refine zq fun K32 m32 => zr (zv [] 2 [6] [] [(6, vi r3.1)] [.box [ci r3.2]] (zd (m32 _ _ (ze (hQ1 _ _ _ ?_)))))
         obtain rfl := zj h
         exact FinM.fin (.inr rfl) [] [vi r3.1] [] (by kernel_rfl) trivial (by kernel_rfl) (by kernel_rfl) (.one (.rfl _ rfl))
        ·exact zs (m25 _ _ (zr (zg [] 2 [1,2,3,31,32] (zd (XR.sub (zk [1,2,3,31,32]) (ih1 r3.2 (i64.wrap (x1 + (1 : Int))) h))))))
       ·exact zx 0 (hQ1 _ _ _ (j2 z2 h _ _ (zk [])))
     exact XR.sub (zk [1,2,3,31,32]) (hL1 BIG z1 (0 : Int) h)
   refine zq fun K7 m7 => ?_
   obtain ⟨r1, c8, h⟩ := zB h
   refine zr (zu [] 2 [1,2,3,13] [(qa1274 p1)] (za (c_ref1_Leaf _ _ c8) (zd (m7 _ _ (zC h (fun b9 h => ?_) (fun b9 h => ?_))))))
   ·refine zq fun K10 m10 => zq fun K11 m11 => zr (zv [] 4 [1,2,3,18] [] [(1, vi p2), (2, vq 0), (3, vR (qa1274 p1)), (18, vb (p3 == (40 : Int)))] [.box [ci p3]] (zd (m11 _ _ (zC h (fun b12 h => ?_) (fun b12 h => ?_)))))
    ·refine zq fun K13 m13 => zr (zv [] 1 [6] [] [(6, vi 7)] [.box [ci p3]] (zd (m13 _ _ (ze ?_))))
     obtain rfl := zj h
     exact FinM.fin (.inr rfl) [] [vi 7] [] (by kernel_rfl) trivial (by kernel_rfl) (by kernel_rfl) (.one (.rfl _ rfl))
    ·exact zs (m10 _ _ (zr (zg [] 6 [1,2,3] (zd (j1 (i64.wrap (p3 + (1 : Int))) h _ _ (zk [1,2,3]))))))
   ·exact zs (j1 p3 h _ _ (zk [1,2,3]))
def ref1_CheckType (p1 : GType) : Option Int := bnd (ref1_checkType BIG p1 (1 : Int) (0 : Int)) fun r1 => some r1.1
theorem c_ref1_CheckType (p1 : GType) (r : Int) (h : ref1_CheckType p1 = some r) : PC Tryd.prog 51 [.ag (qa1397 p1)] (vi r) := by
 unfold ref1_CheckType at h
 refine zF 6 Tryd.f51 (zq fun K1 m1 => zr (zg [3] 2 [1] (zd (m1 _ _ (zq fun K2 m2 => zr ?_)))))
 refine zg [3] 2 [1,3] (zd (m2 _ _ (zq fun K3 m3 => ?_)))
 obtain ⟨r1, c4, h⟩ := zB h
 refine zr (zv [3] 1 [3,4] [[pi p1.kind, pi p1.scale, .ro (eField.els p1.fields)]] [(3, vq 0), (4, .ag (qa1397 p1))] [.box [ci 0]] (XO.calm 73 [.ag (qa1397 p1), vi 1, vq 0] [.box [ci 0]] [.box [ci r1.2]] (vi r1.1) [0] [(5, vi r1.1), (3, vq 0), (4, .ag (qa1397 p1))] [.box [ci r1.2]] (by kernel_rfl) (c_ref1_checkType BIG _ _ _ _ c4) (by kernel_rfl) (by kernel_rfl) (by kernel_rfl) (by kernel_rfl) (zg [3] 1 [2] (zd (m3 _ _ ?_)))))
 refine ze ?_
 obtain rfl := zj h
 exact zf [vi r1.1] (.one (.rfl _ rfl))
def ref1_Ids_j1 (l2 : List Int) : Option (List Int) := some l2
def ref1_Ids_l1 (q_ref1_Ids : (List GField) → Option (List Int)) (p1 : (List GField)) : Nat → List Int → Int → Option (List Int)
 | 0, _, _ => none
 | k1 + 1, l1, x1 => ift (decide (x1 < (p1.length : Int))) (bnd (at? p1 x1) fun e1 => grd (l1.length + 1 ≤ 4294967296) <| bnd (q_ref1_Ids e1.type.fields) fun r1 => grd ((l1 ++ [e1.id]).length + r1.length ≤ 4294967296) <| (ref1_Ids_l1 q_ref1_Ids p1 k1) ((l1 ++ [e1.id]) ++ r1) (i64.wrap (x1 + (1 : Int)))) (ref1_Ids_j1 l1)
def ref1_Ids : Nat → (List GField) → Option (List Int)
 | 0, _ => none
 | k0 + 1, p1 => ref1_Ids_l1 (ref1_Ids k0) p1 BIG [] (0 : Int)
theorem c_ref1_Ids : ∀ (k0 : Nat) (p1 : (List GField)) (r : (List Int)), ref1_Ids k0 p1 = some r → PC Tryd.prog 52 [vl eField p1] (vl eI r)
 | 0, _, r, h => by rw [ref1_Ids.eq_1] at h; cases h
 | k0 + 1, p1, r, h => by
  rw [ref1_Ids.eq_2] at h
  refine zF 29 Tryd.f52 (zq fun K1 m1 => zr (zg [] 1 [0] (zd (m1 _ _ (zq fun K2 m2 => zr ?_)))))
  refine zg [] 1 [0,3] (zd (m2 _ _ (zq fun K3 m3 => ?_)))
  have j1 : ∀ (l2 : List Int), ref1_Ids_j1 l2 = some r → ∀ w0 w1, Sub 29 0 [] w0 w1 [(3, .one (.sl 0 1 0 l2.length))] [.arr 1 (eI.els l2)] → K3 w0 w1 := by
   intro l2 h w0 w1 hS
   unfold ref1_Ids_j1 at h
   refine m3 _ _ (XW.sub hS ?_)
   refine zq fun K15 m15 => zr (zg [] 2 [2] (zd (m15 _ _ (ze ?_))))
   obtain rfl := zj h
   exact zf [.one (.sl 0 1 0 l2.length)] (.one (cf_sl eI l2 rfl rfl rfl))
  refine zq fun K4 m4 => zr (zv [] 2 [0,3,6] [] [(0, vl eField p1), (3, .one (.pv (.s (.slice none 0 0)))), (6, vi ((eField.els p1).length : Int))] [] ?_)
  rw [eField.len p1]
  refine zv [] 1 [0,3,6,7] [] [(0, vl eField p1), (3, .one (.pv (.s (.slice none 0 0)))), (6, vi (p1.length : Int)), (7, vi 0)] [] (zd (m4 _ _ (zb 0 (XW.sub (Sub.list (t := 3) (sz := 1) rfl) (XW.rounds' BIG (x := cd Tryd.f52 [1,1,0,1,0,0]) (by kernel_rfl) fun Q1 hQ1 => ?_)))))
  have hL1 : ∀ (k1 : Nat) (l1 : List Int) (x1 : Int), ref1_Ids_l1 (ref1_Ids k0) p1 k1 l1 x1 = some r → XR Tryd.prog 29 0 [] (cd Tryd.f52 [1,1,0,1,0,0]) Q1 k1 [(0, vl eField p1), (3, .one (.sl 0 1 0 l1.length)), (6, vi (p1.length : Int)), (7, vi x1)] [.arr 1 (eI.els l1)] := by
   intro k1
   induction k1 with
   | zero => intro l1 x1 h; rw [ref1_Ids_l1.eq_1] at h; cases h
   | succ k1 ih1 =>
    intro l1 x1 h
    rw [ref1_Ids_l1.eq_2] at h
    refine zq fun K5 m5 => zr (zg [] 1 [0,3,6,7,8] (zd (m5 _ _ (zq fun K6 m6 => zC h (fun b7 h => ?_) (fun b7 h => ?_)))))
    ·refine zs (m6 _ _ (zq fun K8 m8 => zb 1 (zq fun K9 m9 => zr (zg [] 2 [0,3,4,6,7] (zd ?_)))))
     refine m9 _ _ (zq fun K10 m10 => ?_)
     obtain ⟨e1, a11, h⟩ := zB h
     obtain ⟨g12, h⟩ := zG h
     refine zr ?_
     refine zp [] 8 [0,4,6,7,17] [[pi e1.id, .s (.string e1.name), .s (.bool e1.need), pi e1.type.kind, pi e1.type.scale, .ro (eField.els e1.type.fields)]] [(0, vl eField p1), (4, vi x1), (6, vi (p1.length : Int)), (7, vi x1), (17, .one (.sl 0 1 0 (l1.length + (eI.els [e1.id]).length)))] [.arr 1 (eI.els l1 ++ eI.els [e1.id])] [0 ≤ x1 ∧ x1 < ((eField.els p1).length : Int) ∧ elemsOk 6 (eField.els p1), (eField.els p1)[x1.toNat]? = some [pi e1.id, .s (.string e1.name), .s (.bool e1.need), pi e1.type.kind, pi e1.type.scale, .ro (eField.els e1.type.fields)], elemsOk 1 (eI.els [e1.id]), l1.length = (eI.els l1).length, l1.length + (eI.els [e1.id]).length ≤ 4294967296] (⟨eField.inb a11, ((eField.get a11).trans (by rcases e1 with ⟨_, _, _, ⟨_, _, _⟩⟩; rfl)), eI.ok _, (eI.len l1).symm, g12, trivial⟩) ?_
     rw [show l1.length + (eI.els [e1.id]).length = (l1 ++ [e1.id]).length from eI.lapp _ _]
     rw [show eI.els l1 ++ eI.els [e1.id] = eI.els (l1 ++ [e1.id]) from eI.app2 _ _]
     refine zg [] 1 [0,3,4,6,7] (zd (m10 _ _ ?_))
     obtain ⟨r1, c13, h⟩ := zB h
     obtain ⟨g14, h⟩ := zG h
     refine zr (zo [] 7 [0,6,7,18,24] [(qa1299 e1)] [0 ≤ x1 ∧ x1 < ((eField.els p1).length : Int) ∧ elemsOk 6 (eField.els p1), (eField.els p1)[x1.toNat]? = some (qa1299 e1)] (⟨eField.inb a11, ((eField.get a11).trans (by rcases e1 with ⟨_, _, _, ⟨_, _, _⟩⟩; rfl)), trivial⟩) ?_)
     refine zl 52 [vl eField e1.type.fields] (vl eI r1) [(25, vl eI r1), (0, vl eField p1), (6, vi (p1.length : Int)), (7, vi x1), (18, .one (.sl 0 1 0 ((l1 ++ [e1.id]).length))), (24, vl eField e1.type.fields)] (c_ref1_Ids k0 _ _ c13) ?_
     refine zp [] 1 [0,6,7,26] [] [(0, vl eField p1), (6, vi (p1.length : Int)), (7, vi x1), (26, .one (.sl 0 1 0 ((l1 ++ [e1.id]).length + (eI.els r1).length)))] [.arr 1 (eI.els (l1 ++ [e1.id]) ++ eI.els r1)] [elemsOk 1 (eI.els r1), (l1 ++ [e1.id]).length = (eI.els (l1 ++ [e1.id])).length, (l1 ++ [e1.id]).length + (eI.els r1).length ≤ 4294967296] (⟨eI.ok _, (eI.len (l1 ++ [e1.id])).symm, (by rw [eI.len]; exact g14), trivial⟩) ?_
     rw [show (l1 ++ [e1.id]).length + (eI.els r1).length = ((l1 ++ [e1.id]) ++ r1).length from eI.lapp _ _]
     rw [show eI.els (l1 ++ [e1.id]) ++ eI.els r1 = eI.els ((l1 ++ [e1.id]) ++ r1) from eI.app2 _ _]
     exact zg [] 1 [0,3,6,7] (zd (m8 _ _ (zr (zg [] 2 [0,3,6,7] (zd (XR.sub (zk [0,3,6,7]) (ih1 ((l1 ++ [e1.id]) ++ r1) (i64.wrap (x1 + (1 : Int))) h)))))))
    ·exact zx 0 (hQ1 _ _ _ (j1 l1 h _ _ (zk [3])))
  exact XR.sub (zk [0,3,6,7]) (hL1 BIG [] (0 : Int) h)
def ref1_CheckSchema_j1 (rec1 : Int → Option Int) (x1 : Int) : Option Int := rec1 (i64.wrap (x1 + (1 : Int)))
def ref1_CheckSchema_l2 (rec1 : Int → Option Int) (r2 : (List Int)) (x1 : Int) (e1 : Int) : Nat → Int → Option Int
 | 0, _ => none
 | k2 + 1, x2 => ift (decide (x2 < x1)) (bnd (at? r2 x2) fun e2 => ift (e2 == e1) (some (5 : Int)) ((ref1_CheckSchema_l2 rec1 r2 x1 e1 k2) (i64.wrap (x2 + (1 : Int))))) (ref1_CheckSchema_j1 rec1 x1)
def ref1_CheckSchema_j2 : Option Int := some (0 : Int)
def ref1_CheckSchema_l1 (r2 : (List Int)) : Nat → Int → Option Int
 | 0, _ => none
 | k1 + 1, x1 => ift (decide (x1 < (r2.length : Int))) (bnd (at? r2 x1) fun e1 => ift (decide (e1 < (1 : Int))) (some (3 : Int)) (ref1_CheckSchema_l2 (ref1_CheckSchema_l1 r2 k1) r2 x1 e1 BIG (0 : Int))) (ref1_CheckSchema_j2)
def ref1_CheckSchema (p1 : (List GField)) : Option Int := bnd (ref1_CheckType (GType.mk (7 : Int) (0 : Int) p1)) fun r1 => ift (r1 != (0 : Int)) (some r1) (bnd (ref1_Ids BIG p1) fun r2 => ref1_CheckSchema_l1 r2 BIG (0 : Int))
theorem c_ref1_CheckSchema (p1 : (List GField)) (r : Int) (h : ref1_CheckSchema p1 = some r) : PC Tryd.prog 26 [vl eField p1] (vi r) := by
 unfold ref1_CheckSchema at h
 refine zF 40 Tryd.f26 (zq fun K1 m1 => zr (zg [] 1 [0] (zd (m1 _ _ (zq fun K2 m2 => zq fun K3 m3 => ?_)))))
 obtain ⟨r1, c4, h⟩ := zB h
 refine zr (zg [] 2 [0,8] (zl 51 [.ag [ci 7, ci 0, cl eField p1]] (vi r1) [(9, vi r1), (0, vl eField p1), (8, .ag [ci 7, ci 0, cl eField p1])] (c_ref1_CheckType _ _ c4) (zg [] 1 [0,3] (zd (m3 _ _ (zq fun K5 m5 => zr ?_))))))
 refine zg [] 2 [0,3,11] (zd (m5 _ _ (zC h (fun b6 h => ?_) (fun b6 h => ?_))))
 ·refine zq fun K7 m7 => zr (zv [] 2 [2] [] [(2, vi r1)] [] (zd (m7 _ _ (ze ?_))))
  obtain rfl := zj h
  exact zf [vi r1] (.one (.rfl _ rfl))
 ·refine zs (m2 _ _ (zq fun K8 m8 => ?_))
  obtain ⟨r2, c9, h⟩ := zB h
  refine zr (zg [] 1 [13] (za (c_ref1_Ids BIG _ _ c9) (zv [] 1 [4] [] [(4, vl eI r2)] [] (zd (m8 _ _ (zq fun K10 m10 => ?_))))))
  have j2 : ∀ (_ : Unit), ref1_CheckSchema_j2 = some r → ∀ w0 w1, Sub 40 0 [] w0 w1 [] [] → K10 w0 w1 := by
   intro _ h w0 w1 hS
   unfold ref1_CheckSchema_j2 at h
   refine m10 _ _ (XW.sub hS ?_)
   refine zq fun K31 m31 => zr (zg [] 1 [2] (zd (m31 _ _ (ze ?_))))
   obtain rfl := zj h
   exact zf [vi 0] (.one (.rfl _ rfl))
  refine zq fun K11 m11 => zr (zv [] 2 [4,16] [] [(4, vl eI r2), (16, vi ((eI.els r2).length : Int))] [] ?_)
  rw [eI.len r2]
  refine zg [] 1 [4,16,17] (zd (m11 _ _ (zb 0 (XW.rounds' BIG (x := cd Tryd.f26 [1,1,1,0,1,0,0]) (by kernel_rfl) fun Q1 hQ1 => ?_))))
  have hL1 : ∀ (k1 : Nat) (x1 : Int), ref1_CheckSchema_l1 r2 k1 x1 = some r → XR Tryd.prog 40 0 [] (cd Tryd.f26 [1,1,1,0,1,0,0]) Q1 k1 [(4, vl eI r2), (16, vi (r2.length : Int)), (17, vi x1)] [] := by
   intro k1
   induction k1 with
   | zero => intro x1 h; rw [ref1_CheckSchema_l1.eq_1] at h; cases h
   | succ k1 ih1 =>
    intro x1 h
    rw [ref1_CheckSchema_l1.eq_2] at h
    refine zq fun K12 m12 => zr (zg [] 1 [4,16,17,18] (zd (m12 _ _ (zq fun K13 m13 => zC h (fun b14 h => ?_) (fun b14 h => ?_)))))
    ·refine zs (m13 _ _ (zq fun K15 m15 => ?_))
     have j1 : ∀ (_ : Unit), ref1_CheckSchema_j1 (ref1_CheckSchema_l1 r2 k1) x1 = some r → ∀ w0 w1, Sub 40 0 [] w0 w1 [(4, vl eI r2), (16, vi (r2.length : Int)), (17, vi x1)] [] → K15 w0 w1 := by
      intro _ h w0 w1 hS
      unfold ref1_CheckSchema_j1 at h
      refine m15 _ _ (XW.sub hS ?_)
      exact zr (zg [] 2 [4,16,17] (zd (XR.sub (zk [4,16,17]) (ih1 (i64.wrap (x1 + (1 : Int))) h))))
     refine zb 1 (zq fun K16 m16 => zr (zg [] 2 [4,5,16,17] (zd (m16 _ _ (zq fun K17 m17 => zq fun K18 m18 => ?_)))))
     obtain ⟨e1, a19, h⟩ := zB h
     refine zr (zp [] 5 [4,5,16,17,24] [[pi e1]] [(4, vl eI r2), (5, vi x1), (16, vi (r2.length : Int)), (17, vi x1), (24, vb (decide (e1 < (1 : Int))))] [] [0 ≤ x1 ∧ x1 < ((eI.els r2).length : Int) ∧ elemsOk 1 (eI.els r2), (eI.els r2)[x1.toNat]? = some [pi e1]] (⟨eI.inb a19, (eI.get a19), trivial⟩) (zd (m18 _ _ (zC h (fun b20 h => ?_) (fun b20 h => ?_)))))
     ·refine zq fun K21 m21 => zr (zg [] 1 [2] (zd (m21 _ _ (ze (hQ1 _ _ _ ?_)))))
      obtain rfl := zj h
      exact zf [vi 3] (.one (.rfl _ rfl))
     ·refine zs (m17 _ _ (zq fun K22 m22 => zr (zg [] 1 [4,5,6,16,17] (zd (m22 _ _ (zb 2 ?_))))))
      refine XW.rounds' BIG (x := cd Tryd.f26 [1,1,1,0,1,0,0,1,1,0,0,1,1,1,0,0]) (by kernel_rfl) fun Q2 hQ2 => ?_
      have hL2 : ∀ (k2 : Nat) (x2 : Int), ref1_CheckSchema_l2 (ref1_CheckSchema_l1 r2 k1) r2 x1 e1 k2 x2 = some r → XR Tryd.prog 40 0 [] (cd Tryd.f26 [1,1,1,0,1,0,0,1,1,0,0,1,1,1,0,0]) Q2 k2 [(4, vl eI r2), (5, vi x1), (6, vi x2), (16, vi (r2.length : Int)), (17, vi x1)] [] := by
       intro k2
       induction k2 with
       | zero => intro x2 h; rw [ref1_CheckSchema_l2.eq_1] at h; cases h
       | succ k2 ih2 =>
        intro x2 h
        rw [ref1_CheckSchema_l2.eq_2] at h
        refine zq fun K23 m23 => zq fun K24 m24 => zr (zg [] 3 [4,5,6,16,17,27] (zd (m24 _ _ (zC h (fun b25 h => ?_) (fun b25 h => ?_)))))
        ·refine zs (m23 _ _ (zq fun K26 m26 => zb 3 (zq fun K27 m27 => ?_)))
         obtain ⟨e2, a28, h⟩ := zB h
         refine zw 8 [(37, vi e1), (36, .one (.pv (.rp (eI.els r2) x1.toNat 0))), (35, vi x1), (34, vl eI r2), (33, vi e2), (32, .one (.pv (.rp (eI.els r2) x2.toNat 0))), (31, vi x2), (30, vl eI r2), (4, vl eI r2), (5, vi x1), (6, vi x2), (16, vi (r2.length : Int)), (17, vi x1), (27, vb (decide (x2 < x1)))] ?_ ?_
         ·exact zyo 8 [[pi e2], [pi e1]] [0 ≤ x2 ∧ x2 < ((eI.els r2).length : Int) ∧ elemsOk 1 (eI.els r2), (eI.els r2)[x2.toNat]? = some [pi e2], 0 ≤ x1 ∧ x1 < ((eI.els r2).length : Int) ∧ elemsOk 1 (eI.els r2), (eI.els r2)[x1.toNat]? = some [pi e1]] (⟨eI.inb a28, (eI.get a28), eI.inb a19, (eI.get a19), trivial⟩) zyd
         refine zg [] 1 [4,5,6,16,17,38] (zd (m27 _ _ (zC h (fun b29 h => ?_) (fun b29 h => ?_))))
         ·refine zq fun K30 m30 => zr (zv [] 1 [2] [] [(2, vi 5)] [] (zd (m30 _ _ (ze (hQ2 _ _ _ (hQ1 _ _ _ ?_))))))
          obtain rfl := zj h
          exact zf [vi 5] (.one (.rfl _ rfl))
         ·exact zs (m26 _ _ (zr (zg [] 3 [4,5,6,16,17] (zd (XR.sub (zk [4,5,6,16,17]) (ih2 (i64.wrap (x2 + (1 : Int))) h))))))
        ·exact zx 2 (hQ2 _ _ _ (j1 () h _ _ (zk [4,16,17])))
      exact XR.sub (zk [4,5,6,16,17]) (hL2 BIG (0 : Int) h)
    ·exact zx 0 (hQ1 _ _ _ (j2 () h _ _ (zk [])))
  exact XR.sub (zk [4,16,17]) (hL1 BIG (0 : Int) h)
def ref2_ways_j1 (rec1 : List (List GField) → Int → Option (List (List GField))) (x1 : Int) (l3 : List (List GField)) : Option (List (List GField)) := rec1 l3 (i64.wrap (x1 + (1 : Int)))
def ref2_ways_l2 (rec1 : List (List GField) → Int → Option (List (List GField))) (x1 : Int) (e1 : GField) (r2 : (List (List GField))) : Nat → List (List GField) → Int → Option (List (List GField))
 | 0, _, _ => none
 | k2 + 1, l2, x2 => ift (decide (x2 < (r2.length : Int))) (bnd (at? r2 x2) fun e2 => grd ([e1].length + e2.length ≤ 4294967296) <| grd (l2.length + 1 ≤ 4294967296) <| (ref2_ways_l2 rec1 x1 e1 r2 k2) (l2 ++ [([e1] ++ e2)]) (i64.wrap (x2 + (1 : Int)))) (ref2_ways_j1 rec1 x1 l2)
def ref2_ways_j2 (l4 : List (List GField)) : Option (List (List GField)) := some l4
def ref2_ways_l1 (q_ref2_ways : (List GField) → Option (List (List GField))) (p1 : (List GField)) : Nat → List (List GField) → Int → Option (List (List GField))
 | 0, _, _ => none
 | k1 + 1, l1, x1 => ift (decide (x1 < (p1.length : Int))) (bnd (at? p1 x1) fun e1 => bnd (ref1_Leaf e1.type.kind) fun r1 => ift r1 (grd (l1.length + 1 ≤ 4294967296) <| ref2_ways_j1 (ref2_ways_l1 q_ref2_ways p1 k1) x1 (l1 ++ [[e1]])) (bnd (q_ref2_ways e1.type.fields) fun r2 => ref2_ways_l2 (ref2_ways_l1 q_ref2_ways p1 k1) x1 e1 r2 BIG l1 (0 : Int))) (ref2_ways_j2 l1)
def ref2_ways : Nat → (List GField) → Option (List (List GField))
 | 0, _ => none
 | k0 + 1, p1 => ref2_ways_l1 (ref2_ways k0) p1 BIG [] (0 : Int)
abbrev qa2041 (p1 : (List GField)) (x1 : Int) (e1 : GField) (r2 : (List (List GField))) (l2 : List (List GField)) (x2 : Int) (e2 : (List GField)) : Fr := [(3, .one (.sl 0 1 0 ((l2 ++ [([e1] ++ e2)]).length))), (5, vq 1), (8, vl eField p1), (9, vi (p1.length : Int)), (10, vi x1), (26, vl (eL eField) r2), (27, vi (r2.length : Int)), (28, vi (i64.wrap (x2 + (1 : Int))))]
theorem c_ref2_ways : ∀ (k0 : Nat) (p1 : (List GField)) (r : (List (List GField))), ref2_ways k0 p1 = some r → PC Tryd.prog 53 [vl eField p1] (vl (eL eField) r)
 | 0, _, r, h => by rw [ref2_ways.eq_1] at h; cases h
 | k0 + 1, p1, r, h => by
  rw [ref2_ways.eq_2] at h
  refine zF 42 Tryd.f53 (zq fun K1 m1 => zr (zg [5, 34] 1 [0] (zd (m1 _ _ (zq fun K2 m2 => zr ?_)))))
  refine zg [5, 34] 1 [0,3] (zd (m2 _ _ (zq fun K3 m3 => ?_)))
  have j2 : ∀ (l4 : List (List GField)), ref2_ways_j2 l4 = some r → ∀ w0 w1, Sub 42 0 [] w0 w1 [(3, .one (.sl 0 1 0 l4.length))] [.arr 1 ((eL eField).els l4)] → K3 w0 w1 := by
   intro l4 h w0 w1 hS
   unfold ref2_ways_j2 at h
   refine m3 _ _ (XW.sub hS ?_)
   refine zq fun K27 m27 => zr (zg [5, 34] 2 [2] (zd (m27 _ _ (ze ?_))))
   obtain rfl := zj h
   exact zf [.one (.sl 0 1 0 l4.length)] (.one (cf_sl (eL eField) l4 rfl rfl rfl))
  refine zq fun K4 m4 => zr (zv [5, 34] 2 [3,8,9] [] [(3, .one (.pv (.s (.slice none 0 0)))), (8, vl eField p1), (9, vi ((eField.els p1).length : Int))] [] ?_)
  rw [eField.len p1]
  refine zv [5, 34] 1 [3,8,9,10] [] [(3, .one (.pv (.s (.slice none 0 0)))), (8, vl eField p1), (9, vi (p1.length : Int)), (10, vi 0)] [] (zd (m4 _ _ (zb 0 (XW.sub (Sub.list (t := 3) (sz := 1) rfl) (XW.rounds' BIG (x := cd Tryd.f53 [1,1,0,1,0,0]) (by kernel_rfl) fun Q1 hQ1 => ?_)))))
  have hL1 : ∀ (k1 : Nat) (l1 : List (List GField)) (x1 : Int), ref2_ways_l1 (ref2_ways k0) p1 k1 l1 x1 = some r → XR Tryd.prog 42 0 [] (cd Tryd.f53 [1,1,0,1,0,0]) Q1 k1 [(3, .one (.sl 0 1 0 l1.length)), (8, vl eField p1), (9, vi (p1.length : Int)), (10, vi x1)] [.arr 1 ((eL eField).els l1)] := by
   intro k1
   induction k1 with
   | zero => intro l1 x1 h; rw [ref2_ways_l1.eq_1] at h; cases h
   | succ k1 ih1 =>
    intro l1 x1 h
    rw [ref2_ways_l1.eq_2] at h
    refine zq fun K5 m5 => zr (zg [5, 34] 1 [3,8,9,10,11] (zd (m5 _ _ (zq fun K6 m6 => zC h (fun b7 h => ?_) (fun b7 h => ?_)))))
    ·refine zs (m6 _ _ (zq fun K8 m8 => ?_))
     have j1 : ∀ (l3 : List (List GField)), ref2_ways_j1 (ref2_ways_l1 (ref2_ways k0) p1 k1) x1 l3 = some r → ∀ w0 w1, Sub 42 0 [] w0 w1 [(3, .one (.sl 0 1 0 l3.length)), (8, vl eField p1), (9, vi (p1.length : Int)), (10, vi x1)] [.arr 1 ((eL eField).els l3)] → K8 w0 w1 := by
      intro l3 h w0 w1 hS
      unfold ref2_ways_j1 at h
      refine m8 _ _ (XW.sub hS ?_)
      exact zr (zg [5, 34] 2 [3,8,9,10] (zd (XR.sub (zk [3,8,9,10]) (ih1 l3 (i64.wrap (x1 + (1 : Int))) h))))
     refine zb 1 (zq fun K9 m9 => ?_)
     obtain ⟨e1, a10, h⟩ := zB h
     refine zr (zo [5, 34] 4 [3,5,8,9,10] [(qa1299 e1)] [0 ≤ x1 ∧ x1 < ((eField.els p1).length : Int) ∧ elemsOk 6 (eField.els p1), (eField.els p1)[x1.toNat]? = some (qa1299 e1)] (⟨eField.inb a10, ((eField.get a10).trans (by rcases e1 with ⟨_, _, _, ⟨_, _, _⟩⟩; rfl)), trivial⟩) (zd (m9 _ _ (zq fun K11 m11 => zq fun K12 m12 => ?_))))
     obtain ⟨r1, c13, h⟩ := zB h
     refine zr (zv [5, 34] 3 [3,5,8,9,10,16] [] [(3, .one (.sl 0 1 0 l1.length)), (5, vq 1), (8, vl eField p1), (9, vi (p1.length : Int)), (10, vi x1), (16, vi e1.type.kind)] [.arr 1 ((eL eField).els l1), .box (qa1305 e1)] (za (c_ref1_Leaf _ _ c13) (zd (m12 _ _ (zC h (fun b14 h => ?_) (fun b14 h => ?_))))))
     ·refine zq fun K15 m15 => ?_
      obtain ⟨g16, h⟩ := zG h
      refine zr (zv [5, 34] 3 [8,9,10,18,20] [] [(8, vl eField p1), (9, vi (p1.length : Int)), (10, vi x1), (18, .one (.sl 0 1 0 l1.length)), (20, .one (.pv (.ro [[pi e1.id, .s (.string e1.name), .s (.bool e1.need), pi e1.type.kind, pi e1.type.scale, .ro (eField.els e1.type.fields)]])))] [.arr 1 ((eL eField).els l1), .box [ci e1.id, cst e1.name, cb e1.need, ci e1.type.kind, ci e1.type.scale, cl eField e1.type.fields]] ?_)
      rw [show ([[pi e1.id, .s (.string e1.name), .s (.bool e1.need), pi e1.type.kind, pi e1.type.scale, .ro (eField.els e1.type.fields)]] : List (List PV)) = eField.els [e1] from by rcases e1 with ⟨_, _, _, ⟨_, _, _⟩⟩; rfl]
      refine zp [5, 34] 2 [8,9,10,22] [] [(8, vl eField p1), (9, vi (p1.length : Int)), (10, vi x1), (22, .one (.sl 0 1 0 (l1.length + ((eL eField).els ([[e1]])).length)))] [.arr 1 ((eL eField).els l1 ++ (eL eField).els ([[e1]])), .box [ci e1.id, cst e1.name, cb e1.need, ci e1.type.kind, ci e1.type.scale, cl eField e1.type.fields]] [elemsOk 1 ((eL eField).els ([[e1]])), l1.length = ((eL eField).els l1).length, l1.length + ((eL eField).els ([[e1]])).length ≤ 4294967296] (⟨(eL eField).ok _, ((eL eField).len l1).symm, g16, trivial⟩) ?_
      rw [show l1.length + ((eL eField).els ([[e1]])).length = (l1 ++ [[e1]]).length from (eL eField).lapp _ _]
      rw [show (eL eField).els l1 ++ (eL eField).els ([[e1]]) = (eL eField).els (l1 ++ [[e1]]) from (eL eField).app2 _ _]
      exact zg [5, 34] 1 [3,8,9,10] (zd (m15 _ _ (zx 1 (j1 (l1 ++ [[e1]]) h _ _ (Sub.trans (Sub.pick (fr' := [(3, .one (.sl 0 1 0 ((l1 ++ [[e1]]).length))), (8, vl eField p1), (9, vi (p1.length : Int)), (10, vi x1)]) [3,8,9,10] (by kernel_rfl)) (Sub.take (fr' := [(3, .one (.sl 0 1 0 ((l1 ++ [[e1]]).length))), (8, vl eField p1), (9, vi (p1.length : Int)), (10, vi x1)]) 1 (Nat.zero_le _) (by kernel_rfl) (by kernel_rfl)))))))
     ·refine zs (m11 _ _ (zq fun K17 m17 => ?_))
      obtain ⟨r2, c18, h⟩ := zB h
      refine zr (zg [5, 34] 3 [3,5,8,9,10,25] (zl 53 [vl eField e1.type.fields] (vl (eL eField) r2) [(26, vl (eL eField) r2), (3, .one (.sl 0 1 0 l1.length)), (5, vq 1), (8, vl eField p1), (9, vi (p1.length : Int)), (10, vi x1), (25, vl eField e1.type.fields)] (c_ref2_ways k0 _ _ c18) ?_))
      refine zv [5, 34] 1 [3,5,8,9,10,26,27] [] [(3, .one (.sl 0 1 0 l1.length)), (5, vq 1), (8, vl eField p1), (9, vi (p1.length : Int)), (10, vi x1), (26, vl (eL eField) r2), (27, vi (((eL eField).els r2).length : Int))] [.arr 1 ((eL eField).els l1), .box [ci e1.id, cst e1.name, cb e1.need, ci e1.type.kind, ci e1.type.scale, cl eField e1.type.fields]] ?_
      rw [(eL eField).len r2]
      refine zg [5, 34] 1 [3,5,8,9,10,26,27,28] (zd (m17 _ _ (zb 2 (XW.rounds' BIG (x := cd Tryd.f53 [1,1,0,1,0,0,1,1,0,0,1,1,1,0,0]) (by kernel_rfl) fun Q2 hQ2 => ?_))))
      have hL2 : ∀ (k2 : Nat) (l2 : List (List GField)) (x2 : Int), ref2_ways_l2 (ref2_ways_l1 (ref2_ways k0) p1 k1) x1 e1 r2 k2 l2 x2 = some r → XR Tryd.prog 42 0 [] (cd Tryd.f53 [1,1,0,1,0,0,1,1,0,0,1,1,1,0,0]) Q2 k2 [(3, .one (.sl 0 1 0 l2.length)), (5, vq 1), (8, vl eField p1), (9, vi (p1.length : Int)), (10, vi x1), (26, vl (eL eField) r2), (27, vi (r2.length : Int)), (28, vi x2)] [.arr 1 ((eL eField).els l2), .box (qa1305 e1)] := by
       intro k2
       induction k2 with
       | zero => intro l2 x2 h; rw [ref2_ways_l2.eq_1] at h; cases h
       | succ k2 ih2 =>
        intro l2 x2 h
        rw [ref2_ways_l2.eq_2] at h
        refine zq fun K19 m19 => zr (zg [5, 34] 1 [3,5,8,9,10,26,27,28,29] (zd (m19 _ _ (zq fun K20 m20 => zC h (fun b21 h => ?_) (fun b21 h => ?_)))))
        ·refine zs (m20 _ _ (zq fun K22 m22 => zb 3 (zq fun K23 m23 => ?_)))
         obtain ⟨e2, a24, h⟩ := zB h
         refine zr (zo [5, 34] 3 [3,5,7,8,9,10,26,27,28] [[.ro (eField.els e2)]] [0 ≤ x2 ∧ x2 < (((eL eField).els r2).length : Int) ∧ elemsOk 1 ((eL eField).els r2), ((eL eField).els r2)[x2.toNat]? = some [.ro (eField.els e2)]] (⟨(eL eField).inb a24, ((eL eField).get a24), trivial⟩) (zd (m23 _ _ ?_)))
         obtain ⟨g25, h⟩ := zG h
         obtain ⟨g26, h⟩ := zG h
         refine zr (zv [5, 34] 3 [5,7,8,9,10,26,27,28,32,34] [] [(5, vq 1), (7, vl eField e2), (8, vl eField p1), (9, vi (p1.length : Int)), (10, vi x1), (26, vl (eL eField) r2), (27, vi (r2.length : Int)), (28, vi x2), (32, .one (.sl 0 1 0 l2.length)), (34, .one (.sl 2 6 0 1))] [.arr 1 ((eL eField).els l2), .box [ci e1.id, cst e1.name, cb e1.need, ci e1.type.kind, ci e1.type.scale, cl eField e1.type.fields], .arr 6 [[pi e1.id, .s (.string e1.name), .s (.bool e1.need), pi e1.type.kind, pi e1.type.scale, .ro (eField.els e1.type.fields)]]] ?_)
         rw [show ([[pi e1.id, .s (.string e1.name), .s (.bool e1.need), pi e1.type.kind, pi e1.type.scale, .ro (eField.els e1.type.fields)]] : List (List PV)) = eField.els [e1] from by rcases e1 with ⟨_, _, _, ⟨_, _, _⟩⟩; rfl]
         refine zp [5, 34] 2 [5,8,9,10,26,27,28,32,36] [] [(5, vq 1), (8, vl eField p1), (9, vi (p1.length : Int)), (10, vi x1), (26, vl (eL eField) r2), (27, vi (r2.length : Int)), (28, vi x2), (32, .one (.sl 0 1 0 l2.length)), (36, .one (.sl 2 6 0 (1 + (eField.els e2).length)))] [.arr 1 ((eL eField).els l2), .box [ci e1.id, cst e1.name, cb e1.need, ci e1.type.kind, ci e1.type.scale, cl eField e1.type.fields], .arr 6 (eField.els [e1] ++ eField.els e2)] [elemsOk 6 (eField.els e2), 1 = (eField.els [e1]).length, 1 + (eField.els e2).length ≤ 4294967296] (⟨eField.ok _, (by simp [Enc.len]), (by simp [Enc.len] at * <;> omega), trivial⟩) ?_
         rw [show 1 + (eField.els e2).length = ([e1] ++ e2).length from (by simp [Enc.len] <;> omega)]
         rw [show eField.els [e1] ++ eField.els e2 = eField.els ([e1] ++ e2) from eField.app2 _ _]
         refine XO.sub (Sub.kill (fr' := [(5, vq 1), (8, vl eField p1), (9, vi (p1.length : Int)), (10, vi x1), (26, vl (eL eField) r2), (27, vi (r2.length : Int)), (28, vi x2), (32, .one (.sl 0 1 0 l2.length)), (36, vl eField ([e1] ++ e2))]) 2 (Nat.zero_le _) (by kernel_rfl) ⟨.one (.rfl _ rfl), .one (.rfl _ rfl), .one (.rfl _ rfl), .one (.rfl _ rfl), .one (.rfl _ rfl), .one (.rfl _ rfl), .one (.rfl _ rfl), .one (.rfl _ rfl), .one (cf_sl eField ([e1] ++ e2) rfl rfl rfl), trivial⟩) ?_
         refine zp [5, 34] 2 [5,8,9,10,26,27,28,38] [] [(5, vq 1), (8, vl eField p1), (9, vi (p1.length : Int)), (10, vi x1), (26, vl (eL eField) r2), (27, vi (r2.length : Int)), (28, vi x2), (38, .one (.sl 0 1 0 (l2.length + ((eL eField).els ([([e1] ++ e2)])).length)))] [.arr 1 ((eL eField).els l2 ++ (eL eField).els ([([e1] ++ e2)])), .box [ci e1.id, cst e1.name, cb e1.need, ci e1.type.kind, ci e1.type.scale, cl eField e1.type.fields], .dead] [elemsOk 1 ((eL eField).els ([([e1] ++ e2)])), l2.length = ((eL eField).els l2).length, l2.length + ((eL eField).els ([([e1] ++ e2)])).length ≤ 4294967296] (⟨(eL eField).ok _, ((eL eField).len l2).symm, g26, trivial⟩) ?_
         rw [show l2.length + ((eL eField).els ([([e1] ++ e2)])).length = (l2 ++ [([e1] ++ e2)]).length from (eL eField).lapp _ _]
         rw [show (eL eField).els l2 ++ (eL eField).els ([([e1] ++ e2)]) = (eL eField).els (l2 ++ [([e1] ++ e2)]) from (eL eField).app2 _ _]
         refine zg [5, 34] 1 [3,5,8,9,10,26,27,28] (zd (m22 _ _ (zr (zg [5, 34] 2 [3,5,8,9,10,26,27,28] (zd ?_)))))
         exact XR.sub (Sub.trans (Sub.pick (fr' := (qa2041 p1 x1 e1 r2 l2 x2 e2)) [3,5,8,9,10,26,27,28] (by kernel_rfl)) (Sub.take (fr' := (qa2041 p1 x1 e1 r2 l2 x2 e2)) 2 (Nat.zero_le _) (by kernel_rfl) (by kernel_rfl))) (ih2 (l2 ++ [([e1] ++ e2)]) (i64.wrap (x2 + (1 : Int))) h)
        ·exact zx 2 (hQ2 _ _ _ (j1 l2 h _ _ (Sub.trans (Sub.pick (fr' := [(3, .one (.sl 0 1 0 l2.length)), (8, vl eField p1), (9, vi (p1.length : Int)), (10, vi x1)]) [3,8,9,10] (by kernel_rfl)) (Sub.take (fr' := [(3, .one (.sl 0 1 0 l2.length)), (8, vl eField p1), (9, vi (p1.length : Int)), (10, vi x1)]) 1 (Nat.zero_le _) (by kernel_rfl) (by kernel_rfl)))))
      exact XR.sub (zk [3,5,8,9,10,26,27,28]) (hL2 BIG l1 (0 : Int) h)
    ·exact zx 0 (hQ1 _ _ _ (j2 l1 h _ _ (zk [3])))
  exact XR.sub (zk [3,8,9,10]) (hL1 BIG [] (0 : Int) h)
def ref2_leafOf_j2 (rec1 : List Int → Int → Int → List GField → Int → Int → Int → Option GLeaf) (x1 : Int) (l2 : List Int) (z7 : Int) (z8 : Int) (z9 : List GField) (z10 : Int) (z11 : Int) : Option GLeaf := rec1 l2 z7 z8 z9 z10 z11 (i64.wrap (x1 + (1 : Int)))
def ref2_leafOf_j1 (rec1 : List Int → Int → Int → List GField → Int → Int → Int → Option GLeaf) (l1 : List Int) (z5 : Int) (x1 : Int) (e1 : GField) (z6 : Int) : Option GLeaf := ift (e1.type.kind == (6 : Int)) (ref2_leafOf_j2 rec1 x1 (l1 ++ [e1.id]) e1.type.kind e1.type.scale e1.type.fields (i64.wrap (z6 + (1 : Int))) (i64.wrap (z5 + (1 : Int)))) (ref2_leafOf_j2 rec1 x1 (l1 ++ [e1.id]) e1.type.kind e1.type.scale e1.type.fields z6 z5)
def ref2_leafOf_j3 (l3 : List Int) (z12 : Int) (z13 : Int) (z14 : List GField) (z15 : Int) (z16 : Int) : Option GLeaf := some (GLeaf.mk l3 (GType.mk z12 z13 z14) z15 z16)
def ref2_leafOf_l1 (p1 : (List GField)) : Nat → List Int → Int → Int → List GField → Int → Int → Int → Option GLeaf
 | 0, _, _, _, _, _, _, _ => none
 | k1 + 1, l1, z1, z2, z3, z4, z5, x1 => ift (decide (x1 < (p1.length : Int))) (bnd (at? p1 x1) fun e1 => grd (l1.length + 1 ≤ 4294967296) <| ift (!e1.need) (ref2_leafOf_j1 (ref2_leafOf_l1 p1 k1) l1 z5 x1 e1 (i64.wrap (z4 + (1 : Int)))) (ref2_leafOf_j1 (ref2_leafOf_l1 p1 k1) l1 z5 x1 e1 z4)) (ref2_leafOf_j3 l1 z1 z2 z3 z4 z5)
def ref2_leafOf (p1 : (List GField)) : Option GLeaf := ref2_leafOf_l1 p1 BIG [] (0 : Int) (0 : Int) [] (0 : Int) (0 : Int) (0 : Int)
abbrev qa2047 : List CV := [.pv (.s (.slice none 0 0)), ci 0, ci 0, .pv (.s (.slice none 0 0)), ci 0, ci 0]
abbrev qa2051 (p1 : (List GField)) (x1 : Int) : Fr := [(2, vq 0), (3, vq 1), (6, vl eField p1), (7, vi (p1.length : Int)), (8, vi x1)]
theorem c_ref2_leafOf (p1 : (List GField)) (r : GLeaf) (h : ref2_leafOf p1 = some r) : PC Tryd.prog 54 [vl eField p1] (.ag [cl eI r.path, ci r.type.kind, ci r.type.scale, cl eField r.type.fields, ci r.df, ci r.rep]) := by
 unfold ref2_leafOf at h
 refine zF 43 Tryd.f54 (zq fun K1 m1 => zr (zg [2, 3, 5] 1 [0,2] (zd (m1 _ _ (zq fun K2 m2 => zr ?_)))))
 refine zg [2, 3, 5] 1 [0,2,3] (zd (m2 _ _ (zq fun K3 m3 => ?_)))
 have j3 : ∀ (l3 : List Int) (z12 : Int) (z13 : Int) (z14 : List GField) (z15 : Int) (z16 : Int), ref2_leafOf_j3 l3 z12 z13 z14 z15 z16 = some r → ∀ w0 w1, Sub 43 0 [] w0 w1 [(2, vq 0), (3, vq 1)] [.box qa2047, .box [.sl 2 1 0 l3.length, ci z12, ci z13, cl eField z14, ci z15, ci z16], .arr 1 (eI.els l3)] → K3 w0 w1 := by
  intro l3 z12 z13 z14 z15 z16 h w0 w1 hS
  unfold ref2_leafOf_j3 at h
  refine m3 _ _ (XW.sub hS ?_)
  refine zq fun K20 m20 => zr (zg [2, 3, 5] 2 [2] (zd (m20 _ _ (ze ?_))))
  obtain rfl := zj h
  exact zf [.ag [.sl 2 1 0 l3.length, ci z12, ci z13, cl eField z14, ci z15, ci z16]] (.ag (.cons (cf_sl eI l3 rfl rfl rfl) (.cons (.rfl _ rfl) (.cons (.rfl _ rfl) (.cons (.rfl _ rfl) (.cons (.rfl _ rfl) (.cons (.rfl _ rfl) .nil)))))))
 refine zq fun K4 m4 => zr (zv [2, 3, 5] 2 [2,3,6,7] [] [(2, vq 0), (3, vq 1), (6, vl eField p1), (7, vi ((eField.els p1).length : Int))] [.box [.pv (.s (.slice none 0 0)), ci 0, ci 0, .pv (.s (.slice none 0 0)), ci 0, ci 0], .box [.pv (.s (.slice none 0 0)), ci 0, ci 0, .pv (.s (.slice none 0 0)), ci 0, ci 0]] ?_)
 rw [eField.len p1]
 refine zv [2, 3, 5] 1 [2,3,6,7,8] [] [(2, vq 0), (3, vq 1), (6, vl eField p1), (7, vi (p1.length : Int)), (8, vi 0)] [.box qa2047, .box qa2047] (zd (m4 _ _ (zb 0 ?_)))
 refine XW.sub (Sub.listb 1 0 1 qa2047 rfl rfl [.box qa2047, .box [.sl 2 1 0 0, ci 0, ci 0, .pv (.s (.slice none 0 0)), ci 0, ci 0], .arr 1 (eI.els [])] rfl) ?_
 refine XW.sub (Sub.softb 1 3 [.sl 2 1 0 0, ci 0, ci 0, .pv (.s (.slice none 0 0)), ci 0, ci 0] rfl rfl [.box [.pv (.s (.slice none 0 0)), ci 0, ci 0, .pv (.s (.slice none 0 0)), ci 0, ci 0], .box [.sl 2 1 0 0, ci 0, ci 0, cl eField [], ci 0, ci 0], .arr 1 (eI.els [])] rfl) (XW.rounds' BIG (x := cd Tryd.f54 [1,1,0,1,0,0]) (by kernel_rfl) fun Q1 hQ1 => ?_)
 have hL1 : ∀ (k1 : Nat) (l1 : List Int) (z1 : Int) (z2 : Int) (z3 : List GField) (z4 : Int) (z5 : Int) (x1 : Int), ref2_leafOf_l1 p1 k1 l1 z1 z2 z3 z4 z5 x1 = some r → XR Tryd.prog 43 0 [] (cd Tryd.f54 [1,1,0,1,0,0]) Q1 k1 (qa2051 p1 x1) [.box qa2047, .box [.sl 2 1 0 l1.length, ci z1, ci z2, cl eField z3, ci z4, ci z5], .arr 1 (eI.els l1)] := by
  intro k1
  induction k1 with
  | zero => intro l1 z1 z2 z3 z4 z5 x1 h; rw [ref2_leafOf_l1.eq_1] at h; cases h
  | succ k1 ih1 =>
   intro l1 z1 z2 z3 z4 z5 x1 h
   rw [ref2_leafOf_l1.eq_2] at h
   refine zq fun K5 m5 => zr (zg [2, 3, 5] 1 [2,3,6,7,8,9] (zd (m5 _ _ (zq fun K6 m6 => zC h (fun b7 h => ?_) (fun b7 h => ?_)))))
   ·refine zs (m6 _ _ (zq fun K8 m8 => ?_))
    have j2 : ∀ (l2 : List Int) (z7 : Int) (z8 : Int) (z9 : List GField) (z10 : Int) (z11 : Int), ref2_leafOf_j2 (ref2_leafOf_l1 p1 k1) x1 l2 z7 z8 z9 z10 z11 = some r → ∀ w0 w1, Sub 43 0 [] w0 w1 (qa2051 p1 x1) [.box qa2047, .box [.sl 2 1 0 l2.length, ci z7, ci z8, cl eField z9, ci z10, ci z11], .arr 1 (eI.els l2)] → K8 w0 w1 := by
     intro l2 z7 z8 z9 z10 z11 h w0 w1 hS
     unfold ref2_leafOf_j2 at h
     refine m8 _ _ (XW.sub hS ?_)
     exact zr (zg [2, 3, 5] 2 [2,3,6,7,8] (zd (XR.sub (zk [2,3,6,7,8]) (ih1 l2 z7 z8 z9 z10 z11 (i64.wrap (x1 + (1 : Int))) h))))
    refine zb 1 (zq fun K9 m9 => ?_)
    obtain ⟨e1, a10, h⟩ := zB h
    refine zr (zo [2, 3, 5] 4 [2,3,5,6,7,8] [(qa1299 e1)] [0 ≤ x1 ∧ x1 < ((eField.els p1).length : Int) ∧ elemsOk 6 (eField.els p1), (eField.els p1)[x1.toNat]? = some (qa1299 e1)] (⟨eField.inb a10, ((eField.get a10).trans (by rcases e1 with ⟨_, _, _, ⟨_, _, _⟩⟩; rfl)), trivial⟩) (zd (m9 _ _ (zq fun K11 m11 => ?_))))
    obtain ⟨g12, h⟩ := zG h
    refine zr (zv [2, 3, 5] 5 [2,3,5,6,7,8,13,16] [] [(2, vq 0), (3, vq 1), (5, vq 3), (6, vl eField p1), (7, vi (p1.length : Int)), (8, vi x1), (13, .one (.sl 2 1 0 l1.length)), (16, vl eI [e1.id])] [.box qa2047, .box [.sl 2 1 0 l1.length, ci z1, ci z2, cl eField z3, ci z4, ci z5], .arr 1 (eI.els l1), .box (qa1305 e1)] ?_)
    refine XO.sub (Sub.stale 1 0 2 1 0 l1.length [.sl 2 1 0 l1.length, ci z1, ci z2, cl eField z3, ci z4, ci z5] rfl rfl [.box qa2047, .box [.sl 4 1 0 l1.length, ci z1, ci z2, cl eField z3, ci z4, ci z5], .arr 1 (eI.els l1), .box (qa1305 e1), .dead] rfl) ?_
    refine zp [2, 3, 5] 1 [2,3,5,6,7,8,17] [] [(2, vq 0), (3, vq 1), (5, vq 3), (6, vl eField p1), (7, vi (p1.length : Int)), (8, vi x1), (17, .one (.sl 2 1 0 (l1.length + (eI.els [e1.id]).length)))] [.box [.pv (.s (.slice none 0 0)), ci 0, ci 0, .pv (.s (.slice none 0 0)), ci 0, ci 0], .box [.sl 4 1 0 l1.length, ci z1, ci z2, cl eField z3, ci z4, ci z5], .arr 1 (eI.els l1 ++ eI.els [e1.id]), .box [ci e1.id, cst e1.name, cb e1.need, ci e1.type.kind, ci e1.type.scale, cl eField e1.type.fields], .dead] [elemsOk 1 (eI.els [e1.id]), l1.length = (eI.els l1).length, l1.length + (eI.els [e1.id]).length ≤ 4294967296] (⟨eI.ok _, (eI.len l1).symm, g12, trivial⟩) ?_
    rw [show l1.length + (eI.els [e1.id]).length = (l1 ++ [e1.id]).length from eI.lapp _ _]
    rw [show eI.els l1 ++ eI.els [e1.id] = eI.els (l1 ++ [e1.id]) from eI.app2 _ _]
    refine zg [2, 3, 5] 2 [2,3,5,6,7,8] (zd (m11 _ _ (zq fun K13 m13 => zr (zg [2, 3, 5] 4 [2,3,5,6,7,8] (zd (m13 _ _ ?_))))))
    refine zq fun K14 m14 => ?_
    have j1 : ∀ (z6 : Int), ref2_leafOf_j1 (ref2_leafOf_l1 p1 k1) l1 z5 x1 e1 z6 = some r → ∀ w0 w1, Sub 43 0 [] w0 w1 [(2, vq 0), (3, vq 1), (5, vq 3), (6, vl eField p1), (7, vi (p1.length : Int)), (8, vi x1)] [.box qa2047, .box [.sl 2 1 0 ((l1 ++ [e1.id]).length), ci e1.type.kind, ci e1.type.scale, cl eField e1.type.fields, ci z6, ci z5], .arr 1 (eI.els (l1 ++ [e1.id])), .box (qa1305 e1), .dead] → K14 w0 w1 := by
     intro z6 h w0 w1 hS
     unfold ref2_leafOf_j1 at h
     refine m14 _ _ (XW.sub hS ?_)
     refine zq fun K17 m17 => zr (zg [2, 3, 5] 4 [2,3,6,7,8,32] (zd (m17 _ _ (zC h (fun b18 h => ?_) (fun b18 h => ?_)))))
     ·refine zq fun K19 m19 => zr (zg [2, 3, 5] 5 [2,3,6,7,8] (zd (m19 _ _ (zr ?_))))
      refine zv [2, 3, 5] 5 [2,3,6,7,8] [] (qa2051 p1 x1) [.box qa2047, .box [.sl 2 1 0 ((l1 ++ [e1.id]).length), ci e1.type.kind, ci e1.type.scale, cl eField e1.type.fields, ci (i64.wrap (z6 + (1 : Int))), ci (i64.wrap (z5 + (1 : Int)))], .arr 1 (eI.els (l1 ++ [e1.id])), .box (qa1305 e1), .dead] ?_
      exact zd (j2 (l1 ++ [e1.id]) e1.type.kind e1.type.scale e1.type.fields (i64.wrap (z6 + (1 : Int))) (i64.wrap (z5 + (1 : Int))) h _ _ (Sub.trans (Sub.pick (fr' := (qa2051 p1 x1)) [2,3,6,7,8] (by kernel_rfl)) (Sub.take (fr' := (qa2051 p1 x1)) 3 (Nat.zero_le _) (by kernel_rfl) (by kernel_rfl))))
     ·exact zs (j2 (l1 ++ [e1.id]) e1.type.kind e1.type.scale e1.type.fields z6 z5 h _ _ (Sub.trans (Sub.pick (fr' := (qa2051 p1 x1)) [2,3,6,7,8] (by kernel_rfl)) (Sub.take (fr' := (qa2051 p1 x1)) 3 (Nat.zero_le _) (by kernel_rfl) (by kernel_rfl))))
    refine zq fun K15 m15 => zr ?_
    refine zv [2, 3, 5] 3 [2,3,5,6,7,8,24] [] [(2, vq 0), (3, vq 1), (5, vq 3), (6, vl eField p1), (7, vi (p1.length : Int)), (8, vi x1), (24, vb (!e1.need))] [.box qa2047, .box [.sl 2 1 0 ((l1 ++ [e1.id]).length), ci e1.type.kind, ci e1.type.scale, cl eField e1.type.fields, ci z4, ci z5], .arr 1 (eI.els (l1 ++ [e1.id])), .box (qa1305 e1), .dead] (zd (m15 _ _ ?_))
    refine zC h (fun b16 h => ?_) (fun b16 h => ?_)
    ·exact zr (zg [2, 3, 5] 5 [2,3,5,6,7,8] (zd (j1 (i64.wrap (z4 + (1 : Int))) h _ _ (zk [2,3,5,6,7,8]))))
    ·exact zs (j1 z4 h _ _ (zk [2,3,5,6,7,8]))
   ·exact zx 0 (hQ1 _ _ _ (j3 l1 z1 z2 z3 z4 z5 h _ _ (zk [2,3])))
 exact XR.sub (zk [2,3,6,7,8]) (hL1 BIG [] (0 : Int) (0 : Int) [] (0 : Int) (0 : Int) (0 : Int) h)
def ref2_leaves_j1 (l2 : List GLeaf) : Option (List GLeaf) := some l2
def ref2_leaves_l1 (r1 : (List (List GField))) : Nat → List GLeaf → Int → Option (List GLeaf)
 | 0, _, _ => none
 | k1 + 1, l1, x1 => ift (decide (x1 < (r1.length : Int))) (bnd (at? r1 x1) fun e1 => bnd (ref2_leafOf e1) fun r2 => grd (l1.length + 1 ≤ 4294967296) <| (ref2_leaves_l1 r1 k1) (l1 ++ [r2]) (i64.wrap (x1 + (1 : Int)))) (ref2_leaves_j1 l1)
def ref2_leaves (p1 : (List GField)) : Option (List GLeaf) := bnd (ref2_ways BIG p1) fun r1 => ref2_leaves_l1 r1 BIG [] (0 : Int)
theorem c_ref2_leaves (p1 : (List GField)) (r : (List GLeaf)) (h : ref2_leaves p1 = some r) : PC Tryd.prog 27 [vl eField p1] (vl eLeaf r) := by
 unfold ref2_leaves at h
 refine zF 20 Tryd.f27 (zq fun K1 m1 => zr (zg [] 1 [0] (zd (m1 _ _ (zq fun K2 m2 => zr ?_)))))
 refine zg [] 1 [0,3] (zd (m2 _ _ (zq fun K3 m3 => ?_)))
 have j1 : ∀ (l2 : List GLeaf), ref2_leaves_j1 l2 = some r → ∀ w0 w1, Sub 20 0 [] w0 w1 [(3, .one (.sl 0 6 0 l2.length))] [.arr 6 (eLeaf.els l2)] → K3 w0 w1 := by
  intro l2 h w0 w1 hS
  unfold ref2_leaves_j1 at h
  refine m3 _ _ (XW.sub hS ?_)
  refine zq fun K14 m14 => zr (zg [] 2 [2] (zd (m14 _ _ (ze ?_))))
  obtain rfl := zj h
  exact zf [.one (.sl 0 6 0 l2.length)] (.one (cf_sl eLeaf l2 rfl rfl rfl))
 refine zq fun K4 m4 => ?_
 obtain ⟨r1, c5, h⟩ := zB h
 refine zr (zv [] 1 [3,6] [] [(3, .one (.pv (.s (.slice none 0 0)))), (6, vl eField p1)] [] (za (c_ref2_ways BIG _ _ c5) (zv [] 1 [3,7,8] [] [(3, .one (.pv (.s (.slice none 0 0)))), (7, vl (eL eField) r1), (8, vi (((eL eField).els r1).length : Int))] [] ?_)))
 rw [(eL eField).len r1]
 refine zv [] 1 [3,7,8,9] [] [(3, .one (.pv (.s (.slice none 0 0)))), (7, vl (eL eField) r1), (8, vi (r1.length : Int)), (9, vi 0)] [] (zd (m4 _ _ (zb 0 (XW.sub (Sub.list (t := 3) (sz := 6) rfl) (XW.rounds' BIG (x := cd Tryd.f27 [1,1,0,1,0,0]) (by kernel_rfl) fun Q1 hQ1 => ?_)))))
 have hL1 : ∀ (k1 : Nat) (l1 : List GLeaf) (x1 : Int), ref2_leaves_l1 r1 k1 l1 x1 = some r → XR Tryd.prog 20 0 [] (cd Tryd.f27 [1,1,0,1,0,0]) Q1 k1 [(3, .one (.sl 0 6 0 l1.length)), (7, vl (eL eField) r1), (8, vi (r1.length : Int)), (9, vi x1)] [.arr 6 (eLeaf.els l1)] := by
  intro k1
  induction k1 with
  | zero => intro l1 x1 h; rw [ref2_leaves_l1.eq_1] at h; cases h
  | succ k1 ih1 =>
   intro l1 x1 h
   rw [ref2_leaves_l1.eq_2] at h
   refine zq fun K6 m6 => zr (zg [] 1 [3,7,8,9,10] (zd (m6 _ _ (zq fun K7 m7 => zC h (fun b8 h => ?_) (fun b8 h => ?_)))))
   ·refine zs (m7 _ _ (zq fun K9 m9 => zb 1 (zq fun K10 m10 => ?_)))
    obtain ⟨e1, a11, h⟩ := zB h
    refine zr (zo [] 3 [3,5,7,8,9] [[.ro (eField.els e1)]] [0 ≤ x1 ∧ x1 < (((eL eField).els r1).length : Int) ∧ elemsOk 1 ((eL eField).els r1), ((eL eField).els r1)[x1.toNat]? = some [.ro (eField.els e1)]] (⟨(eL eField).inb a11, ((eL eField).get a11), trivial⟩) (zd (m10 _ _ ?_)))
    obtain ⟨r2, c12, h⟩ := zB h
    obtain ⟨g13, h⟩ := zG h
    refine zr (zv [] 2 [7,8,9,13,14] [] [(7, vl (eL eField) r1), (8, vi (r1.length : Int)), (9, vi x1), (13, .one (.sl 0 6 0 l1.length)), (14, vl eField e1)] [.arr 6 (eLeaf.els l1)] (za (c_ref2_leafOf _ _ c12) (zp [] 2 [7,8,9,17] [] [(7, vl (eL eField) r1), (8, vi (r1.length : Int)), (9, vi x1), (17, .one (.sl 0 6 0 (l1.length + (eLeaf.els [r2]).length)))] [.arr 6 (eLeaf.els l1 ++ eLeaf.els [r2])] [elemsOk 6 (eLeaf.els [r2]), l1.length = (eLeaf.els l1).length, l1.length + (eLeaf.els [r2]).length ≤ 4294967296] (⟨eLeaf.ok _, (eLeaf.len l1).symm, g13, trivial⟩) ?_)))
    rw [show l1.length + (eLeaf.els [r2]).length = (l1 ++ [r2]).length from eLeaf.lapp _ _]
    rw [show eLeaf.els l1 ++ eLeaf.els [r2] = eLeaf.els (l1 ++ [r2]) from eLeaf.app2 _ _]
    exact zg [] 1 [3,7,8,9] (zd (m9 _ _ (zr (zg [] 2 [3,7,8,9] (zd (XR.sub (zk [3,7,8,9]) (ih1 (l1 ++ [r2]) (i64.wrap (x1 + (1 : Int))) h)))))))
   ·exact zx 0 (hQ1 _ _ _ (j1 l1 h _ _ (zk [3])))
 exact XR.sub (zk [3,7,8,9]) (hL1 BIG [] (0 : Int) h)
def ref2_Leaves (p1 : (List GField)) : Option ((List GLeaf) × Int) := bnd (ref1_CheckSchema p1) fun r1 => ift (r1 != (0 : Int)) (some ([], r1)) (bnd (ref2_leaves p1) fun r2 => some (r2, (0 : Int)))
theorem c_ref2_Leaves (p1 : (List GField)) (r : ((List GLeaf) × Int)) (h : ref2_Leaves p1 = some r) : PC Tryd.prog 7 [vl eField p1] (.tp [vl eLeaf r.1, vi r.2]) := by
 unfold ref2_Leaves at h
 refine zF 12 Tryd.f7 (zq fun K1 m1 => zr (zg [] 2 [0] (zd (m1 _ _ (zq fun K2 m2 => zq fun K3 m3 => ?_)))))
 obtain ⟨r1, c4, h⟩ := zB h
 refine zr (zg [] 1 [0,5] (zl 26 [vl eField p1] (vi r1) [(6, vi r1), (0, vl eField p1), (5, vl eField p1)] (c_ref1_CheckSchema _ _ c4) (zg [] 1 [0,4] (zd (m3 _ _ (zq fun K5 m5 => zr ?_))))))
 refine zg [] 2 [0,4,8] (zd (m5 _ _ (zC h (fun b6 h => ?_) (fun b6 h => ?_))))
 ·refine zq fun K7 m7 => zr (zv [] 3 [2,3] [] [(2, .one (.pv (.s (.slice none 0 0)))), (3, vi r1)] [] (zd (m7 _ _ (ze ?_))))
  obtain rfl := zj h
  exact zf [.one (.pv (.s (.slice none 0 0))), vi r1] (.tpc (.one (.nl)) (.tpc (.one (.rfl _ rfl)) (.tp0)))
 ·refine zs (m2 _ _ (zq fun K8 m8 => ?_))
  obtain ⟨r2, c9, h⟩ := zB h
  refine zr (zg [] 1 [10] (za (c_ref2_leaves _ _ c9) (zv [] 2 [2,3] [] [(2, vl eLeaf r2), (3, vi 0)] [] (zd (m8 _ _ (ze ?_))))))
  obtain rfl := zj h
  exact zf [vl eLeaf r2, vi 0] (.tpc (.one (.rfl _ rfl)) (.tpc (.one (.rfl _ rfl)) (.tp0)))
def ref1_characters_j2 (rec1 : Int → Option Bool) (x2 : Int) (x3 : Bool) : Option Bool := ift x3 (some false) (rec1 (i64.wrap (x2 + (1 : Int))))
def ref1_characters_j3 : Option Bool := some true
def ref1_characters_l1 (p1 : ByteArray) : Nat → Int → Option Bool
 | 0, _ => none
 | k1 + 1, x2 => ift (decide (x2 < (p1.size : Int))) (grd (0 ≤ x2 ∧ x2 < (p1.size : Int)) <| bnd (some (decide (((p1.data.toList.getD x2.toNat 0).toNat : Int) < (32 : Int)))) fun y1 => ift y1 (ref1_characters_j2 (ref1_characters_l1 p1 k1) x2 true) (grd (0 ≤ x2 ∧ x2 < (p1.size : Int)) <| ref1_characters_j2 (ref1_characters_l1 p1 k1) x2 (((p1.data.toList.getD x2.toNat 0).toNat : Int) == (127 : Int)))) (ref1_characters_j3)
def ref1_characters_j1 (p1 : ByteArray) (x1 : Bool) : Option Bool := ift x1 (some false) (ref1_characters_l1 p1 BIG (0 : Int))
def ref1_characters (p1 : ByteArray) : Option Bool := bnd (utf8_ValidString p1) fun r1 => ift (!r1) (ref1_characters_j1 p1 true) (ref1_characters_j1 p1 (decide ((256 : Int) < (p1.size : Int))))
theorem c_ref1_characters (p1 : ByteArray) (r : Bool) (h : ref1_characters p1 = some r) : PC Tryd.prog 96 [vs p1] (vb r) := by
 unfold ref1_characters at h
 refine zF 28 Tryd.f96 (zq fun K1 m1 => zr (zg [] 1 [0] (zd (m1 _ _ (zq fun K2 m2 => zq fun K3 m3 => ?_)))))
 have j1 : ∀ (x1 : Bool), ref1_characters_j1 p1 x1 = some r → ∀ w0 w1, Sub 28 0 [] w0 w1 [(0, vs p1), (11, vb x1)] [] → K3 w0 w1 := by
  intro x1 h w0 w1 hS
  unfold ref1_characters_j1 at h
  refine m3 _ _ (XW.sub hS ?_)
  refine zC h (fun b6 h => ?_) (fun b6 h => ?_)
  ·refine zq fun K7 m7 => zr (zg [] 1 [2] (zd (m7 _ _ (ze ?_))))
   obtain rfl := zj h
   exact zf [vb false] (.one (.rfl _ rfl))
  ·refine zs (m2 _ _ (zq fun K8 m8 => ?_))
   have j3 : ∀ (_ : Unit), ref1_characters_j3 = some r → ∀ w0 w1, Sub 28 0 [] w0 w1 [] [] → K8 w0 w1 := by
    intro _ h w0 w1 hS
    unfold ref1_characters_j3 at h
    refine m8 _ _ (XW.sub hS ?_)
    refine zq fun K21 m21 => zr (zg [] 1 [2] (zd (m21 _ _ (ze ?_))))
    obtain rfl := zj h
    exact zf [vb true] (.one (.rfl _ rfl))
   refine zq fun K9 m9 => zr (zg [] 1 [0,3] (zd (m9 _ _ (zb 0 (XW.rounds' BIG (x := cd Tryd.f96 [1,1,0,1,0,0]) (by kernel_rfl) fun Q1 hQ1 => ?_)))))
   have hL1 : ∀ (k1 : Nat) (x2 : Int), ref1_characters_l1 p1 k1 x2 = some r → XR Tryd.prog 28 0 [] (cd Tryd.f96 [1,1,0,1,0,0]) Q1 k1 [(0, vs p1), (3, vi x2)] [] := by
    intro k1
    induction k1 with
    | zero => intro x2 h; rw [ref1_characters_l1.eq_1] at h; cases h
    | succ k1 ih1 =>
     intro x2 h
     rw [ref1_characters_l1.eq_2] at h
     refine zq fun K10 m10 => zq fun K11 m11 => zr (zg [] 4 [0,3,15] (zd (m11 _ _ (zC h (fun b12 h => ?_) (fun b12 h => ?_)))))
     ·refine zs (m10 _ _ (zq fun K13 m13 => zb 1 (zq fun K14 m14 => ?_)))
      have j2 : ∀ (x3 : Bool), ref1_characters_j2 (ref1_characters_l1 p1 k1) x2 x3 = some r → ∀ w0 w1, Sub 28 0 [] w0 w1 [(0, vs p1), (3, vi x2), (27, vb x3)] [] → K14 w0 w1 := by
       intro x3 h w0 w1 hS
       unfold ref1_characters_j2 at h
       refine m14 _ _ (XW.sub hS ?_)
       refine zC h (fun b19 h => ?_) (fun b19 h => ?_)
       ·refine zq fun K20 m20 => zr (zg [] 1 [2] (zd (m20 _ _ (ze (hQ1 _ _ _ ?_)))))
        obtain rfl := zj h
        exact zf [vb false] (.one (.rfl _ rfl))
       ·exact zs (m13 _ _ (zr (zg [] 3 [0,3] (zd (XR.sub (zk [0,3]) (ih1 (i64.wrap (x2 + (1 : Int))) h))))))
      obtain ⟨g15, h⟩ := zG h
      obtain ⟨y1, hy16, h⟩ := zB h
      rcases zW h with ⟨b17, h⟩ | ⟨b17, h⟩
      ·refine zr (zp [] 4 [0,3,21] [] [(0, vs p1), (3, vi x2), (21, vb (decide (((p1.data.toList.getD x2.toNat 0).toNat : Int) < (32 : Int))))] [] [0 ≤ x2 ∧ x2 < (p1.size : Int)] (⟨g15, trivial⟩) ?_)
       rw [show (decide (((p1.data.toList.getD x2.toNat 0).toNat : Int) < (32 : Int))) = y1 from zj hy16]
       exact zg [] 1 [0,3,22] (zt 22 b17 (zg [] 5 [0,3,27] (zd (j2 true h _ _ (zk [0,3,27])))))
      ·obtain ⟨g18, h⟩ := zG h
       refine zr (zp [] 4 [0,3,21] [] [(0, vs p1), (3, vi x2), (21, vb (decide (((p1.data.toList.getD x2.toNat 0).toNat : Int) < (32 : Int))))] [] [0 ≤ x2 ∧ x2 < (p1.size : Int)] (⟨g15, trivial⟩) ?_)
       rw [show (decide (((p1.data.toList.getD x2.toNat 0).toNat : Int) < (32 : Int))) = y1 from zj hy16]
       exact zg [] 1 [0,3,22] (zt 22 b17 (zo [] 5 [0,3,27] [] [0 ≤ x2 ∧ x2 < (p1.size : Int)] (⟨g18, trivial⟩) (zd (j2 (((p1.data.toList.getD x2.toNat 0).toNat : Int) == (127 : Int)) h _ _ (zk [0,3,27])))))
     ·exact zx 0 (hQ1 _ _ _ (j3 () h _ _ (zk [])))
   exact XR.sub (zk [0,3]) (hL1 BIG (0 : Int) h)
 obtain ⟨r1, c4, h⟩ := zB h
 rcases zW h with ⟨b5, h⟩ | ⟨b5, h⟩
 ·exact zr (zg [] 1 [0,4] (zl 110 [vs p1] (vb r1) [(5, vb r1), (0, vs p1), (4, vs p1)] (c_utf8_ValidString _ _ c4) (zg [] 2 [0,7] (zt 7 b5 (zg [] 4 [0,11] (zd (j1 true h _ _ (zk [0,11]))))))))
 ·exact zr (zv [] 1 [0,4] [] [(0, vs p1), (4, vs p1)] [] (za (c_utf8_ValidString _ _ c4) (zg [] 2 [0,7] (zt 7 b5 (zv [] 4 [0,11] [] [(0, vs p1), (11, vb (decide ((256 : Int) < (p1.size : Int))))] [] (zd (j1 (decide ((256 : Int) < (p1.size : Int))) h _ _ (zk [0,11]))))))))
def ref1_alone_j2 (x2 : Bool) : Option Bool := some x2
def ref1_alone_j3 (x3 : Bool) : Option Bool := some x3
def ref1_alone_j4 (x4 : Bool) : Option Bool := some x4
def ref1_alone_j5 (x5 : Bool) : Option Bool := some x5
def ref1_alone_j6 (x6 : Bool) : Option Bool := some x6
def ref1_alone_j7 (x7 : Bool) : Option Bool := some x7
def ref1_alone_j8 (x8 : Bool) : Option Bool := some x8
def ref1_alone_j9 (x9 : Bool) : Option Bool := some x9
def ref1_alone_j1 (p1 : GValue) (x1 : Bool) : Option Bool := ift (p1.kind == (0 : Int)) (ift x1 (ift (p1.n == (0 : Int)) (ref1_alone_j2 (p1.scale == (0 : Int))) (ref1_alone_j2 false)) (ref1_alone_j2 false)) (ift (p1.kind == (1 : Int)) (ift x1 (bnd (ref1_within p1.n (0 : Int) (1 : Int)) fun r1 => ift r1 (ref1_alone_j3 (p1.scale == (0 : Int))) (ref1_alone_j3 false)) (ref1_alone_j3 false)) (ift (p1.kind == (2 : Int)) (ift x1 (bnd (ref1_within p1.n (-999999999999999999 : Int) (999999999999999999 : Int)) fun r2 => ift r2 (ref1_alone_j4 (p1.scale == (0 : Int))) (ref1_alone_j4 false)) (ref1_alone_j4 false)) (ift (p1.kind == (3 : Int)) (ift x1 (bnd (ref1_within p1.n (-999999999999999999 : Int) (999999999999999999 : Int)) fun r3 => ift r3 (bnd (ref1_within p1.scale (0 : Int) (12 : Int)) fun r4 => ref1_alone_j5 r4) (ref1_alone_j5 false)) (ref1_alone_j5 false)) (ift (p1.kind == (4 : Int)) (ift ((p1.items.length : Int) == (0 : Int)) (ift (p1.n == (0 : Int)) (ift (p1.scale == (0 : Int)) (bnd (ref1_characters p1.s) fun r5 => ref1_alone_j6 r5) (ref1_alone_j6 false)) (ref1_alone_j6 false)) (ref1_alone_j6 false)) (ift (p1.kind == (5 : Int)) (ift x1 (bnd (ref1_within p1.n (-62135596800 : Int) (253402300799 : Int)) fun r6 => ift r6 (ref1_alone_j7 (p1.scale == (0 : Int))) (ref1_alone_j7 false)) (ref1_alone_j7 false)) (ift (p1.kind == (6 : Int)) (ift (p1.s.toList == (ByteArray.mk #[]).toList) (ift (p1.n == (0 : Int)) (ift (p1.scale == (0 : Int)) (ref1_alone_j8 (decide ((p1.items.length : Int) ≤ (64 : Int)))) (ref1_alone_j8 false)) (ref1_alone_j8 false)) (ref1_alone_j8 false)) (ift (p1.kind == (7 : Int)) (ift (p1.s.toList == (ByteArray.mk #[]).toList) (ift (p1.n == (0 : Int)) (ift (p1.scale == (0 : Int)) (ref1_alone_j9 (decide ((0 : Int) < (p1.items.length : Int)))) (ref1_alone_j9 false)) (ref1_alone_j9 false)) (ref1_alone_j9 false)) (some false))))))))
def ref1_alone (p1 : GValue) : Option Bool := ift (p1.s.toList == (ByteArray.mk #[]).toList) (ref1_alone_j1 p1 ((p1.items.length : Int) == (0 : Int))) (ref1_alone_j1 p1 false)
abbrev qa2116 (p1 : GValue) : Fr := [(1, vR (qa1467 p1)), (106, vb (p1.s.toList == (ByteArray.mk #[]).toList))]
theorem c_ref1_alone (p1 : GValue) (r : Bool) (h : ref1_alone p1 = some r) : PC Tryd.prog 71 [.ag [ci p1.kind, ci p1.n, ci p1.scale, cst p1.s, cl eValue p1.items]] (vb r) := by
 unfold ref1_alone at h
 refine zF 143 Tryd.f71 (zq fun K1 m1 => zr (zg [] 2 [1] (zd (m1 _ _ (zq fun K2 m2 => ?_)))))
 have j1 : ∀ (x1 : Bool), ref1_alone_j1 p1 x1 = some r → ∀ w0 w1, Sub 143 0 [] w0 w1 [(1, vR (qa1467 p1)), (3, vb x1)] [] → K2 w0 w1 := by
  intro x1 h w0 w1 hS
  unfold ref1_alone_j1 at h
  refine m2 _ _ (XW.sub hS ?_)
  refine zq fun K4 m4 => zq fun K5 m5 => zr (zu [] 2 [1,3,14] [(qa1467 p1)] (zd (m5 _ _ (zb 0 (zq fun K6 m6 => ?_)))))
  refine zr (zg [] 2 [1,3,14,15] (zd (m6 _ _ (zC h (fun b7 h => ?_) (fun b7 h => ?_)))))
  ·refine zq fun K8 m8 => ?_
   have j2 : ∀ (x2 : Bool), ref1_alone_j2 x2 = some r → ∀ w0 w1, Sub 143 0 [] w0 w1 [(2, vb x2)] [] → K8 w0 w1 := by
    intro x2 h w0 w1 hS
    unfold ref1_alone_j2 at h
    refine m8 _ _ (XW.sub hS ?_)
    refine ze ?_
    obtain rfl := zj h
    exact zf [vb x2] (.one (.rfl _ rfl))
   rcases zW h with ⟨b9, h⟩ | ⟨b9, h⟩
   ·rcases zW h with ⟨b10, h⟩ | ⟨b10, h⟩
    ·exact zr (zv [] 2 [1,18] [] [(1, vR (qa1467 p1)), (18, vb x1)] [] (zt 18 b9 (zu [] 5 [1,23] [(qa1467 p1)] (zt 23 b10 (zu [] 5 [2] [(qa1467 p1)] (zd (j2 (p1.scale == (0 : Int)) h _ _ (zk [2]))))))))
    ·exact zr (zv [] 2 [1,18] [] [(1, vR (qa1467 p1)), (18, vb x1)] [] (zt 18 b9 (zu [] 5 [1,23] [(qa1467 p1)] (zt 23 b10 (zg [] 5 [2] (zd (j2 false h _ _ (zk [2]))))))))
   ·exact zr (zv [] 2 [1,18] [] [(1, vR (qa1467 p1)), (18, vb x1)] [] (zt 18 b9 (zg [] 10 [2] (zd (j2 false h _ _ (zk [2]))))))
  ·refine zq fun K11 m11 => zr (zv [] 2 [1,3,14,28] [] [(1, vR (qa1467 p1)), (3, vb x1), (14, vi p1.kind), (28, vb (p1.kind == (1 : Int)))] [] (zd (m11 _ _ (zC h (fun b12 h => ?_) (fun b12 h => ?_)))))
   ·refine zq fun K13 m13 => ?_
    have j3 : ∀ (x3 : Bool), ref1_alone_j3 x3 = some r → ∀ w0 w1, Sub 143 0 [] w0 w1 [(2, vb x3)] [] → K13 w0 w1 := by
     intro x3 h w0 w1 hS
     unfold ref1_alone_j3 at h
     refine m13 _ _ (XW.sub hS ?_)
     refine ze ?_
     obtain rfl := zj h
     exact zf [vb x3] (.one (.rfl _ rfl))
    rcases zW h with ⟨b14, h⟩ | ⟨b14, h⟩
    ·obtain ⟨r1, c15, h⟩ := zB h
     rcases zW h with ⟨b16, h⟩ | ⟨b16, h⟩
     ·refine zr (zg [] 2 [1,31] (zt 31 b14 (zu [] 2 [1,31,33] [(qa1467 p1)] (zl 68 [vi p1.n, vi 0, vi 1] (vb r1) [(34, vb r1), (1, vR (qa1467 p1)), (31, vb true), (33, vi p1.n)] (c_ref1_within _ _ _ _ c15) (zg [] 2 [1,36] (zt 36 b16 (zu [] 5 [2] [(qa1467 p1)] ?_)))))))
      exact zd (j3 (p1.scale == (0 : Int)) h _ _ (zk [2]))
     ·refine zr (zv [] 2 [1,31] [] [(1, vR (qa1467 p1)), (31, vb x1)] [] (zt 31 b14 (zu [] 2 [1,31,33] [(qa1467 p1)] (za (c_ref1_within _ _ _ _ c15) (zv [] 2 [1,36] [] [(1, vR (qa1467 p1)), (36, vb r1)] [] (zt 36 b16 (zg [] 5 [2] ?_)))))))
      exact zd (j3 false h _ _ (zk [2]))
    ·exact zr (zg [] 2 [1,31] (zt 31 b14 (zg [] 10 [2] (zd (j3 false h _ _ (zk [2]))))))
   ·refine zq fun K17 m17 => zr (zg [] 2 [1,3,14,41] (zd (m17 _ _ (zC h (fun b18 h => ?_) (fun b18 h => ?_)))))
    ·refine zq fun K19 m19 => ?_
     have j4 : ∀ (x4 : Bool), ref1_alone_j4 x4 = some r → ∀ w0 w1, Sub 143 0 [] w0 w1 [(2, vb x4)] [] → K19 w0 w1 := by
      intro x4 h w0 w1 hS
      unfold ref1_alone_j4 at h
      refine m19 _ _ (XW.sub hS ?_)
      refine ze ?_
      obtain rfl := zj h
      exact zf [vb x4] (.one (.rfl _ rfl))
     rcases zW h with ⟨b20, h⟩ | ⟨b20, h⟩
     ·obtain ⟨r2, c21, h⟩ := zB h
      rcases zW h with ⟨b22, h⟩ | ⟨b22, h⟩
      ·refine zr (zg [] 2 [1,44] (zt 44 b20 (zv [] 2 [1,44,46] [(qa1467 p1)] [(1, vR (qa1467 p1)), (44, vb true), (46, vi p1.n)] [] (za (c_ref1_within _ _ _ _ c21) (zg [] 2 [1,49] (zt 49 b22 (zv [] 5 [2] [(qa1467 p1)] [(2, vb (p1.scale == (0 : Int)))] [] ?_)))))))
       exact zd (j4 (p1.scale == (0 : Int)) h _ _ (zk [2]))
      ·refine zr (zg [] 2 [1,44] (zt 44 b20 (zu [] 2 [1,44,46] [(qa1467 p1)] (zl 68 [vi p1.n, vi (-999999999999999999), vi 999999999999999999] (vb r2) [(47, vb r2), (1, vR (qa1467 p1)), (44, vb true), (46, vi p1.n)] (c_ref1_within _ _ _ _ c21) (zg [] 2 [1,49] (zt 49 b22 (zg [] 5 [2] ?_)))))))
       exact zd (j4 false h _ _ (zk [2]))
     ·exact zr (zg [] 2 [1,44] (zt 44 b20 (zv [] 10 [2] [] [(2, vb false)] [] (zd (j4 false h _ _ (zk [2]))))))
    ·refine zq fun K23 m23 => zr (zg [] 2 [1,3,14,54] (zd (m23 _ _ (zC h (fun b24 h => ?_) (fun b24 h => ?_)))))
     ·refine zq fun K25 m25 => ?_
      have j5 : ∀ (x5 : Bool), ref1_alone_j5 x5 = some r → ∀ w0 w1, Sub 143 0 [] w0 w1 [(2, vb x5)] [] → K25 w0 w1 := by
       intro x5 h w0 w1 hS
       unfold ref1_alone_j5 at h
       refine m25 _ _ (XW.sub hS ?_)
       refine ze ?_
       obtain rfl := zj h
       exact zf [vb x5] (.one (.rfl _ rfl))
      rcases zW h with ⟨b26, h⟩ | ⟨b26, h⟩
      ·obtain ⟨r3, c27, h⟩ := zB h
       rcases zW h with ⟨b28, h⟩ | ⟨b28, h⟩
       ·obtain ⟨r4, c29, h⟩ := zB h
        refine zr (zv [] 2 [1,57] [] [(1, vR (qa1467 p1)), (57, vb x1)] [] (zt 57 b26 (zu [] 2 [1,57,59] [(qa1467 p1)] (za (c_ref1_within _ _ _ _ c27) (zv [] 2 [1,62] [] [(1, vR (qa1467 p1)), (62, vb r3)] [] (zt 62 b28 (zu [] 2 [62,64] [(qa1467 p1)] ?_)))))))
        exact za (c_ref1_within _ _ _ _ c29) (zv [] 2 [2] [] [(2, vb r4)] [] (zd (j5 r4 h _ _ (zk [2]))))
       ·refine zr (zg [] 2 [1,57] (zt 57 b26 (zu [] 2 [1,57,59] [(qa1467 p1)] (zl 68 [vi p1.n, vi (-999999999999999999), vi 999999999999999999] (vb r3) [(60, vb r3), (1, vR (qa1467 p1)), (57, vb true), (59, vi p1.n)] (c_ref1_within _ _ _ _ c27) (zg [] 2 [1,62] (zt 62 b28 (zg [] 5 [2] ?_)))))))
        exact zd (j5 false h _ _ (zk [2]))
      ·exact zr (zv [] 2 [1,57] [] [(1, vR (qa1467 p1)), (57, vb x1)] [] (zt 57 b26 (zg [] 10 [2] (zd (j5 false h _ _ (zk [2]))))))
     ·refine zq fun K30 m30 => zr (zv [] 2 [1,3,14,67] [] [(1, vR (qa1467 p1)), (3, vb x1), (14, vi p1.kind), (67, vb (p1.kind == (4 : Int)))] [] (zd (m30 _ _ (zC h (fun b31 h => ?_) (fun b31 h => ?_)))))
      ·refine zq fun K32 m32 => ?_
       have j6 : ∀ (x6 : Bool), ref1_alone_j6 x6 = some r → ∀ w0 w1, Sub 143 0 [] w0 w1 [(2, vb x6)] [] → K32 w0 w1 := by
        intro x6 h w0 w1 hS
        unfold ref1_alone_j6 at h
        refine m32 _ _ (XW.sub hS ?_)
        refine ze ?_
        obtain rfl := zj h
        exact zf [vb x6] (.one (.rfl _ rfl))
       rcases zW h with ⟨b33, h⟩ | ⟨b33, h⟩
       ·rcases zW h with ⟨b34, h⟩ | ⟨b34, h⟩
        ·rcases zW h with ⟨b35, h⟩ | ⟨b35, h⟩
         ·obtain ⟨r5, c36, h⟩ := zB h
          refine zr (zv [] 3 [1,71] [[pi p1.kind, pi p1.n, pi p1.scale, .s (.string p1.s), .ro (eValue.els p1.items)]] [(1, vR [pi p1.kind, pi p1.n, pi p1.scale, .s (.string p1.s), .ro (eValue.els p1.items)]), (71, vi ((eValue.els p1.items).length : Int))] [] ?_)
          rw [eValue.len p1.items]
          refine zg [] 2 [1,73] (zt 73 b33 (zu [] 5 [1,78] [(qa1467 p1)] (zt 78 b34 (zv [] 5 [1,83] [(qa1467 p1)] [(1, vR (qa1467 p1)), (83, vb (p1.scale == (0 : Int)))] [] (zt 83 b35 (zu [] 2 [83,85] [(qa1467 p1)] (za (c_ref1_characters _ _ c36) ?_)))))))
          exact zv [] 2 [2] [] [(2, vb r5)] [] (zd (j6 r5 h _ _ (zk [2])))
         ·refine zr (zv [] 3 [1,71] [[pi p1.kind, pi p1.n, pi p1.scale, .s (.string p1.s), .ro (eValue.els p1.items)]] [(1, vR [pi p1.kind, pi p1.n, pi p1.scale, .s (.string p1.s), .ro (eValue.els p1.items)]), (71, vi ((eValue.els p1.items).length : Int))] [] ?_)
          rw [eValue.len p1.items]
          refine zg [] 2 [1,73] (zt 73 b33 (zu [] 5 [1,78] [(qa1467 p1)] (zt 78 b34 (zv [] 5 [1,83] [(qa1467 p1)] [(1, vR (qa1467 p1)), (83, vb (p1.scale == (0 : Int)))] [] (zt 83 b35 (zg [] 5 [2] (zd ?_)))))))
          exact j6 false h _ _ (zk [2])
        ·refine zr (zv [] 3 [1,71] [[pi p1.kind, pi p1.n, pi p1.scale, .s (.string p1.s), .ro (eValue.els p1.items)]] [(1, vR [pi p1.kind, pi p1.n, pi p1.scale, .s (.string p1.s), .ro (eValue.els p1.items)]), (71, vi ((eValue.els p1.items).length : Int))] [] ?_)
         rw [eValue.len p1.items]
         exact zg [] 2 [1,73] (zt 73 b33 (zu [] 5 [1,78] [(qa1467 p1)] (zt 78 b34 (zv [] 10 [2] [] [(2, vb false)] [] (zd (j6 false h _ _ (zk [2])))))))
       ·refine zr (zv [] 3 [1,71] [[pi p1.kind, pi p1.n, pi p1.scale, .s (.string p1.s), .ro (eValue.els p1.items)]] [(1, vR [pi p1.kind, pi p1.n, pi p1.scale, .s (.string p1.s), .ro (eValue.els p1.items)]), (71, vi ((eValue.els p1.items).length : Int))] [] ?_)
        rw [eValue.len p1.items]
        exact zg [] 2 [1,73] (zt 73 b33 (zg [] 15 [2] (zd (j6 false h _ _ (zk [2])))))
      ·refine zq fun K37 m37 => zr (zg [] 2 [1,3,14,88] (zd (m37 _ _ (zC h (fun b38 h => ?_) (fun b38 h => ?_)))))
       ·refine zq fun K39 m39 => ?_
        have j7 : ∀ (x7 : Bool), ref1_alone_j7 x7 = some r → ∀ w0 w1, Sub 143 0 [] w0 w1 [(2, vb x7)] [] → K39 w0 w1 := by
         intro x7 h w0 w1 hS
         unfold ref1_alone_j7 at h
         refine m39 _ _ (XW.sub hS ?_)
         refine ze ?_
         obtain rfl := zj h
         exact zf [vb x7] (.one (.rfl _ rfl))
        rcases zW h with ⟨b40, h⟩ | ⟨b40, h⟩
        ·obtain ⟨r6, c41, h⟩ := zB h
         rcases zW h with ⟨b42, h⟩ | ⟨b42, h⟩
         ·refine zr (zg [] 2 [1,91] (zt 91 b40 (zv [] 2 [1,91,93] [(qa1467 p1)] [(1, vR (qa1467 p1)), (91, vb true), (93, vi p1.n)] [] (za (c_ref1_within _ _ _ _ c41) (zg [] 2 [1,96] (zt 96 b42 (zv [] 5 [2] [(qa1467 p1)] [(2, vb (p1.scale == (0 : Int)))] [] ?_)))))))
          exact zd (j7 (p1.scale == (0 : Int)) h _ _ (zk [2]))
         ·refine zr (zg [] 2 [1,91] (zt 91 b40 (zu [] 2 [1,91,93] [(qa1467 p1)] (zl 68 [vi p1.n, vi (-62135596800), vi 253402300799] (vb r6) [(94, vb r6), (1, vR (qa1467 p1)), (91, vb true), (93, vi p1.n)] (c_ref1_within _ _ _ _ c41) (zg [] 2 [1,96] (zt 96 b42 (zg [] 5 [2] ?_)))))))
          exact zd (j7 false h _ _ (zk [2]))
        ·exact zr (zg [] 2 [1,91] (zt 91 b40 (zv [] 10 [2] [] [(2, vb false)] [] (zd (j7 false h _ _ (zk [2]))))))
       ·refine zq fun K43 m43 => zr (zg [] 2 [1,14,101] (zd (m43 _ _ (zC h (fun b44 h => ?_) (fun b44 h => ?_)))))
        ·refine zq fun K45 m45 => ?_
         have j8 : ∀ (x8 : Bool), ref1_alone_j8 x8 = some r → ∀ w0 w1, Sub 143 0 [] w0 w1 [(2, vb x8)] [] → K45 w0 w1 := by
          intro x8 h w0 w1 hS
          unfold ref1_alone_j8 at h
          refine m45 _ _ (XW.sub hS ?_)
          refine ze ?_
          obtain rfl := zj h
          exact zf [vb x8] (.one (.rfl _ rfl))
         rcases zW h with ⟨b46, h⟩ | ⟨b46, h⟩
         ·rcases zW h with ⟨b47, h⟩ | ⟨b47, h⟩
          ·rcases zW h with ⟨b48, h⟩ | ⟨b48, h⟩
           ·refine zr (zv [] 4 [1,106] [(qa1467 p1)] (qa2116 p1) [] (zt 106 b46 (zu [] 5 [1,111] [(qa1467 p1)] (zt 111 b47 (zu [] 5 [1,116] [(qa1467 p1)] (zt 116 b48 ?_))))))
            refine zv [] 3 [116,119] [[pi p1.kind, pi p1.n, pi p1.scale, .s (.string p1.s), .ro (eValue.els p1.items)]] [(116, vb true), (119, vi ((eValue.els p1.items).length : Int))] [] ?_
            rw [eValue.len p1.items]
            exact zg [] 3 [2] (zd (j8 (decide ((p1.items.length : Int) ≤ (64 : Int))) h _ _ (zk [2])))
           ·refine zr (zu [] 4 [1,106] [(qa1467 p1)] (zt 106 b46 (zv [] 5 [1,111] [(qa1467 p1)] [(1, vR (qa1467 p1)), (111, vb (p1.n == (0 : Int)))] [] (zt 111 b47 (zu [] 5 [1,116] [(qa1467 p1)] (zt 116 b48 (zg [] 6 [2] ?_)))))))
            exact zd (j8 false h _ _ (zk [2]))
          ·exact zr (zv [] 4 [1,106] [(qa1467 p1)] (qa2116 p1) [] (zt 106 b46 (zu [] 5 [1,111] [(qa1467 p1)] (zt 111 b47 (zg [] 11 [2] (zd (j8 false h _ _ (zk [2]))))))))
         ·exact zr (zv [] 4 [1,106] [(qa1467 p1)] (qa2116 p1) [] (zt 106 b46 (zg [] 16 [2] (zd (j8 false h _ _ (zk [2]))))))
        ·refine zq fun K49 m49 => zr (zv [] 2 [1,122] [] [(1, vR (qa1467 p1)), (122, vb (p1.kind == (7 : Int)))] [] (zd (m49 _ _ (zC h (fun b50 h => ?_) (fun b50 h => ?_)))))
         ·refine zq fun K51 m51 => ?_
          have j9 : ∀ (x9 : Bool), ref1_alone_j9 x9 = some r → ∀ w0 w1, Sub 143 0 [] w0 w1 [(2, vb x9)] [] → K51 w0 w1 := by
           intro x9 h w0 w1 hS
           unfold ref1_alone_j9 at h
           refine m51 _ _ (XW.sub hS ?_)
           refine ze ?_
           obtain rfl := zj h
           exact zf [vb x9] (.one (.rfl _ rfl))
          rcases zW h with ⟨b52, h⟩ | ⟨b52, h⟩
          ·rcases zW h with ⟨b53, h⟩ | ⟨b53, h⟩
           ·rcases zW h with ⟨b54, h⟩ | ⟨b54, h⟩
            ·refine zr (zu [] 4 [1,127] [(qa1467 p1)] (zt 127 b52 (zu [] 5 [1,132] [(qa1467 p1)] (zt 132 b53 (zv [] 5 [1,137] [(qa1467 p1)] [(1, vR (qa1467 p1)), (137, vb (p1.scale == (0 : Int)))] [] (zt 137 b54 ?_))))))
             refine zv [] 3 [137,140] [[pi p1.kind, pi p1.n, pi p1.scale, .s (.string p1.s), .ro (eValue.els p1.items)]] [(137, vb true), (140, vi ((eValue.els p1.items).length : Int))] [] ?_
             rw [eValue.len p1.items]
             exact zg [] 3 [2] (zd (j9 (decide ((0 : Int) < (p1.items.length : Int))) h _ _ (zk [2])))
            ·refine zr (zu [] 4 [1,127] [(qa1467 p1)] (zt 127 b52 (zv [] 5 [1,132] [(qa1467 p1)] [(1, vR (qa1467 p1)), (132, vb (p1.n == (0 : Int)))] [] (zt 132 b53 (zu [] 5 [1,137] [(qa1467 p1)] (zt 137 b54 (zg [] 6 [2] ?_)))))))
             exact zd (j9 false h _ _ (zk [2]))
           ·exact zr (zu [] 4 [1,127] [(qa1467 p1)] (zt 127 b52 (zu [] 5 [1,132] [(qa1467 p1)] (zt 132 b53 (zv [] 11 [2] [] [(2, vb false)] [] (zd (j9 false h _ _ (zk [2]))))))))
          ·exact zr (zu [] 4 [1,127] [(qa1467 p1)] (zt 127 b52 (zg [] 16 [2] (zd (j9 false h _ _ (zk [2]))))))
         ·refine zs (m4 _ _ (zq fun K55 m55 => zr (zg [] 1 [2] (zd (m55 _ _ (ze ?_))))))
          obtain rfl := zj h
          exact zf [vb false] (.one (.rfl _ rfl))
 rcases zW h with ⟨b3, h⟩ | ⟨b3, h⟩
 ·refine zr (zu [] 4 [1,7] [[pi p1.kind, pi p1.n, pi p1.scale, .s (.string p1.s), .ro (eValue.els p1.items)]] (zt 7 b3 (zv [] 3 [1,7,10] [[pi p1.kind, pi p1.n, pi p1.scale, .s (.string p1.s), .ro (eValue.els p1.items)]] [(1, vR [pi p1.kind, pi p1.n, pi p1.scale, .s (.string p1.s), .ro (eValue.els p1.items)]), (7, vb true), (10, vi ((eValue.els p1.items).length : Int))] [] ?_)))
  rw [eValue.len p1.items]
  exact zg [] 3 [1,3] (zd (j1 ((p1.items.length : Int) == (0 : Int)) h _ _ (zk [1,3])))
 ·exact zr (zu [] 4 [1,7] [(qa1467 p1)] (zt 7 b3 (zv [] 6 [1,3] [] [(1, vR (qa1467 p1)), (3, vb false)] [] (zd (j1 false h _ _ (zk [1,3]))))))
def ref1_sound_j3 (z3 : Int) : Option (Bool × Int) := some (true, z3)
def ref1_sound_l1 (q_ref1_sound : GValue → Int → Int → Option (Bool × Int)) (p1 : GValue) (p2 : Int) : Nat → Int → Int → Option (Bool × Int)
 | 0, _, _ => none
 | k1 + 1, z2, x2 => ift (decide (x2 < (p1.items.length : Int))) (bnd (at? p1.items x2) fun e1 => bnd (q_ref1_sound e1 (i64.wrap (p2 + (1 : Int))) z2) fun r2 => ift (!r2.1) (some (false, r2.2)) ((ref1_sound_l1 q_ref1_sound p1 p2 k1) r2.2 (i64.wrap (x2 + (1 : Int))))) (ref1_sound_j3 z2)
def ref1_sound_j2 (q_ref1_sound : GValue → Int → Int → Option (Bool × Int)) (p1 : GValue) (p2 : Int) (z1 : Int) (x1 : Bool) : Option (Bool × Int) := ift x1 (some (false, z1)) (ref1_sound_l1 q_ref1_sound p1 p2 BIG z1 (0 : Int))
def ref1_sound_j1 (q_ref1_sound : GValue → Int → Int → Option (Bool × Int)) (p1 : GValue) (p2 : Int) (z1 : Int) : Option (Bool × Int) := ift (decide ((4 : Int) < p2)) (ref1_sound_j2 q_ref1_sound p1 p2 z1 true) (ift (decide ((256 : Int) < z1)) (ref1_sound_j2 q_ref1_sound p1 p2 z1 true) (bnd (ref1_alone p1) fun r1 => ref1_sound_j2 q_ref1_sound p1 p2 z1 (!r1)))
def ref1_sound : Nat → GValue → Int → Int → Option (Bool × Int)
 | 0, _, _, _ => none
 | k0 + 1, p1, p2, p3 => ift (p1.kind != (0 : Int)) (ref1_sound_j1 (ref1_sound k0) p1 p2 (i64.wrap (p3 + (1 : Int)))) (ref1_sound_j1 (ref1_sound k0) p1 p2 p3)
abbrev qa2146 (p1 : GValue) (p2 : Int) : Fr := [(1, vi p2), (2, vq 0), (3, vR (qa1467 p1)), (18, vb (decide ((4 : Int) < p2)))]
theorem c_ref1_sound : ∀ (k0 : Nat) (p1 : GValue) (p2 : Int) (p3 : Int) (r : (Bool × Int)), ref1_sound k0 p1 p2 p3 = some r → MC Tryd.prog 45 [.ag (qa1518 p1), vi p2, vq 0] [.box [ci p3]] (vb r.1) [.box [ci r.2]]
 | 0, _, _, _, r, h => by rw [ref1_sound.eq_1] at h; cases h
 | k0 + 1, p1, p2, p3, r, h => by
  rw [ref1_sound.eq_2] at h
  refine MC.of 1 (n := 46) (fn := Tryd.f45) (c := cd Tryd.f45 []) (by kernel_rfl) (by kernel_rfl) (by kernel_rfl) (Nat.le_of_ble_eq_true rfl) rfl (zq fun K1 m1 => zr (zg [] 2 [1,2,3] (zd (m1 _ _ (zq fun K2 m2 => ?_)))))
  have j1 : ∀ (z1 : Int), ref1_sound_j1 (ref1_sound k0) p1 p2 z1 = some r → ∀ w0 w1, Sub 46 1 [] w0 w1 [(1, vi p2), (2, vq 0), (3, vR (qa1467 p1))] [.box [ci z1]] → K2 w0 w1 := by
   intro z1 h w0 w1 hS
   unfold ref1_sound_j1 at h
   refine m2 _ _ (XW.sub hS ?_)
   refine zq fun K5 m5 => zq fun K6 m6 => ?_
   have j2 : ∀ (x1 : Bool), ref1_sound_j2 (ref1_sound k0) p1 p2 z1 x1 = some r → ∀ w0 w1, Sub 46 1 [] w0 w1 [(1, vi p2), (2, vq 0), (3, vR (qa1467 p1)), (28, vb x1)] [.box [ci z1]] → K6 w0 w1 := by
    intro x1 h w0 w1 hS
    unfold ref1_sound_j2 at h
    refine m6 _ _ (XW.sub hS ?_)
    refine zC h (fun b10 h => ?_) (fun b10 h => ?_)
    ·refine zq fun K11 m11 => zr (zv [] 1 [6] [] [(6, vb false)] [.box [ci z1]] (zd (m11 _ _ (ze ?_))))
     obtain rfl := zj h
     exact FinM.fin (.inr rfl) [] [vb false] [] (by kernel_rfl) trivial (by kernel_rfl) (by kernel_rfl) (.one (.rfl _ rfl))
    ·refine zs (m5 _ _ (zq fun K12 m12 => ?_))
     have j3 : ∀ (z3 : Int), ref1_sound_j3 z3 = some r → ∀ w0 w1, Sub 46 1 [] w0 w1 [] [.box [ci z3]] → K12 w0 w1 := by
      intro z3 h w0 w1 hS
      unfold ref1_sound_j3 at h
      refine m12 _ _ (XW.sub hS ?_)
      refine zq fun K24 m24 => zr (zv [] 1 [6] [] [(6, vb true)] [.box [ci z3]] (zd (m24 _ _ (ze ?_))))
      obtain rfl := zj h
      exact FinM.fin (.inr rfl) [] [vb true] [] (by kernel_rfl) trivial (by kernel_rfl) (by kernel_rfl) (.one (.rfl _ rfl))
     refine zq fun K13 m13 => zr (zv [] 3 [1,2,3,31] [[pi p1.kind, pi p1.n, pi p1.scale, .s (.string p1.s), .ro (eValue.els p1.items)]] [(1, vi p2), (2, vq 0), (3, vR [pi p1.kind, pi p1.n, pi p1.scale, .s (.string p1.s), .ro (eValue.els p1.items)]), (31, vi ((eValue.els p1.items).length : Int))] [.box [ci z1]] ?_)
     rw [eValue.len p1.items]
     refine zg [] 1 [1,2,3,31,32] (zd (m13 _ _ (zb 0 (XW.rounds' BIG (x := cd Tryd.f45 [1,1,1,0,1,0,0]) (by kernel_rfl) fun Q1 hQ1 => ?_))))
     have hL1 : ∀ (k1 : Nat) (z2 : Int) (x2 : Int), ref1_sound_l1 (ref1_sound k0) p1 p2 k1 z2 x2 = some r → XR Tryd.prog 46 1 [] (cd Tryd.f45 [1,1,1,0,1,0,0]) Q1 k1 [(1, vi p2), (2, vq 0), (3, vR (qa1467 p1)), (31, vi (p1.items.length : Int)), (32, vi x2)] [.box [ci z2]] := by
      intro k1
      induction k1 with
      | zero => intro z2 x2 h; rw [ref1_sound_l1.eq_1] at h; cases h
      | succ k1 ih1 =>
       intro z2 x2 h
       rw [ref1_sound_l1.eq_2] at h
       refine zq fun K14 m14 => zr (zg [] 1 [1,2,3,31,32,33] (zd (m14 _ _ (zq fun K15 m15 => zC h (fun b16 h => ?_) (fun b16 h => ?_)))))
       ·refine zs (m15 _ _ (zq fun K17 m17 => zb 1 (zq fun K18 m18 => zr (zg [] 2 [1,2,3,7,31,32] (zd ?_)))))
        refine m18 _ _ (zq fun K19 m19 => ?_)
        obtain ⟨e1, a20, h⟩ := zB h
        obtain ⟨r2, c21, h⟩ := zB h
        refine zr ?_
        refine zp [] 8 [1,2,3,31,32,39,41,42] [(qa1467 p1), [pi e1.kind, pi e1.n, pi e1.scale, .s (.string e1.s), .ro (eValue.els e1.items)]] [(1, vi p2), (2, vq 0), (3, vR (qa1467 p1)), (31, vi (p1.items.length : Int)), (32, vi x2), (39, .ag (qa1518 e1)), (41, vi (i64.wrap (p2 + (1 : Int)))), (42, vq 0)] [.box [ci z2]] [([(qa1467 p1)] : List (List PV))[0]? = some (qa1467 p1), 0 ≤ x2 ∧ x2 < ((eValue.els p1.items).length : Int) ∧ elemsOk 5 (eValue.els p1.items), (eValue.els p1.items)[x2.toNat]? = some [pi e1.kind, pi e1.n, pi e1.scale, .s (.string e1.s), .ro (eValue.els e1.items)]] (⟨rfl, eValue.inb a20, ((eValue.get a20).trans (by cases e1; rfl)), trivial⟩) ?_
        refine XO.calm 45 [.ag (qa1518 e1), vi (i64.wrap (p2 + (1 : Int))), vq 0] [.box [ci z2]] [.box [ci r2.2]] (vb r2.1) [0] [(43, vb r2.1), (1, vi p2), (2, vq 0), (3, vR (qa1467 p1)), (31, vi (p1.items.length : Int)), (32, vi x2), (39, .ag (qa1518 e1)), (41, vi (i64.wrap (p2 + (1 : Int)))), (42, vq 0)] [.box [ci r2.2]] (by kernel_rfl) (c_ref1_sound k0 _ _ _ _ c21) (by kernel_rfl) (by kernel_rfl) (by kernel_rfl) (by kernel_rfl) ?_
        refine zg [] 1 [1,2,3,31,32,44] (zd (m19 _ _ (zC h (fun b22 h => ?_) (fun b22 h => ?_))))
        ·refine zq fun K23 m23 => zr (zv [] 1 [6] [] [(6, vb false)] [.box [ci r2.2]] (zd (m23 _ _ (ze (hQ1 _ _ _ ?_)))))
         obtain rfl := zj h
         exact FinM.fin (.inr rfl) [] [vb false] [] (by kernel_rfl) trivial (by kernel_rfl) (by kernel_rfl) (.one (.rfl _ rfl))
        ·exact zs (m17 _ _ (zr (zg [] 2 [1,2,3,31,32] (zd (XR.sub (zk [1,2,3,31,32]) (ih1 r2.2 (i64.wrap (x2 + (1 : Int))) h))))))
       ·exact zx 0 (hQ1 _ _ _ (j3 z2 h _ _ (zk [])))
     exact XR.sub (zk [1,2,3,31,32]) (hL1 BIG z1 (0 : Int) h)
   rcases zW h with ⟨b7, h⟩ | ⟨b7, h⟩
   ·exact zr (zg [] 3 [1,2,3,18] (zt 18 b7 (zg [] 10 [1,2,3,28] (zd (j2 true h _ _ (zk [1,2,3,28]))))))
   ·rcases zW h with ⟨b8, h⟩ | ⟨b8, h⟩
    ·exact zr (zv [] 3 [1,2,3,18] [] (qa2146 p1 p2) [.box [ci z1]] (zt 18 b7 (zg [] 6 [1,2,3,24] (zt 24 b8 (zg [] 4 [1,2,3,28] (zd (j2 true h _ _ (zk [1,2,3,28]))))))))
    ·obtain ⟨r1, c9, h⟩ := zB h
     refine zr (zv [] 3 [1,2,3,18] [] (qa2146 p1 p2) [.box [ci z1]] (zt 18 b7 (zg [] 6 [1,2,3,24] (zt 24 b8 (zu [] 1 [1,2,3,24,25] [(qa1467 p1)] ?_)))))
     exact zl 71 [.ag (qa1518 p1)] (vb r1) [(26, vb r1), (1, vi p2), (2, vq 0), (3, vR (qa1467 p1)), (24, vb false), (25, .ag (qa1518 p1))] (c_ref1_alone _ _ c9) (zg [] 2 [1,2,3,28] (zd (j2 (!r1) h _ _ (zk [1,2,3,28]))))
  refine zq fun K3 m3 => zr (zu [] 3 [1,2,3,10] [(qa1467 p1)] (zd (m3 _ _ (zC h (fun b4 h => ?_) (fun b4 h => ?_)))))
  ·exact zr (zv [] 6 [1,2,3] [] [(1, vi p2), (2, vq 0), (3, vR (qa1467 p1))] [.box [ci (i64.wrap (p3 + (1 : Int)))]] (zd (j1 (i64.wrap (p3 + (1 : Int))) h _ _ (zk [1,2,3]))))
  ·exact zs (j1 p3 h _ _ (zk [1,2,3]))
def ref1_Sound (p1 : GValue) : Option Bool := bnd (ref1_sound BIG p1 (1 : Int) (0 : Int)) fun r1 => some r1.1
theorem c_ref1_Sound (p1 : GValue) (r : Bool) (h : ref1_Sound p1 = some r) : PC Tryd.prog 18 [.ag (qa1518 p1)] (vb r) := by
 unfold ref1_Sound at h
 refine zF 6 Tryd.f18 (zq fun K1 m1 => zr (zg [3] 2 [1] (zd (m1 _ _ (zq fun K2 m2 => zr ?_)))))
 refine zg [3] 2 [1,3] (zd (m2 _ _ (zq fun K3 m3 => ?_)))
 obtain ⟨r1, c4, h⟩ := zB h
 refine zr (zv [3] 1 [3,4] [[pi p1.kind, pi p1.n, pi p1.scale, .s (.string p1.s), .ro (eValue.els p1.items)]] [(3, vq 0), (4, .ag (qa1518 p1))] [.box [ci 0]] ?_)
 refine XO.calm 45 [.ag (qa1518 p1), vi 1, vq 0] [.box [ci 0]] [.box [ci r1.2]] (vb r1.1) [0] [(5, vb r1.1), (3, vq 0), (4, .ag (qa1518 p1))] [.box [ci r1.2]] (by kernel_rfl) (c_ref1_sound BIG _ _ _ _ c4) (by kernel_rfl) (by kernel_rfl) (by kernel_rfl) (by kernel_rfl) (zg [3] 1 [2] (zd (m3 _ _ (ze ?_))))
 obtain rfl := zj h
 exact zf [vb r1.1] (.one (.rfl _ rfl))
def ref1_of_j3 (rec1 : Int → Option Bool) (q_ref1_of : GType → GValue → Option Bool) (p1 : GType) (p2 : GValue) (x3 : Int) (x4 : Int) : Option Bool := bnd (at? p1.fields x4) fun e1 => bnd (at? p2.items x3) fun e2 => bnd (q_ref1_of e1.type e2) fun r1 => ift (!r1) (some false) (rec1 (i64.wrap (x3 + (1 : Int))))
def ref1_of_j4 : Option Bool := some true
def ref1_of_l1 (q_ref1_of : GType → GValue → Option Bool) (p1 : GType) (p2 : GValue) : Nat → Int → Option Bool
 | 0, _ => none
 | k1 + 1, x3 => ift (decide (x3 < (p2.items.length : Int))) (ift (p1.kind == (6 : Int)) (ref1_of_j3 (ref1_of_l1 q_ref1_of p1 p2 k1) q_ref1_of p1 p2 x3 (0 : Int)) (ref1_of_j3 (ref1_of_l1 q_ref1_of p1 p2 k1) q_ref1_of p1 p2 x3 x3)) (ref1_of_j4)
def ref1_of_j2 (q_ref1_of : GType → GValue → Option Bool) (p1 : GType) (p2 : GValue) (x2 : Bool) : Option Bool := ift x2 (some false) (ref1_of_l1 q_ref1_of p1 p2 BIG (0 : Int))
def ref1_of_j1 (q_ref1_of : GType → GValue → Option Bool) (p1 : GType) (p2 : GValue) (x1 : Bool) : Option Bool := ift x1 (some false) (ift (p1.kind == (7 : Int)) (ref1_of_j2 q_ref1_of p1 p2 ((p2.items.length : Int) != (p1.fields.length : Int))) (ref1_of_j2 q_ref1_of p1 p2 false))
def ref1_of : Nat → GType → GValue → Option Bool
 | 0, _, _ => none
 | k0 + 1, p1, p2 => ift (p2.kind == (0 : Int)) (some true) (ift (p2.kind != p1.kind) (ref1_of_j1 (ref1_of k0) p1 p2 true) (ref1_of_j1 (ref1_of k0) p1 p2 (p2.scale != p1.scale)))
theorem c_ref1_of : ∀ (k0 : Nat) (p1 : GType) (p2 : GValue) (r : Bool), ref1_of k0 p1 p2 = some r → PC Tryd.prog 80 [.ag [ci p1.kind, ci p1.scale, cl eField p1.fields], .ag [ci p2.kind, ci p2.n, ci p2.scale, cst p2.s, cl eValue p2.items]] (vb r)
 | 0, _, _, r, h => by rw [ref1_of.eq_1] at h; cases h
 | k0 + 1, p1, p2, r, h => by
  rw [ref1_of.eq_2] at h
  refine zF 58 Tryd.f80 (zq fun K1 m1 => zr (zg [] 3 [2,3] (zd (m1 _ _ (zq fun K2 m2 => zq fun K3 m3 => ?_)))))
  refine zr (zu [] 3 [2,3,9] [(qa1467 p2)] (zd (m3 _ _ (zC h (fun b4 h => ?_) (fun b4 h => ?_)))))
  ·refine zq fun K5 m5 => zr (zv [] 1 [4] [] [(4, vb true)] [] (zd (m5 _ _ (ze ?_))))
   obtain rfl := zj h
   exact zf [vb true] (.one (.rfl _ rfl))
  ·refine zs (m2 _ _ (zq fun K6 m6 => zq fun K7 m7 => ?_))
   have j1 : ∀ (x1 : Bool), ref1_of_j1 (ref1_of k0) p1 p2 x1 = some r → ∀ w0 w1, Sub 58 0 [] w0 w1 [(2, vR (qa1274 p1)), (3, vR (qa1467 p2)), (21, vb x1)] [] → K7 w0 w1 := by
    intro x1 h w0 w1 hS
    unfold ref1_of_j1 at h
    refine m7 _ _ (XW.sub hS ?_)
    refine zC h (fun b9 h => ?_) (fun b9 h => ?_)
    ·refine zq fun K10 m10 => zr (zg [] 1 [4] (zd (m10 _ _ (ze ?_))))
     obtain rfl := zj h
     exact zf [vb false] (.one (.rfl _ rfl))
    ·refine zs (m6 _ _ (zq fun K11 m11 => zq fun K12 m12 => ?_))
     have j2 : ∀ (x2 : Bool), ref1_of_j2 (ref1_of k0) p1 p2 x2 = some r → ∀ w0 w1, Sub 58 0 [] w0 w1 [(2, vR (qa1274 p1)), (3, vR (qa1467 p2)), (33, vb x2)] [] → K12 w0 w1 := by
      intro x2 h w0 w1 hS
      unfold ref1_of_j2 at h
      refine m12 _ _ (XW.sub hS ?_)
      refine zC h (fun b14 h => ?_) (fun b14 h => ?_)
      ·refine zq fun K15 m15 => zr (zg [] 1 [4] (zd (m15 _ _ (ze ?_))))
       obtain rfl := zj h
       exact zf [vb false] (.one (.rfl _ rfl))
      ·refine zs (m11 _ _ (zq fun K16 m16 => ?_))
       have j4 : ∀ (_ : Unit), ref1_of_j4 = some r → ∀ w0 w1, Sub 58 0 [] w0 w1 [] [] → K16 w0 w1 := by
        intro _ h w0 w1 hS
        unfold ref1_of_j4 at h
        refine m16 _ _ (XW.sub hS ?_)
        refine zq fun K33 m33 => zr (zg [] 1 [4] (zd (m33 _ _ (ze ?_))))
        obtain rfl := zj h
        exact zf [vb true] (.one (.rfl _ rfl))
       refine zq fun K17 m17 => zr (zv [] 3 [2,3,36] [[pi p2.kind, pi p2.n, pi p2.scale, .s (.string p2.s), .ro (eValue.els p2.items)]] [(2, vR [pi p1.kind, pi p1.scale, .ro (eField.els p1.fields)]), (3, vR [pi p2.kind, pi p2.n, pi p2.scale, .s (.string p2.s), .ro (eValue.els p2.items)]), (36, vi ((eValue.els p2.items).length : Int))] [] ?_)
       rw [eValue.len p2.items]
       refine zg [] 1 [2,3,36,37] (zd (m17 _ _ (zb 0 (XW.rounds' BIG (x := cd Tryd.f80 [1,1,1,1,0,1,0,0]) (by kernel_rfl) fun Q1 hQ1 => ?_))))
       have hL1 : ∀ (k1 : Nat) (x3 : Int), ref1_of_l1 (ref1_of k0) p1 p2 k1 x3 = some r → XR Tryd.prog 58 0 [] (cd Tryd.f80 [1,1,1,1,0,1,0,0]) Q1 k1 [(2, vR (qa1274 p1)), (3, vR (qa1467 p2)), (36, vi (p2.items.length : Int)), (37, vi x3)] [] := by
        intro k1
        induction k1 with
        | zero => intro x3 h; rw [ref1_of_l1.eq_1] at h; cases h
        | succ k1 ih1 =>
         intro x3 h
         rw [ref1_of_l1.eq_2] at h
         refine zq fun K18 m18 => zr (zg [] 1 [2,3,36,37,38] (zd (m18 _ _ (zq fun K19 m19 => zC h (fun b20 h => ?_) (fun b20 h => ?_)))))
         ·refine zs (m19 _ _ (zq fun K21 m21 => zb 1 (zq fun K22 m22 => zr (zg [] 2 [2,3,5,36,37] (zd ?_)))))
          refine m22 _ _ (zq fun K23 m23 => zr (zv [] 2 [2,3,5,6,36,37] [] [(2, vR (qa1274 p1)), (3, vR (qa1467 p2)), (5, vi x3), (6, vi x3), (36, vi (p2.items.length : Int)), (37, vi x3)] [] (zd (m23 _ _ (zq fun K24 m24 => ?_)))))
          have j3 : ∀ (x4 : Int), ref1_of_j3 (ref1_of_l1 (ref1_of k0) p1 p2 k1) (ref1_of k0) p1 p2 x3 x4 = some r → ∀ w0 w1, Sub 58 0 [] w0 w1 [(2, vR (qa1274 p1)), (3, vR (qa1467 p2)), (5, vi x3), (6, vi x4), (36, vi (p2.items.length : Int)), (37, vi x3)] [] → K24 w0 w1 := by
           intro x4 h w0 w1 hS
           unfold ref1_of_j3 at h
           refine m24 _ _ (XW.sub hS ?_)
           refine zq fun K27 m27 => ?_
           obtain ⟨e1, a28, h⟩ := zB h
           obtain ⟨e2, a29, h⟩ := zB h
           obtain ⟨r1, c30, h⟩ := zB h
           refine zw 11 [(54, .ag [ci e2.kind, ci e2.n, ci e2.scale, cst e2.s, cl eValue e2.items]), (53, .one (.pv (.rp (eValue.els p2.items) x3.toNat 0))), (52, vi x3), (51, vl eValue p2.items), (50, .one (.pv (.rp [(qa1467 p2)] 0 4))), (49, .ag [ci e1.type.kind, ci e1.type.scale, cl eField e1.type.fields]), (48, .one (.pv (.rp (eField.els p1.fields) x4.toNat 3))), (47, .one (.pv (.rp (eField.els p1.fields) x4.toNat 0))), (46, vi x4), (45, vl eField p1.fields), (44, .one (.pv (.rp [(qa1274 p1)] 0 2))), (2, vR (qa1274 p1)), (3, vR (qa1467 p2)), (5, vi x3), (6, vi x4), (36, vi (p2.items.length : Int)), (37, vi x3)] ?_ ?_
           ·refine zyo 11 [(qa1274 p1), (qa1299 e1), (qa1467 p2), [pi e2.kind, pi e2.n, pi e2.scale, .s (.string e2.s), .ro (eValue.els e2.items)]] [([(qa1274 p1)] : List (List PV))[0]? = some (qa1274 p1), 0 ≤ x4 ∧ x4 < ((eField.els p1.fields).length : Int) ∧ elemsOk 6 (eField.els p1.fields), (eField.els p1.fields)[x4.toNat]? = some (qa1299 e1), ([(qa1467 p2)] : List (List PV))[0]? = some (qa1467 p2), 0 ≤ x3 ∧ x3 < ((eValue.els p2.items).length : Int) ∧ elemsOk 5 (eValue.els p2.items), (eValue.els p2.items)[x3.toNat]? = some [pi e2.kind, pi e2.n, pi e2.scale, .s (.string e2.s), .ro (eValue.els e2.items)]] (⟨rfl, eField.inb a28, ((eField.get a28).trans (by rcases e1 with ⟨_, _, _, ⟨_, _, _⟩⟩; rfl)), rfl, eValue.inb a29, ((eValue.get a29).trans (by cases e2; rfl)), trivial⟩) ?_
            exact zyd
           refine za (c_ref1_of k0 _ _ _ c30) (zg [] 1 [2,3,36,37,56] (zd (m27 _ _ (zC h (fun b31 h => ?_) (fun b31 h => ?_)))))
           ·refine zq fun K32 m32 => zr (zv [] 1 [4] [] [(4, vb false)] [] (zd (m32 _ _ (ze (hQ1 _ _ _ ?_)))))
            obtain rfl := zj h
            exact zf [vb false] (.one (.rfl _ rfl))
           ·exact zs (m21 _ _ (zr (zg [] 2 [2,3,36,37] (zd (XR.sub (zk [2,3,36,37]) (ih1 (i64.wrap (x3 + (1 : Int))) h))))))
          refine zq fun K25 m25 => zr (zu [] 3 [2,3,5,6,36,37,43] [(qa1274 p1)] (zd (m25 _ _ (zC h (fun b26 h => ?_) (fun b26 h => ?_)))))
          ·exact zr (zg [] 1 [2,3,5,6,36,37] (zd (j3 (0 : Int) h _ _ (zk [2,3,5,6,36,37]))))
          ·exact zs (j3 x3 h _ _ (zk [2,3,5,6,36,37]))
         ·exact zx 0 (hQ1 _ _ _ (j4 () h _ _ (zk [])))
       exact XR.sub (zk [2,3,36,37]) (hL1 BIG (0 : Int) h)
     rcases zW h with ⟨b13, h⟩ | ⟨b13, h⟩
     ·refine zr (zu [] 4 [2,3,25] [[pi p1.kind, pi p1.scale, .ro (eField.els p1.fields)]] (zt 25 b13 (zv [] 3 [2,3,25,28] [[pi p2.kind, pi p2.n, pi p2.scale, .s (.string p2.s), .ro (eValue.els p2.items)]] [(2, vR [pi p1.kind, pi p1.scale, .ro (eField.els p1.fields)]), (3, vR [pi p2.kind, pi p2.n, pi p2.scale, .s (.string p2.s), .ro (eValue.els p2.items)]), (25, vb true), (28, vi ((eValue.els p2.items).length : Int))] [] ?_)))
      rw [eValue.len p2.items]
      refine zv [] 3 [2,3,25,28,31] [[pi p1.kind, pi p1.scale, .ro (eField.els p1.fields)]] [(2, vR [pi p1.kind, pi p1.scale, .ro (eField.els p1.fields)]), (3, vR [pi p2.kind, pi p2.n, pi p2.scale, .s (.string p2.s), .ro (eValue.els p2.items)]), (25, vb true), (28, vi (p2.items.length : Int)), (31, vi ((eField.els p1.fields).length : Int))] [] ?_
      rw [eField.len p1.fields]
      exact zg [] 2 [2,3,33] (zd (j2 ((p2.items.length : Int) != (p1.fields.length : Int)) h _ _ (zk [2,3,33])))
     ·exact zr (zu [] 4 [2,3,25] [(qa1274 p1)] (zt 25 b13 (zv [] 8 [2,3,33] [] [(2, vR (qa1274 p1)), (3, vR (qa1467 p2)), (33, vb false)] [] (zd (j2 false h _ _ (zk [2,3,33]))))))
   rcases zW h with ⟨b8, h⟩ | ⟨b8, h⟩
   ·exact zr (zu [] 6 [2,3,15] [(qa1467 p2), (qa1274 p1)] (zt 15 b8 (zg [] 6 [2,3,21] (zd (j1 true h _ _ (zk [2,3,21]))))))
   ·refine zr (zv [] 6 [2,3,15] [(qa1467 p2), (qa1274 p1)] [(2, vR (qa1274 p1)), (3, vR (qa1467 p2)), (15, vb (p2.kind != p1.kind))] [] (zt 15 b8 (zu [] 6 [2,3,21] [(qa1467 p2), (qa1274 p1)] (zd ?_))))
    exact j1 (p2.scale != p1.scale) h _ _ (zk [2,3,21])
def ref1_missing_j2 (rec1 : Int → Option Bool) (x1 : Int) (x3 : Bool) : Option Bool := ift x3 (some true) (rec1 (i64.wrap (x1 + (1 : Int))))
def ref1_missing_j1 (rec1 : Int → Option Bool) (q_ref1_missing : GType → GValue → Option Bool) (p1 : GType) (p2 : GValue) (x1 : Int) (x2 : Int) : Option Bool := bnd (at? p1.fields x2) fun e1 => ift e1.need (bnd (at? p2.items x1) fun e2 => ift (e2.kind == (0 : Int)) (ref1_missing_j2 rec1 x1 true) (bnd (q_ref1_missing e1.type e2) fun r1 => ref1_missing_j2 rec1 x1 r1)) (bnd (at? p2.items x1) fun e3 => bnd (q_ref1_missing e1.type e3) fun r2 => ref1_missing_j2 rec1 x1 r2)
def ref1_missing_j3 : Option Bool := some false
def ref1_missing_l1 (q_ref1_missing : GType → GValue → Option Bool) (p1 : GType) (p2 : GValue) : Nat → Int → Option Bool
 | 0, _ => none
 | k1 + 1, x1 => ift (decide (x1 < (p2.items.length : Int))) (ift (p1.kind == (6 : Int)) (ref1_missing_j1 (ref1_missing_l1 q_ref1_missing p1 p2 k1) q_ref1_missing p1 p2 x1 (0 : Int)) (ref1_missing_j1 (ref1_missing_l1 q_ref1_missing p1 p2 k1) q_ref1_missing p1 p2 x1 x1)) (ref1_missing_j3)
def ref1_missing : Nat → GType → GValue → Option Bool
 | 0, _, _ => none
 | k0 + 1, p1, p2 => ref1_missing_l1 (ref1_missing k0) p1 p2 BIG (0 : Int)
abbrev qa2191 (p1 : GType) (p2 : GValue) (x1 : Int) : Fr := [(2, vR (qa1274 p1)), (3, vR (qa1467 p2)), (10, vi (p2.items.length : Int)), (11, vi (i64.wrap (x1 + (1 : Int))))]
abbrev qa2193 (p1 : GType) (p2 : GValue) (x1 : Int) : Fr := [(2, vR (qa1274 p1)), (3, vR (qa1467 p2)), (10, vi (p2.items.length : Int)), (11, vi x1), (43, vb true)]
abbrev qa2196 (p1 : GType) (p2 : GValue) (x1 : Int) (r1 : Bool) : Fr := [(2, vR (qa1274 p1)), (3, vR (qa1467 p2)), (10, vi (p2.items.length : Int)), (11, vi x1), (43, vb r1)]
theorem c_ref1_missing : ∀ (k0 : Nat) (p1 : GType) (p2 : GValue) (r : Bool), ref1_missing k0 p1 p2 = some r → PC Tryd.prog 81 [.ag [ci p1.kind, ci p1.scale, cl eField p1.fields], .ag [ci p2.kind, ci p2.n, ci p2.scale, cst p2.s, cl eValue p2.items]] (vb r)
 | 0, _, _, r, h => by rw [ref1_missing.eq_1] at h; cases h
 | k0 + 1, p1, p2, r, h => by
  rw [ref1_missing.eq_2] at h
  refine zF 45 Tryd.f81 (zq fun K1 m1 => zr (zg [7] 3 [2,3] (zd (m1 _ _ (zq fun K2 m2 => ?_)))))
  have j3 : ∀ (_ : Unit), ref1_missing_j3 = some r → ∀ w0 w1, Sub 45 0 [] w0 w1 [] [] → K2 w0 w1 := by
   intro _ h w0 w1 hS
   unfold ref1_missing_j3 at h
   refine m2 _ _ (XW.sub hS ?_)
   refine zq fun K24 m24 => zr (zg [7] 1 [4] (zd (m24 _ _ (ze ?_))))
   obtain rfl := zj h
   exact zf [vb false] (.one (.rfl _ rfl))
  refine zq fun K3 m3 => zr (zv [7] 3 [2,3,10] [[pi p2.kind, pi p2.n, pi p2.scale, .s (.string p2.s), .ro (eValue.els p2.items)]] [(2, vR [pi p1.kind, pi p1.scale, .ro (eField.els p1.fields)]), (3, vR [pi p2.kind, pi p2.n, pi p2.scale, .s (.string p2.s), .ro (eValue.els p2.items)]), (10, vi ((eValue.els p2.items).length : Int))] [] ?_)
  rw [eValue.len p2.items]
  refine zg [7] 1 [2,3,10,11] (zd (m3 _ _ (zb 0 (XW.rounds' BIG (x := cd Tryd.f81 [1,0,1,0,0]) (by kernel_rfl) fun Q1 hQ1 => ?_))))
  have hL1 : ∀ (k1 : Nat) (x1 : Int), ref1_missing_l1 (ref1_missing k0) p1 p2 k1 x1 = some r → XR Tryd.prog 45 0 [] (cd Tryd.f81 [1,0,1,0,0]) Q1 k1 [(2, vR (qa1274 p1)), (3, vR (qa1467 p2)), (10, vi (p2.items.length : Int)), (11, vi x1)] [] := by
   intro k1
   induction k1 with
   | zero => intro x1 h; rw [ref1_missing_l1.eq_1] at h; cases h
   | succ k1 ih1 =>
    intro x1 h
    rw [ref1_missing_l1.eq_2] at h
    refine zq fun K4 m4 => zr (zg [7] 1 [2,3,10,11,12] (zd (m4 _ _ (zq fun K5 m5 => zC h (fun b6 h => ?_) (fun b6 h => ?_)))))
    ·refine zs (m5 _ _ (zq fun K7 m7 => zb 1 (zq fun K8 m8 => zr (zg [7] 2 [2,3,5,10,11] (zd ?_)))))
     refine m8 _ _ (zq fun K9 m9 => zr (zv [7] 2 [2,3,5,6,10,11] [] [(2, vR (qa1274 p1)), (3, vR (qa1467 p2)), (5, vi x1), (6, vi x1), (10, vi (p2.items.length : Int)), (11, vi x1)] [] (zd (m9 _ _ (zq fun K10 m10 => ?_)))))
     have j1 : ∀ (x2 : Int), ref1_missing_j1 (ref1_missing_l1 (ref1_missing k0) p1 p2 k1) (ref1_missing k0) p1 p2 x1 x2 = some r → ∀ w0 w1, Sub 45 0 [] w0 w1 [(2, vR (qa1274 p1)), (3, vR (qa1467 p2)), (5, vi x1), (6, vi x2), (10, vi (p2.items.length : Int)), (11, vi x1)] [] → K10 w0 w1 := by
      intro x2 h w0 w1 hS
      unfold ref1_missing_j1 at h
      refine m10 _ _ (XW.sub hS ?_)
      refine zq fun K13 m13 => ?_
      obtain ⟨e1, a14, h⟩ := zB h
      refine zr ?_
      refine zo [7] 7 [2,3,5,7,10,11] [(qa1274 p1), (qa1299 e1)] [([(qa1274 p1)] : List (List PV))[0]? = some (qa1274 p1), 0 ≤ x2 ∧ x2 < ((eField.els p1.fields).length : Int) ∧ elemsOk 6 (eField.els p1.fields), (eField.els p1.fields)[x2.toNat]? = some (qa1299 e1)] (⟨rfl, eField.inb a14, ((eField.get a14).trans (by rcases e1 with ⟨_, _, _, ⟨_, _, _⟩⟩; rfl)), trivial⟩) ?_
      refine zd (m13 _ _ (zq fun K15 m15 => ?_))
      have j2 : ∀ (x3 : Bool), ref1_missing_j2 (ref1_missing_l1 (ref1_missing k0) p1 p2 k1) x1 x3 = some r → ∀ w0 w1, Sub 45 0 [] w0 w1 [(2, vR (qa1274 p1)), (3, vR (qa1467 p2)), (10, vi (p2.items.length : Int)), (11, vi x1), (43, vb x3)] [.dead] → K15 w0 w1 := by
       intro x3 h w0 w1 hS
       unfold ref1_missing_j2 at h
       refine m15 _ _ (XW.sub hS ?_)
       refine zC h (fun b22 h => ?_) (fun b22 h => ?_)
       ·refine zq fun K23 m23 => zr (zg [7] 1 [4] (zd (m23 _ _ (ze (hQ1 _ _ _ ?_)))))
        obtain rfl := zj h
        exact zf [vb true] (.one (.rfl _ rfl))
       ·refine zs (m7 _ _ (zr (zg [7] 2 [2,3,10,11] (zd ?_))))
        exact XR.sub (Sub.trans (Sub.pick (fr' := (qa2191 p1 p2 x1)) [2,3,10,11] (by kernel_rfl)) (Sub.take (fr' := (qa2191 p1 p2 x1)) 0 (Nat.zero_le _) (by kernel_rfl) (by kernel_rfl))) (ih1 (i64.wrap (x1 + (1 : Int))) h)
      rcases zW h with ⟨b16, h⟩ | ⟨b16, h⟩
      ·obtain ⟨e2, a17, h⟩ := zB h
       rcases zW h with ⟨b18, h⟩ | ⟨b18, h⟩
       ·refine zw 19 [(41, .tp []), (40, .tp []), (39, .tp []), (38, .tp []), (37, .tp []), (36, .tp []), (35, .tp []), (34, vb true), (33, vb (e2.kind == (0 : Int))), (32, vb (e2.kind == (0 : Int))), (31, vi e2.kind), (30, .one (.pv (.rp (eValue.els p2.items) x1.toNat 0))), (29, .one (.pv (.rp (eValue.els p2.items) x1.toNat 0))), (28, vi x1), (27, vl eValue p2.items), (26, .one (.pv (.rp [(qa1467 p2)] 0 4))), (25, vb true), (24, vb e1.need), (23, .one (.pt 0 0 0 2)), (2, vR (qa1274 p1)), (3, vR (qa1467 p2)), (5, vi x1), (7, vq 0), (10, vi (p2.items.length : Int)), (11, vi x1)] ?_ ?_
        ·refine zyv 3 [] [(25, vb e1.need), (24, vb e1.need), (23, .one (.pt 0 0 0 2)), (2, vR [pi p1.kind, pi p1.scale, .ro (eField.els p1.fields)]), (3, vR [pi p2.kind, pi p2.n, pi p2.scale, .s (.string p2.s), .ro (eValue.els p2.items)]), (5, vi x1), (7, vq 0), (10, vi (p2.items.length : Int)), (11, vi x1)] ?_
         refine DX.eq (fr1 := [(25, vb true), (24, vb e1.need), (23, .one (.pt 0 0 0 2)), (2, vR [pi p1.kind, pi p1.scale, .ro (eField.els p1.fields)]), (3, vR [pi p2.kind, pi p2.n, pi p2.scale, .s (.string p2.s), .ro (eValue.els p2.items)]), (5, vi x1), (7, vq 0), (10, vi (p2.items.length : Int)), (11, vi x1)]) (by rw [b16]) ?_
         refine zyp 9 [[pi p2.kind, pi p2.n, pi p2.scale, .s (.string p2.s), .ro (eValue.els p2.items)], [pi e2.kind, pi e2.n, pi e2.scale, .s (.string e2.s), .ro (eValue.els e2.items)]] [(34, vb (e2.kind == (0 : Int))), (33, vb (e2.kind == (0 : Int))), (32, vb (e2.kind == (0 : Int))), (31, vi e2.kind), (30, .one (.pv (.rp (eValue.els p2.items) x1.toNat 0))), (29, .one (.pv (.rp (eValue.els p2.items) x1.toNat 0))), (28, vi x1), (27, vl eValue p2.items), (26, .one (.pv (.rp [[pi p2.kind, pi p2.n, pi p2.scale, .s (.string p2.s), .ro (eValue.els p2.items)]] 0 4))), (25, vb true), (24, vb e1.need), (23, .one (.pt 0 0 0 2)), (2, vR [pi p1.kind, pi p1.scale, .ro (eField.els p1.fields)]), (3, vR [pi p2.kind, pi p2.n, pi p2.scale, .s (.string p2.s), .ro (eValue.els p2.items)]), (5, vi x1), (7, vq 0), (10, vi (p2.items.length : Int)), (11, vi x1)] [([[pi p2.kind, pi p2.n, pi p2.scale, .s (.string p2.s), .ro (eValue.els p2.items)]] : List (List PV))[0]? = some [pi p2.kind, pi p2.n, pi p2.scale, .s (.string p2.s), .ro (eValue.els p2.items)], 0 ≤ x1 ∧ x1 < ((eValue.els p2.items).length : Int) ∧ elemsOk 5 (eValue.els p2.items), (eValue.els p2.items)[x1.toNat]? = some [pi e2.kind, pi e2.n, pi e2.scale, .s (.string e2.s), .ro (eValue.els e2.items)]] (⟨rfl, eValue.inb a17, ((eValue.get a17).trans (by cases e2; rfl)), trivial⟩) ?_
         refine DX.eq (fr1 := [(34, vb true), (33, vb (e2.kind == (0 : Int))), (32, vb (e2.kind == (0 : Int))), (31, vi e2.kind), (30, .one (.pv (.rp (eValue.els p2.items) x1.toNat 0))), (29, .one (.pv (.rp (eValue.els p2.items) x1.toNat 0))), (28, vi x1), (27, vl eValue p2.items), (26, .one (.pv (.rp [[pi p2.kind, pi p2.n, pi p2.scale, .s (.string p2.s), .ro (eValue.els p2.items)]] 0 4))), (25, vb true), (24, vb e1.need), (23, .one (.pt 0 0 0 2)), (2, vR [pi p1.kind, pi p1.scale, .ro (eField.els p1.fields)]), (3, vR [pi p2.kind, pi p2.n, pi p2.scale, .s (.string p2.s), .ro (eValue.els p2.items)]), (5, vi x1), (7, vq 0), (10, vi (p2.items.length : Int)), (11, vi x1)]) (by rw [b18]) ?_
         exact zyg 7 zyd
        refine zg [7] 2 [2,3,10,11,43] (zd ?_)
        exact j2 true h _ _ (Sub.trans (Sub.pick (fr' := (qa2193 p1 p2 x1)) [2,3,10,11,43] (by kernel_rfl)) (Sub.only (fr' := (qa2193 p1 p2 x1)) (st' := [.dead]) [] 1 (by kernel_rfl) (by kernel_rfl) (by kernel_rfl) (by kernel_rfl)))
       ·obtain ⟨r1, c19, h⟩ := zB h
        refine zw 19 [(41, .ag (qa1518 e2)), (40, .one (.pv (.rp (eValue.els p2.items) x1.toNat 0))), (39, vi x1), (38, vl eValue p2.items), (37, .one (.pv (.rp [(qa1467 p2)] 0 4))), (36, .ag (qa1367 e1)), (35, .one (.pt 0 0 0 3)), (34, vb false), (33, vb (e2.kind == (0 : Int))), (32, vb (e2.kind == (0 : Int))), (31, vi e2.kind), (30, .one (.pv (.rp (eValue.els p2.items) x1.toNat 0))), (29, .one (.pv (.rp (eValue.els p2.items) x1.toNat 0))), (28, vi x1), (27, vl eValue p2.items), (26, .one (.pv (.rp [(qa1467 p2)] 0 4))), (25, vb true), (24, vb e1.need), (23, .one (.pt 0 0 0 2)), (2, vR (qa1274 p1)), (3, vR (qa1467 p2)), (5, vi x1), (7, vq 0), (10, vi (p2.items.length : Int)), (11, vi x1)] ?_ ?_
        ·refine zyv 3 [] [(25, vb e1.need), (24, vb e1.need), (23, .one (.pt 0 0 0 2)), (2, vR [pi p1.kind, pi p1.scale, .ro (eField.els p1.fields)]), (3, vR [pi p2.kind, pi p2.n, pi p2.scale, .s (.string p2.s), .ro (eValue.els p2.items)]), (5, vi x1), (7, vq 0), (10, vi (p2.items.length : Int)), (11, vi x1)] ?_
         refine DX.eq (fr1 := [(25, vb true), (24, vb e1.need), (23, .one (.pt 0 0 0 2)), (2, vR [pi p1.kind, pi p1.scale, .ro (eField.els p1.fields)]), (3, vR [pi p2.kind, pi p2.n, pi p2.scale, .s (.string p2.s), .ro (eValue.els p2.items)]), (5, vi x1), (7, vq 0), (10, vi (p2.items.length : Int)), (11, vi x1)]) (by rw [b16]) ?_
         refine zyp 9 [[pi p2.kind, pi p2.n, pi p2.scale, .s (.string p2.s), .ro (eValue.els p2.items)], [pi e2.kind, pi e2.n, pi e2.scale, .s (.string e2.s), .ro (eValue.els e2.items)]] [(34, vb (e2.kind == (0 : Int))), (33, vb (e2.kind == (0 : Int))), (32, vb (e2.kind == (0 : Int))), (31, vi e2.kind), (30, .one (.pv (.rp (eValue.els p2.items) x1.toNat 0))), (29, .one (.pv (.rp (eValue.els p2.items) x1.toNat 0))), (28, vi x1), (27, vl eValue p2.items), (26, .one (.pv (.rp [[pi p2.kind, pi p2.n, pi p2.scale, .s (.string p2.s), .ro (eValue.els p2.items)]] 0 4))), (25, vb true), (24, vb e1.need), (23, .one (.pt 0 0 0 2)), (2, vR [pi p1.kind, pi p1.scale, .ro (eField.els p1.fields)]), (3, vR [pi p2.kind, pi p2.n, pi p2.scale, .s (.string p2.s), .ro (eValue.els p2.items)]), (5, vi x1), (7, vq 0), (10, vi (p2.items.length : Int)), (11, vi x1)] [([[pi p2.kind, pi p2.n, pi p2.scale, .s (.string p2.s), .ro (eValue.els p2.items)]] : List (List PV))[0]? = some [pi p2.kind, pi p2.n, pi p2.scale, .s (.string p2.s), .ro (eValue.els p2.items)], 0 ≤ x1 ∧ x1 < ((eValue.els p2.items).length : Int) ∧ elemsOk 5 (eValue.els p2.items), (eValue.els p2.items)[x1.toNat]? = some [pi e2.kind, pi e2.n, pi e2.scale, .s (.string e2.s), .ro (eValue.els e2.items)]] (⟨rfl, eValue.inb a17, ((eValue.get a17).trans (by cases e2; rfl)), trivial⟩) ?_
         refine DX.eq (fr1 := [(34, vb false), (33, vb (e2.kind == (0 : Int))), (32, vb (e2.kind == (0 : Int))), (31, vi e2.kind), (30, .one (.pv (.rp (eValue.els p2.items) x1.toNat 0))), (29, .one (.pv (.rp (eValue.els p2.items) x1.toNat 0))), (28, vi x1), (27, vl eValue p2.items), (26, .one (.pv (.rp [[pi p2.kind, pi p2.n, pi p2.scale, .s (.string p2.s), .ro (eValue.els p2.items)]] 0 4))), (25, vb true), (24, vb e1.need), (23, .one (.pt 0 0 0 2)), (2, vR [pi p1.kind, pi p1.scale, .ro (eField.els p1.fields)]), (3, vR [pi p2.kind, pi p2.n, pi p2.scale, .s (.string p2.s), .ro (eValue.els p2.items)]), (5, vi x1), (7, vq 0), (10, vi (p2.items.length : Int)), (11, vi x1)]) (by rw [b18]) ?_
         refine zyo 7 [(qa1467 p2), [pi e2.kind, pi e2.n, pi e2.scale, .s (.string e2.s), .ro (eValue.els e2.items)]] [([(qa1467 p2)] : List (List PV))[0]? = some (qa1467 p2), 0 ≤ x1 ∧ x1 < ((eValue.els p2.items).length : Int) ∧ elemsOk 5 (eValue.els p2.items), (eValue.els p2.items)[x1.toNat]? = some [pi e2.kind, pi e2.n, pi e2.scale, .s (.string e2.s), .ro (eValue.els e2.items)]] (⟨rfl, eValue.inb a17, ((eValue.get a17).trans (by cases e2; rfl)), trivial⟩) ?_
         exact zyd
        refine zl 81 [.ag (qa1367 e1), .ag (qa1518 e2)] (vb r1) [(42, vb r1), (41, .ag (qa1518 e2)), (40, .one (.pv (.rp (eValue.els p2.items) x1.toNat 0))), (39, vi x1), (38, vl eValue p2.items), (37, .one (.pv (.rp [(qa1467 p2)] 0 4))), (36, .ag (qa1367 e1)), (35, .one (.pt 0 0 0 3)), (34, vb false), (33, vb (e2.kind == (0 : Int))), (32, vb (e2.kind == (0 : Int))), (31, vi e2.kind), (30, .one (.pv (.rp (eValue.els p2.items) x1.toNat 0))), (29, .one (.pv (.rp (eValue.els p2.items) x1.toNat 0))), (28, vi x1), (27, vl eValue p2.items), (26, .one (.pv (.rp [(qa1467 p2)] 0 4))), (25, vb true), (24, vb e1.need), (23, .one (.pt 0 0 0 2)), (2, vR (qa1274 p1)), (3, vR (qa1467 p2)), (5, vi x1), (7, vq 0), (10, vi (p2.items.length : Int)), (11, vi x1)] (c_ref1_missing k0 _ _ _ c19) ?_
        refine zg [7] 1 [2,3,10,11,43] (zd ?_)
        exact j2 r1 h _ _ (Sub.trans (Sub.pick (fr' := (qa2196 p1 p2 x1 r1)) [2,3,10,11,43] (by kernel_rfl)) (Sub.only (fr' := (qa2196 p1 p2 x1 r1)) (st' := [.dead]) [] 1 (by kernel_rfl) (by kernel_rfl) (by kernel_rfl) (by kernel_rfl)))
      ·obtain ⟨e3, a20, h⟩ := zB h
       obtain ⟨r2, c21, h⟩ := zB h
       refine zw 19 [(41, .ag [ci e3.kind, ci e3.n, ci e3.scale, cst e3.s, cl eValue e3.items]), (40, .one (.pv (.rp (eValue.els p2.items) x1.toNat 0))), (39, vi x1), (38, vl eValue p2.items), (37, .one (.pv (.rp [(qa1467 p2)] 0 4))), (36, .ag (qa1367 e1)), (35, .one (.pt 0 0 0 3)), (34, vb false), (33, vb false), (32, .tp []), (31, .tp []), (30, .tp []), (29, .tp []), (28, .tp []), (27, .tp []), (26, .tp []), (25, vb false), (24, vb e1.need), (23, .one (.pt 0 0 0 2)), (2, vR (qa1274 p1)), (3, vR (qa1467 p2)), (5, vi x1), (7, vq 0), (10, vi (p2.items.length : Int)), (11, vi x1)] ?_ ?_
       ·refine zyv 3 [] [(25, vb e1.need), (24, vb e1.need), (23, .one (.pt 0 0 0 2)), (2, vR [pi p1.kind, pi p1.scale, .ro (eField.els p1.fields)]), (3, vR [pi p2.kind, pi p2.n, pi p2.scale, .s (.string p2.s), .ro (eValue.els p2.items)]), (5, vi x1), (7, vq 0), (10, vi (p2.items.length : Int)), (11, vi x1)] ?_
        refine DX.eq (fr1 := [(25, vb false), (24, vb e1.need), (23, .one (.pt 0 0 0 2)), (2, vR [pi p1.kind, pi p1.scale, .ro (eField.els p1.fields)]), (3, vR [pi p2.kind, pi p2.n, pi p2.scale, .s (.string p2.s), .ro (eValue.els p2.items)]), (5, vi x1), (7, vq 0), (10, vi (p2.items.length : Int)), (11, vi x1)]) (by rw [b16]) ?_
        refine zyo 16 [(qa1467 p2), [pi e3.kind, pi e3.n, pi e3.scale, .s (.string e3.s), .ro (eValue.els e3.items)]] [([(qa1467 p2)] : List (List PV))[0]? = some (qa1467 p2), 0 ≤ x1 ∧ x1 < ((eValue.els p2.items).length : Int) ∧ elemsOk 5 (eValue.els p2.items), (eValue.els p2.items)[x1.toNat]? = some [pi e3.kind, pi e3.n, pi e3.scale, .s (.string e3.s), .ro (eValue.els e3.items)]] (⟨rfl, eValue.inb a20, ((eValue.get a20).trans (by cases e3; rfl)), trivial⟩) ?_
        exact zyd
       refine za (c_ref1_missing k0 _ _ _ c21) (zv [7] 1 [2,3,10,11,43] [] (qa2196 p1 p2 x1 r2) [.box [ci e1.id, cst e1.name, cb e1.need, ci e1.type.kind, ci e1.type.scale, cl eField e1.type.fields]] (zd ?_))
       exact j2 r2 h _ _ (Sub.trans (Sub.pick (fr' := (qa2196 p1 p2 x1 r2)) [2,3,10,11,43] (by kernel_rfl)) (Sub.only (fr' := (qa2196 p1 p2 x1 r2)) (st' := [.dead]) [] 1 (by kernel_rfl) (by kernel_rfl) (by kernel_rfl) (by kernel_rfl)))
     refine zq fun K11 m11 => zr (zu [7] 3 [2,3,5,6,10,11,17] [(qa1274 p1)] (zd (m11 _ _ (zC h (fun b12 h => ?_) (fun b12 h => ?_)))))
     ·exact zr (zg [7] 1 [2,3,5,6,10,11] (zd (j1 (0 : Int) h _ _ (zk [2,3,5,6,10,11]))))
     ·exact zs (j1 x1 h _ _ (zk [2,3,5,6,10,11]))
    ·exact zx 0 (hQ1 _ _ _ (j3 () h _ _ (zk [])))
  exact XR.sub (zk [2,3,10,11]) (hL1 BIG (0 : Int) h)
def ref1_Check (p1 : GType) (p2 : GValue) : Option Int := bnd (ref1_CheckType p1) fun r1 => ift (r1 != (0 : Int)) (some r1) (bnd (ref1_Sound p2) fun r2 => ift (!r2) (some (1 : Int)) (bnd (ref1_of BIG p1 p2) fun r3 => ift (!r3) (some (2 : Int)) (bnd (ref1_missing BIG p1 p2) fun r4 => ift r4 (some (9 : Int)) (some (0 : Int)))))
theorem c_ref1_Check (p1 : GType) (p2 : GValue) (r : Int) (h : ref1_Check p1 p2 = some r) : PC Tryd.prog 57 [.ag (qa1397 p1), .ag (qa1518 p2)] (vi r) := by
 unfold ref1_Check at h
 refine zF 21 Tryd.f57 (zq fun K1 m1 => zr (zg [] 3 [2,3] (zd (m1 _ _ (zq fun K2 m2 => zq fun K3 m3 => ?_)))))
 obtain ⟨r1, c4, h⟩ := zB h
 refine zr (zu [] 1 [2,3,6] [(qa1274 p1)] (zl 51 [.ag (qa1397 p1)] (vi r1) [(7, vi r1), (2, vR (qa1274 p1)), (3, vR (qa1467 p2)), (6, .ag (qa1397 p1))] (c_ref1_CheckType _ _ c4) (zg [] 1 [2,3,5] (zd (m3 _ _ (zq fun K5 m5 => zr ?_))))))
 refine zg [] 2 [2,3,5,9] (zd (m5 _ _ (zC h (fun b6 h => ?_) (fun b6 h => ?_))))
 ·refine zq fun K7 m7 => zr (zv [] 2 [4] [] [(4, vi r1)] [] (zd (m7 _ _ (ze ?_))))
  obtain rfl := zj h
  exact zf [vi r1] (.one (.rfl _ rfl))
 ·refine zs (m2 _ _ (zq fun K8 m8 => zq fun K9 m9 => ?_))
  obtain ⟨r2, c10, h⟩ := zB h
  refine zr (zu [] 1 [2,3,11] [(qa1467 p2)] (za (c_ref1_Sound _ _ c10) (zv [] 1 [2,3,13] [] [(2, vR (qa1274 p1)), (3, vR (qa1467 p2)), (13, vb (!r2))] [] (zd (m9 _ _ (zC h (fun b11 h => ?_) (fun b11 h => ?_)))))))
  ·refine zq fun K12 m12 => zr (zg [] 1 [4] (zd (m12 _ _ (ze ?_))))
   obtain rfl := zj h
   exact zf [vi 1] (.one (.rfl _ rfl))
  ·refine zs (m8 _ _ (zq fun K13 m13 => zq fun K14 m14 => ?_))
   obtain ⟨r3, c15, h⟩ := zB h
   refine zr (zu [] 2 [2,3,14,15] [(qa1274 p1), (qa1467 p2)] ?_)
   refine zl 80 [.ag (qa1397 p1), .ag (qa1518 p2)] (vb r3) [(16, vb r3), (2, vR (qa1274 p1)), (3, vR (qa1467 p2)), (14, .ag (qa1397 p1)), (15, .ag (qa1518 p2))] (c_ref1_of BIG _ _ _ c15) (zg [] 1 [2,3,17] (zd (m14 _ _ (zC h (fun b16 h => ?_) (fun b16 h => ?_)))))
   ·refine zq fun K17 m17 => zr (zg [] 1 [4] (zd (m17 _ _ (ze ?_))))
    obtain rfl := zj h
    exact zf [vi 2] (.one (.rfl _ rfl))
   ·refine zs (m13 _ _ (zq fun K18 m18 => zq fun K19 m19 => ?_))
    obtain ⟨r4, c20, h⟩ := zB h
    refine zr (zv [] 2 [18,19] [(qa1274 p1), (qa1467 p2)] [(18, .ag (qa1397 p1)), (19, .ag (qa1518 p2))] [] (za (c_ref1_missing BIG _ _ _ c20) (zd (m19 _ _ (zC h (fun b21 h => ?_) (fun b21 h => ?_))))))
    ·refine zq fun K22 m22 => zr (zg [] 1 [4] (zd (m22 _ _ (ze ?_))))
     obtain rfl := zj h
     exact zf [vi 9] (.one (.rfl _ rfl))
    ·refine zs (m18 _ _ (zq fun K23 m23 => zr (zv [] 1 [4] [] [(4, vi 0)] [] (zd (m23 _ _ (ze ?_))))))
     obtain rfl := zj h
     exact zf [vi 0] (.one (.rfl _ rfl))
end Go.Proofs.YtmaemlebpjnmoaaDoor
