/- Printed by a program: what the functions compute, and the proofs of their contracts. -/
import Derived.Test.YtdbfodeghijdlaaDoorGeA
namespace Go.Proofs.YtdbfodeghijdlaaDoor
open Go.SX Go
set_option linter.unusedVariables false
set_option linter.unusedSimpArgs false
set_option maxRecDepth 100000
set_option maxHeartbeats 8000000

def ref1_addWide (p1 : RWide) (p2 : RWide) : Option RWide :=
    ift (p1.below == p2.below)
      (bnd (ref1_plus p1.d p2.d) fun r1 =>
       bnd (ref1_cut p1.below r1) fun r2 =>
       some r2)
      (bnd (ref1_most p1.d p2.d) fun r3 =>
       ift (decide ((0 : Int) ≤ r3))
         (bnd (ref1_minus p1.d p2.d) fun r4 =>
          bnd (ref1_cut p1.below r4) fun r5 =>
          some r5)
         (bnd (ref1_minus p2.d p1.d) fun r6 =>
          bnd (ref1_cut p2.below r6) fun r7 =>
          some r7))

abbrev qa1247 (p1 : RWide) : List PV := [.s (.bool p1.below), .ro (eI.els p1.d)]
abbrev qa1248 (p2 : RWide) : List PV := [.s (.bool p2.below), .ro (eI.els p2.d)]
abbrev qa1257 (p1 : RWide) (p2 : RWide) (r3 : Int) (r4 : (List Int)) : Fr := [(30, vl eI r4), (29, vl eI p2.d), (28, .one (.pv (.rp [(qa1248 p2)] 0 1))), (27, vl eI p1.d), (26, .one (.pv (.rp [(qa1247 p1)] 0 1))), (25, vb p1.below), (24, .one (.pv (.rp [(qa1247 p1)] 0 0))), (2, .one (.pv (.rp [(qa1247 p1)] 0 0))), (3, .one (.pv (.rp [(qa1248 p2)] 0 0))), (4, .one (.pt 0 0 0 0)), (23, vb (decide ((0 : Int) ≤ r3)))]

theorem c_ref1_addWide (p1 : RWide) (p2 : RWide) (r : RWide) (h : ref1_addWide p1 p2 = some r) : PC Tryd.prog 53 [.ag [cb p1.below, cl eI p1.d], .ag [cb p2.below, cl eI p2.d]] (.ag [cb r.below, cl eI r.d]) := by
 unfold ref1_addWide at h
 refine zF 40 Tryd.f53 (zq fun K1 hK1 => zr (zg [4] 3 [2,3,4] (zd (hK1 _ _ (zq fun K2 hK2 => zq fun K3 hK3 => ?_)))))
 refine zr (zu [4] 5 [2,3,4,9] [(qa1247 p1), (qa1248 p2)] (zd (hK3 _ _ (zC h (fun b4 h => ?_) (fun b4 h => ?_)))))
 ·refine zq fun K5 hK5 => ?_
  obtain ⟨r1, c6, h⟩ := zB h
  obtain ⟨r2, c7, h⟩ := zB h
  refine zw 7 [(16, vl eI r1), (15, vl eI p2.d), (14, .one (.pv (.rp [(qa1248 p2)] 0 1))), (13, vl eI p1.d), (12, .one (.pv (.rp [(qa1247 p1)] 0 1))), (11, vb p1.below), (10, .one (.pv (.rp [(qa1247 p1)] 0 0))), (2, .one (.pv (.rp [(qa1247 p1)] 0 0))), (3, .one (.pv (.rp [(qa1248 p2)] 0 0))), (4, .one (.pt 0 0 0 0)), (9, vb (p1.below == p2.below))] ?_ ?_
  ·refine zyv 6 [(qa1247 p1), (qa1247 p1), (qa1248 p2)] [(15, vl eI p2.d), (14, .one (.pv (.rp [(qa1248 p2)] 0 1))), (13, vl eI p1.d), (12, .one (.pv (.rp [(qa1247 p1)] 0 1))), (11, vb p1.below), (10, .one (.pv (.rp [(qa1247 p1)] 0 0))), (2, .one (.pv (.rp [(qa1247 p1)] 0 0))), (3, .one (.pv (.rp [(qa1248 p2)] 0 0))), (4, .one (.pt 0 0 0 0)), (9, vb (p1.below == p2.below))] ?_
   exact zya (c_ref1_plus _ _ _ c6) zyd
  refine zl 61 [vb p1.below, vl eI r1] (.ag [cb r2.below, cl eI r2.d]) [(17, .ag [cb r2.below, cl eI r2.d]), (16, vl eI r1), (15, vl eI p2.d), (14, .one (.pv (.rp [(qa1248 p2)] 0 1))), (13, vl eI p1.d), (12, .one (.pv (.rp [(qa1247 p1)] 0 1))), (11, vb p1.below), (10, .one (.pv (.rp [(qa1247 p1)] 0 0))), (2, .one (.pv (.rp [(qa1247 p1)] 0 0))), (3, .one (.pv (.rp [(qa1248 p2)] 0 0))), (4, .one (.pt 0 0 0 0)), (9, vb (p1.below == p2.below))] (c_ref1_cut _ _ _ c7) ?_
  refine zg [4] 1 [4] (zd (hK5 _ _ (ze ?_)))
  obtain rfl := Option.some.inj h
  exact zf [.ag [cb r2.below, cl eI r2.d]] (.ag (.cons (.rfl _ rfl) (.cons (.rfl _ rfl) .nil)))
 ·refine zs (hK2 _ _ (zq fun K8 hK8 => zq fun K9 hK9 => ?_))
  obtain ⟨r3, c10, h⟩ := zB h
  refine zr (zu [4] 4 [2,3,4,19,21] [(qa1247 p1), (qa1248 p2)] (zl 59 [vl eI p1.d, vl eI p2.d] (vi r3) [(22, vi r3), (2, .one (.pv (.rp [(qa1247 p1)] 0 0))), (3, .one (.pv (.rp [(qa1248 p2)] 0 0))), (4, .one (.pt 0 0 0 0)), (19, vl eI p1.d), (21, vl eI p2.d)] (c_ref1_most _ _ _ c10) (zg [4] 1 [2,3,4,23] (zd (hK9 _ _ (zC h (fun b11 h => ?_) (fun b11 h => ?_)))))))
  ·refine zq fun K12 hK12 => ?_
   obtain ⟨r4, c13, h⟩ := zB h
   obtain ⟨r5, c14, h⟩ := zB h
   refine zw 7 (qa1257 p1 p2 r3 r4) ?_ ?_
   ·refine zyu 6 [(qa1247 p1), (qa1247 p1), (qa1248 p2)] ?_
    refine DX.cal 72 [vl eI p1.d, vl eI p2.d] (vl eI r4) (qa1257 p1 p2 r3 r4) (by kernel_rfl) (c_ref1_minus _ _ _ c13) rfl rfl (by kernel_rfl) ?_
    exact zyd
   refine za (c_ref1_cut _ _ _ c14) (zv [4] 1 [4] [] [(4, .one (.pt 0 0 0 0))] [.box [cb r5.below, cl eI r5.d]] (zd (hK12 _ _ (ze ?_))))
   obtain rfl := Option.some.inj h
   exact zf [.ag [cb r5.below, cl eI r5.d]] (.ag (.cons (.rfl _ rfl) (.cons (.rfl _ rfl) .nil)))
  ·refine zs (hK8 _ _ (zq fun K15 hK15 => ?_))
   obtain ⟨r6, c16, h⟩ := zB h
   obtain ⟨r7, c17, h⟩ := zB h
   refine zw 7 [(38, vl eI r6), (37, vl eI p1.d), (36, .one (.pv (.rp [(qa1247 p1)] 0 1))), (35, vl eI p2.d), (34, .one (.pv (.rp [(qa1248 p2)] 0 1))), (33, vb p2.below), (32, .one (.pv (.rp [(qa1248 p2)] 0 0))), (2, .one (.pv (.rp [(qa1247 p1)] 0 0))), (3, .one (.pv (.rp [(qa1248 p2)] 0 0))), (4, .one (.pt 0 0 0 0)), (23, vb (decide ((0 : Int) ≤ r3)))] ?_ ?_
   ·exact zyu 6 [(qa1248 p2), (qa1248 p2), (qa1247 p1)] (zya (c_ref1_minus _ _ _ c16) zyd)
   refine za (c_ref1_cut _ _ _ c17) (zg [4] 1 [4] (zd (hK15 _ _ (ze ?_))))
   obtain rfl := Option.some.inj h
   exact zf [.ag [cb r7.below, cl eI r7.d]] (.ag (.cons (.rfl _ rfl) (.cons (.rfl _ rfl) .nil)))

def ref1_added_j2 (rec1 : Bool → List Int → Int → Int → Int → Int → Option (RWide × Int × GType × Int)) (x2 : Int) (z5 : Bool) (z6 : List Int) (z7 : Int) (z8 : Int) (x4 : Int) : Option (RWide × Int × GType × Int) :=
    rec1 z5 z6 z7 z8 x4 (IntKind.i64.wrap (x2 + (1 : Int)))

def ref1_added_j1 (rec1 : Bool → List Int → Int → Int → Int → Int → Option (RWide × Int × GType × Int)) (z1 : Bool) (z2 : List Int) (x1 : Int) (x2 : Int) (e1 : GValue) (x3 : Bool) : Option (RWide × Int × GType × Int) :=
    ift x3
      (some ((RWide.mk false []), (0 : Int), (GType.mk (0 : Int) (0 : Int) []), (2 : Int)))
      (bnd (ref1_wideOf e1.n) fun r3 =>
       bnd (ref1_addWide (RWide.mk z1 z2) r3) fun r4 =>
       ref1_added_j2 rec1 x2 r4.below r4.d e1.kind e1.scale (IntKind.i64.wrap (x1 + (1 : Int))))

def ref1_added_j3 (z9 : Bool) (z10 : List Int) (z11 : Int) (z12 : Int) (x5 : Int) : Option (RWide × Int × GType × Int) :=
    some ((RWide.mk z9 z10), x5, (GType.mk z11 z12 []), (0 : Int))

def ref1_added_l1 (p1 : (List GValue)) : Nat → Bool → List Int → Int → Int → Int → Int → Option (RWide × Int × GType × Int)
  | 0, _, _, _, _, _, _ => none
  | k1 + 1, z1, z2, z3, z4, x1, x2 =>
    ift (decide (x2 < (p1.length : Int)))
      (bnd (at? p1 x2) fun e1 =>
       ift (e1.kind == (0 : Int))
         (ref1_added_j2 (ref1_added_l1 p1 k1) x2 z1 z2 z3 z4 x1)
         (bnd (ref1_isNumber e1.kind) fun r1 =>
          ift (!r1)
            (ref1_added_j1 (ref1_added_l1 p1 k1) z1 z2 x1 x2 e1 true)
            (bnd (ref1_Sound e1) fun r2 =>
             ift (!r2)
               (ref1_added_j1 (ref1_added_l1 p1 k1) z1 z2 x1 x2 e1 true)
               (ift (decide ((0 : Int) < x1))
                  (ift (e1.kind != z3)
                     (ref1_added_j1 (ref1_added_l1 p1 k1) z1 z2 x1 x2 e1 true)
                     (ref1_added_j1 (ref1_added_l1 p1 k1) z1 z2 x1 x2 e1 (e1.scale != z4)))
                  (ref1_added_j1 (ref1_added_l1 p1 k1) z1 z2 x1 x2 e1 false)))))
      (ref1_added_j3 z1 z2 z3 z4 x1)

def ref1_added (p1 : (List GValue)) : Option (RWide × Int × GType × Int) :=
    ref1_added_l1 p1 BIG false [] (0 : Int) (0 : Int) (0 : Int) (0 : Int)

abbrev qa1267 (z11 : Int) (z12 : Int) : List CV := [ci z11, ci z12, .pv (.s (.slice none 0 0))]
abbrev qa1268 (p1 : (List GValue)) (x1 : Int) (x2 : Int) : Fr := [(0, vl eValue p1), (2, .one (.pt 0 0 0 0)), (3, vi x1), (4, .one (.pt 1 0 0 0)), (9, vi (p1.length : Int)), (10, vi x2)]
abbrev qa1270 (z3 : Int) (z4 : Int) : List CV := [ci z3, ci z4, .pv (.s (.slice none 0 0))]
abbrev qa1275 (p1 : (List GValue)) (x1 : Int) (x2 : Int) : Fr := [(0, vl eValue p1), (2, .one (.pt 0 0 0 0)), (3, vi x1), (4, .one (.pt 1 0 0 0)), (7, .one (.pt 2 0 0 0)), (9, vi (p1.length : Int)), (10, vi x2)]
abbrev qa1276 (e1 : GValue) : List CV := [ci e1.kind, ci e1.n, ci e1.scale, cst e1.s, cl eValue e1.items]
abbrev qa1278 (e1 : GValue) : List CV := [ci e1.kind, ci e1.scale, .pv (.s (.slice none 0 0))]
abbrev qa1279 (r4 : RWide) : List CV := [cb r4.below, cl eI r4.d]
abbrev qa1280 (r3 : RWide) : List CV := [cb r3.below, cl eI r3.d]
abbrev qa1281 (p1 : (List GValue)) (x1 : Int) (x2 : Int) : Fr := [(0, vl eValue p1), (2, .one (.pt 0 0 0 0)), (3, vi (IntKind.i64.wrap (x1 + (1 : Int)))), (4, .one (.pt 1 0 0 0)), (9, vi (p1.length : Int)), (10, vi x2)]
abbrev qa1284 (p1 : (List GValue)) (x1 : Int) (x2 : Int) : Fr := [(0, vl eValue p1), (2, .one (.pt 0 0 0 0)), (3, vi x1), (4, .one (.pt 1 0 0 0)), (7, .one (.pt 2 0 0 0)), (9, vi (p1.length : Int)), (10, vi x2), (46, vb true)]
abbrev qa1285 (p1 : (List GValue)) (x1 : Int) (x2 : Int) (r1 : Bool) : Fr := [(0, vl eValue p1), (2, .one (.pt 0 0 0 0)), (3, vi x1), (4, .one (.pt 1 0 0 0)), (7, .one (.pt 2 0 0 0)), (9, vi (p1.length : Int)), (10, vi x2), (24, vb (!r1))]
abbrev qa1286 (p1 : (List GValue)) (x1 : Int) (x2 : Int) (r2 : Bool) : Fr := [(0, vl eValue p1), (2, .one (.pt 0 0 0 0)), (3, vi x1), (4, .one (.pt 1 0 0 0)), (7, .one (.pt 2 0 0 0)), (9, vi (p1.length : Int)), (10, vi x2), (29, vb (!r2))]
abbrev qa1294 (z1 : Bool) (z2 : List Int) (z3 : Int) (z4 : Int) (e1 : GValue) : St := [.box [cb z1, cl eI z2], .box (qa1270 z3 z4), .box (qa1276 e1)]
abbrev qa1296 (p1 : (List GValue)) (z1 : Bool) (z2 : List Int) (x1 : Int) (x2 : Int) (e1 : GValue) (r3 : RWide) (r4 : RWide) : Fr := [(60, vi (IntKind.i64.wrap (x1 + (1 : Int)))), (59, vi x1), (58, .ag (qa1279 r4)), (57, .ag (qa1280 r3)), (56, vi e1.n), (55, .one (.pt 2 0 0 1)), (54, .ag [cb z1, cl eI z2]), (0, vl eValue p1), (2, .one (.pt 0 0 0 0)), (3, vi x1), (4, .one (.pt 1 0 0 0)), (7, .one (.pt 2 0 0 0)), (9, vi (p1.length : Int)), (10, vi x2)]

theorem c_ref1_added (p1 : (List GValue)) (r : (RWide × Int × GType × Int)) (h : ref1_added p1 = some r) : PC Tryd.prog 29 [vl eValue p1] (.tp [.ag [cb r.1.below, cl eI r.1.d], vi r.2.1, .ag [ci r.2.2.1.kind, ci r.2.2.1.scale, cl eField r.2.2.1.fields], vi r.2.2.2]) := by
 unfold ref1_added at h
 refine zF 65 Tryd.f29 (zq fun K1 hK1 => zr (zv [2, 4, 7] 4 [0,2,3,4] [] [(0, vl eValue p1), (2, .one (.pt 0 0 0 0)), (3, vi (0 : Int)), (4, .one (.pt 1 0 0 0))] [.box [cb false, .pv (.s (.slice none 0 0))], .box [ci (0 : Int), ci (0 : Int), .pv (.s (.slice none 0 0))]] (zd (hK1 _ _ (zq fun K2 hK2 => ?_)))))
 have hJ3 : ∀ (z9 : Bool) (z10 : List Int) (z11 : Int) (z12 : Int) (x5 : Int), ref1_added_j3 z9 z10 z11 z12 x5 = some r → ∀ fr1 st1, Sub 65 0 [] fr1 st1 [(2, .one (.pt 0 0 0 0)), (3, vi x5), (4, .one (.pt 1 0 0 0))] [.box [cb z9, cl eI z10], .box (qa1267 z11 z12)] → K2 fr1 st1 := by
  intro z9 z10 z11 z12 x5 h fr1 st1 hS
  unfold ref1_added_j3 at h
  refine hK2 _ _ (XW.sub hS ?_)
  refine zq fun K27 hK27 => XW.drwG 5 [2] [([0], []), ([], []), ([1], []), ([0], [0]), ([], [])] [(3, vi x5), (64, .ag (qa1267 z11 z12)), (63, vi x5), (62, .ag [cb z9, cl eI z10]), (2, .one (.pt 0 0 0 0)), (3, vi x5), (4, .one (.pt 1 0 0 0))] [.box [cb z9, cl eI z10], .box (qa1267 z11 z12)] (by kernel_rfl) (by kernel_rfl) ?_ ?_
  ·refine zgv 3 [] [(64, .ag (qa1267 z11 z12)), (63, vi x5), (62, .ag [cb z9, cl eI z10]), (2, .one (.pt 0 0 0 0)), (3, vi x5), (4, .one (.pt 1 0 0 0))] (GY.wr [] [(64, .ag (qa1267 z11 z12)), (63, vi x5), (62, .ag [cb z9, cl eI z10]), (2, .one (.pt 0 0 0 0)), (3, vi x5), (4, .one (.pt 1 0 0 0))] [0] [.box [cb z9, cl eI z10], .box (qa1267 z11 z12)] [] (by kernel_rfl) (by kernel_rfl) trivial ?_)
   exact zgv 1 [] [(3, vi x5), (64, .ag (qa1267 z11 z12)), (63, vi x5), (62, .ag [cb z9, cl eI z10]), (2, .one (.pt 0 0 0 0)), (3, vi x5), (4, .one (.pt 1 0 0 0))] (GY.done (by kernel_rfl) (by kernel_rfl))
  refine zg [2, 4, 7] 2 [2,3,4,5] (zd (hK27 _ _ (ze ?_)))
  obtain rfl := Option.some.inj h
  exact zf [.ag [cb z9, cl eI z10], vi x5, .ag (qa1267 z11 z12), vi (0 : Int)] (.tpc (.ag (.cons (.rfl _ rfl) (.cons (.rfl _ rfl) .nil))) (.tpc (.one (.rfl _ rfl)) (.tpc (.ag (.cons (.rfl _ rfl) (.cons (.rfl _ rfl) (.cons (.nl) .nil)))) (.tpc (.one (.rfl _ rfl)) (.tp0)))))
 refine zq fun K3 hK3 => zr (zv [2, 4, 7] 2 [0,2,3,4,9] [] [(0, vl eValue p1), (2, .one (.pt 0 0 0 0)), (3, vi (0 : Int)), (4, .one (.pt 1 0 0 0)), (9, vi ((eValue.els p1).length : Int))] [.box [cb false, .pv (.s (.slice none 0 0))], .box [ci (0 : Int), ci (0 : Int), .pv (.s (.slice none 0 0))]] ?_)
 rw [eValue.len p1]
 refine zv [2, 4, 7] 1 [0,2,3,4,9,10] [] [(0, vl eValue p1), (2, .one (.pt 0 0 0 0)), (3, vi (0 : Int)), (4, .one (.pt 1 0 0 0)), (9, vi (p1.length : Int)), (10, vi (0 : Int))] [.box [cb false, .pv (.s (.slice none 0 0))], .box [ci (0 : Int), ci (0 : Int), .pv (.s (.slice none 0 0))]] (zd (hK3 _ _ (zb 0 (XW.sub (Sub.softb 0 1 [cb false, .pv (.s (.slice none 0 0))] rfl rfl [.box [cb false, cl eI []], .box [ci (0 : Int), ci (0 : Int), .pv (.s (.slice none 0 0))]] rfl) (XW.rounds' BIG (x := cd Tryd.f29 [1,0,1,0,0]) (by kernel_rfl) fun Q1 hQ1 => ?_)))))
 have hL1 : ∀ (k1 : Nat) (z1 : Bool) (z2 : List Int) (z3 : Int) (z4 : Int) (x1 : Int) (x2 : Int), ref1_added_l1 p1 k1 z1 z2 z3 z4 x1 x2 = some r → XR Tryd.prog 65 0 [] (cd Tryd.f29 [1,0,1,0,0]) Q1 k1 (qa1268 p1 x1 x2) [.box [cb z1, cl eI z2], .box (qa1270 z3 z4)] := by
  intro k1
  induction k1 with
  | zero => intro z1 z2 z3 z4 x1 x2 h; rw [ref1_added_l1.eq_1] at h; cases h
  | succ k1 ih1 =>
   intro z1 z2 z3 z4 x1 x2 h
   rw [ref1_added_l1.eq_2] at h
   refine zq fun K4 hK4 => zr (zg [2, 4, 7] 1 [0,2,3,4,9,10,11] (zd (hK4 _ _ (zq fun K5 hK5 => zC h (fun b6 h => ?_) (fun b6 h => ?_)))))
   ·refine zs (hK5 _ _ (zq fun K7 hK7 => ?_))
    have hJ2 : ∀ (z5 : Bool) (z6 : List Int) (z7 : Int) (z8 : Int) (x4 : Int), ref1_added_j2 (ref1_added_l1 p1 k1) x2 z5 z6 z7 z8 x4 = some r → ∀ fr1 st1, Sub 65 0 [] fr1 st1 [(0, vl eValue p1), (2, .one (.pt 0 0 0 0)), (3, vi x4), (4, .one (.pt 1 0 0 0)), (9, vi (p1.length : Int)), (10, vi x2)] [.box [cb z5, cl eI z6], .box [ci z7, ci z8, .pv (.s (.slice none 0 0))]] → K7 fr1 st1 := by
     intro z5 z6 z7 z8 x4 h fr1 st1 hS
     unfold ref1_added_j2 at h
     refine hK7 _ _ (XW.sub hS ?_)
     exact zr (zg [2, 4, 7] 2 [0,2,3,4,9,10] (zd (XR.sub (zk [0,2,3,4,9,10]) (ih1 z5 z6 z7 z8 x4 (IntKind.i64.wrap (x2 + (1 : Int))) h))))
    refine zb 1 (zq fun K8 hK8 => zr (zg [2, 4, 7] 2 [0,2,3,4,6,9,10] (zd (hK8 _ _ (zq fun K9 hK9 => ?_)))))
    obtain ⟨e1, a10, h⟩ := zB h
    refine zr ?_
    refine zp [2, 4, 7] 6 [0,2,3,4,7,9,10] [[pi e1.kind, pi e1.n, pi e1.scale, .s (.string e1.s), .ro (eValue.els e1.items)]] (qa1275 p1 x1 x2) (qa1294 z1 z2 z3 z4 e1) [0 ≤ x2 ∧ x2 < ((eValue.els p1).length : Int) ∧ elemsOk 5 (eValue.els p1), (eValue.els p1)[x2.toNat]? = some [pi e1.kind, pi e1.n, pi e1.scale, .s (.string e1.s), .ro (eValue.els e1.items)]] (⟨eValue.inb a10, ((eValue.get a10).trans (by cases e1; rfl)), trivial⟩) ?_
    refine zd (hK9 _ _ (zq fun K11 hK11 => zq fun K12 hK12 => zr (zg [2, 4, 7] 3 [0,2,3,4,7,9,10,19] (zd (hK12 _ _ ?_)))))
    refine zC h (fun b13 h => ?_) (fun b13 h => ?_)
    ·exact zx 1 (hJ2 z1 z2 z3 z4 x1 h _ _ (Sub.trans (Sub.pick (fr' := (qa1268 p1 x1 x2)) [0,2,3,4,9,10] (by kernel_rfl)) (Sub.take (fr' := (qa1268 p1 x1 x2)) 2 (Nat.zero_le _) (by kernel_rfl) (by kernel_rfl))))
    ·refine zs (hK11 _ _ (zq fun K14 hK14 => zq fun K15 hK15 => ?_))
     have hJ1 : ∀ (x3 : Bool), ref1_added_j1 (ref1_added_l1 p1 k1) z1 z2 x1 x2 e1 x3 = some r → ∀ fr1 st1, Sub 65 0 [] fr1 st1 [(0, vl eValue p1), (2, .one (.pt 0 0 0 0)), (3, vi x1), (4, .one (.pt 1 0 0 0)), (7, .one (.pt 2 0 0 0)), (9, vi (p1.length : Int)), (10, vi x2), (46, vb x3)] (qa1294 z1 z2 z3 z4 e1) → K15 fr1 st1 := by
      intro x3 h fr1 st1 hS
      unfold ref1_added_j1 at h
      refine hK15 _ _ (XW.sub hS ?_)
      refine zC h (fun b22 h => ?_) (fun b22 h => ?_)
      ·refine zq fun K23 hK23 => zr (zg [2, 4, 7] 6 [2,3,4,5] (zd (hK23 _ _ (ze (hQ1 _ _ _ ?_)))))
       obtain rfl := Option.some.inj h
       exact zf [.ag [cb false, .pv (.s (.slice none 0 0))], vi (0 : Int), .ag [ci (0 : Int), ci (0 : Int), .pv (.s (.slice none 0 0))], vi (2 : Int)] (.tpc (.ag (.cons (.rfl _ rfl) (.cons (.nl) .nil))) (.tpc (.one (.rfl _ rfl)) (.tpc (.ag (.cons (.rfl _ rfl) (.cons (.rfl _ rfl) (.cons (.nl) .nil)))) (.tpc (.one (.rfl _ rfl)) (.tp0)))))
      ·refine zs (hK14 _ _ (zq fun K24 hK24 => zr (zv [2, 4, 7] 6 [0,2,3,4,7,9,10] [] (qa1275 p1 x1 x2) [.box [cb z1, cl eI z2], .box (qa1278 e1), .box (qa1276 e1)] (zd (hK24 _ _ ?_)))))
       obtain ⟨r3, c25, h⟩ := zB h
       obtain ⟨r4, c26, h⟩ := zB h
       refine XW.drwG 8 [3] [([0], []), ([2], []), ([2], []), ([], []), ([], []), ([], []), ([], []), ([0], [0])] (qa1296 p1 z1 z2 x1 x2 e1 r3 r4) [.box (qa1279 r4), .box (qa1278 e1), .box (qa1276 e1)] (by kernel_rfl) (by kernel_rfl) ?_ ?_
       ·refine zgv 3 [] [(56, vi e1.n), (55, .one (.pt 2 0 0 1)), (54, .ag [cb z1, cl eI z2]), (0, vl eValue p1), (2, .one (.pt 0 0 0 0)), (3, vi x1), (4, .one (.pt 1 0 0 0)), (7, .one (.pt 2 0 0 0)), (9, vi (p1.length : Int)), (10, vi x2)] ?_
        refine GY.cal 36 [vi e1.n] (.ag (qa1280 r3)) [(57, .ag (qa1280 r3)), (56, vi e1.n), (55, .one (.pt 2 0 0 1)), (54, .ag [cb z1, cl eI z2]), (0, vl eValue p1), (2, .one (.pt 0 0 0 0)), (3, vi x1), (4, .one (.pt 1 0 0 0)), (7, .one (.pt 2 0 0 0)), (9, vi (p1.length : Int)), (10, vi x2)] [] (by kernel_rfl) (by kernel_rfl) (c_ref1_wideOf _ _ c25) rfl rfl (by kernel_rfl) (by kernel_rfl) (by kernel_rfl) ?_
        refine GY.cal 53 [.ag [cb z1, cl eI z2], .ag (qa1280 r3)] (.ag (qa1279 r4)) [(58, .ag (qa1279 r4)), (57, .ag (qa1280 r3)), (56, vi e1.n), (55, .one (.pt 2 0 0 1)), (54, .ag [cb z1, cl eI z2]), (0, vl eValue p1), (2, .one (.pt 0 0 0 0)), (3, vi x1), (4, .one (.pt 1 0 0 0)), (7, .one (.pt 2 0 0 0)), (9, vi (p1.length : Int)), (10, vi x2)] [] (by kernel_rfl) (by kernel_rfl) (c_ref1_addWide _ _ _ c26) rfl rfl (by kernel_rfl) (by kernel_rfl) (by kernel_rfl) ?_
        refine zgv 2 [] (qa1296 p1 z1 z2 x1 x2 e1 r3 r4) ?_
        refine GY.wr [] (qa1296 p1 z1 z2 x1 x2 e1 r3 r4) [0] [.box (qa1279 r4), .box (qa1278 e1), .box (qa1276 e1)] [] (by kernel_rfl) (by kernel_rfl) trivial ?_
        exact GY.done (by kernel_rfl) (by kernel_rfl)
       exact zg [2, 4, 7] 1 [0,2,3,4,9,10] (zd (hJ2 r4.below r4.d e1.kind e1.scale (IntKind.i64.wrap (x1 + (1 : Int))) h _ _ (Sub.trans (Sub.pick (fr' := (qa1281 p1 x1 x2)) [0,2,3,4,9,10] (by kernel_rfl)) (Sub.take (fr' := (qa1281 p1 x1 x2)) 2 (Nat.zero_le _) (by kernel_rfl) (by kernel_rfl)))))
     obtain ⟨r1, c16, h⟩ := zB h
     rcases zW h with ⟨b17, h⟩ | ⟨b17, h⟩
     ·exact zr (zg [2, 4, 7] 2 [0,2,3,4,7,9,10,21] (zl 52 [vi e1.kind] (vb r1) [(22, vb r1), (0, vl eValue p1), (2, .one (.pt 0 0 0 0)), (3, vi x1), (4, .one (.pt 1 0 0 0)), (7, .one (.pt 2 0 0 0)), (9, vi (p1.length : Int)), (10, vi x2), (21, vi e1.kind)] (c_ref1_isNumber _ _ c16) (zg [2, 4, 7] 2 [0,2,3,4,7,9,10,24] (zt 24 b17 (zg [2, 4, 7] 22 [0,2,3,4,7,9,10,46] (zd (hJ1 true h _ _ (zk [0,2,3,4,7,9,10,46]))))))))
     ·obtain ⟨r2, c18, h⟩ := zB h
      rcases zW h with ⟨b19, h⟩ | ⟨b19, h⟩
      ·refine zr (zv [2, 4, 7] 2 [0,2,3,4,7,9,10,21] [] [(0, vl eValue p1), (2, .one (.pt 0 0 0 0)), (3, vi x1), (4, .one (.pt 1 0 0 0)), (7, .one (.pt 2 0 0 0)), (9, vi (p1.length : Int)), (10, vi x2), (21, vi e1.kind)] (qa1294 z1 z2 z3 z4 e1) (za (c_ref1_isNumber _ _ c16) (zg [2, 4, 7] 2 [0,2,3,4,7,9,10,24] (zt 24 b17 ?_))))
       refine zv [2, 4, 7] 1 [0,2,3,4,7,9,10,24,25] [] [(0, vl eValue p1), (2, .one (.pt 0 0 0 0)), (3, vi x1), (4, .one (.pt 1 0 0 0)), (7, .one (.pt 2 0 0 0)), (9, vi (p1.length : Int)), (10, vi x2), (24, vb false), (25, .ag (qa1276 e1))] (qa1294 z1 z2 z3 z4 e1) (za (c_ref1_Sound _ _ c18) (zg [2, 4, 7] 3 [0,2,3,4,7,9,10,29] (zt 29 b19 ?_)))
       exact zv [2, 4, 7] 17 [0,2,3,4,7,9,10,46] [] (qa1284 p1 x1 x2) (qa1294 z1 z2 z3 z4 e1) (zd (hJ1 true h _ _ (zk [0,2,3,4,7,9,10,46])))
      ·rcases zW h with ⟨b20, h⟩ | ⟨b20, h⟩
       ·rcases zW h with ⟨b21, h⟩ | ⟨b21, h⟩
        ·refine zr (zg [2, 4, 7] 2 [0,2,3,4,7,9,10,21] (za (c_ref1_isNumber _ _ c16) (zv [2, 4, 7] 2 [0,2,3,4,7,9,10,24] [] (qa1285 p1 x1 x2 r1) (qa1294 z1 z2 z3 z4 e1) (zt 24 b17 (zg [2, 4, 7] 1 [0,2,3,4,7,9,10,24,25] (za (c_ref1_Sound _ _ c18) ?_))))))
         refine zv [2, 4, 7] 3 [0,2,3,4,7,9,10,29] [] (qa1286 p1 x1 x2 r2) (qa1294 z1 z2 z3 z4 e1) (zt 29 b19 (zg [2, 4, 7] 3 [0,2,3,4,7,9,10,29,32] (zt 32 b20 (zg [2, 4, 7] 6 [0,2,3,4,7,9,10,29,32,38] (zt 38 b21 ?_)))))
         exact zv [2, 4, 7] 8 [0,2,3,4,7,9,10,46] [] (qa1284 p1 x1 x2) (qa1294 z1 z2 z3 z4 e1) (zd (hJ1 true h _ _ (zk [0,2,3,4,7,9,10,46])))
        ·refine zr (zg [2, 4, 7] 2 [0,2,3,4,7,9,10,21] (za (c_ref1_isNumber _ _ c16) (zv [2, 4, 7] 2 [0,2,3,4,7,9,10,24] [] (qa1285 p1 x1 x2 r1) (qa1294 z1 z2 z3 z4 e1) (zt 24 b17 (zg [2, 4, 7] 1 [0,2,3,4,7,9,10,24,25] (za (c_ref1_Sound _ _ c18) ?_))))))
         refine zv [2, 4, 7] 3 [0,2,3,4,7,9,10,29] [] (qa1286 p1 x1 x2 r2) (qa1294 z1 z2 z3 z4 e1) (zt 29 b19 (zg [2, 4, 7] 3 [0,2,3,4,7,9,10,29,32] (zt 32 b20 (zg [2, 4, 7] 6 [0,2,3,4,7,9,10,29,32,38] (zt 38 b21 ?_)))))
         exact zv [2, 4, 7] 8 [0,2,3,4,7,9,10,46] [] [(0, vl eValue p1), (2, .one (.pt 0 0 0 0)), (3, vi x1), (4, .one (.pt 1 0 0 0)), (7, .one (.pt 2 0 0 0)), (9, vi (p1.length : Int)), (10, vi x2), (46, vb (e1.scale != z4))] (qa1294 z1 z2 z3 z4 e1) (zd (hJ1 (e1.scale != z4) h _ _ (zk [0,2,3,4,7,9,10,46])))
       ·refine zr (zg [2, 4, 7] 2 [0,2,3,4,7,9,10,21] (za (c_ref1_isNumber _ _ c16) (zv [2, 4, 7] 2 [0,2,3,4,7,9,10,24] [] (qa1285 p1 x1 x2 r1) (qa1294 z1 z2 z3 z4 e1) (zt 24 b17 (zg [2, 4, 7] 1 [0,2,3,4,7,9,10,24,25] (za (c_ref1_Sound _ _ c18) ?_))))))
        exact zv [2, 4, 7] 3 [0,2,3,4,7,9,10,29] [] (qa1286 p1 x1 x2 r2) (qa1294 z1 z2 z3 z4 e1) (zt 29 b19 (zg [2, 4, 7] 3 [0,2,3,4,7,9,10,29,32] (zt 32 b20 (zg [2, 4, 7] 14 [0,2,3,4,7,9,10,46] (zd (hJ1 false h _ _ (zk [0,2,3,4,7,9,10,46])))))))
   ·exact zx 0 (hQ1 _ _ _ (hJ3 z1 z2 z3 z4 x1 h _ _ (zk [2,3,4])))
 exact XR.sub (zk [0,2,3,4,9,10]) (hL1 BIG false [] (0 : Int) (0 : Int) (0 : Int) (0 : Int) h)

def ref1_small_j2 (x4 : Int) : Option (Int × Bool) :=
    some (x4, true)

def ref1_small_j1 (p1 : RWide) (x3 : Int) : Option (Int × Bool) :=
    ift p1.below
      (ref1_small_j2 (IntKind.i64.wrap (0 - x3)))
      (ref1_small_j2 x3)

def ref1_small_l1 (p1 : RWide) : Nat → Int → Int → Option (Int × Bool)
  | 0, _, _ => none
  | k1 + 1, x1, x2 =>
    ift (decide ((0 : Int) ≤ x2))
      (bnd (at? p1.d x2) fun e1 =>
       (ref1_small_l1 p1 k1) (IntKind.i64.wrap ((IntKind.i64.wrap ((10 : Int) * x1)) + e1)) (IntKind.i64.wrap (x2 - (1 : Int))))
      (ref1_small_j1 p1 x1)

def ref1_small (p1 : RWide) : Option (Int × Bool) :=
    ift (decide ((18 : Int) < (p1.d.length : Int)))
      (some ((0 : Int), false))
      (ref1_small_l1 p1 BIG (0 : Int) (IntKind.i64.wrap ((p1.d.length : Int) - (1 : Int))))

abbrev qa1303 (p1 : RWide) : List PV := [.s (.bool p1.below), .ro (eI.els p1.d)]

theorem c_ref1_small (p1 : RWide) (r : (Int × Bool)) (h : ref1_small p1 = some r) : PC Tryd.prog 54 [.ag [cb p1.below, cl eI p1.d]] (.tp [vi r.1, vb r.2]) := by
 unfold ref1_small at h
 refine zF 31 Tryd.f54 (zq fun K1 hK1 => zr (zg [] 3 [1] (zd (hK1 _ _ (zq fun K2 hK2 => zq fun K3 hK3 => ?_)))))
 refine zr (zv [] 3 [1,8] [[.s (.bool p1.below), .ro (eI.els p1.d)]] [(1, .one (.pv (.rp [[.s (.bool p1.below), .ro (eI.els p1.d)]] 0 0))), (8, vi ((eI.els p1.d).length : Int))] [] ?_)
 rw [eI.len p1.d]
 refine zg [] 1 [1,9] (zd (hK3 _ _ (zC h (fun b4 h => ?_) (fun b4 h => ?_))))
 ·refine zq fun K5 hK5 => zr (zg [] 2 [2,3] (zd (hK5 _ _ (ze ?_))))
  obtain rfl := Option.some.inj h
  exact zf [vi (0 : Int), vb false] (.tpc (.one (.rfl _ rfl)) (.tpc (.one (.rfl _ rfl)) (.tp0)))
 ·refine zs (hK2 _ _ (zq fun K6 hK6 => zr (zv [] 1 [1,4] [] [(1, .one (.pv (.rp [(qa1303 p1)] 0 0))), (4, vi (0 : Int))] [] (zd (hK6 _ _ (zq fun K7 hK7 => ?_))))))
  have hJ1 : ∀ (x3 : Int), ref1_small_j1 p1 x3 = some r → ∀ fr1 st1, Sub 31 0 [] fr1 st1 [(1, .one (.pv (.rp [(qa1303 p1)] 0 0))), (4, vi x3)] [] → K7 fr1 st1 := by
   intro x3 h fr1 st1 hS
   unfold ref1_small_j1 at h
   refine hK7 _ _ (XW.sub hS ?_)
   refine zq fun K14 hK14 => ?_
   have hJ2 : ∀ (x4 : Int), ref1_small_j2 x4 = some r → ∀ fr1 st1, Sub 31 0 [] fr1 st1 [(4, vi x4)] [] → K14 fr1 st1 := by
    intro x4 h fr1 st1 hS
    unfold ref1_small_j2 at h
    refine hK14 _ _ (XW.sub hS ?_)
    refine zq fun K17 hK17 => zr (zg [] 3 [2,3] (zd (hK17 _ _ (ze ?_))))
    obtain rfl := Option.some.inj h
    exact zf [vi x4, vb true] (.tpc (.one (.rfl _ rfl)) (.tpc (.one (.rfl _ rfl)) (.tp0)))
   refine zq fun K15 hK15 => zr (zu [] 2 [4,27] [(qa1303 p1)] (zd (hK15 _ _ (zC h (fun b16 h => ?_) (fun b16 h => ?_)))))
   ·exact zr (zg [] 3 [4] (zd (hJ2 (IntKind.i64.wrap (0 - x3)) h _ _ (zk [4]))))
   ·exact zs (hJ2 x3 h _ _ (zk [4]))
  refine zq fun K8 hK8 => zr (zv [] 3 [1,4,12] [[.s (.bool p1.below), .ro (eI.els p1.d)]] [(1, .one (.pv (.rp [[.s (.bool p1.below), .ro (eI.els p1.d)]] 0 0))), (4, vi (0 : Int)), (12, vi ((eI.els p1.d).length : Int))] [] ?_)
  rw [eI.len p1.d]
  refine zg [] 2 [1,4,5] (zd (hK8 _ _ (zb 0 (XW.rounds' BIG (x := cd Tryd.f54 [1,1,1,0,1,0,0]) (by kernel_rfl) fun Q1 hQ1 => ?_))))
  have hL1 : ∀ (k1 : Nat) (x1 : Int) (x2 : Int), ref1_small_l1 p1 k1 x1 x2 = some r → XR Tryd.prog 31 0 [] (cd Tryd.f54 [1,1,1,0,1,0,0]) Q1 k1 [(1, .one (.pv (.rp [(qa1303 p1)] 0 0))), (4, vi x1), (5, vi x2)] [] := by
   intro k1
   induction k1 with
   | zero => intro x1 x2 h; rw [ref1_small_l1.eq_1] at h; cases h
   | succ k1 ih1 =>
    intro x1 x2 h
    rw [ref1_small_l1.eq_2] at h
    refine zq fun K9 hK9 => zq fun K10 hK10 => zr (zg [] 2 [1,4,5,15] (zd (hK10 _ _ (zC h (fun b11 h => ?_) (fun b11 h => ?_)))))
    ·refine zs (hK9 _ _ (zq fun K12 hK12 => zb 1 ?_))
     obtain ⟨e1, a13, h⟩ := zB h
     refine zr (zo [] 9 [1,4,5] [(qa1303 p1), [pi e1]] [([(qa1303 p1)] : List (List PV))[0]? = some (qa1303 p1), 0 ≤ x2 ∧ x2 < ((eI.els p1.d).length : Int) ∧ elemsOk 1 (eI.els p1.d), (eI.els p1.d)[x2.toNat]? = some [pi e1]] (⟨rfl, eI.inb a13, (eI.get a13), trivial⟩) (zd (hK12 _ _ (zr (zv [] 3 [1,4,5] [] [(1, .one (.pv (.rp [(qa1303 p1)] 0 0))), (4, vi (IntKind.i64.wrap ((IntKind.i64.wrap ((10 : Int) * x1)) + e1))), (5, vi (IntKind.i64.wrap (x2 - (1 : Int))))] [] (zd ?_))))))
     exact XR.sub (zk [1,4,5]) (ih1 (IntKind.i64.wrap ((IntKind.i64.wrap ((10 : Int) * x1)) + e1)) (IntKind.i64.wrap (x2 - (1 : Int))) h)
    ·exact zx 0 (hQ1 _ _ _ (hJ1 x1 h _ _ (zk [1,4])))
  exact XR.sub (zk [1,4,5]) (hL1 BIG (0 : Int) (IntKind.i64.wrap ((p1.d.length : Int) - (1 : Int))) h)

def ref1_number (p1 : Int) (p2 : RWide) (p3 : Int) : Option GValue :=
    bnd (ref1_small p2) fun r1 =>
    ift (!r1.2)
      (some (GValue.mk (0 : Int) (0 : Int) (0 : Int) ByteArray.empty []))
      (bnd (ref1_Sound (GValue.mk p1 r1.1 p3 ByteArray.empty [])) fun r2 =>
       ift (!r2)
         (some (GValue.mk (0 : Int) (0 : Int) (0 : Int) ByteArray.empty []))
         (some (GValue.mk p1 r1.1 p3 ByteArray.empty [])))

abbrev qa1314 : List CV := [ci (0 : Int), ci (0 : Int), ci (0 : Int), cst ByteArray.empty, .pv (.s (.slice none 0 0))]
abbrev qa1315 (p1 : Int) (p3 : Int) (r1 : (Int × Bool)) : List CV := [ci p1, ci r1.1, ci p3, cst ByteArray.empty, .pv (.s (.slice none 0 0))]

theorem c_ref1_number (p1 : Int) (p2 : RWide) (p3 : Int) (r : GValue) (h : ref1_number p1 p2 p3 = some r) : PC Tryd.prog 30 [vi p1, .ag [cb p2.below, cl eI p2.d], vi p3] (.ag [ci r.kind, ci r.n, ci r.scale, cst r.s, cl eValue r.items]) := by
 unfold ref1_number at h
 refine zF 27 Tryd.f30 (zq fun K1 hK1 => zr (zg [6, 9] 2 [0,2,4,6] (zd (hK1 _ _ (zq fun K2 hK2 => ?_)))))
 obtain ⟨r1, c3, h⟩ := zB h
 refine zr (zu [6, 9] 1 [0,2,6,11] [[.s (.bool p2.below), .ro (eI.els p2.d)]] (zl 54 [.ag [cb p2.below, cl eI p2.d]] (.tp [vi r1.1, vb r1.2]) [(12, .tp [vi r1.1, vb r1.2]), (0, vi p1), (2, vi p3), (6, .one (.pt 0 0 0 0)), (11, .ag [cb p2.below, cl eI p2.d])] (c_ref1_small _ _ c3) (zg [6, 9] 5 [0,2,6,7,8] (zd (hK2 _ _ (zq fun K4 hK4 => zq fun K5 hK5 => ?_))))))
 refine zr (zg [6, 9] 2 [0,2,6,7,16] (zd (hK5 _ _ (zC h (fun b6 h => ?_) (fun b6 h => ?_)))))
 ·refine zq fun K7 hK7 => zr (zv [6, 9] 2 [6] [] [(6, .one (.pt 0 0 0 0))] [.box qa1314] (zd (hK7 _ _ (ze ?_))))
  obtain rfl := Option.some.inj h
  exact zf [.ag qa1314] (.ag (.cons (.rfl _ rfl) (.cons (.rfl _ rfl) (.cons (.rfl _ rfl) (.cons (.rfl _ rfl) (.cons (.nl) .nil))))))
 ·refine zs (hK4 _ _ (zq fun K8 hK8 => zr (zg [6, 9] 6 [6,9] (zd (hK8 _ _ (zq fun K9 hK9 => ?_))))))
  refine zq fun K10 hK10 => ?_
  obtain ⟨r2, c11, h⟩ := zB h
  refine zr (zg [6, 9] 1 [6,9,22] (zl 24 [.ag (qa1315 p1 p3 r1)] (vb r2) [(23, vb r2), (6, .one (.pt 0 0 0 0)), (9, .one (.pt 1 0 0 0)), (22, .ag (qa1315 p1 p3 r1))] (PC.le (c_ref1_Sound _ _ c11) ⟨ALe.agc ⟨.rfl _, .rfl _, .rfl _, .rfl _, .nl, trivial⟩, trivial⟩) ?_))
  refine zv [6, 9] 1 [6,9,24] [] [(6, .one (.pt 0 0 0 0)), (9, .one (.pt 1 0 0 0)), (24, vb (!r2))] [.box qa1314, .box (qa1315 p1 p3 r1)] (zd (hK10 _ _ (zC h (fun b12 h => ?_) (fun b12 h => ?_))))
  ·refine zq fun K13 hK13 => zr (zg [6, 9] 2 [6] (zd (hK13 _ _ (ze ?_))))
   obtain rfl := Option.some.inj h
   exact zf [.ag qa1314] (.ag (.cons (.rfl _ rfl) (.cons (.rfl _ rfl) (.cons (.rfl _ rfl) (.cons (.rfl _ rfl) (.cons (.nl) .nil))))))
  ·refine zs (hK9 _ _ (zq fun K14 hK14 => zr (zg [6, 9] 2 [6] (zd (hK14 _ _ (ze ?_))))))
   obtain rfl := Option.some.inj h
   exact zf [.ag (qa1315 p1 p3 r1)] (.ag (.cons (.rfl _ rfl) (.cons (.rfl _ rfl) (.cons (.rfl _ rfl) (.cons (.rfl _ rfl) (.cons (.nl) .nil))))))

def ref1_Sum_j1 (r1 : (RWide × Int × GType × Int)) (x1 : Bool) : Option (GValue × Int) :=
    ift x1
      (some ((GValue.mk (0 : Int) (0 : Int) (0 : Int) ByteArray.empty []), r1.2.2.2))
      (bnd (ref1_number r1.2.2.1.kind r1.1 r1.2.2.1.scale) fun r2 =>
       some (r2, (0 : Int)))

def ref1_Sum (p1 : (List GValue)) : Option (GValue × Int) :=
    bnd (ref1_added p1) fun r1 =>
    ift (r1.2.2.2 != (0 : Int))
      (ref1_Sum_j1 r1 true)
      (ref1_Sum_j1 r1 (r1.2.1 == (0 : Int)))

abbrev qa1323 (r1 : (RWide × Int × GType × Int)) : List CV := [ci r1.2.2.1.kind, ci r1.2.2.1.scale, cl eField r1.2.2.1.fields]
abbrev qa1325 : List CV := [ci (0 : Int), ci (0 : Int), ci (0 : Int), cst ByteArray.empty, .pv (.s (.slice none 0 0))]
abbrev qa1326 (r2 : GValue) : List CV := [ci r2.kind, ci r2.n, ci r2.scale, cst r2.s, cl eValue r2.items]

theorem c_ref1_Sum (p1 : (List GValue)) (r : (GValue × Int)) (h : ref1_Sum p1 = some r) : PC Tryd.prog 11 [vl eValue p1] (.tp [.ag [ci r.1.kind, ci r.1.n, ci r.1.scale, cst r.1.s, cl eValue r.1.items], vi r.2]) := by
 unfold ref1_Sum at h
 refine zF 29 Tryd.f11 (zq fun K1 hK1 => zr (zg [2, 4, 6] 2 [0,2] (zd (hK1 _ _ (zq fun K2 hK2 => ?_)))))
 obtain ⟨r1, c3, h⟩ := zB h
 refine zr (zg [2, 4, 6] 1 [2,9] (zl 29 [vl eValue p1] (.tp [.ag [cb r1.1.below, cl eI r1.1.d], vi r1.2.1, .ag (qa1323 r1), vi r1.2.2.2]) [(10, .tp [.ag [cb r1.1.below, cl eI r1.1.d], vi r1.2.1, .ag (qa1323 r1), vi r1.2.2.2]), (2, .one (.pt 0 0 0 0)), (9, vl eValue p1)] (c_ref1_added _ _ c3) (zg [2, 4, 6] 11 [2,4,5,6,7] (zd (hK2 _ _ (zq fun K4 hK4 => zq fun K5 hK5 => ?_))))))
 have hJ1 : ∀ (x1 : Bool), ref1_Sum_j1 r1 x1 = some r → ∀ fr1 st1, Sub 29 0 [] fr1 st1 [(2, .one (.pt 0 0 0 0)), (4, .one (.pt 1 0 0 0)), (6, .one (.pt 2 0 0 0)), (7, vi r1.2.2.2), (20, vb x1)] [.box qa1325, .box [cb r1.1.below, cl eI r1.1.d], .box (qa1323 r1)] → K5 fr1 st1 := by
  intro x1 h fr1 st1 hS
  unfold ref1_Sum_j1 at h
  refine hK5 _ _ (XW.sub hS ?_)
  refine zC h (fun b7 h => ?_) (fun b7 h => ?_)
  ·refine zq fun K8 hK8 => zr (zg [2, 4, 6] 4 [2,3] (zd (hK8 _ _ (ze ?_))))
   obtain rfl := Option.some.inj h
   exact zf [.ag qa1325, vi r1.2.2.2] (.tpc (.ag (.cons (.rfl _ rfl) (.cons (.rfl _ rfl) (.cons (.rfl _ rfl) (.cons (.rfl _ rfl) (.cons (.nl) .nil)))))) (.tpc (.one (.rfl _ rfl)) (.tp0)))
  ·refine zs (hK4 _ _ (zq fun K9 hK9 => ?_))
   obtain ⟨r2, c10, h⟩ := zB h
   refine zr (zg [2, 4, 6] 5 [2,24,25,27] (zl 30 [vi r1.2.2.1.kind, .ag [cb r1.1.below, cl eI r1.1.d], vi r1.2.2.1.scale] (.ag (qa1326 r2)) [(28, .ag (qa1326 r2)), (2, .one (.pt 0 0 0 0)), (24, vi r1.2.2.1.kind), (25, .ag [cb r1.1.below, cl eI r1.1.d]), (27, vi r1.2.2.1.scale)] (c_ref1_number _ _ _ _ c10) (zg [2, 4, 6] 2 [2,3] (zd (hK9 _ _ (ze ?_))))))
   obtain rfl := Option.some.inj h
   exact zf [.ag (qa1326 r2), vi (0 : Int)] (.tpc (.ag (.cons (.rfl _ rfl) (.cons (.rfl _ rfl) (.cons (.rfl _ rfl) (.cons (.rfl _ rfl) (.cons (.rfl _ rfl) .nil)))))) (.tpc (.one (.rfl _ rfl)) (.tp0)))
 rcases zW h with ⟨b6, h⟩ | ⟨b6, h⟩
 ·exact zr (zg [2, 4, 6] 3 [2,4,5,6,7,17] (zt 17 b6 (zv [2, 4, 6] 3 [2,4,6,7,20] [] [(2, .one (.pt 0 0 0 0)), (4, .one (.pt 1 0 0 0)), (6, .one (.pt 2 0 0 0)), (7, vi r1.2.2.2), (20, vb true)] [.box qa1325, .box [cb r1.1.below, cl eI r1.1.d], .box (qa1323 r1)] (zd (hJ1 true h _ _ (zk [2,4,6,7,20]))))))
 ·exact zr (zg [2, 4, 6] 3 [2,4,5,6,7,17] (zt 17 b6 (zg [2, 4, 6] 3 [2,4,6,7,20] (zd (hJ1 (r1.2.1 == (0 : Int)) h _ _ (zk [2,4,6,7,20]))))))

def math_bits_Mul64 (p1 : Int) (p2 : Int) : Option (Int × Int) :=
    bnd (some (IntKind.u64.wrap (BitVec.ofInt (IntKind.u64).bits p1 &&& BitVec.ofInt (IntKind.u64).bits (4294967295 : Int)).toNat)) fun y1 =>
    bnd (some (IntKind.u64.wrap (BitVec.ofInt (IntKind.u64).bits p2 &&& BitVec.ofInt (IntKind.u64).bits (4294967295 : Int)).toNat)) fun y2 =>
    bnd (some (IntKind.u64.wrap ((p1.fdiv (2 ^ (min (32 : Int).toNat (IntKind.u64).bits))) * y2))) fun y3 =>
    bnd (some ((IntKind.u64.wrap (y1 * y2)).fdiv (2 ^ (min (32 : Int).toNat (IntKind.u64).bits)))) fun y4 =>
    bnd (some (IntKind.u64.wrap (BitVec.ofInt (IntKind.u64).bits (IntKind.u64.wrap (y3 + y4)) &&& BitVec.ofInt (IntKind.u64).bits (4294967295 : Int)).toNat)) fun y5 =>
    bnd (some ((IntKind.u64.wrap (y3 + y4)).fdiv (2 ^ (min (32 : Int).toNat (IntKind.u64).bits)))) fun y6 =>
    bnd (some (IntKind.u64.wrap (y1 * (p2.fdiv (2 ^ (min (32 : Int).toNat (IntKind.u64).bits)))))) fun y7 =>
    bnd (some (IntKind.u64.wrap ((p1.fdiv (2 ^ (min (32 : Int).toNat (IntKind.u64).bits))) * (p2.fdiv (2 ^ (min (32 : Int).toNat (IntKind.u64).bits)))))) fun y8 =>
    bnd (some ((IntKind.u64.wrap (y5 + y7)).fdiv (2 ^ (min (32 : Int).toNat (IntKind.u64).bits)))) fun y9 =>
    some ((IntKind.u64.wrap ((IntKind.u64.wrap (y8 + y6)) + y9)), (IntKind.u64.wrap (p1 * p2)))


theorem c_math_bits_Mul64 (p1 : Int) (p2 : Int) (r : (Int × Int)) (h : math_bits_Mul64 p1 p2 = some r) : PC Tryd.prog 73 [vk .u64 p1, vk .u64 p2] (.tp [vk .u64 r.1, vk .u64 r.2]) := by
 unfold math_bits_Mul64 at h
 refine zF 51 Tryd.f73 (zq fun K1 hK1 => zr (zg [] 2 [0,1] (zd (hK1 _ _ (zq fun K2 hK2 => ?_)))))
 obtain ⟨y1, hy3, h⟩ := zB h
 refine zr (zv [] 2 [0,1,15] [] [(0, vk .u64 p1), (1, vk .u64 p2), (15, vk .u64 (IntKind.u64.wrap (BitVec.ofInt (IntKind.u64).bits p1 &&& BitVec.ofInt (IntKind.u64).bits (4294967295 : Int)).toNat))] [] ?_)
 rw [show (IntKind.u64.wrap (BitVec.ofInt (IntKind.u64).bits p1 &&& BitVec.ofInt (IntKind.u64).bits (4294967295 : Int)).toNat) = y1 from Option.some.inj hy3]
 refine zg [] 1 [0,1,6] (zd (hK2 _ _ (zq fun K4 hK4 => zr (zo [] 3 [0,1,6,7] [] [0 ≤ (32 : Int)] (⟨by decide, trivial⟩) (zd (hK4 _ _ ?_))))))
 refine zq fun K5 hK5 => ?_
 obtain ⟨y2, hy6, h⟩ := zB h
 refine zr (zv [] 2 [0,1,6,7,19] [] [(0, vk .u64 p1), (1, vk .u64 p2), (6, vk .u64 y1), (7, vk .u64 (p1.fdiv (2 ^ (min (32 : Int).toNat (IntKind.u64).bits)))), (19, vk .u64 (IntKind.u64.wrap (BitVec.ofInt (IntKind.u64).bits p2 &&& BitVec.ofInt (IntKind.u64).bits (4294967295 : Int)).toNat))] [] ?_)
 rw [show (IntKind.u64.wrap (BitVec.ofInt (IntKind.u64).bits p2 &&& BitVec.ofInt (IntKind.u64).bits (4294967295 : Int)).toNat) = y2 from Option.some.inj hy6]
 refine zg [] 1 [0,1,6,7,8] (zd (hK5 _ _ (zq fun K7 hK7 => zr (zo [] 3 [0,1,6,7,8,9] [] [0 ≤ (32 : Int)] (⟨by decide, trivial⟩) (zd (hK7 _ _ ?_))))))
 refine zq fun K8 hK8 => zr (zv [] 4 [0,1,6,7,8,9,10] [] [(0, vk .u64 p1), (1, vk .u64 p2), (6, vk .u64 y1), (7, vk .u64 (p1.fdiv (2 ^ (min (32 : Int).toNat (IntKind.u64).bits)))), (8, vk .u64 y2), (9, vk .u64 (p2.fdiv (2 ^ (min (32 : Int).toNat (IntKind.u64).bits)))), (10, vk .u64 (IntKind.u64.wrap (y1 * y2)))] [] (zd (hK8 _ _ (zq fun K9 hK9 => ?_))))
 obtain ⟨y3, hy10, h⟩ := zB h
 obtain ⟨y4, hy11, h⟩ := zB h
 refine zr (zv [] 3 [0,1,6,7,9,10,27] [] [(0, vk .u64 p1), (1, vk .u64 p2), (6, vk .u64 y1), (7, vk .u64 (p1.fdiv (2 ^ (min (32 : Int).toNat (IntKind.u64).bits)))), (9, vk .u64 (p2.fdiv (2 ^ (min (32 : Int).toNat (IntKind.u64).bits)))), (10, vk .u64 (IntKind.u64.wrap (y1 * y2))), (27, vk .u64 (IntKind.u64.wrap ((p1.fdiv (2 ^ (min (32 : Int).toNat (IntKind.u64).bits))) * y2)))] [] ?_)
 rw [show (IntKind.u64.wrap ((p1.fdiv (2 ^ (min (32 : Int).toNat (IntKind.u64).bits))) * y2)) = y3 from Option.some.inj hy10]
 refine zp [] 2 [0,1,6,7,9,27,29] [] [(0, vk .u64 p1), (1, vk .u64 p2), (6, vk .u64 y1), (7, vk .u64 (p1.fdiv (2 ^ (min (32 : Int).toNat (IntKind.u64).bits)))), (9, vk .u64 (p2.fdiv (2 ^ (min (32 : Int).toNat (IntKind.u64).bits)))), (27, vk .u64 y3), (29, vk .u64 ((IntKind.u64.wrap (y1 * y2)).fdiv (2 ^ (min (32 : Int).toNat (IntKind.u64).bits))))] [] [0 ≤ (32 : Int)] (⟨by decide, trivial⟩) ?_
 rw [show ((IntKind.u64.wrap (y1 * y2)).fdiv (2 ^ (min (32 : Int).toNat (IntKind.u64).bits))) = y4 from Option.some.inj hy11]
 refine zg [] 2 [0,1,6,7,9,11] (zd (hK9 _ _ (zq fun K12 hK12 => ?_)))
 obtain ⟨y5, hy13, h⟩ := zB h
 refine zr (zv [] 2 [0,1,6,7,9,11,32] [] [(0, vk .u64 p1), (1, vk .u64 p2), (6, vk .u64 y1), (7, vk .u64 (p1.fdiv (2 ^ (min (32 : Int).toNat (IntKind.u64).bits)))), (9, vk .u64 (p2.fdiv (2 ^ (min (32 : Int).toNat (IntKind.u64).bits)))), (11, vk .u64 (IntKind.u64.wrap (y3 + y4))), (32, vk .u64 (IntKind.u64.wrap (BitVec.ofInt (IntKind.u64).bits (IntKind.u64.wrap (y3 + y4)) &&& BitVec.ofInt (IntKind.u64).bits (4294967295 : Int)).toNat))] [] ?_)
 rw [show (IntKind.u64.wrap (BitVec.ofInt (IntKind.u64).bits (IntKind.u64.wrap (y3 + y4)) &&& BitVec.ofInt (IntKind.u64).bits (4294967295 : Int)).toNat) = y5 from Option.some.inj hy13]
 refine zg [] 1 [0,1,6,7,9,11,12] (zd (hK12 _ _ (zq fun K14 hK14 => ?_)))
 obtain ⟨y6, hy15, h⟩ := zB h
 refine zr (zp [] 2 [0,1,6,7,9,12,34] [] [(0, vk .u64 p1), (1, vk .u64 p2), (6, vk .u64 y1), (7, vk .u64 (p1.fdiv (2 ^ (min (32 : Int).toNat (IntKind.u64).bits)))), (9, vk .u64 (p2.fdiv (2 ^ (min (32 : Int).toNat (IntKind.u64).bits)))), (12, vk .u64 y5), (34, vk .u64 ((IntKind.u64.wrap (y3 + y4)).fdiv (2 ^ (min (32 : Int).toNat (IntKind.u64).bits))))] [] [0 ≤ (32 : Int)] (⟨by decide, trivial⟩) ?_)
 rw [show ((IntKind.u64.wrap (y3 + y4)).fdiv (2 ^ (min (32 : Int).toNat (IntKind.u64).bits))) = y6 from Option.some.inj hy15]
 refine zg [] 1 [0,1,6,7,9,12,13] (zd (hK14 _ _ (zq fun K16 hK16 => ?_)))
 obtain ⟨y7, hy17, h⟩ := zB h
 refine zr (zv [] 4 [0,1,7,9,13,35,38] [] [(0, vk .u64 p1), (1, vk .u64 p2), (7, vk .u64 (p1.fdiv (2 ^ (min (32 : Int).toNat (IntKind.u64).bits)))), (9, vk .u64 (p2.fdiv (2 ^ (min (32 : Int).toNat (IntKind.u64).bits)))), (13, vk .u64 y6), (35, vk .u64 y5), (38, vk .u64 (IntKind.u64.wrap (y1 * (p2.fdiv (2 ^ (min (32 : Int).toNat (IntKind.u64).bits))))))] [] ?_)
 rw [show (IntKind.u64.wrap (y1 * (p2.fdiv (2 ^ (min (32 : Int).toNat (IntKind.u64).bits))))) = y7 from Option.some.inj hy17]
 refine zg [] 2 [0,1,7,9,12,13] (zd (hK16 _ _ (zq fun K18 hK18 => ?_)))
 obtain ⟨y8, hy19, h⟩ := zB h
 obtain ⟨y9, hy20, h⟩ := zB h
 refine zr (zv [] 3 [0,1,12,13,42] [] [(0, vk .u64 p1), (1, vk .u64 p2), (12, vk .u64 (IntKind.u64.wrap (y5 + y7))), (13, vk .u64 y6), (42, vk .u64 (IntKind.u64.wrap ((p1.fdiv (2 ^ (min (32 : Int).toNat (IntKind.u64).bits))) * (p2.fdiv (2 ^ (min (32 : Int).toNat (IntKind.u64).bits))))))] [] ?_)
 rw [show (IntKind.u64.wrap ((p1.fdiv (2 ^ (min (32 : Int).toNat (IntKind.u64).bits))) * (p2.fdiv (2 ^ (min (32 : Int).toNat (IntKind.u64).bits))))) = y8 from Option.some.inj hy19]
 refine zp [] 4 [0,1,44,46] [] [(0, vk .u64 p1), (1, vk .u64 p2), (44, vk .u64 (IntKind.u64.wrap (y8 + y6))), (46, vk .u64 ((IntKind.u64.wrap (y5 + y7)).fdiv (2 ^ (min (32 : Int).toNat (IntKind.u64).bits))))] [] [0 ≤ (32 : Int)] (⟨by decide, trivial⟩) ?_
 rw [show ((IntKind.u64.wrap (y5 + y7)).fdiv (2 ^ (min (32 : Int).toNat (IntKind.u64).bits))) = y9 from Option.some.inj hy20]
 refine zg [] 2 [0,1,4] (zd (hK18 _ _ (zq fun K21 hK21 => zr (zg [] 4 [4,5] (zd (hK21 _ _ ?_))))))
 refine ze ?_
 obtain rfl := Option.some.inj h
 exact zf [vk .u64 (IntKind.u64.wrap ((IntKind.u64.wrap (y8 + y6)) + y9)), vk .u64 (IntKind.u64.wrap (p1 * p2))] (.tpc (.one (.rfl _ rfl)) (.tpc (.one (.rfl _ rfl)) (.tp0)))

def value_wide_times (p1 : GWide) (p2 : Int) : Option GWide :=
    bnd (math_bits_Mul64 p1.size.1 p2) fun r1 =>
    grd (0 ≤ r1.2 ∧ 0 ≤ (0 : Int) ∧ 0 ≤ (0 : Int) ∧ (0 : Int) ≤ 1) <|
    bnd (some (IntKind.u64.wrap (r1.1 + ((r1.2 + (0 : Int) + (0 : Int)) / 18446744073709551616)))) fun y1 =>
    bnd (math_bits_Mul64 p1.size.2.1 p2) fun r2 =>
    grd (0 ≤ r2.2 ∧ 0 ≤ y1 ∧ 0 ≤ (0 : Int) ∧ (0 : Int) ≤ 1) <|
    bnd (some (IntKind.u64.wrap (r2.1 + ((r2.2 + y1 + (0 : Int)) / 18446744073709551616)))) fun y2 =>
    bnd (math_bits_Mul64 p1.size.2.2.1 p2) fun r3 =>
    grd (0 ≤ r3.2 ∧ 0 ≤ y2 ∧ 0 ≤ (0 : Int) ∧ (0 : Int) ≤ 1) <|
    bnd (some (IntKind.u64.wrap (r3.1 + ((r3.2 + y2 + (0 : Int)) / 18446744073709551616)))) fun y3 =>
    bnd (math_bits_Mul64 p1.size.2.2.2 p2) fun r4 =>
    grd (0 ≤ r4.2 ∧ 0 ≤ y3 ∧ 0 ≤ (0 : Int) ∧ (0 : Int) ≤ 1) <|
    bnd (some (IntKind.u64.wrap (r4.1 + ((r4.2 + y3 + (0 : Int)) / 18446744073709551616)))) fun y4 =>
    some (GWide.mk p1.neg (((r1.2 + (0 : Int) + (0 : Int)) % 18446744073709551616), ((r2.2 + y1 + (0 : Int)) % 18446744073709551616), ((r3.2 + y2 + (0 : Int)) % 18446744073709551616), ((r4.2 + y3 + (0 : Int)) % 18446744073709551616)))

abbrev qa1332 (p1 : GWide) : List CV := [cb p1.neg, ck .u64 p1.size.1, ck .u64 p1.size.2.1, ck .u64 p1.size.2.2.1, ck .u64 p1.size.2.2.2]
abbrev qa1334 (p1 : GWide) : List CV := [ck .u64 p1.size.1, ck .u64 p1.size.2.1, ck .u64 p1.size.2.2.1, ck .u64 p1.size.2.2.2]
abbrev qa1335 : List CV := [cb false, ck .u64 (0 : Int), ck .u64 (0 : Int), ck .u64 (0 : Int), ck .u64 (0 : Int)]
abbrev qa1336 (p1 : GWide) (r1 : (Int × Int)) : List CV := [cb p1.neg, ck .u64 ((r1.2 + (0 : Int) + (0 : Int)) % 18446744073709551616), ck .u64 p1.size.2.1, ck .u64 p1.size.2.2.1, ck .u64 p1.size.2.2.2]
abbrev qa1337 (p1 : GWide) (r1 : (Int × Int)) (y1 : Int) (r2 : (Int × Int)) : List CV := [cb p1.neg, ck .u64 ((r1.2 + (0 : Int) + (0 : Int)) % 18446744073709551616), ck .u64 ((r2.2 + y1 + (0 : Int)) % 18446744073709551616), ck .u64 p1.size.2.2.1, ck .u64 p1.size.2.2.2]
abbrev qa1338 (p1 : GWide) (r1 : (Int × Int)) (y1 : Int) (r2 : (Int × Int)) (y2 : Int) (r3 : (Int × Int)) : List CV := [cb p1.neg, ck .u64 ((r1.2 + (0 : Int) + (0 : Int)) % 18446744073709551616), ck .u64 ((r2.2 + y1 + (0 : Int)) % 18446744073709551616), ck .u64 ((r3.2 + y2 + (0 : Int)) % 18446744073709551616), ck .u64 p1.size.2.2.2]
abbrev qa1339 (p1 : GWide) (r1 : (Int × Int)) (y1 : Int) (r2 : (Int × Int)) (y2 : Int) (r3 : (Int × Int)) (y3 : Int) (r4 : (Int × Int)) : List CV := [cb p1.neg, ck .u64 ((r1.2 + (0 : Int) + (0 : Int)) % 18446744073709551616), ck .u64 ((r2.2 + y1 + (0 : Int)) % 18446744073709551616), ck .u64 ((r3.2 + y2 + (0 : Int)) % 18446744073709551616), ck .u64 ((r4.2 + y3 + (0 : Int)) % 18446744073709551616)]

theorem c_value_wide_times (p1 : GWide) (p2 : Int) (r : GWide) (h : value_wide_times p1 p2 = some r) : PC Tryd.prog 55 [.ag (qa1332 p1), vk .u64 p2] (.ag [cb r.neg, ck .u64 r.size.1, ck .u64 r.size.2.1, ck .u64 r.size.2.2.1, ck .u64 r.size.2.2.2]) := by
 unfold value_wide_times at h
 refine zF 37 Tryd.f55 (zq fun K1 hK1 => zr (zg [2, 4] 2 [1,2,4] (zd (hK1 _ _ (zq fun K2 hK2 => zr ?_)))))
 refine zg [2, 4] 1 [1,2,4,5] (zd (hK2 _ _ (zq fun K3 hK3 => zq fun K4 hK4 => zr (zv [2, 4] 3 [1,2,4,5,12,13] [] [(1, vk .u64 p2), (2, .one (.pt 0 0 0 0)), (4, .one (.pt 1 0 0 0)), (5, vk .u64 (0 : Int)), (12, .ag (qa1334 p1)), (13, vi (0 : Int))] [.box (qa1332 p1), .box qa1335] (zd ?_)))))
 refine hK4 _ _ (zb 0 (XW.rounds' 5 (x := cd Tryd.f55 [1,1,0,1,0,0]) (by kernel_rfl) fun Q1 hQ1 => XR.one (zq fun K5 hK5 => zr (zg [2, 4] 1 [1,2,4,5,12,13,14] (zd ?_)))))
 refine hK5 _ _ (zq fun K6 hK6 => zc true (fun _ => ?_) (fun hx => by cases hx))
 refine zs (hK6 _ _ (zq fun K7 hK7 => zb 1 (zq fun K8 hK8 => zr (zo [2, 4] 4 [1,2,4,5,6,7,12,13] [] [0 ≤ (0 : Int) ∧ (0 : Int) < 4] (⟨by decide, trivial⟩) (zd ?_)))))
 refine hK8 _ _ (zq fun K9 hK9 => ?_)
 obtain ⟨r1, c10, h⟩ := zB h
 refine zr (zv [2, 4] 2 [1,2,4,5,6,12,13,18,19] [] [(1, vk .u64 p2), (2, .one (.pt 0 0 0 0)), (4, .one (.pt 1 0 0 0)), (5, vk .u64 (0 : Int)), (6, vi (0 : Int)), (12, .ag (qa1334 p1)), (13, vi (0 : Int)), (18, vk .u64 p1.size.1), (19, vk .u64 p2)] [.box (qa1332 p1), .box qa1335] (za (c_math_bits_Mul64 _ _ _ c10) (zg [2, 4] 5 [1,2,4,5,6,8,9,12,13] (zd ?_))))
 refine hK9 _ _ (zq fun K11 hK11 => zr (zv [2, 4] 1 [1,2,4,5,6,8,9,12,13] [] [(1, vk .u64 p2), (2, .one (.pt 0 0 0 0)), (4, .one (.pt 1 0 0 0)), (5, vk .u64 (0 : Int)), (6, vi (0 : Int)), (8, vk .u64 r1.1), (9, vk .u64 r1.2), (12, .ag (qa1334 p1)), (13, vi (0 : Int))] [.box (qa1332 p1), .box qa1335] (zd (hK11 _ _ (zq fun K12 hK12 => ?_)))))
 obtain ⟨g13, h⟩ := zG h
 refine zr (zv [2, 4] 3 [1,2,4,8,12,13,24,25,26] [] [(1, vk .u64 p2), (2, .one (.pt 0 0 0 0)), (4, .one (.pt 1 0 0 0)), (8, vk .u64 r1.1), (12, .ag (qa1334 p1)), (13, vi (0 : Int)), (24, vi (0 : Int)), (25, vk .u64 r1.2), (26, vk .u64 (0 : Int))] [.box (qa1332 p1), .box qa1335] ?_)
 refine XO.ext 71 [.int .u64 r1.2, .int .u64 (0 : Int), .int .u64 (0 : Int)] [.int .u64 ((r1.2 + (0 : Int) + (0 : Int)) % 18446744073709551616), .int .u64 ((r1.2 + (0 : Int) + (0 : Int)) / 18446744073709551616)] [(27, .tp [vk .u64 ((r1.2 + (0 : Int) + (0 : Int)) % 18446744073709551616), vk .u64 ((r1.2 + (0 : Int) + (0 : Int)) / 18446744073709551616)]), (1, vk .u64 p2), (2, .one (.pt 0 0 0 0)), (4, .one (.pt 1 0 0 0)), (8, vk .u64 r1.1), (12, .ag (qa1334 p1)), (13, vi (0 : Int)), (24, vi (0 : Int)), (25, vk .u64 r1.2), (26, vk .u64 (0 : Int))] (by kernel_rfl) (ext_Add64 (fn := Tryd.f71) (by kernel_rfl) (by kernel_rfl) (by kernel_rfl) (by kernel_rfl) (by kernel_rfl) g13.1 g13.2.1 g13.2.2.1 g13.2.2.2) rfl (by kernel_rfl) ?_
 refine zo [2, 4] 7 [1,2,4,8,10,12,13] [] [0 ≤ (0 : Int) ∧ (0 : Int) < 4] (⟨by decide, trivial⟩) (zd (hK12 _ _ ?_))
 obtain ⟨y1, hy14, h⟩ := zB h
 refine zr (zv [2, 4] 3 [1,2,4,12,13,34] [] [(1, vk .u64 p2), (2, .one (.pt 0 0 0 0)), (4, .one (.pt 1 0 0 0)), (12, .ag [ck .u64 p1.size.1, ck .u64 p1.size.2.1, ck .u64 p1.size.2.2.1, ck .u64 p1.size.2.2.2]), (13, vi (0 : Int)), (34, vk .u64 (IntKind.u64.wrap (r1.1 + ((r1.2 + (0 : Int) + (0 : Int)) / 18446744073709551616))))] [.box [cb p1.neg, ck .u64 ((r1.2 + (0 : Int) + (0 : Int)) % 18446744073709551616), ck .u64 p1.size.2.1, ck .u64 p1.size.2.2.1, ck .u64 p1.size.2.2.2], .box [cb false, ck .u64 (0 : Int), ck .u64 (0 : Int), ck .u64 (0 : Int), ck .u64 (0 : Int)]] ?_)
 rw [show (IntKind.u64.wrap (r1.1 + ((r1.2 + (0 : Int) + (0 : Int)) / 18446744073709551616))) = y1 from Option.some.inj hy14]
 refine zg [2, 4] 1 [1,2,4,5,12,13] (zd (hK7 _ _ (zr (zv [2, 4] 2 [1,2,4,5,12,13] [] [(1, vk .u64 p2), (2, .one (.pt 0 0 0 0)), (4, .one (.pt 1 0 0 0)), (5, vk .u64 y1), (12, .ag (qa1334 p1)), (13, vi (1 : Int))] [.box (qa1336 p1 r1), .box qa1335] (zd (XR.one (zq fun K15 hK15 => ?_)))))))
 refine zr (zg [2, 4] 1 [1,2,4,5,12,13,14] (zd (hK15 _ _ (zq fun K16 hK16 => zc true (fun _ => ?_) (fun hx => by cases hx)))))
 refine zs (hK16 _ _ (zq fun K17 hK17 => zb 1 (zq fun K18 hK18 => zr (zo [2, 4] 4 [1,2,4,5,6,7,12,13] [] [0 ≤ (1 : Int) ∧ (1 : Int) < 4] (⟨by decide, trivial⟩) (zd ?_)))))
 refine hK18 _ _ (zq fun K19 hK19 => ?_)
 obtain ⟨r2, c20, h⟩ := zB h
 refine zr (zv [2, 4] 2 [1,2,4,5,6,12,13,18,19] [] [(1, vk .u64 p2), (2, .one (.pt 0 0 0 0)), (4, .one (.pt 1 0 0 0)), (5, vk .u64 y1), (6, vi (1 : Int)), (12, .ag (qa1334 p1)), (13, vi (1 : Int)), (18, vk .u64 p1.size.2.1), (19, vk .u64 p2)] [.box (qa1336 p1 r1), .box qa1335] (za (c_math_bits_Mul64 _ _ _ c20) ?_))
 refine zg [2, 4] 5 [1,2,4,5,6,8,9,12,13] (zd (hK19 _ _ (zq fun K21 hK21 => zr ?_)))
 refine zv [2, 4] 1 [1,2,4,5,6,8,9,12,13] [] [(1, vk .u64 p2), (2, .one (.pt 0 0 0 0)), (4, .one (.pt 1 0 0 0)), (5, vk .u64 y1), (6, vi (1 : Int)), (8, vk .u64 r2.1), (9, vk .u64 r2.2), (12, .ag (qa1334 p1)), (13, vi (1 : Int))] [.box (qa1336 p1 r1), .box qa1335] (zd (hK21 _ _ (zq fun K22 hK22 => ?_)))
 obtain ⟨g23, h⟩ := zG h
 refine zr (zv [2, 4] 3 [1,2,4,8,12,13,24,25,26] [] [(1, vk .u64 p2), (2, .one (.pt 0 0 0 0)), (4, .one (.pt 1 0 0 0)), (8, vk .u64 r2.1), (12, .ag (qa1334 p1)), (13, vi (1 : Int)), (24, vi (1 : Int)), (25, vk .u64 r2.2), (26, vk .u64 y1)] [.box (qa1336 p1 r1), .box qa1335] ?_)
 refine XO.ext 71 [.int .u64 r2.2, .int .u64 y1, .int .u64 (0 : Int)] [.int .u64 ((r2.2 + y1 + (0 : Int)) % 18446744073709551616), .int .u64 ((r2.2 + y1 + (0 : Int)) / 18446744073709551616)] [(27, .tp [vk .u64 ((r2.2 + y1 + (0 : Int)) % 18446744073709551616), vk .u64 ((r2.2 + y1 + (0 : Int)) / 18446744073709551616)]), (1, vk .u64 p2), (2, .one (.pt 0 0 0 0)), (4, .one (.pt 1 0 0 0)), (8, vk .u64 r2.1), (12, .ag (qa1334 p1)), (13, vi (1 : Int)), (24, vi (1 : Int)), (25, vk .u64 r2.2), (26, vk .u64 y1)] (by kernel_rfl) (ext_Add64 (fn := Tryd.f71) (by kernel_rfl) (by kernel_rfl) (by kernel_rfl) (by kernel_rfl) (by kernel_rfl) g23.1 g23.2.1 g23.2.2.1 g23.2.2.2) rfl (by kernel_rfl) ?_
 refine zo [2, 4] 7 [1,2,4,8,10,12,13] [] [0 ≤ (1 : Int) ∧ (1 : Int) < 4] (⟨by decide, trivial⟩) (zd (hK22 _ _ ?_))
 obtain ⟨y2, hy24, h⟩ := zB h
 refine zr ?_
 refine zv [2, 4] 3 [1,2,4,12,13,34] [] [(1, vk .u64 p2), (2, .one (.pt 0 0 0 0)), (4, .one (.pt 1 0 0 0)), (12, .ag [ck .u64 p1.size.1, ck .u64 p1.size.2.1, ck .u64 p1.size.2.2.1, ck .u64 p1.size.2.2.2]), (13, vi (1 : Int)), (34, vk .u64 (IntKind.u64.wrap (r2.1 + ((r2.2 + y1 + (0 : Int)) / 18446744073709551616))))] [.box [cb p1.neg, ck .u64 ((r1.2 + (0 : Int) + (0 : Int)) % 18446744073709551616), ck .u64 ((r2.2 + y1 + (0 : Int)) % 18446744073709551616), ck .u64 p1.size.2.2.1, ck .u64 p1.size.2.2.2], .box [cb false, ck .u64 (0 : Int), ck .u64 (0 : Int), ck .u64 (0 : Int), ck .u64 (0 : Int)]] ?_
 rw [show (IntKind.u64.wrap (r2.1 + ((r2.2 + y1 + (0 : Int)) / 18446744073709551616))) = y2 from Option.some.inj hy24]
 refine zg [2, 4] 1 [1,2,4,5,12,13] (zd (hK17 _ _ (zr (zv [2, 4] 2 [1,2,4,5,12,13] [] [(1, vk .u64 p2), (2, .one (.pt 0 0 0 0)), (4, .one (.pt 1 0 0 0)), (5, vk .u64 y2), (12, .ag (qa1334 p1)), (13, vi (2 : Int))] [.box (qa1337 p1 r1 y1 r2), .box qa1335] (zd (XR.one ?_))))))
 refine zq fun K25 hK25 => zr (zg [2, 4] 1 [1,2,4,5,12,13,14] (zd (hK25 _ _ (zq fun K26 hK26 => zc true (fun _ => ?_) (fun hx => by cases hx)))))
 refine zs (hK26 _ _ (zq fun K27 hK27 => zb 1 (zq fun K28 hK28 => zr (zo [2, 4] 4 [1,2,4,5,6,7,12,13] [] [0 ≤ (2 : Int) ∧ (2 : Int) < 4] (⟨by decide, trivial⟩) (zd ?_)))))
 refine hK28 _ _ (zq fun K29 hK29 => ?_)
 obtain ⟨r3, c30, h⟩ := zB h
 refine zr ?_
 refine zv [2, 4] 2 [1,2,4,5,6,12,13,18,19] [] [(1, vk .u64 p2), (2, .one (.pt 0 0 0 0)), (4, .one (.pt 1 0 0 0)), (5, vk .u64 y2), (6, vi (2 : Int)), (12, .ag (qa1334 p1)), (13, vi (2 : Int)), (18, vk .u64 p1.size.2.2.1), (19, vk .u64 p2)] [.box (qa1337 p1 r1 y1 r2), .box qa1335] ?_
 refine za (c_math_bits_Mul64 _ _ _ c30) (zg [2, 4] 5 [1,2,4,5,6,8,9,12,13] (zd (hK29 _ _ (zq fun K31 hK31 => zr ?_))))
 refine zv [2, 4] 1 [1,2,4,5,6,8,9,12,13] [] [(1, vk .u64 p2), (2, .one (.pt 0 0 0 0)), (4, .one (.pt 1 0 0 0)), (5, vk .u64 y2), (6, vi (2 : Int)), (8, vk .u64 r3.1), (9, vk .u64 r3.2), (12, .ag (qa1334 p1)), (13, vi (2 : Int))] [.box (qa1337 p1 r1 y1 r2), .box qa1335] (zd ?_)
 refine hK31 _ _ (zq fun K32 hK32 => ?_)
 obtain ⟨g33, h⟩ := zG h
 refine zr (zv [2, 4] 3 [1,2,4,8,12,13,24,25,26] [] [(1, vk .u64 p2), (2, .one (.pt 0 0 0 0)), (4, .one (.pt 1 0 0 0)), (8, vk .u64 r3.1), (12, .ag (qa1334 p1)), (13, vi (2 : Int)), (24, vi (2 : Int)), (25, vk .u64 r3.2), (26, vk .u64 y2)] [.box (qa1337 p1 r1 y1 r2), .box qa1335] ?_)
 refine XO.ext 71 [.int .u64 r3.2, .int .u64 y2, .int .u64 (0 : Int)] [.int .u64 ((r3.2 + y2 + (0 : Int)) % 18446744073709551616), .int .u64 ((r3.2 + y2 + (0 : Int)) / 18446744073709551616)] [(27, .tp [vk .u64 ((r3.2 + y2 + (0 : Int)) % 18446744073709551616), vk .u64 ((r3.2 + y2 + (0 : Int)) / 18446744073709551616)]), (1, vk .u64 p2), (2, .one (.pt 0 0 0 0)), (4, .one (.pt 1 0 0 0)), (8, vk .u64 r3.1), (12, .ag (qa1334 p1)), (13, vi (2 : Int)), (24, vi (2 : Int)), (25, vk .u64 r3.2), (26, vk .u64 y2)] (by kernel_rfl) (ext_Add64 (fn := Tryd.f71) (by kernel_rfl) (by kernel_rfl) (by kernel_rfl) (by kernel_rfl) (by kernel_rfl) g33.1 g33.2.1 g33.2.2.1 g33.2.2.2) rfl (by kernel_rfl) ?_
 refine zo [2, 4] 7 [1,2,4,8,10,12,13] [] [0 ≤ (2 : Int) ∧ (2 : Int) < 4] (⟨by decide, trivial⟩) (zd (hK32 _ _ ?_))
 obtain ⟨y3, hy34, h⟩ := zB h
 refine zr ?_
 refine zv [2, 4] 3 [1,2,4,12,13,34] [] [(1, vk .u64 p2), (2, .one (.pt 0 0 0 0)), (4, .one (.pt 1 0 0 0)), (12, .ag [ck .u64 p1.size.1, ck .u64 p1.size.2.1, ck .u64 p1.size.2.2.1, ck .u64 p1.size.2.2.2]), (13, vi (2 : Int)), (34, vk .u64 (IntKind.u64.wrap (r3.1 + ((r3.2 + y2 + (0 : Int)) / 18446744073709551616))))] [.box [cb p1.neg, ck .u64 ((r1.2 + (0 : Int) + (0 : Int)) % 18446744073709551616), ck .u64 ((r2.2 + y1 + (0 : Int)) % 18446744073709551616), ck .u64 ((r3.2 + y2 + (0 : Int)) % 18446744073709551616), ck .u64 p1.size.2.2.2], .box [cb false, ck .u64 (0 : Int), ck .u64 (0 : Int), ck .u64 (0 : Int), ck .u64 (0 : Int)]] ?_
 rw [show (IntKind.u64.wrap (r3.1 + ((r3.2 + y2 + (0 : Int)) / 18446744073709551616))) = y3 from Option.some.inj hy34]
 refine zg [2, 4] 1 [1,2,4,5,12,13] (zd (hK27 _ _ (zr ?_)))
 refine zv [2, 4] 2 [1,2,4,5,12,13] [] [(1, vk .u64 p2), (2, .one (.pt 0 0 0 0)), (4, .one (.pt 1 0 0 0)), (5, vk .u64 y3), (12, .ag (qa1334 p1)), (13, vi (3 : Int))] [.box (qa1338 p1 r1 y1 r2 y2 r3), .box qa1335] (zd (XR.one (zq fun K35 hK35 => zr ?_)))
 refine zg [2, 4] 1 [1,2,4,5,12,13,14] (zd (hK35 _ _ (zq fun K36 hK36 => zc true (fun _ => ?_) (fun hx => by cases hx))))
 refine zs (hK36 _ _ (zq fun K37 hK37 => zb 1 (zq fun K38 hK38 => zr (zo [2, 4] 4 [1,2,4,5,6,7,12,13] [] [0 ≤ (3 : Int) ∧ (3 : Int) < 4] (⟨by decide, trivial⟩) (zd ?_)))))
 refine hK38 _ _ (zq fun K39 hK39 => ?_)
 obtain ⟨r4, c40, h⟩ := zB h
 refine zr ?_
 refine zv [2, 4] 2 [1,2,4,5,6,12,13,18,19] [] [(1, vk .u64 p2), (2, .one (.pt 0 0 0 0)), (4, .one (.pt 1 0 0 0)), (5, vk .u64 y3), (6, vi (3 : Int)), (12, .ag (qa1334 p1)), (13, vi (3 : Int)), (18, vk .u64 p1.size.2.2.2), (19, vk .u64 p2)] [.box (qa1338 p1 r1 y1 r2 y2 r3), .box qa1335] ?_
 refine za (c_math_bits_Mul64 _ _ _ c40) (zg [2, 4] 5 [1,2,4,5,6,8,9,12,13] (zd (hK39 _ _ (zq fun K41 hK41 => zr ?_))))
 refine zv [2, 4] 1 [1,2,4,5,6,8,9,12,13] [] [(1, vk .u64 p2), (2, .one (.pt 0 0 0 0)), (4, .one (.pt 1 0 0 0)), (5, vk .u64 y3), (6, vi (3 : Int)), (8, vk .u64 r4.1), (9, vk .u64 r4.2), (12, .ag (qa1334 p1)), (13, vi (3 : Int))] [.box (qa1338 p1 r1 y1 r2 y2 r3), .box qa1335] ?_
 refine zd (hK41 _ _ (zq fun K42 hK42 => ?_))
 obtain ⟨g43, h⟩ := zG h
 refine zr ?_
 refine zv [2, 4] 3 [1,2,4,8,12,13,24,25,26] [] [(1, vk .u64 p2), (2, .one (.pt 0 0 0 0)), (4, .one (.pt 1 0 0 0)), (8, vk .u64 r4.1), (12, .ag (qa1334 p1)), (13, vi (3 : Int)), (24, vi (3 : Int)), (25, vk .u64 r4.2), (26, vk .u64 y3)] [.box (qa1338 p1 r1 y1 r2 y2 r3), .box qa1335] ?_
 refine XO.ext 71 [.int .u64 r4.2, .int .u64 y3, .int .u64 (0 : Int)] [.int .u64 ((r4.2 + y3 + (0 : Int)) % 18446744073709551616), .int .u64 ((r4.2 + y3 + (0 : Int)) / 18446744073709551616)] [(27, .tp [vk .u64 ((r4.2 + y3 + (0 : Int)) % 18446744073709551616), vk .u64 ((r4.2 + y3 + (0 : Int)) / 18446744073709551616)]), (1, vk .u64 p2), (2, .one (.pt 0 0 0 0)), (4, .one (.pt 1 0 0 0)), (8, vk .u64 r4.1), (12, .ag (qa1334 p1)), (13, vi (3 : Int)), (24, vi (3 : Int)), (25, vk .u64 r4.2), (26, vk .u64 y3)] (by kernel_rfl) (ext_Add64 (fn := Tryd.f71) (by kernel_rfl) (by kernel_rfl) (by kernel_rfl) (by kernel_rfl) (by kernel_rfl) g43.1 g43.2.1 g43.2.2.1 g43.2.2.2) rfl (by kernel_rfl) ?_
 refine zo [2, 4] 7 [1,2,4,8,10,12,13] [] [0 ≤ (3 : Int) ∧ (3 : Int) < 4] (⟨by decide, trivial⟩) (zd (hK42 _ _ ?_))
 obtain ⟨y4, hy44, h⟩ := zB h
 refine zr ?_
 refine zv [2, 4] 3 [1,2,4,12,13,34] [] [(1, vk .u64 p2), (2, .one (.pt 0 0 0 0)), (4, .one (.pt 1 0 0 0)), (12, .ag [ck .u64 p1.size.1, ck .u64 p1.size.2.1, ck .u64 p1.size.2.2.1, ck .u64 p1.size.2.2.2]), (13, vi (3 : Int)), (34, vk .u64 (IntKind.u64.wrap (r4.1 + ((r4.2 + y3 + (0 : Int)) / 18446744073709551616))))] [.box [cb p1.neg, ck .u64 ((r1.2 + (0 : Int) + (0 : Int)) % 18446744073709551616), ck .u64 ((r2.2 + y1 + (0 : Int)) % 18446744073709551616), ck .u64 ((r3.2 + y2 + (0 : Int)) % 18446744073709551616), ck .u64 ((r4.2 + y3 + (0 : Int)) % 18446744073709551616)], .box [cb false, ck .u64 (0 : Int), ck .u64 (0 : Int), ck .u64 (0 : Int), ck .u64 (0 : Int)]] ?_
 rw [show (IntKind.u64.wrap (r4.1 + ((r4.2 + y3 + (0 : Int)) / 18446744073709551616))) = y4 from Option.some.inj hy44]
 refine zg [2, 4] 1 [1,2,4,5,12,13] (zd (hK37 _ _ (zr ?_)))
 refine zv [2, 4] 2 [1,2,4,5,12,13] [] [(1, vk .u64 p2), (2, .one (.pt 0 0 0 0)), (4, .one (.pt 1 0 0 0)), (5, vk .u64 y4), (12, .ag (qa1334 p1)), (13, vi (4 : Int))] [.box (qa1339 p1 r1 y1 r2 y2 r3 y3 r4), .box qa1335] (zd ?_)
 refine XR.one (zq fun K45 hK45 => zr (zg [2, 4] 1 [1,2,4,5,12,13,14] (zd (hK45 _ _ (zq fun K46 hK46 => zc false (fun hx => by cases hx) (fun _ => ?_))))))
 refine zx 0 (hQ1 _ _ _ (hK3 _ _ (zq fun K47 hK47 => zr (zg [2, 4] 2 [4] (zd (hK47 _ _ ?_))))))
 refine ze ?_
 obtain rfl := Option.some.inj h
 exact zf [.ag (qa1339 p1 r1 y1 r2 y2 r3 y3 r4)] (.ag (.cons (.rfl _ rfl) (.cons (.rfl _ rfl) (.cons (.rfl _ rfl) (.cons (.rfl _ rfl) (.cons (.rfl _ rfl) .nil))))))

def value_wide_shifted_j1 (z6 : Bool) (z7 : Int) (z8 : Int) (z9 : Int) (z10 : Int) : Option GWide :=
    some (GWide.mk z6 (z7, z8, z9, z10))

def value_wide_shifted_l1 (p2 : Int) : Nat → Bool → Int → Int → Int → Int → Int → Option GWide
  | 0, _, _, _, _, _, _ => none
  | k1 + 1, z1, z2, z3, z4, z5, x1 =>
    ift (decide (x1 < p2))
      (bnd (value_wide_times (GWide.mk z1 (z2, z3, z4, z5)) (10 : Int)) fun r1 =>
       (value_wide_shifted_l1 p2 k1) r1.neg r1.size.1 r1.size.2.1 r1.size.2.2.1 r1.size.2.2.2 (IntKind.i64.wrap (x1 + (1 : Int))))
      (value_wide_shifted_j1 z1 z2 z3 z4 z5)

def value_wide_shifted (p1 : GWide) (p2 : Int) : Option GWide :=
    value_wide_shifted_l1 p2 BIG p1.neg p1.size.1 p1.size.2.1 p1.size.2.2.1 p1.size.2.2.2 (0 : Int)

abbrev qa1370 : List CV := [cb false, ck .u64 (0 : Int), ck .u64 (0 : Int), ck .u64 (0 : Int), ck .u64 (0 : Int)]
abbrev qa1373 (r1 : GWide) : List CV := [cb r1.neg, ck .u64 r1.size.1, ck .u64 r1.size.2.1, ck .u64 r1.size.2.2.1, ck .u64 r1.size.2.2.2]

theorem c_value_wide_shifted (p1 : GWide) (p2 : Int) (r : GWide) (h : value_wide_shifted p1 p2 = some r) : PC Tryd.prog 31 [.ag [cb p1.neg, ck .u64 p1.size.1, ck .u64 p1.size.2.1, ck .u64 p1.size.2.2.1, ck .u64 p1.size.2.2.2], vi p2] (.ag [cb r.neg, ck .u64 r.size.1, ck .u64 r.size.2.1, ck .u64 r.size.2.2.1, ck .u64 r.size.2.2.2]) := by
 unfold value_wide_shifted at h
 refine zF 12 Tryd.f31 (zq fun K1 hK1 => zr (zg [2, 4] 2 [1,2,4] (zd (hK1 _ _ (zq fun K2 hK2 => ?_)))))
 have hJ1 : ∀ (z6 : Bool) (z7 : Int) (z8 : Int) (z9 : Int) (z10 : Int), value_wide_shifted_j1 z6 z7 z8 z9 z10 = some r → ∀ fr1 st1, Sub 12 0 [] fr1 st1 [(2, .one (.pt 0 0 0 0)), (4, .one (.pt 1 0 0 0))] [.box [cb z6, ck .u64 z7, ck .u64 z8, ck .u64 z9, ck .u64 z10], .box qa1370] → K2 fr1 st1 := by
  intro z6 z7 z8 z9 z10 h fr1 st1 hS
  unfold value_wide_shifted_j1 at h
  refine hK2 _ _ (XW.sub hS ?_)
  refine zq fun K9 hK9 => zr (zg [2, 4] 2 [4] (zd (hK9 _ _ (ze ?_))))
  obtain rfl := Option.some.inj h
  exact zf [.ag [cb z6, ck .u64 z7, ck .u64 z8, ck .u64 z9, ck .u64 z10]] (.ag (.cons (.rfl _ rfl) (.cons (.rfl _ rfl) (.cons (.rfl _ rfl) (.cons (.rfl _ rfl) (.cons (.rfl _ rfl) .nil))))))
 refine zq fun K3 hK3 => zr (zg [2, 4] 2 [2,4,5,6] (zd (hK3 _ _ (zb 0 (XW.rounds' BIG (x := cd Tryd.f31 [1,0,1,0,0]) (by kernel_rfl) fun Q1 hQ1 => ?_)))))
 have hL1 : ∀ (k1 : Nat) (z1 : Bool) (z2 : Int) (z3 : Int) (z4 : Int) (z5 : Int) (x1 : Int), value_wide_shifted_l1 p2 k1 z1 z2 z3 z4 z5 x1 = some r → XR Tryd.prog 12 0 [] (cd Tryd.f31 [1,0,1,0,0]) Q1 k1 [(2, .one (.pt 0 0 0 0)), (4, .one (.pt 1 0 0 0)), (5, vi p2), (6, vi x1)] [.box [cb z1, ck .u64 z2, ck .u64 z3, ck .u64 z4, ck .u64 z5], .box qa1370] := by
  intro k1
  induction k1 with
  | zero => intro z1 z2 z3 z4 z5 x1 h; rw [value_wide_shifted_l1.eq_1] at h; cases h
  | succ k1 ih1 =>
   intro z1 z2 z3 z4 z5 x1 h
   rw [value_wide_shifted_l1.eq_2] at h
   refine zq fun K4 hK4 => zr (zg [2, 4] 1 [2,4,5,6,7] (zd (hK4 _ _ (zq fun K5 hK5 => zC h (fun b6 h => ?_) (fun b6 h => ?_)))))
   ·refine zs (hK5 _ _ (zq fun K7 hK7 => zb 1 ?_))
    obtain ⟨r1, c8, h⟩ := zB h
    refine zr (zg [2, 4] 1 [2,4,5,6,8] (zl 55 [.ag [cb z1, ck .u64 z2, ck .u64 z3, ck .u64 z4, ck .u64 z5], vk .u64 (10 : Int)] (.ag (qa1373 r1)) [(9, .ag (qa1373 r1)), (2, .one (.pt 0 0 0 0)), (4, .one (.pt 1 0 0 0)), (5, vi p2), (6, vi x1), (8, .ag [cb z1, ck .u64 z2, ck .u64 z3, ck .u64 z4, ck .u64 z5])] (c_value_wide_times _ _ _ c8) (zg [2, 4] 1 [2,4,5,6] (zd (hK7 _ _ (zr (zg [2, 4] 2 [2,4,5,6] ?_)))))))
    exact zd (XR.sub (zk [2,4,5,6]) (ih1 r1.neg r1.size.1 r1.size.2.1 r1.size.2.2.1 r1.size.2.2.2 (IntKind.i64.wrap (x1 + (1 : Int))) h))
   ·exact zx 0 (hQ1 _ _ _ (hJ1 z1 z2 z3 z4 z5 h _ _ (zk [2,4])))
 exact XR.sub (zk [2,4,5,6]) (hL1 BIG p1.neg p1.size.1 p1.size.2.1 p1.size.2.2.1 p1.size.2.2.2 (0 : Int) h)

def value_wide_quo_j2 (rec1 : Int → Int → Int → Int → Bool → Int → Int → Int → Int → Int → Option (GWide × GWide)) (x1 : Int) (z11 : Int) (z12 : Int) (z13 : Int) (z14 : Int) (z15 : Bool) (z16 : Int) (z17 : Int) (z18 : Int) (z19 : Int) : Option (GWide × GWide) :=
    rec1 z11 z12 z13 z14 z15 z16 z17 z18 z19 (IntKind.i64.wrap (x1 - (1 : Int)))

def value_wide_quo_j1 (rec1 : Int → Int → Int → Int → Bool → Int → Int → Int → Int → Int → Option (GWide × GWide)) (p2 : GWide) (z1 : Int) (z2 : Int) (z3 : Int) (z4 : Int) (x1 : Int) (r1 : GWide) (z10 : Int) : Option (GWide × GWide) :=
    bnd (value_compareSize (GWide.mk r1.neg (z10, r1.size.2.1, r1.size.2.2.1, r1.size.2.2.2)) (GWide.mk p2.neg (p2.size.1, p2.size.2.1, p2.size.2.2.1, p2.size.2.2.2))) fun r2 =>
    ift (decide ((0 : Int) ≤ r2))
      (bnd (value_wide_minus BIG (GWide.mk false (z10, r1.size.2.1, r1.size.2.2.1, r1.size.2.2.2)) (GWide.mk false (p2.size.1, p2.size.2.1, p2.size.2.2.1, p2.size.2.2.2))) fun r3 =>
       ift ((IntKind.i64.wrap (x1.tdiv (64 : Int))) == (0 : Int))
         (grd (0 ≤ (x1.tmod (64 : Int))) <|
          bnd (some (IntKind.u64.wrap ((1 : Int) * 2 ^ (min (x1.tmod (64 : Int)).toNat (IntKind.u64).bits)))) fun y19 =>
          bnd (some (IntKind.u64.wrap (BitVec.ofInt (IntKind.u64).bits z1 ||| BitVec.ofInt (IntKind.u64).bits y19).toNat)) fun y20 =>
          value_wide_quo_j2 rec1 x1 y20 z2 z3 z4 r3.neg r3.size.1 r3.size.2.1 r3.size.2.2.1 r3.size.2.2.2)
         (ift ((IntKind.i64.wrap (x1.tdiv (64 : Int))) == (1 : Int))
            (grd (0 ≤ (x1.tmod (64 : Int))) <|
             bnd (some (IntKind.u64.wrap ((1 : Int) * 2 ^ (min (x1.tmod (64 : Int)).toNat (IntKind.u64).bits)))) fun y17 =>
             bnd (some (IntKind.u64.wrap (BitVec.ofInt (IntKind.u64).bits z2 ||| BitVec.ofInt (IntKind.u64).bits y17).toNat)) fun y18 =>
             value_wide_quo_j2 rec1 x1 z1 y18 z3 z4 r3.neg r3.size.1 r3.size.2.1 r3.size.2.2.1 r3.size.2.2.2)
            (ift ((IntKind.i64.wrap (x1.tdiv (64 : Int))) == (2 : Int))
               (grd (0 ≤ (x1.tmod (64 : Int))) <|
                bnd (some (IntKind.u64.wrap ((1 : Int) * 2 ^ (min (x1.tmod (64 : Int)).toNat (IntKind.u64).bits)))) fun y15 =>
                bnd (some (IntKind.u64.wrap (BitVec.ofInt (IntKind.u64).bits z3 ||| BitVec.ofInt (IntKind.u64).bits y15).toNat)) fun y16 =>
                value_wide_quo_j2 rec1 x1 z1 z2 y16 z4 r3.neg r3.size.1 r3.size.2.1 r3.size.2.2.1 r3.size.2.2.2)
               (ift ((IntKind.i64.wrap (x1.tdiv (64 : Int))) == (3 : Int))
                  (grd (0 ≤ (x1.tmod (64 : Int))) <|
                   bnd (some (IntKind.u64.wrap ((1 : Int) * 2 ^ (min (x1.tmod (64 : Int)).toNat (IntKind.u64).bits)))) fun y13 =>
                   bnd (some (IntKind.u64.wrap (BitVec.ofInt (IntKind.u64).bits z4 ||| BitVec.ofInt (IntKind.u64).bits y13).toNat)) fun y14 =>
                   value_wide_quo_j2 rec1 x1 z1 z2 z3 y14 r3.neg r3.size.1 r3.size.2.1 r3.size.2.2.1 r3.size.2.2.2)
                  (none)))))
      (value_wide_quo_j2 rec1 x1 z1 z2 z3 z4 r1.neg z10 r1.size.2.1 r1.size.2.2.1 r1.size.2.2.2)

def value_wide_quo_j3 (p1 : GWide) (p2 : GWide) (z20 : Int) (z21 : Int) (z22 : Int) (z23 : Int) (z24 : Bool) (z25 : Int) (z26 : Int) (z27 : Int) (z28 : Int) : Option (GWide × GWide) :=
    some ((GWide.mk (!(p1.neg == p2.neg)) (z20, z21, z22, z23)), (GWide.mk p1.neg (z25, z26, z27, z28)))

def value_wide_quo_l1 (p1 : GWide) (p2 : GWide) : Nat → Int → Int → Int → Int → Bool → Int → Int → Int → Int → Int → Option (GWide × GWide)
  | 0, _, _, _, _, _, _, _, _, _, _ => none
  | k1 + 1, z1, z2, z3, z4, z5, z6, z7, z8, z9, x1 =>
    ift (decide ((0 : Int) ≤ x1))
      (bnd (value_wide_times (GWide.mk z5 (z6, z7, z8, z9)) (2 : Int)) fun r1 =>
       ift ((IntKind.i64.wrap (x1.tdiv (64 : Int))) == (0 : Int))
         (grd (0 ≤ (x1.tmod (64 : Int))) <|
          bnd (some (p1.size.1.fdiv (2 ^ (min (x1.tmod (64 : Int)).toNat (IntKind.u64).bits)))) fun y10 =>
          bnd (some (IntKind.u64.wrap (BitVec.ofInt (IntKind.u64).bits y10 &&& BitVec.ofInt (IntKind.u64).bits (1 : Int)).toNat)) fun y11 =>
          bnd (some (IntKind.u64.wrap (BitVec.ofInt (IntKind.u64).bits r1.size.1 ||| BitVec.ofInt (IntKind.u64).bits y11).toNat)) fun y12 =>
          value_wide_quo_j1 (value_wide_quo_l1 p1 p2 k1) p2 z1 z2 z3 z4 x1 r1 y12)
         (ift ((IntKind.i64.wrap (x1.tdiv (64 : Int))) == (1 : Int))
            (grd (0 ≤ (x1.tmod (64 : Int))) <|
             bnd (some (p1.size.2.1.fdiv (2 ^ (min (x1.tmod (64 : Int)).toNat (IntKind.u64).bits)))) fun y7 =>
             bnd (some (IntKind.u64.wrap (BitVec.ofInt (IntKind.u64).bits y7 &&& BitVec.ofInt (IntKind.u64).bits (1 : Int)).toNat)) fun y8 =>
             bnd (some (IntKind.u64.wrap (BitVec.ofInt (IntKind.u64).bits r1.size.1 ||| BitVec.ofInt (IntKind.u64).bits y8).toNat)) fun y9 =>
             value_wide_quo_j1 (value_wide_quo_l1 p1 p2 k1) p2 z1 z2 z3 z4 x1 r1 y9)
            (ift ((IntKind.i64.wrap (x1.tdiv (64 : Int))) == (2 : Int))
               (grd (0 ≤ (x1.tmod (64 : Int))) <|
                bnd (some (p1.size.2.2.1.fdiv (2 ^ (min (x1.tmod (64 : Int)).toNat (IntKind.u64).bits)))) fun y4 =>
                bnd (some (IntKind.u64.wrap (BitVec.ofInt (IntKind.u64).bits y4 &&& BitVec.ofInt (IntKind.u64).bits (1 : Int)).toNat)) fun y5 =>
                bnd (some (IntKind.u64.wrap (BitVec.ofInt (IntKind.u64).bits r1.size.1 ||| BitVec.ofInt (IntKind.u64).bits y5).toNat)) fun y6 =>
                value_wide_quo_j1 (value_wide_quo_l1 p1 p2 k1) p2 z1 z2 z3 z4 x1 r1 y6)
               (ift ((IntKind.i64.wrap (x1.tdiv (64 : Int))) == (3 : Int))
                  (grd (0 ≤ (x1.tmod (64 : Int))) <|
                   bnd (some (p1.size.2.2.2.fdiv (2 ^ (min (x1.tmod (64 : Int)).toNat (IntKind.u64).bits)))) fun y1 =>
                   bnd (some (IntKind.u64.wrap (BitVec.ofInt (IntKind.u64).bits y1 &&& BitVec.ofInt (IntKind.u64).bits (1 : Int)).toNat)) fun y2 =>
                   bnd (some (IntKind.u64.wrap (BitVec.ofInt (IntKind.u64).bits r1.size.1 ||| BitVec.ofInt (IntKind.u64).bits y2).toNat)) fun y3 =>
                   value_wide_quo_j1 (value_wide_quo_l1 p1 p2 k1) p2 z1 z2 z3 z4 x1 r1 y3)
                  (none)))))
      (value_wide_quo_j3 p1 p2 z1 z2 z3 z4 z5 z6 z7 z8 z9)

def value_wide_quo (p1 : GWide) (p2 : GWide) : Option (GWide × GWide) :=
    value_wide_quo_l1 p1 p2 BIG (0 : Int) (0 : Int) (0 : Int) (0 : Int) false (0 : Int) (0 : Int) (0 : Int) (0 : Int) (255 : Int)

abbrev qa1381 (p1 : GWide) : List PV := [.s (.bool p1.neg), .s (.int .u64 p1.size.1), .s (.int .u64 p1.size.2.1), .s (.int .u64 p1.size.2.2.1), .s (.int .u64 p1.size.2.2.2)]
abbrev qa1382 (p2 : GWide) : List PV := [.s (.bool p2.neg), .s (.int .u64 p2.size.1), .s (.int .u64 p2.size.2.1), .s (.int .u64 p2.size.2.2.1), .s (.int .u64 p2.size.2.2.2)]
abbrev qa1383 : List CV := [cb false, ck .u64 (0 : Int), ck .u64 (0 : Int), ck .u64 (0 : Int), ck .u64 (0 : Int)]
abbrev qa1386 (p1 : GWide) (p2 : GWide) (z20 : Int) (z21 : Int) (z22 : Int) (z23 : Int) : List CV := [cb (!(p1.neg == p2.neg)), ck .u64 z20, ck .u64 z21, ck .u64 z22, ck .u64 z23]
abbrev qa1388 (p1 : GWide) (z25 : Int) (z26 : Int) (z27 : Int) (z28 : Int) : List CV := [cb p1.neg, ck .u64 z25, ck .u64 z26, ck .u64 z27, ck .u64 z28]
abbrev qa1389 (z1 : Int) (z2 : Int) (z3 : Int) (z4 : Int) : List CV := [cb false, ck .u64 z1, ck .u64 z2, ck .u64 z3, ck .u64 z4]
abbrev qa1393 (r1 : GWide) : List CV := [cb r1.neg, ck .u64 r1.size.1, ck .u64 r1.size.2.1, ck .u64 r1.size.2.2.1, ck .u64 r1.size.2.2.2]
abbrev qa1395 (r3 : GWide) : List CV := [cb r3.neg, ck .u64 r3.size.1, ck .u64 r3.size.2.1, ck .u64 r3.size.2.2.1, ck .u64 r3.size.2.2.2]
abbrev qa1398 (p1 : GWide) (p2 : GWide) : Fr := [(2, .one (.pv (.rp [(qa1381 p1)] 0 0))), (3, .one (.pv (.rp [(qa1382 p2)] 0 0))), (4, .one (.pt 0 0 0 0)), (5, .one (.pt 1 0 0 0))]
abbrev qa1401 (p1 : GWide) (p2 : GWide) : Fr := [(57, .one (.pt 0 0 0 0)), (56, vb p1.neg), (55, .one (.pv (.rp [(qa1381 p1)] 0 0))), (54, vb (!(p1.neg == p2.neg))), (53, vb p2.neg), (52, .one (.pv (.rp [(qa1382 p2)] 0 0))), (51, vb p1.neg), (50, .one (.pv (.rp [(qa1381 p1)] 0 0))), (2, .one (.pv (.rp [(qa1381 p1)] 0 0))), (3, .one (.pv (.rp [(qa1382 p2)] 0 0))), (4, .one (.pt 0 0 0 0)), (5, .one (.pt 1 0 0 0))]
abbrev qa1405 (p1 : GWide) (p2 : GWide) (x1 : Int) : Fr := [(2, .one (.pv (.rp [(qa1381 p1)] 0 0))), (3, .one (.pv (.rp [(qa1382 p2)] 0 0))), (4, .one (.pt 0 0 0 0)), (5, .one (.pt 1 0 0 0)), (6, vi x1)]

theorem c_value_wide_quo (p1 : GWide) (p2 : GWide) (r : (GWide × GWide)) (h : value_wide_quo p1 p2 = some r) : PC Tryd.prog 56 [.ag [cb p1.neg, ck .u64 p1.size.1, ck .u64 p1.size.2.1, ck .u64 p1.size.2.2.1, ck .u64 p1.size.2.2.2], .ag [cb p2.neg, ck .u64 p2.size.1, ck .u64 p2.size.2.1, ck .u64 p2.size.2.2.1, ck .u64 p2.size.2.2.2]] (.tp [.ag [cb r.1.neg, ck .u64 r.1.size.1, ck .u64 r.1.size.2.1, ck .u64 r.1.size.2.2.1, ck .u64 r.1.size.2.2.2], .ag [cb r.2.neg, ck .u64 r.2.size.1, ck .u64 r.2.size.2.1, ck .u64 r.2.size.2.2.1, ck .u64 r.2.size.2.2.2]]) := by
 unfold value_wide_quo at h
 refine zF 61 Tryd.f56 (zq fun K1 hK1 => zr ?_)
 refine zv [4, 5] 4 [2,3,4,5] [] (qa1398 p1 p2) [.box qa1383, .box qa1383] ?_
 refine zd (hK1 _ _ (zq fun K2 hK2 => ?_))
 have hJ3 : ∀ (z20 : Int) (z21 : Int) (z22 : Int) (z23 : Int) (z24 : Bool) (z25 : Int) (z26 : Int) (z27 : Int) (z28 : Int), value_wide_quo_j3 p1 p2 z20 z21 z22 z23 z24 z25 z26 z27 z28 = some r → ∀ fr1 st1, Sub 61 0 [] fr1 st1 (qa1398 p1 p2) [.box [cb false, ck .u64 z20, ck .u64 z21, ck .u64 z22, ck .u64 z23], .box [cb z24, ck .u64 z25, ck .u64 z26, ck .u64 z27, ck .u64 z28]] → K2 fr1 st1 := by
  intro z20 z21 z22 z23 z24 z25 z26 z27 z28 h fr1 st1 hS
  unfold value_wide_quo_j3 at h
  refine hK2 _ _ (XW.sub hS ?_)
  refine zq fun K52 hK52 => ?_
  refine XW.drwG 9 [2] [([], []), ([], []), ([], []), ([], []), ([], []), ([], []), ([], []), ([0], []), ([0], [0])] (qa1401 p1 p2) [.box (qa1386 p1 p2 z20 z21 z22 z23), .box [cb z24, ck .u64 z25, ck .u64 z26, ck .u64 z27, ck .u64 z28]] (by kernel_rfl) (by kernel_rfl) ?_ ?_
  ·refine zgv 8 [(qa1381 p1), (qa1382 p2), (qa1381 p1)] (qa1401 p1 p2) ?_
   refine GY.wr [] (qa1401 p1 p2) [0] [.box (qa1386 p1 p2 z20 z21 z22 z23), .box [cb z24, ck .u64 z25, ck .u64 z26, ck .u64 z27, ck .u64 z28]] [] (by kernel_rfl) (by kernel_rfl) trivial ?_
   exact GY.done (by kernel_rfl) (by kernel_rfl)
  refine zv [4, 5] 2 [4,5] [] [(4, .one (.pt 0 0 0 0)), (5, .one (.pt 1 0 0 0))] [.box (qa1386 p1 p2 z20 z21 z22 z23), .box (qa1388 p1 z25 z26 z27 z28)] (zd (hK52 _ _ (zq fun K53 hK53 => ?_)))
  refine XW.drwG 3 [2] [([0], []), ([1], []), ([0], [0])] [(60, .ag (qa1388 p1 z25 z26 z27 z28)), (59, .ag (qa1386 p1 p2 z20 z21 z22 z23)), (4, .one (.pt 0 0 0 0)), (5, .one (.pt 1 0 0 0))] [.box (qa1386 p1 p2 z20 z21 z22 z23), .box (qa1388 p1 z25 z26 z27 z28)] (by kernel_rfl) (by kernel_rfl) ?_ ?_
  ·refine zgv 2 [] [(60, .ag (qa1388 p1 z25 z26 z27 z28)), (59, .ag (qa1386 p1 p2 z20 z21 z22 z23)), (4, .one (.pt 0 0 0 0)), (5, .one (.pt 1 0 0 0))] ?_
   exact GY.wr [] [(60, .ag (qa1388 p1 z25 z26 z27 z28)), (59, .ag (qa1386 p1 p2 z20 z21 z22 z23)), (4, .one (.pt 0 0 0 0)), (5, .one (.pt 1 0 0 0))] [0] [.box (qa1386 p1 p2 z20 z21 z22 z23), .box (qa1388 p1 z25 z26 z27 z28)] [] (by kernel_rfl) (by kernel_rfl) trivial (GY.done (by kernel_rfl) (by kernel_rfl))
  refine zg [4, 5] 1 [4,5] (zd (hK53 _ _ (ze ?_)))
  obtain rfl := Option.some.inj h
  exact zf [.ag (qa1386 p1 p2 z20 z21 z22 z23), .ag (qa1388 p1 z25 z26 z27 z28)] (.tpc (.ag (.cons (.rfl _ rfl) (.cons (.rfl _ rfl) (.cons (.rfl _ rfl) (.cons (.rfl _ rfl) (.cons (.rfl _ rfl) .nil)))))) (.tpc (.ag (.cons (.rfl _ rfl) (.cons (.rfl _ rfl) (.cons (.rfl _ rfl) (.cons (.rfl _ rfl) (.cons (.rfl _ rfl) .nil)))))) (.tp0)))
 refine zq fun K3 hK3 => zr (zg [4, 5] 1 [2,3,4,5,6] (zd (hK3 _ _ (zb 0 (XW.rounds' BIG (x := cd Tryd.f56 [1,0,1,0,0]) (by kernel_rfl) fun Q1 hQ1 => ?_)))))
 have hL1 : ∀ (k1 : Nat) (z1 : Int) (z2 : Int) (z3 : Int) (z4 : Int) (z5 : Bool) (z6 : Int) (z7 : Int) (z8 : Int) (z9 : Int) (x1 : Int), value_wide_quo_l1 p1 p2 k1 z1 z2 z3 z4 z5 z6 z7 z8 z9 x1 = some r → XR Tryd.prog 61 0 [] (cd Tryd.f56 [1,0,1,0,0]) Q1 k1 (qa1405 p1 p2 x1) [.box (qa1389 z1 z2 z3 z4), .box [cb z5, ck .u64 z6, ck .u64 z7, ck .u64 z8, ck .u64 z9]] := by
  intro k1
  induction k1 with
  | zero => intro z1 z2 z3 z4 z5 z6 z7 z8 z9 x1 h; rw [value_wide_quo_l1.eq_1] at h; cases h
  | succ k1 ih1 =>
   intro z1 z2 z3 z4 z5 z6 z7 z8 z9 x1 h
   rw [value_wide_quo_l1.eq_2] at h
   refine zq fun K4 hK4 => zq fun K5 hK5 => zr (zg [4, 5] 2 [2,3,4,5,6,8] (zd (hK5 _ _ (zC h (fun b6 h => ?_) (fun b6 h => ?_)))))
   ·refine zs (hK4 _ _ (zq fun K7 hK7 => ?_))
    have hJ2 : ∀ (z11 : Int) (z12 : Int) (z13 : Int) (z14 : Int) (z15 : Bool) (z16 : Int) (z17 : Int) (z18 : Int) (z19 : Int), value_wide_quo_j2 (value_wide_quo_l1 p1 p2 k1) x1 z11 z12 z13 z14 z15 z16 z17 z18 z19 = some r → ∀ fr1 st1, Sub 61 0 [] fr1 st1 (qa1405 p1 p2 x1) [.box [cb false, ck .u64 z11, ck .u64 z12, ck .u64 z13, ck .u64 z14], .box [cb z15, ck .u64 z16, ck .u64 z17, ck .u64 z18, ck .u64 z19]] → K7 fr1 st1 := by
     intro z11 z12 z13 z14 z15 z16 z17 z18 z19 h fr1 st1 hS
     unfold value_wide_quo_j2 at h
     refine hK7 _ _ (XW.sub hS ?_)
     exact zr (zg [4, 5] 3 [2,3,4,5,6] (zd (XR.sub (zk [2,3,4,5,6]) (ih1 z11 z12 z13 z14 z15 z16 z17 z18 z19 (IntKind.i64.wrap (x1 - (1 : Int))) h))))
    refine zb 1 (zq fun K8 hK8 => ?_)
    obtain ⟨r1, c9, h⟩ := zB h
    refine zr (zg [4, 5] 1 [2,3,4,5,6,11] ?_)
    refine zl 55 [.ag [cb z5, ck .u64 z6, ck .u64 z7, ck .u64 z8, ck .u64 z9], vk .u64 (2 : Int)] (.ag (qa1393 r1)) [(12, .ag (qa1393 r1)), (2, .one (.pv (.rp [(qa1381 p1)] 0 0))), (3, .one (.pv (.rp [(qa1382 p2)] 0 0))), (4, .one (.pt 0 0 0 0)), (5, .one (.pt 1 0 0 0)), (6, vi x1), (11, .ag [cb z5, ck .u64 z6, ck .u64 z7, ck .u64 z8, ck .u64 z9])] (c_value_wide_times _ _ _ c9) ?_
    refine zg [4, 5] 1 [2,3,4,5,6] (zd (hK8 _ _ (zq fun K10 hK10 => ?_)))
    have hJ1 : ∀ (z10 : Int), value_wide_quo_j1 (value_wide_quo_l1 p1 p2 k1) p2 z1 z2 z3 z4 x1 r1 z10 = some r → ∀ fr1 st1, Sub 61 0 [] fr1 st1 (qa1405 p1 p2 x1) [.box (qa1389 z1 z2 z3 z4), .box [cb r1.neg, ck .u64 z10, ck .u64 r1.size.2.1, ck .u64 r1.size.2.2.1, ck .u64 r1.size.2.2.2]] → K10 fr1 st1 := by
     intro z10 h fr1 st1 hS
     unfold value_wide_quo_j1 at h
     refine hK10 _ _ (XW.sub hS ?_)
     refine zq fun K31 hK31 => ?_
     obtain ⟨r2, c32, h⟩ := zB h
     refine zr (zu [4, 5] 2 [2,3,4,5,6,28,29] [(qa1382 p2)] (za (c_value_compareSize _ _ _ c32) ?_))
     refine zv [4, 5] 1 [2,3,4,5,6,31] [] [(2, .one (.pv (.rp [(qa1381 p1)] 0 0))), (3, .one (.pv (.rp [(qa1382 p2)] 0 0))), (4, .one (.pt 0 0 0 0)), (5, .one (.pt 1 0 0 0)), (6, vi x1), (31, vb (decide ((0 : Int) ≤ r2)))] [.box (qa1389 z1 z2 z3 z4), .box [cb r1.neg, ck .u64 z10, ck .u64 r1.size.2.1, ck .u64 r1.size.2.2.1, ck .u64 r1.size.2.2.2]] ?_
     refine zd (hK31 _ _ (zC h (fun b33 h => ?_) (fun b33 h => ?_)))
     ·refine zq fun K34 hK34 => ?_
      obtain ⟨r3, c35, h⟩ := zB h
      refine zr (zu [4, 5] 6 [2,3,4,5,6,34,37] [(qa1382 p2)] (za (c_value_wide_minus BIG _ _ _ c35) ?_))
      refine zv [4, 5] 1 [2,3,4,5,6] [] (qa1405 p1 p2 x1) [.box (qa1389 z1 z2 z3 z4), .box (qa1395 r3)] ?_
      refine zd (hK34 _ _ ?_)
      rcases zW h with ⟨b48, h⟩ | ⟨b48, h⟩
      ·obtain ⟨g49, h⟩ := zG h
       obtain ⟨y19, hy50, h⟩ := zB h
       obtain ⟨y20, hy51, h⟩ := zB h
       refine zw 10 [(48, .one (.pt 0 0 0 1)), (47, vk .u64 y20), (46, vk .u64 y19), (45, vi (x1.tmod (64 : Int))), (44, vi x1), (43, vk .u64 z1), (42, .one (.pt 0 0 0 1)), (41, .one (.pt 0 0 0 1)), (40, vi (0 : Int)), (39, vi x1), (2, .one (.pv (.rp [(qa1381 p1)] 0 0))), (3, .one (.pv (.rp [(qa1382 p2)] 0 0))), (4, .one (.pt 0 0 0 0)), (5, .one (.pt 1 0 0 0)), (6, vi x1)] ?_ ?_
       ·refine zyp 3 [] [(41, .one (.pt 0 0 0 1)), (40, vi (IntKind.i64.wrap (x1.tdiv (64 : Int)))), (39, vi x1), (2, .one (.pv (.rp [[.s (.bool p1.neg), .s (.int .u64 p1.size.1), .s (.int .u64 p1.size.2.1), .s (.int .u64 p1.size.2.2.1), .s (.int .u64 p1.size.2.2.2)]] 0 0))), (3, .one (.pv (.rp [[.s (.bool p2.neg), .s (.int .u64 p2.size.1), .s (.int .u64 p2.size.2.1), .s (.int .u64 p2.size.2.2.1), .s (.int .u64 p2.size.2.2.2)]] 0 0))), (4, .one (.pt 0 0 0 0)), (5, .one (.pt 1 0 0 0)), (6, vi x1)] [(64 : Int) ≠ 0] (⟨by decide, trivial⟩) ?_
        refine DX.eq (fr1 := [(41, .one (.pt 0 0 0 1)), (40, vi (0 : Int)), (39, vi x1), (2, .one (.pv (.rp [[.s (.bool p1.neg), .s (.int .u64 p1.size.1), .s (.int .u64 p1.size.2.1), .s (.int .u64 p1.size.2.2.1), .s (.int .u64 p1.size.2.2.2)]] 0 0))), (3, .one (.pv (.rp [[.s (.bool p2.neg), .s (.int .u64 p2.size.1), .s (.int .u64 p2.size.2.1), .s (.int .u64 p2.size.2.2.1), .s (.int .u64 p2.size.2.2.2)]] 0 0))), (4, .one (.pt 0 0 0 0)), (5, .one (.pt 1 0 0 0)), (6, vi x1)]) (by rw [eq_of_beq b48]) ?_
        refine zyp 5 [] [(46, vk .u64 (IntKind.u64.wrap ((1 : Int) * 2 ^ (min (x1.tmod (64 : Int)).toNat (IntKind.u64).bits)))), (45, vi (x1.tmod (64 : Int))), (44, vi x1), (43, vk .u64 z1), (42, .one (.pt 0 0 0 1)), (41, .one (.pt 0 0 0 1)), (40, vi (0 : Int)), (39, vi x1), (2, .one (.pv (.rp [[.s (.bool p1.neg), .s (.int .u64 p1.size.1), .s (.int .u64 p1.size.2.1), .s (.int .u64 p1.size.2.2.1), .s (.int .u64 p1.size.2.2.2)]] 0 0))), (3, .one (.pv (.rp [[.s (.bool p2.neg), .s (.int .u64 p2.size.1), .s (.int .u64 p2.size.2.1), .s (.int .u64 p2.size.2.2.1), .s (.int .u64 p2.size.2.2.2)]] 0 0))), (4, .one (.pt 0 0 0 0)), (5, .one (.pt 1 0 0 0)), (6, vi x1)] [0 ≤ (0 : Int) ∧ (0 : Int) < 4, (64 : Int) ≠ 0, 0 ≤ (x1.tmod (64 : Int))] (⟨by decide, by decide, g49, trivial⟩) ?_
        rw [show (IntKind.u64.wrap ((1 : Int) * 2 ^ (min (x1.tmod (64 : Int)).toNat (IntKind.u64).bits))) = y19 from Option.some.inj hy50]
        refine zyv 1 [] [(47, vk .u64 (IntKind.u64.wrap (BitVec.ofInt (IntKind.u64).bits z1 ||| BitVec.ofInt (IntKind.u64).bits y19).toNat)), (46, vk .u64 y19), (45, vi (x1.tmod (64 : Int))), (44, vi x1), (43, vk .u64 z1), (42, .one (.pt 0 0 0 1)), (41, .one (.pt 0 0 0 1)), (40, vi (0 : Int)), (39, vi x1), (2, .one (.pv (.rp [[.s (.bool p1.neg), .s (.int .u64 p1.size.1), .s (.int .u64 p1.size.2.1), .s (.int .u64 p1.size.2.2.1), .s (.int .u64 p1.size.2.2.2)]] 0 0))), (3, .one (.pv (.rp [[.s (.bool p2.neg), .s (.int .u64 p2.size.1), .s (.int .u64 p2.size.2.1), .s (.int .u64 p2.size.2.2.1), .s (.int .u64 p2.size.2.2.2)]] 0 0))), (4, .one (.pt 0 0 0 0)), (5, .one (.pt 1 0 0 0)), (6, vi x1)] ?_
        rw [show (IntKind.u64.wrap (BitVec.ofInt (IntKind.u64).bits z1 ||| BitVec.ofInt (IntKind.u64).bits y19).toNat) = y20 from Option.some.inj hy51]
        exact zyg 1 zyd
       exact zo [4, 5] 2 [2,3,4,5,6] [] [0 ≤ (0 : Int) ∧ (0 : Int) < 4] (⟨by decide, trivial⟩) (zd (hJ2 y20 z2 z3 z4 r3.neg r3.size.1 r3.size.2.1 r3.size.2.2.1 r3.size.2.2.2 h _ _ (zk [2,3,4,5,6])))
      ·rcases zW h with ⟨b44, h⟩ | ⟨b44, h⟩
       ·obtain ⟨g45, h⟩ := zG h
        obtain ⟨y17, hy46, h⟩ := zB h
        obtain ⟨y18, hy47, h⟩ := zB h
        refine zw 10 [(48, .one (.pt 0 0 0 1)), (47, vk .u64 y18), (46, vk .u64 y17), (45, vi (x1.tmod (64 : Int))), (44, vi x1), (43, vk .u64 z2), (42, .one (.pt 0 0 0 2)), (41, .one (.pt 0 0 0 1)), (40, vi (1 : Int)), (39, vi x1), (2, .one (.pv (.rp [(qa1381 p1)] 0 0))), (3, .one (.pv (.rp [(qa1382 p2)] 0 0))), (4, .one (.pt 0 0 0 0)), (5, .one (.pt 1 0 0 0)), (6, vi x1)] ?_ ?_
        ·refine zyp 3 [] [(41, .one (.pt 0 0 0 1)), (40, vi (IntKind.i64.wrap (x1.tdiv (64 : Int)))), (39, vi x1), (2, .one (.pv (.rp [[.s (.bool p1.neg), .s (.int .u64 p1.size.1), .s (.int .u64 p1.size.2.1), .s (.int .u64 p1.size.2.2.1), .s (.int .u64 p1.size.2.2.2)]] 0 0))), (3, .one (.pv (.rp [[.s (.bool p2.neg), .s (.int .u64 p2.size.1), .s (.int .u64 p2.size.2.1), .s (.int .u64 p2.size.2.2.1), .s (.int .u64 p2.size.2.2.2)]] 0 0))), (4, .one (.pt 0 0 0 0)), (5, .one (.pt 1 0 0 0)), (6, vi x1)] [(64 : Int) ≠ 0] (⟨by decide, trivial⟩) ?_
         refine DX.eq (fr1 := [(41, .one (.pt 0 0 0 1)), (40, vi (1 : Int)), (39, vi x1), (2, .one (.pv (.rp [[.s (.bool p1.neg), .s (.int .u64 p1.size.1), .s (.int .u64 p1.size.2.1), .s (.int .u64 p1.size.2.2.1), .s (.int .u64 p1.size.2.2.2)]] 0 0))), (3, .one (.pv (.rp [[.s (.bool p2.neg), .s (.int .u64 p2.size.1), .s (.int .u64 p2.size.2.1), .s (.int .u64 p2.size.2.2.1), .s (.int .u64 p2.size.2.2.2)]] 0 0))), (4, .one (.pt 0 0 0 0)), (5, .one (.pt 1 0 0 0)), (6, vi x1)]) (by rw [eq_of_beq b44]) ?_
         refine zyp 5 [] [(46, vk .u64 (IntKind.u64.wrap ((1 : Int) * 2 ^ (min (x1.tmod (64 : Int)).toNat (IntKind.u64).bits)))), (45, vi (x1.tmod (64 : Int))), (44, vi x1), (43, vk .u64 z2), (42, .one (.pt 0 0 0 2)), (41, .one (.pt 0 0 0 1)), (40, vi (1 : Int)), (39, vi x1), (2, .one (.pv (.rp [[.s (.bool p1.neg), .s (.int .u64 p1.size.1), .s (.int .u64 p1.size.2.1), .s (.int .u64 p1.size.2.2.1), .s (.int .u64 p1.size.2.2.2)]] 0 0))), (3, .one (.pv (.rp [[.s (.bool p2.neg), .s (.int .u64 p2.size.1), .s (.int .u64 p2.size.2.1), .s (.int .u64 p2.size.2.2.1), .s (.int .u64 p2.size.2.2.2)]] 0 0))), (4, .one (.pt 0 0 0 0)), (5, .one (.pt 1 0 0 0)), (6, vi x1)] [0 ≤ (1 : Int) ∧ (1 : Int) < 4, (64 : Int) ≠ 0, 0 ≤ (x1.tmod (64 : Int))] (⟨by decide, by decide, g45, trivial⟩) ?_
         rw [show (IntKind.u64.wrap ((1 : Int) * 2 ^ (min (x1.tmod (64 : Int)).toNat (IntKind.u64).bits))) = y17 from Option.some.inj hy46]
         refine zyv 1 [] [(47, vk .u64 (IntKind.u64.wrap (BitVec.ofInt (IntKind.u64).bits z2 ||| BitVec.ofInt (IntKind.u64).bits y17).toNat)), (46, vk .u64 y17), (45, vi (x1.tmod (64 : Int))), (44, vi x1), (43, vk .u64 z2), (42, .one (.pt 0 0 0 2)), (41, .one (.pt 0 0 0 1)), (40, vi (1 : Int)), (39, vi x1), (2, .one (.pv (.rp [[.s (.bool p1.neg), .s (.int .u64 p1.size.1), .s (.int .u64 p1.size.2.1), .s (.int .u64 p1.size.2.2.1), .s (.int .u64 p1.size.2.2.2)]] 0 0))), (3, .one (.pv (.rp [[.s (.bool p2.neg), .s (.int .u64 p2.size.1), .s (.int .u64 p2.size.2.1), .s (.int .u64 p2.size.2.2.1), .s (.int .u64 p2.size.2.2.2)]] 0 0))), (4, .one (.pt 0 0 0 0)), (5, .one (.pt 1 0 0 0)), (6, vi x1)] ?_
         rw [show (IntKind.u64.wrap (BitVec.ofInt (IntKind.u64).bits z2 ||| BitVec.ofInt (IntKind.u64).bits y17).toNat) = y18 from Option.some.inj hy47]
         exact zyg 1 zyd
        exact zo [4, 5] 2 [2,3,4,5,6] [] [0 ≤ (1 : Int) ∧ (1 : Int) < 4] (⟨by decide, trivial⟩) (zd (hJ2 z1 y18 z3 z4 r3.neg r3.size.1 r3.size.2.1 r3.size.2.2.1 r3.size.2.2.2 h _ _ (zk [2,3,4,5,6])))
       ·rcases zW h with ⟨b40, h⟩ | ⟨b40, h⟩
        ·obtain ⟨g41, h⟩ := zG h
         obtain ⟨y15, hy42, h⟩ := zB h
         obtain ⟨y16, hy43, h⟩ := zB h
         refine zw 10 [(48, .one (.pt 0 0 0 1)), (47, vk .u64 y16), (46, vk .u64 y15), (45, vi (x1.tmod (64 : Int))), (44, vi x1), (43, vk .u64 z3), (42, .one (.pt 0 0 0 3)), (41, .one (.pt 0 0 0 1)), (40, vi (2 : Int)), (39, vi x1), (2, .one (.pv (.rp [(qa1381 p1)] 0 0))), (3, .one (.pv (.rp [(qa1382 p2)] 0 0))), (4, .one (.pt 0 0 0 0)), (5, .one (.pt 1 0 0 0)), (6, vi x1)] ?_ ?_
         ·refine zyp 3 [] [(41, .one (.pt 0 0 0 1)), (40, vi (IntKind.i64.wrap (x1.tdiv (64 : Int)))), (39, vi x1), (2, .one (.pv (.rp [[.s (.bool p1.neg), .s (.int .u64 p1.size.1), .s (.int .u64 p1.size.2.1), .s (.int .u64 p1.size.2.2.1), .s (.int .u64 p1.size.2.2.2)]] 0 0))), (3, .one (.pv (.rp [[.s (.bool p2.neg), .s (.int .u64 p2.size.1), .s (.int .u64 p2.size.2.1), .s (.int .u64 p2.size.2.2.1), .s (.int .u64 p2.size.2.2.2)]] 0 0))), (4, .one (.pt 0 0 0 0)), (5, .one (.pt 1 0 0 0)), (6, vi x1)] [(64 : Int) ≠ 0] (⟨by decide, trivial⟩) ?_
          refine DX.eq (fr1 := [(41, .one (.pt 0 0 0 1)), (40, vi (2 : Int)), (39, vi x1), (2, .one (.pv (.rp [[.s (.bool p1.neg), .s (.int .u64 p1.size.1), .s (.int .u64 p1.size.2.1), .s (.int .u64 p1.size.2.2.1), .s (.int .u64 p1.size.2.2.2)]] 0 0))), (3, .one (.pv (.rp [[.s (.bool p2.neg), .s (.int .u64 p2.size.1), .s (.int .u64 p2.size.2.1), .s (.int .u64 p2.size.2.2.1), .s (.int .u64 p2.size.2.2.2)]] 0 0))), (4, .one (.pt 0 0 0 0)), (5, .one (.pt 1 0 0 0)), (6, vi x1)]) (by rw [eq_of_beq b40]) ?_
          refine zyp 5 [] [(46, vk .u64 (IntKind.u64.wrap ((1 : Int) * 2 ^ (min (x1.tmod (64 : Int)).toNat (IntKind.u64).bits)))), (45, vi (x1.tmod (64 : Int))), (44, vi x1), (43, vk .u64 z3), (42, .one (.pt 0 0 0 3)), (41, .one (.pt 0 0 0 1)), (40, vi (2 : Int)), (39, vi x1), (2, .one (.pv (.rp [[.s (.bool p1.neg), .s (.int .u64 p1.size.1), .s (.int .u64 p1.size.2.1), .s (.int .u64 p1.size.2.2.1), .s (.int .u64 p1.size.2.2.2)]] 0 0))), (3, .one (.pv (.rp [[.s (.bool p2.neg), .s (.int .u64 p2.size.1), .s (.int .u64 p2.size.2.1), .s (.int .u64 p2.size.2.2.1), .s (.int .u64 p2.size.2.2.2)]] 0 0))), (4, .one (.pt 0 0 0 0)), (5, .one (.pt 1 0 0 0)), (6, vi x1)] [0 ≤ (2 : Int) ∧ (2 : Int) < 4, (64 : Int) ≠ 0, 0 ≤ (x1.tmod (64 : Int))] (⟨by decide, by decide, g41, trivial⟩) ?_
          rw [show (IntKind.u64.wrap ((1 : Int) * 2 ^ (min (x1.tmod (64 : Int)).toNat (IntKind.u64).bits))) = y15 from Option.some.inj hy42]
          refine zyv 1 [] [(47, vk .u64 (IntKind.u64.wrap (BitVec.ofInt (IntKind.u64).bits z3 ||| BitVec.ofInt (IntKind.u64).bits y15).toNat)), (46, vk .u64 y15), (45, vi (x1.tmod (64 : Int))), (44, vi x1), (43, vk .u64 z3), (42, .one (.pt 0 0 0 3)), (41, .one (.pt 0 0 0 1)), (40, vi (2 : Int)), (39, vi x1), (2, .one (.pv (.rp [[.s (.bool p1.neg), .s (.int .u64 p1.size.1), .s (.int .u64 p1.size.2.1), .s (.int .u64 p1.size.2.2.1), .s (.int .u64 p1.size.2.2.2)]] 0 0))), (3, .one (.pv (.rp [[.s (.bool p2.neg), .s (.int .u64 p2.size.1), .s (.int .u64 p2.size.2.1), .s (.int .u64 p2.size.2.2.1), .s (.int .u64 p2.size.2.2.2)]] 0 0))), (4, .one (.pt 0 0 0 0)), (5, .one (.pt 1 0 0 0)), (6, vi x1)] ?_
          rw [show (IntKind.u64.wrap (BitVec.ofInt (IntKind.u64).bits z3 ||| BitVec.ofInt (IntKind.u64).bits y15).toNat) = y16 from Option.some.inj hy43]
          exact zyg 1 zyd
         refine zp [4, 5] 2 [2,3,4,5,6] [] (qa1405 p1 p2 x1) [.box [cb false, ck .u64 z1, ck .u64 z2, ck .u64 y16, ck .u64 z4], .box (qa1395 r3)] [0 ≤ (2 : Int) ∧ (2 : Int) < 4] (⟨by decide, trivial⟩) ?_
         exact zd (hJ2 z1 z2 y16 z4 r3.neg r3.size.1 r3.size.2.1 r3.size.2.2.1 r3.size.2.2.2 h _ _ (zk [2,3,4,5,6]))
        ·rcases zW h with ⟨b36, h⟩ | ⟨b36, h⟩
         ·obtain ⟨g37, h⟩ := zG h
          obtain ⟨y13, hy38, h⟩ := zB h
          obtain ⟨y14, hy39, h⟩ := zB h
          refine zw 10 [(48, .one (.pt 0 0 0 1)), (47, vk .u64 y14), (46, vk .u64 y13), (45, vi (x1.tmod (64 : Int))), (44, vi x1), (43, vk .u64 z4), (42, .one (.pt 0 0 0 4)), (41, .one (.pt 0 0 0 1)), (40, vi (3 : Int)), (39, vi x1), (2, .one (.pv (.rp [(qa1381 p1)] 0 0))), (3, .one (.pv (.rp [(qa1382 p2)] 0 0))), (4, .one (.pt 0 0 0 0)), (5, .one (.pt 1 0 0 0)), (6, vi x1)] ?_ ?_
          ·refine zyp 3 [] [(41, .one (.pt 0 0 0 1)), (40, vi (IntKind.i64.wrap (x1.tdiv (64 : Int)))), (39, vi x1), (2, .one (.pv (.rp [[.s (.bool p1.neg), .s (.int .u64 p1.size.1), .s (.int .u64 p1.size.2.1), .s (.int .u64 p1.size.2.2.1), .s (.int .u64 p1.size.2.2.2)]] 0 0))), (3, .one (.pv (.rp [[.s (.bool p2.neg), .s (.int .u64 p2.size.1), .s (.int .u64 p2.size.2.1), .s (.int .u64 p2.size.2.2.1), .s (.int .u64 p2.size.2.2.2)]] 0 0))), (4, .one (.pt 0 0 0 0)), (5, .one (.pt 1 0 0 0)), (6, vi x1)] [(64 : Int) ≠ 0] (⟨by decide, trivial⟩) ?_
           refine DX.eq (fr1 := [(41, .one (.pt 0 0 0 1)), (40, vi (3 : Int)), (39, vi x1), (2, .one (.pv (.rp [[.s (.bool p1.neg), .s (.int .u64 p1.size.1), .s (.int .u64 p1.size.2.1), .s (.int .u64 p1.size.2.2.1), .s (.int .u64 p1.size.2.2.2)]] 0 0))), (3, .one (.pv (.rp [[.s (.bool p2.neg), .s (.int .u64 p2.size.1), .s (.int .u64 p2.size.2.1), .s (.int .u64 p2.size.2.2.1), .s (.int .u64 p2.size.2.2.2)]] 0 0))), (4, .one (.pt 0 0 0 0)), (5, .one (.pt 1 0 0 0)), (6, vi x1)]) (by rw [eq_of_beq b36]) ?_
           refine zyp 5 [] [(46, vk .u64 (IntKind.u64.wrap ((1 : Int) * 2 ^ (min (x1.tmod (64 : Int)).toNat (IntKind.u64).bits)))), (45, vi (x1.tmod (64 : Int))), (44, vi x1), (43, vk .u64 z4), (42, .one (.pt 0 0 0 4)), (41, .one (.pt 0 0 0 1)), (40, vi (3 : Int)), (39, vi x1), (2, .one (.pv (.rp [[.s (.bool p1.neg), .s (.int .u64 p1.size.1), .s (.int .u64 p1.size.2.1), .s (.int .u64 p1.size.2.2.1), .s (.int .u64 p1.size.2.2.2)]] 0 0))), (3, .one (.pv (.rp [[.s (.bool p2.neg), .s (.int .u64 p2.size.1), .s (.int .u64 p2.size.2.1), .s (.int .u64 p2.size.2.2.1), .s (.int .u64 p2.size.2.2.2)]] 0 0))), (4, .one (.pt 0 0 0 0)), (5, .one (.pt 1 0 0 0)), (6, vi x1)] [0 ≤ (3 : Int) ∧ (3 : Int) < 4, (64 : Int) ≠ 0, 0 ≤ (x1.tmod (64 : Int))] (⟨by decide, by decide, g37, trivial⟩) ?_
           rw [show (IntKind.u64.wrap ((1 : Int) * 2 ^ (min (x1.tmod (64 : Int)).toNat (IntKind.u64).bits))) = y13 from Option.some.inj hy38]
           refine zyv 1 [] [(47, vk .u64 (IntKind.u64.wrap (BitVec.ofInt (IntKind.u64).bits z4 ||| BitVec.ofInt (IntKind.u64).bits y13).toNat)), (46, vk .u64 y13), (45, vi (x1.tmod (64 : Int))), (44, vi x1), (43, vk .u64 z4), (42, .one (.pt 0 0 0 4)), (41, .one (.pt 0 0 0 1)), (40, vi (3 : Int)), (39, vi x1), (2, .one (.pv (.rp [[.s (.bool p1.neg), .s (.int .u64 p1.size.1), .s (.int .u64 p1.size.2.1), .s (.int .u64 p1.size.2.2.1), .s (.int .u64 p1.size.2.2.2)]] 0 0))), (3, .one (.pv (.rp [[.s (.bool p2.neg), .s (.int .u64 p2.size.1), .s (.int .u64 p2.size.2.1), .s (.int .u64 p2.size.2.2.1), .s (.int .u64 p2.size.2.2.2)]] 0 0))), (4, .one (.pt 0 0 0 0)), (5, .one (.pt 1 0 0 0)), (6, vi x1)] ?_
           rw [show (IntKind.u64.wrap (BitVec.ofInt (IntKind.u64).bits z4 ||| BitVec.ofInt (IntKind.u64).bits y13).toNat) = y14 from Option.some.inj hy39]
           exact zyg 1 zyd
          exact zo [4, 5] 2 [2,3,4,5,6] [] [0 ≤ (3 : Int) ∧ (3 : Int) < 4] (⟨by decide, trivial⟩) (zd (hJ2 z1 z2 z3 y14 r3.neg r3.size.1 r3.size.2.1 r3.size.2.2.1 r3.size.2.2.2 h _ _ (zk [2,3,4,5,6])))
         ·cases h
     ·exact zs (hJ2 z1 z2 z3 z4 r1.neg z10 r1.size.2.1 r1.size.2.2.1 r1.size.2.2.2 h _ _ (zk [2,3,4,5,6]))
    rcases zW h with ⟨b26, h⟩ | ⟨b26, h⟩
    ·obtain ⟨g27, h⟩ := zG h
     obtain ⟨y10, hy28, h⟩ := zB h
     obtain ⟨y11, hy29, h⟩ := zB h
     obtain ⟨y12, hy30, h⟩ := zB h
     refine zw 14 [(26, .one (.pt 1 0 0 1)), (25, vk .u64 y12), (24, vk .u64 y11), (23, vk .u64 y10), (22, vi (x1.tmod (64 : Int))), (21, vi x1), (20, vk .u64 p1.size.1), (19, .one (.pv (.rp [(qa1381 p1)] 0 1))), (18, .one (.pv (.rp [(qa1381 p1)] 0 1))), (17, vi (0 : Int)), (16, vi x1), (15, vk .u64 r1.size.1), (14, .one (.pt 1 0 0 1)), (13, .one (.pt 1 0 0 1)), (2, .one (.pv (.rp [(qa1381 p1)] 0 0))), (3, .one (.pv (.rp [(qa1382 p2)] 0 0))), (4, .one (.pt 0 0 0 0)), (5, .one (.pt 1 0 0 0)), (6, vi x1)] ?_ ?_
     ·refine zyp 6 [] [(18, .one (.pv (.rp [[.s (.bool p1.neg), .s (.int .u64 p1.size.1), .s (.int .u64 p1.size.2.1), .s (.int .u64 p1.size.2.2.1), .s (.int .u64 p1.size.2.2.2)]] 0 1))), (17, vi (IntKind.i64.wrap (x1.tdiv (64 : Int)))), (16, vi x1), (15, vk .u64 r1.size.1), (14, .one (.pt 1 0 0 1)), (13, .one (.pt 1 0 0 1)), (2, .one (.pv (.rp [[.s (.bool p1.neg), .s (.int .u64 p1.size.1), .s (.int .u64 p1.size.2.1), .s (.int .u64 p1.size.2.2.1), .s (.int .u64 p1.size.2.2.2)]] 0 0))), (3, .one (.pv (.rp [[.s (.bool p2.neg), .s (.int .u64 p2.size.1), .s (.int .u64 p2.size.2.1), .s (.int .u64 p2.size.2.2.1), .s (.int .u64 p2.size.2.2.2)]] 0 0))), (4, .one (.pt 0 0 0 0)), (5, .one (.pt 1 0 0 0)), (6, vi x1)] [0 ≤ (0 : Int) ∧ (0 : Int) < 4, (64 : Int) ≠ 0] (⟨by decide, by decide, trivial⟩) ?_
      refine DX.eq (fr1 := [(18, .one (.pv (.rp [[.s (.bool p1.neg), .s (.int .u64 p1.size.1), .s (.int .u64 p1.size.2.1), .s (.int .u64 p1.size.2.2.1), .s (.int .u64 p1.size.2.2.2)]] 0 1))), (17, vi (0 : Int)), (16, vi x1), (15, vk .u64 r1.size.1), (14, .one (.pt 1 0 0 1)), (13, .one (.pt 1 0 0 1)), (2, .one (.pv (.rp [[.s (.bool p1.neg), .s (.int .u64 p1.size.1), .s (.int .u64 p1.size.2.1), .s (.int .u64 p1.size.2.2.1), .s (.int .u64 p1.size.2.2.2)]] 0 0))), (3, .one (.pv (.rp [[.s (.bool p2.neg), .s (.int .u64 p2.size.1), .s (.int .u64 p2.size.2.1), .s (.int .u64 p2.size.2.2.1), .s (.int .u64 p2.size.2.2.2)]] 0 0))), (4, .one (.pt 0 0 0 0)), (5, .one (.pt 1 0 0 0)), (6, vi x1)]) (by rw [eq_of_beq b26]) ?_
      refine zyp 5 [[.s (.bool p1.neg), .s (.int .u64 p1.size.1), .s (.int .u64 p1.size.2.1), .s (.int .u64 p1.size.2.2.1), .s (.int .u64 p1.size.2.2.2)]] [(23, vk .u64 (p1.size.1.fdiv (2 ^ (min (x1.tmod (64 : Int)).toNat (IntKind.u64).bits)))), (22, vi (x1.tmod (64 : Int))), (21, vi x1), (20, vk .u64 p1.size.1), (19, .one (.pv (.rp [[.s (.bool p1.neg), .s (.int .u64 p1.size.1), .s (.int .u64 p1.size.2.1), .s (.int .u64 p1.size.2.2.1), .s (.int .u64 p1.size.2.2.2)]] 0 1))), (18, .one (.pv (.rp [[.s (.bool p1.neg), .s (.int .u64 p1.size.1), .s (.int .u64 p1.size.2.1), .s (.int .u64 p1.size.2.2.1), .s (.int .u64 p1.size.2.2.2)]] 0 1))), (17, vi (0 : Int)), (16, vi x1), (15, vk .u64 r1.size.1), (14, .one (.pt 1 0 0 1)), (13, .one (.pt 1 0 0 1)), (2, .one (.pv (.rp [[.s (.bool p1.neg), .s (.int .u64 p1.size.1), .s (.int .u64 p1.size.2.1), .s (.int .u64 p1.size.2.2.1), .s (.int .u64 p1.size.2.2.2)]] 0 0))), (3, .one (.pv (.rp [[.s (.bool p2.neg), .s (.int .u64 p2.size.1), .s (.int .u64 p2.size.2.1), .s (.int .u64 p2.size.2.2.1), .s (.int .u64 p2.size.2.2.2)]] 0 0))), (4, .one (.pt 0 0 0 0)), (5, .one (.pt 1 0 0 0)), (6, vi x1)] [0 ≤ (0 : Int) ∧ (0 : Int) < 4, ([[.s (.bool p1.neg), .s (.int .u64 p1.size.1), .s (.int .u64 p1.size.2.1), .s (.int .u64 p1.size.2.2.1), .s (.int .u64 p1.size.2.2.2)]] : List (List PV))[0]? = some [.s (.bool p1.neg), .s (.int .u64 p1.size.1), .s (.int .u64 p1.size.2.1), .s (.int .u64 p1.size.2.2.1), .s (.int .u64 p1.size.2.2.2)], (64 : Int) ≠ 0, 0 ≤ (x1.tmod (64 : Int))] (⟨by decide, rfl, by decide, g27, trivial⟩) ?_
      rw [show (p1.size.1.fdiv (2 ^ (min (x1.tmod (64 : Int)).toNat (IntKind.u64).bits))) = y10 from Option.some.inj hy28]
      refine zyv 1 [] [(24, vk .u64 (IntKind.u64.wrap (BitVec.ofInt (IntKind.u64).bits y10 &&& BitVec.ofInt (IntKind.u64).bits (1 : Int)).toNat)), (23, vk .u64 y10), (22, vi (x1.tmod (64 : Int))), (21, vi x1), (20, vk .u64 p1.size.1), (19, .one (.pv (.rp [[.s (.bool p1.neg), .s (.int .u64 p1.size.1), .s (.int .u64 p1.size.2.1), .s (.int .u64 p1.size.2.2.1), .s (.int .u64 p1.size.2.2.2)]] 0 1))), (18, .one (.pv (.rp [[.s (.bool p1.neg), .s (.int .u64 p1.size.1), .s (.int .u64 p1.size.2.1), .s (.int .u64 p1.size.2.2.1), .s (.int .u64 p1.size.2.2.2)]] 0 1))), (17, vi (0 : Int)), (16, vi x1), (15, vk .u64 r1.size.1), (14, .one (.pt 1 0 0 1)), (13, .one (.pt 1 0 0 1)), (2, .one (.pv (.rp [[.s (.bool p1.neg), .s (.int .u64 p1.size.1), .s (.int .u64 p1.size.2.1), .s (.int .u64 p1.size.2.2.1), .s (.int .u64 p1.size.2.2.2)]] 0 0))), (3, .one (.pv (.rp [[.s (.bool p2.neg), .s (.int .u64 p2.size.1), .s (.int .u64 p2.size.2.1), .s (.int .u64 p2.size.2.2.1), .s (.int .u64 p2.size.2.2.2)]] 0 0))), (4, .one (.pt 0 0 0 0)), (5, .one (.pt 1 0 0 0)), (6, vi x1)] ?_
      rw [show (IntKind.u64.wrap (BitVec.ofInt (IntKind.u64).bits y10 &&& BitVec.ofInt (IntKind.u64).bits (1 : Int)).toNat) = y11 from Option.some.inj hy29]
      refine zyv 1 [] [(25, vk .u64 (IntKind.u64.wrap (BitVec.ofInt (IntKind.u64).bits r1.size.1 ||| BitVec.ofInt (IntKind.u64).bits y11).toNat)), (24, vk .u64 y11), (23, vk .u64 y10), (22, vi (x1.tmod (64 : Int))), (21, vi x1), (20, vk .u64 p1.size.1), (19, .one (.pv (.rp [[.s (.bool p1.neg), .s (.int .u64 p1.size.1), .s (.int .u64 p1.size.2.1), .s (.int .u64 p1.size.2.2.1), .s (.int .u64 p1.size.2.2.2)]] 0 1))), (18, .one (.pv (.rp [[.s (.bool p1.neg), .s (.int .u64 p1.size.1), .s (.int .u64 p1.size.2.1), .s (.int .u64 p1.size.2.2.1), .s (.int .u64 p1.size.2.2.2)]] 0 1))), (17, vi (0 : Int)), (16, vi x1), (15, vk .u64 r1.size.1), (14, .one (.pt 1 0 0 1)), (13, .one (.pt 1 0 0 1)), (2, .one (.pv (.rp [[.s (.bool p1.neg), .s (.int .u64 p1.size.1), .s (.int .u64 p1.size.2.1), .s (.int .u64 p1.size.2.2.1), .s (.int .u64 p1.size.2.2.2)]] 0 0))), (3, .one (.pv (.rp [[.s (.bool p2.neg), .s (.int .u64 p2.size.1), .s (.int .u64 p2.size.2.1), .s (.int .u64 p2.size.2.2.1), .s (.int .u64 p2.size.2.2.2)]] 0 0))), (4, .one (.pt 0 0 0 0)), (5, .one (.pt 1 0 0 0)), (6, vi x1)] ?_
      rw [show (IntKind.u64.wrap (BitVec.ofInt (IntKind.u64).bits r1.size.1 ||| BitVec.ofInt (IntKind.u64).bits y11).toNat) = y12 from Option.some.inj hy30]
      exact zyg 1 zyd
     exact zo [4, 5] 2 [2,3,4,5,6] [] [0 ≤ (0 : Int) ∧ (0 : Int) < 4] (⟨by decide, trivial⟩) (zd (hJ1 y12 h _ _ (zk [2,3,4,5,6])))
    ·rcases zW h with ⟨b21, h⟩ | ⟨b21, h⟩
     ·obtain ⟨g22, h⟩ := zG h
      obtain ⟨y7, hy23, h⟩ := zB h
      obtain ⟨y8, hy24, h⟩ := zB h
      obtain ⟨y9, hy25, h⟩ := zB h
      refine zw 14 [(26, .one (.pt 1 0 0 1)), (25, vk .u64 y9), (24, vk .u64 y8), (23, vk .u64 y7), (22, vi (x1.tmod (64 : Int))), (21, vi x1), (20, vk .u64 p1.size.2.1), (19, .one (.pv (.rp [(qa1381 p1)] 0 2))), (18, .one (.pv (.rp [(qa1381 p1)] 0 1))), (17, vi (1 : Int)), (16, vi x1), (15, vk .u64 r1.size.1), (14, .one (.pt 1 0 0 1)), (13, .one (.pt 1 0 0 1)), (2, .one (.pv (.rp [(qa1381 p1)] 0 0))), (3, .one (.pv (.rp [(qa1382 p2)] 0 0))), (4, .one (.pt 0 0 0 0)), (5, .one (.pt 1 0 0 0)), (6, vi x1)] ?_ ?_
      ·refine zyp 6 [] [(18, .one (.pv (.rp [[.s (.bool p1.neg), .s (.int .u64 p1.size.1), .s (.int .u64 p1.size.2.1), .s (.int .u64 p1.size.2.2.1), .s (.int .u64 p1.size.2.2.2)]] 0 1))), (17, vi (IntKind.i64.wrap (x1.tdiv (64 : Int)))), (16, vi x1), (15, vk .u64 r1.size.1), (14, .one (.pt 1 0 0 1)), (13, .one (.pt 1 0 0 1)), (2, .one (.pv (.rp [[.s (.bool p1.neg), .s (.int .u64 p1.size.1), .s (.int .u64 p1.size.2.1), .s (.int .u64 p1.size.2.2.1), .s (.int .u64 p1.size.2.2.2)]] 0 0))), (3, .one (.pv (.rp [[.s (.bool p2.neg), .s (.int .u64 p2.size.1), .s (.int .u64 p2.size.2.1), .s (.int .u64 p2.size.2.2.1), .s (.int .u64 p2.size.2.2.2)]] 0 0))), (4, .one (.pt 0 0 0 0)), (5, .one (.pt 1 0 0 0)), (6, vi x1)] [0 ≤ (0 : Int) ∧ (0 : Int) < 4, (64 : Int) ≠ 0] (⟨by decide, by decide, trivial⟩) ?_
       refine DX.eq (fr1 := [(18, .one (.pv (.rp [[.s (.bool p1.neg), .s (.int .u64 p1.size.1), .s (.int .u64 p1.size.2.1), .s (.int .u64 p1.size.2.2.1), .s (.int .u64 p1.size.2.2.2)]] 0 1))), (17, vi (1 : Int)), (16, vi x1), (15, vk .u64 r1.size.1), (14, .one (.pt 1 0 0 1)), (13, .one (.pt 1 0 0 1)), (2, .one (.pv (.rp [[.s (.bool p1.neg), .s (.int .u64 p1.size.1), .s (.int .u64 p1.size.2.1), .s (.int .u64 p1.size.2.2.1), .s (.int .u64 p1.size.2.2.2)]] 0 0))), (3, .one (.pv (.rp [[.s (.bool p2.neg), .s (.int .u64 p2.size.1), .s (.int .u64 p2.size.2.1), .s (.int .u64 p2.size.2.2.1), .s (.int .u64 p2.size.2.2.2)]] 0 0))), (4, .one (.pt 0 0 0 0)), (5, .one (.pt 1 0 0 0)), (6, vi x1)]) (by rw [eq_of_beq b21]) ?_
       refine zyp 5 [[.s (.bool p1.neg), .s (.int .u64 p1.size.1), .s (.int .u64 p1.size.2.1), .s (.int .u64 p1.size.2.2.1), .s (.int .u64 p1.size.2.2.2)]] [(23, vk .u64 (p1.size.2.1.fdiv (2 ^ (min (x1.tmod (64 : Int)).toNat (IntKind.u64).bits)))), (22, vi (x1.tmod (64 : Int))), (21, vi x1), (20, vk .u64 p1.size.2.1), (19, .one (.pv (.rp [[.s (.bool p1.neg), .s (.int .u64 p1.size.1), .s (.int .u64 p1.size.2.1), .s (.int .u64 p1.size.2.2.1), .s (.int .u64 p1.size.2.2.2)]] 0 2))), (18, .one (.pv (.rp [[.s (.bool p1.neg), .s (.int .u64 p1.size.1), .s (.int .u64 p1.size.2.1), .s (.int .u64 p1.size.2.2.1), .s (.int .u64 p1.size.2.2.2)]] 0 1))), (17, vi (1 : Int)), (16, vi x1), (15, vk .u64 r1.size.1), (14, .one (.pt 1 0 0 1)), (13, .one (.pt 1 0 0 1)), (2, .one (.pv (.rp [[.s (.bool p1.neg), .s (.int .u64 p1.size.1), .s (.int .u64 p1.size.2.1), .s (.int .u64 p1.size.2.2.1), .s (.int .u64 p1.size.2.2.2)]] 0 0))), (3, .one (.pv (.rp [[.s (.bool p2.neg), .s (.int .u64 p2.size.1), .s (.int .u64 p2.size.2.1), .s (.int .u64 p2.size.2.2.1), .s (.int .u64 p2.size.2.2.2)]] 0 0))), (4, .one (.pt 0 0 0 0)), (5, .one (.pt 1 0 0 0)), (6, vi x1)] [0 ≤ (1 : Int) ∧ (1 : Int) < 4, ([[.s (.bool p1.neg), .s (.int .u64 p1.size.1), .s (.int .u64 p1.size.2.1), .s (.int .u64 p1.size.2.2.1), .s (.int .u64 p1.size.2.2.2)]] : List (List PV))[0]? = some [.s (.bool p1.neg), .s (.int .u64 p1.size.1), .s (.int .u64 p1.size.2.1), .s (.int .u64 p1.size.2.2.1), .s (.int .u64 p1.size.2.2.2)], (64 : Int) ≠ 0, 0 ≤ (x1.tmod (64 : Int))] (⟨by decide, rfl, by decide, g22, trivial⟩) ?_
       rw [show (p1.size.2.1.fdiv (2 ^ (min (x1.tmod (64 : Int)).toNat (IntKind.u64).bits))) = y7 from Option.some.inj hy23]
       refine zyv 1 [] [(24, vk .u64 (IntKind.u64.wrap (BitVec.ofInt (IntKind.u64).bits y7 &&& BitVec.ofInt (IntKind.u64).bits (1 : Int)).toNat)), (23, vk .u64 y7), (22, vi (x1.tmod (64 : Int))), (21, vi x1), (20, vk .u64 p1.size.2.1), (19, .one (.pv (.rp [[.s (.bool p1.neg), .s (.int .u64 p1.size.1), .s (.int .u64 p1.size.2.1), .s (.int .u64 p1.size.2.2.1), .s (.int .u64 p1.size.2.2.2)]] 0 2))), (18, .one (.pv (.rp [[.s (.bool p1.neg), .s (.int .u64 p1.size.1), .s (.int .u64 p1.size.2.1), .s (.int .u64 p1.size.2.2.1), .s (.int .u64 p1.size.2.2.2)]] 0 1))), (17, vi (1 : Int)), (16, vi x1), (15, vk .u64 r1.size.1), (14, .one (.pt 1 0 0 1)), (13, .one (.pt 1 0 0 1)), (2, .one (.pv (.rp [[.s (.bool p1.neg), .s (.int .u64 p1.size.1), .s (.int .u64 p1.size.2.1), .s (.int .u64 p1.size.2.2.1), .s (.int .u64 p1.size.2.2.2)]] 0 0))), (3, .one (.pv (.rp [[.s (.bool p2.neg), .s (.int .u64 p2.size.1), .s (.int .u64 p2.size.2.1), .s (.int .u64 p2.size.2.2.1), .s (.int .u64 p2.size.2.2.2)]] 0 0))), (4, .one (.pt 0 0 0 0)), (5, .one (.pt 1 0 0 0)), (6, vi x1)] ?_
       rw [show (IntKind.u64.wrap (BitVec.ofInt (IntKind.u64).bits y7 &&& BitVec.ofInt (IntKind.u64).bits (1 : Int)).toNat) = y8 from Option.some.inj hy24]
       refine zyv 1 [] [(25, vk .u64 (IntKind.u64.wrap (BitVec.ofInt (IntKind.u64).bits r1.size.1 ||| BitVec.ofInt (IntKind.u64).bits y8).toNat)), (24, vk .u64 y8), (23, vk .u64 y7), (22, vi (x1.tmod (64 : Int))), (21, vi x1), (20, vk .u64 p1.size.2.1), (19, .one (.pv (.rp [[.s (.bool p1.neg), .s (.int .u64 p1.size.1), .s (.int .u64 p1.size.2.1), .s (.int .u64 p1.size.2.2.1), .s (.int .u64 p1.size.2.2.2)]] 0 2))), (18, .one (.pv (.rp [[.s (.bool p1.neg), .s (.int .u64 p1.size.1), .s (.int .u64 p1.size.2.1), .s (.int .u64 p1.size.2.2.1), .s (.int .u64 p1.size.2.2.2)]] 0 1))), (17, vi (1 : Int)), (16, vi x1), (15, vk .u64 r1.size.1), (14, .one (.pt 1 0 0 1)), (13, .one (.pt 1 0 0 1)), (2, .one (.pv (.rp [[.s (.bool p1.neg), .s (.int .u64 p1.size.1), .s (.int .u64 p1.size.2.1), .s (.int .u64 p1.size.2.2.1), .s (.int .u64 p1.size.2.2.2)]] 0 0))), (3, .one (.pv (.rp [[.s (.bool p2.neg), .s (.int .u64 p2.size.1), .s (.int .u64 p2.size.2.1), .s (.int .u64 p2.size.2.2.1), .s (.int .u64 p2.size.2.2.2)]] 0 0))), (4, .one (.pt 0 0 0 0)), (5, .one (.pt 1 0 0 0)), (6, vi x1)] ?_
       rw [show (IntKind.u64.wrap (BitVec.ofInt (IntKind.u64).bits r1.size.1 ||| BitVec.ofInt (IntKind.u64).bits y8).toNat) = y9 from Option.some.inj hy25]
       exact zyg 1 zyd
      refine zp [4, 5] 2 [2,3,4,5,6] [] (qa1405 p1 p2 x1) [.box (qa1389 z1 z2 z3 z4), .box [cb r1.neg, ck .u64 y9, ck .u64 r1.size.2.1, ck .u64 r1.size.2.2.1, ck .u64 r1.size.2.2.2]] [0 ≤ (0 : Int) ∧ (0 : Int) < 4] (⟨by decide, trivial⟩) ?_
      exact zd (hJ1 y9 h _ _ (zk [2,3,4,5,6]))
     ·rcases zW h with ⟨b16, h⟩ | ⟨b16, h⟩
      ·obtain ⟨g17, h⟩ := zG h
       obtain ⟨y4, hy18, h⟩ := zB h
       obtain ⟨y5, hy19, h⟩ := zB h
       obtain ⟨y6, hy20, h⟩ := zB h
       refine zw 14 [(26, .one (.pt 1 0 0 1)), (25, vk .u64 y6), (24, vk .u64 y5), (23, vk .u64 y4), (22, vi (x1.tmod (64 : Int))), (21, vi x1), (20, vk .u64 p1.size.2.2.1), (19, .one (.pv (.rp [(qa1381 p1)] 0 3))), (18, .one (.pv (.rp [(qa1381 p1)] 0 1))), (17, vi (2 : Int)), (16, vi x1), (15, vk .u64 r1.size.1), (14, .one (.pt 1 0 0 1)), (13, .one (.pt 1 0 0 1)), (2, .one (.pv (.rp [(qa1381 p1)] 0 0))), (3, .one (.pv (.rp [(qa1382 p2)] 0 0))), (4, .one (.pt 0 0 0 0)), (5, .one (.pt 1 0 0 0)), (6, vi x1)] ?_ ?_
       ·refine zyp 6 [] [(18, .one (.pv (.rp [[.s (.bool p1.neg), .s (.int .u64 p1.size.1), .s (.int .u64 p1.size.2.1), .s (.int .u64 p1.size.2.2.1), .s (.int .u64 p1.size.2.2.2)]] 0 1))), (17, vi (IntKind.i64.wrap (x1.tdiv (64 : Int)))), (16, vi x1), (15, vk .u64 r1.size.1), (14, .one (.pt 1 0 0 1)), (13, .one (.pt 1 0 0 1)), (2, .one (.pv (.rp [[.s (.bool p1.neg), .s (.int .u64 p1.size.1), .s (.int .u64 p1.size.2.1), .s (.int .u64 p1.size.2.2.1), .s (.int .u64 p1.size.2.2.2)]] 0 0))), (3, .one (.pv (.rp [[.s (.bool p2.neg), .s (.int .u64 p2.size.1), .s (.int .u64 p2.size.2.1), .s (.int .u64 p2.size.2.2.1), .s (.int .u64 p2.size.2.2.2)]] 0 0))), (4, .one (.pt 0 0 0 0)), (5, .one (.pt 1 0 0 0)), (6, vi x1)] [0 ≤ (0 : Int) ∧ (0 : Int) < 4, (64 : Int) ≠ 0] (⟨by decide, by decide, trivial⟩) ?_
        refine DX.eq (fr1 := [(18, .one (.pv (.rp [[.s (.bool p1.neg), .s (.int .u64 p1.size.1), .s (.int .u64 p1.size.2.1), .s (.int .u64 p1.size.2.2.1), .s (.int .u64 p1.size.2.2.2)]] 0 1))), (17, vi (2 : Int)), (16, vi x1), (15, vk .u64 r1.size.1), (14, .one (.pt 1 0 0 1)), (13, .one (.pt 1 0 0 1)), (2, .one (.pv (.rp [[.s (.bool p1.neg), .s (.int .u64 p1.size.1), .s (.int .u64 p1.size.2.1), .s (.int .u64 p1.size.2.2.1), .s (.int .u64 p1.size.2.2.2)]] 0 0))), (3, .one (.pv (.rp [[.s (.bool p2.neg), .s (.int .u64 p2.size.1), .s (.int .u64 p2.size.2.1), .s (.int .u64 p2.size.2.2.1), .s (.int .u64 p2.size.2.2.2)]] 0 0))), (4, .one (.pt 0 0 0 0)), (5, .one (.pt 1 0 0 0)), (6, vi x1)]) (by rw [eq_of_beq b16]) ?_
        refine zyp 5 [[.s (.bool p1.neg), .s (.int .u64 p1.size.1), .s (.int .u64 p1.size.2.1), .s (.int .u64 p1.size.2.2.1), .s (.int .u64 p1.size.2.2.2)]] [(23, vk .u64 (p1.size.2.2.1.fdiv (2 ^ (min (x1.tmod (64 : Int)).toNat (IntKind.u64).bits)))), (22, vi (x1.tmod (64 : Int))), (21, vi x1), (20, vk .u64 p1.size.2.2.1), (19, .one (.pv (.rp [[.s (.bool p1.neg), .s (.int .u64 p1.size.1), .s (.int .u64 p1.size.2.1), .s (.int .u64 p1.size.2.2.1), .s (.int .u64 p1.size.2.2.2)]] 0 3))), (18, .one (.pv (.rp [[.s (.bool p1.neg), .s (.int .u64 p1.size.1), .s (.int .u64 p1.size.2.1), .s (.int .u64 p1.size.2.2.1), .s (.int .u64 p1.size.2.2.2)]] 0 1))), (17, vi (2 : Int)), (16, vi x1), (15, vk .u64 r1.size.1), (14, .one (.pt 1 0 0 1)), (13, .one (.pt 1 0 0 1)), (2, .one (.pv (.rp [[.s (.bool p1.neg), .s (.int .u64 p1.size.1), .s (.int .u64 p1.size.2.1), .s (.int .u64 p1.size.2.2.1), .s (.int .u64 p1.size.2.2.2)]] 0 0))), (3, .one (.pv (.rp [[.s (.bool p2.neg), .s (.int .u64 p2.size.1), .s (.int .u64 p2.size.2.1), .s (.int .u64 p2.size.2.2.1), .s (.int .u64 p2.size.2.2.2)]] 0 0))), (4, .one (.pt 0 0 0 0)), (5, .one (.pt 1 0 0 0)), (6, vi x1)] [0 ≤ (2 : Int) ∧ (2 : Int) < 4, ([[.s (.bool p1.neg), .s (.int .u64 p1.size.1), .s (.int .u64 p1.size.2.1), .s (.int .u64 p1.size.2.2.1), .s (.int .u64 p1.size.2.2.2)]] : List (List PV))[0]? = some [.s (.bool p1.neg), .s (.int .u64 p1.size.1), .s (.int .u64 p1.size.2.1), .s (.int .u64 p1.size.2.2.1), .s (.int .u64 p1.size.2.2.2)], (64 : Int) ≠ 0, 0 ≤ (x1.tmod (64 : Int))] (⟨by decide, rfl, by decide, g17, trivial⟩) ?_
        rw [show (p1.size.2.2.1.fdiv (2 ^ (min (x1.tmod (64 : Int)).toNat (IntKind.u64).bits))) = y4 from Option.some.inj hy18]
        refine zyv 1 [] [(24, vk .u64 (IntKind.u64.wrap (BitVec.ofInt (IntKind.u64).bits y4 &&& BitVec.ofInt (IntKind.u64).bits (1 : Int)).toNat)), (23, vk .u64 y4), (22, vi (x1.tmod (64 : Int))), (21, vi x1), (20, vk .u64 p1.size.2.2.1), (19, .one (.pv (.rp [[.s (.bool p1.neg), .s (.int .u64 p1.size.1), .s (.int .u64 p1.size.2.1), .s (.int .u64 p1.size.2.2.1), .s (.int .u64 p1.size.2.2.2)]] 0 3))), (18, .one (.pv (.rp [[.s (.bool p1.neg), .s (.int .u64 p1.size.1), .s (.int .u64 p1.size.2.1), .s (.int .u64 p1.size.2.2.1), .s (.int .u64 p1.size.2.2.2)]] 0 1))), (17, vi (2 : Int)), (16, vi x1), (15, vk .u64 r1.size.1), (14, .one (.pt 1 0 0 1)), (13, .one (.pt 1 0 0 1)), (2, .one (.pv (.rp [[.s (.bool p1.neg), .s (.int .u64 p1.size.1), .s (.int .u64 p1.size.2.1), .s (.int .u64 p1.size.2.2.1), .s (.int .u64 p1.size.2.2.2)]] 0 0))), (3, .one (.pv (.rp [[.s (.bool p2.neg), .s (.int .u64 p2.size.1), .s (.int .u64 p2.size.2.1), .s (.int .u64 p2.size.2.2.1), .s (.int .u64 p2.size.2.2.2)]] 0 0))), (4, .one (.pt 0 0 0 0)), (5, .one (.pt 1 0 0 0)), (6, vi x1)] ?_
        rw [show (IntKind.u64.wrap (BitVec.ofInt (IntKind.u64).bits y4 &&& BitVec.ofInt (IntKind.u64).bits (1 : Int)).toNat) = y5 from Option.some.inj hy19]
        refine zyv 1 [] [(25, vk .u64 (IntKind.u64.wrap (BitVec.ofInt (IntKind.u64).bits r1.size.1 ||| BitVec.ofInt (IntKind.u64).bits y5).toNat)), (24, vk .u64 y5), (23, vk .u64 y4), (22, vi (x1.tmod (64 : Int))), (21, vi x1), (20, vk .u64 p1.size.2.2.1), (19, .one (.pv (.rp [[.s (.bool p1.neg), .s (.int .u64 p1.size.1), .s (.int .u64 p1.size.2.1), .s (.int .u64 p1.size.2.2.1), .s (.int .u64 p1.size.2.2.2)]] 0 3))), (18, .one (.pv (.rp [[.s (.bool p1.neg), .s (.int .u64 p1.size.1), .s (.int .u64 p1.size.2.1), .s (.int .u64 p1.size.2.2.1), .s (.int .u64 p1.size.2.2.2)]] 0 1))), (17, vi (2 : Int)), (16, vi x1), (15, vk .u64 r1.size.1), (14, .one (.pt 1 0 0 1)), (13, .one (.pt 1 0 0 1)), (2, .one (.pv (.rp [[.s (.bool p1.neg), .s (.int .u64 p1.size.1), .s (.int .u64 p1.size.2.1), .s (.int .u64 p1.size.2.2.1), .s (.int .u64 p1.size.2.2.2)]] 0 0))), (3, .one (.pv (.rp [[.s (.bool p2.neg), .s (.int .u64 p2.size.1), .s (.int .u64 p2.size.2.1), .s (.int .u64 p2.size.2.2.1), .s (.int .u64 p2.size.2.2.2)]] 0 0))), (4, .one (.pt 0 0 0 0)), (5, .one (.pt 1 0 0 0)), (6, vi x1)] ?_
        rw [show (IntKind.u64.wrap (BitVec.ofInt (IntKind.u64).bits r1.size.1 ||| BitVec.ofInt (IntKind.u64).bits y5).toNat) = y6 from Option.some.inj hy20]
        exact zyg 1 zyd
       exact zo [4, 5] 2 [2,3,4,5,6] [] [0 ≤ (0 : Int) ∧ (0 : Int) < 4] (⟨by decide, trivial⟩) (zd (hJ1 y6 h _ _ (zk [2,3,4,5,6])))
      ·rcases zW h with ⟨b11, h⟩ | ⟨b11, h⟩
       ·obtain ⟨g12, h⟩ := zG h
        obtain ⟨y1, hy13, h⟩ := zB h
        obtain ⟨y2, hy14, h⟩ := zB h
        obtain ⟨y3, hy15, h⟩ := zB h
        refine zw 14 [(26, .one (.pt 1 0 0 1)), (25, vk .u64 y3), (24, vk .u64 y2), (23, vk .u64 y1), (22, vi (x1.tmod (64 : Int))), (21, vi x1), (20, vk .u64 p1.size.2.2.2), (19, .one (.pv (.rp [(qa1381 p1)] 0 4))), (18, .one (.pv (.rp [(qa1381 p1)] 0 1))), (17, vi (3 : Int)), (16, vi x1), (15, vk .u64 r1.size.1), (14, .one (.pt 1 0 0 1)), (13, .one (.pt 1 0 0 1)), (2, .one (.pv (.rp [(qa1381 p1)] 0 0))), (3, .one (.pv (.rp [(qa1382 p2)] 0 0))), (4, .one (.pt 0 0 0 0)), (5, .one (.pt 1 0 0 0)), (6, vi x1)] ?_ ?_
        ·refine zyp 6 [] [(18, .one (.pv (.rp [[.s (.bool p1.neg), .s (.int .u64 p1.size.1), .s (.int .u64 p1.size.2.1), .s (.int .u64 p1.size.2.2.1), .s (.int .u64 p1.size.2.2.2)]] 0 1))), (17, vi (IntKind.i64.wrap (x1.tdiv (64 : Int)))), (16, vi x1), (15, vk .u64 r1.size.1), (14, .one (.pt 1 0 0 1)), (13, .one (.pt 1 0 0 1)), (2, .one (.pv (.rp [[.s (.bool p1.neg), .s (.int .u64 p1.size.1), .s (.int .u64 p1.size.2.1), .s (.int .u64 p1.size.2.2.1), .s (.int .u64 p1.size.2.2.2)]] 0 0))), (3, .one (.pv (.rp [[.s (.bool p2.neg), .s (.int .u64 p2.size.1), .s (.int .u64 p2.size.2.1), .s (.int .u64 p2.size.2.2.1), .s (.int .u64 p2.size.2.2.2)]] 0 0))), (4, .one (.pt 0 0 0 0)), (5, .one (.pt 1 0 0 0)), (6, vi x1)] [0 ≤ (0 : Int) ∧ (0 : Int) < 4, (64 : Int) ≠ 0] (⟨by decide, by decide, trivial⟩) ?_
         refine DX.eq (fr1 := [(18, .one (.pv (.rp [[.s (.bool p1.neg), .s (.int .u64 p1.size.1), .s (.int .u64 p1.size.2.1), .s (.int .u64 p1.size.2.2.1), .s (.int .u64 p1.size.2.2.2)]] 0 1))), (17, vi (3 : Int)), (16, vi x1), (15, vk .u64 r1.size.1), (14, .one (.pt 1 0 0 1)), (13, .one (.pt 1 0 0 1)), (2, .one (.pv (.rp [[.s (.bool p1.neg), .s (.int .u64 p1.size.1), .s (.int .u64 p1.size.2.1), .s (.int .u64 p1.size.2.2.1), .s (.int .u64 p1.size.2.2.2)]] 0 0))), (3, .one (.pv (.rp [[.s (.bool p2.neg), .s (.int .u64 p2.size.1), .s (.int .u64 p2.size.2.1), .s (.int .u64 p2.size.2.2.1), .s (.int .u64 p2.size.2.2.2)]] 0 0))), (4, .one (.pt 0 0 0 0)), (5, .one (.pt 1 0 0 0)), (6, vi x1)]) (by rw [eq_of_beq b11]) ?_
         refine zyp 5 [[.s (.bool p1.neg), .s (.int .u64 p1.size.1), .s (.int .u64 p1.size.2.1), .s (.int .u64 p1.size.2.2.1), .s (.int .u64 p1.size.2.2.2)]] [(23, vk .u64 (p1.size.2.2.2.fdiv (2 ^ (min (x1.tmod (64 : Int)).toNat (IntKind.u64).bits)))), (22, vi (x1.tmod (64 : Int))), (21, vi x1), (20, vk .u64 p1.size.2.2.2), (19, .one (.pv (.rp [[.s (.bool p1.neg), .s (.int .u64 p1.size.1), .s (.int .u64 p1.size.2.1), .s (.int .u64 p1.size.2.2.1), .s (.int .u64 p1.size.2.2.2)]] 0 4))), (18, .one (.pv (.rp [[.s (.bool p1.neg), .s (.int .u64 p1.size.1), .s (.int .u64 p1.size.2.1), .s (.int .u64 p1.size.2.2.1), .s (.int .u64 p1.size.2.2.2)]] 0 1))), (17, vi (3 : Int)), (16, vi x1), (15, vk .u64 r1.size.1), (14, .one (.pt 1 0 0 1)), (13, .one (.pt 1 0 0 1)), (2, .one (.pv (.rp [[.s (.bool p1.neg), .s (.int .u64 p1.size.1), .s (.int .u64 p1.size.2.1), .s (.int .u64 p1.size.2.2.1), .s (.int .u64 p1.size.2.2.2)]] 0 0))), (3, .one (.pv (.rp [[.s (.bool p2.neg), .s (.int .u64 p2.size.1), .s (.int .u64 p2.size.2.1), .s (.int .u64 p2.size.2.2.1), .s (.int .u64 p2.size.2.2.2)]] 0 0))), (4, .one (.pt 0 0 0 0)), (5, .one (.pt 1 0 0 0)), (6, vi x1)] [0 ≤ (3 : Int) ∧ (3 : Int) < 4, ([[.s (.bool p1.neg), .s (.int .u64 p1.size.1), .s (.int .u64 p1.size.2.1), .s (.int .u64 p1.size.2.2.1), .s (.int .u64 p1.size.2.2.2)]] : List (List PV))[0]? = some [.s (.bool p1.neg), .s (.int .u64 p1.size.1), .s (.int .u64 p1.size.2.1), .s (.int .u64 p1.size.2.2.1), .s (.int .u64 p1.size.2.2.2)], (64 : Int) ≠ 0, 0 ≤ (x1.tmod (64 : Int))] (⟨by decide, rfl, by decide, g12, trivial⟩) ?_
         rw [show (p1.size.2.2.2.fdiv (2 ^ (min (x1.tmod (64 : Int)).toNat (IntKind.u64).bits))) = y1 from Option.some.inj hy13]
         refine zyv 1 [] [(24, vk .u64 (IntKind.u64.wrap (BitVec.ofInt (IntKind.u64).bits y1 &&& BitVec.ofInt (IntKind.u64).bits (1 : Int)).toNat)), (23, vk .u64 y1), (22, vi (x1.tmod (64 : Int))), (21, vi x1), (20, vk .u64 p1.size.2.2.2), (19, .one (.pv (.rp [[.s (.bool p1.neg), .s (.int .u64 p1.size.1), .s (.int .u64 p1.size.2.1), .s (.int .u64 p1.size.2.2.1), .s (.int .u64 p1.size.2.2.2)]] 0 4))), (18, .one (.pv (.rp [[.s (.bool p1.neg), .s (.int .u64 p1.size.1), .s (.int .u64 p1.size.2.1), .s (.int .u64 p1.size.2.2.1), .s (.int .u64 p1.size.2.2.2)]] 0 1))), (17, vi (3 : Int)), (16, vi x1), (15, vk .u64 r1.size.1), (14, .one (.pt 1 0 0 1)), (13, .one (.pt 1 0 0 1)), (2, .one (.pv (.rp [[.s (.bool p1.neg), .s (.int .u64 p1.size.1), .s (.int .u64 p1.size.2.1), .s (.int .u64 p1.size.2.2.1), .s (.int .u64 p1.size.2.2.2)]] 0 0))), (3, .one (.pv (.rp [[.s (.bool p2.neg), .s (.int .u64 p2.size.1), .s (.int .u64 p2.size.2.1), .s (.int .u64 p2.size.2.2.1), .s (.int .u64 p2.size.2.2.2)]] 0 0))), (4, .one (.pt 0 0 0 0)), (5, .one (.pt 1 0 0 0)), (6, vi x1)] ?_
         rw [show (IntKind.u64.wrap (BitVec.ofInt (IntKind.u64).bits y1 &&& BitVec.ofInt (IntKind.u64).bits (1 : Int)).toNat) = y2 from Option.some.inj hy14]
         refine zyv 1 [] [(25, vk .u64 (IntKind.u64.wrap (BitVec.ofInt (IntKind.u64).bits r1.size.1 ||| BitVec.ofInt (IntKind.u64).bits y2).toNat)), (24, vk .u64 y2), (23, vk .u64 y1), (22, vi (x1.tmod (64 : Int))), (21, vi x1), (20, vk .u64 p1.size.2.2.2), (19, .one (.pv (.rp [[.s (.bool p1.neg), .s (.int .u64 p1.size.1), .s (.int .u64 p1.size.2.1), .s (.int .u64 p1.size.2.2.1), .s (.int .u64 p1.size.2.2.2)]] 0 4))), (18, .one (.pv (.rp [[.s (.bool p1.neg), .s (.int .u64 p1.size.1), .s (.int .u64 p1.size.2.1), .s (.int .u64 p1.size.2.2.1), .s (.int .u64 p1.size.2.2.2)]] 0 1))), (17, vi (3 : Int)), (16, vi x1), (15, vk .u64 r1.size.1), (14, .one (.pt 1 0 0 1)), (13, .one (.pt 1 0 0 1)), (2, .one (.pv (.rp [[.s (.bool p1.neg), .s (.int .u64 p1.size.1), .s (.int .u64 p1.size.2.1), .s (.int .u64 p1.size.2.2.1), .s (.int .u64 p1.size.2.2.2)]] 0 0))), (3, .one (.pv (.rp [[.s (.bool p2.neg), .s (.int .u64 p2.size.1), .s (.int .u64 p2.size.2.1), .s (.int .u64 p2.size.2.2.1), .s (.int .u64 p2.size.2.2.2)]] 0 0))), (4, .one (.pt 0 0 0 0)), (5, .one (.pt 1 0 0 0)), (6, vi x1)] ?_
         rw [show (IntKind.u64.wrap (BitVec.ofInt (IntKind.u64).bits r1.size.1 ||| BitVec.ofInt (IntKind.u64).bits y2).toNat) = y3 from Option.some.inj hy15]
         exact zyg 1 zyd
        exact zo [4, 5] 2 [2,3,4,5,6] [] [0 ≤ (0 : Int) ∧ (0 : Int) < 4] (⟨by decide, trivial⟩) (zd (hJ1 y3 h _ _ (zk [2,3,4,5,6])))
       ·cases h
   ·exact zx 0 (hQ1 _ _ _ (hJ3 z1 z2 z3 z4 z5 z6 z7 z8 z9 h _ _ (zk [2,3,4,5])))
 exact XR.sub (zk [2,3,4,5,6]) (hL1 BIG (0 : Int) (0 : Int) (0 : Int) (0 : Int) false (0 : Int) (0 : Int) (0 : Int) (0 : Int) (255 : Int) h)

def value_wide_rounded_j2 (z1 : Bool) (z2 : Int) (z3 : Int) (z4 : Int) (z5 : Int) : Option GWide :=
    some (GWide.mk z1 (z2, z3, z4, z5))

def value_wide_rounded_j1 (r1 : (GWide × GWide)) (x1 : Bool) : Option GWide :=
    ift x1
      (bnd (value_whole (1 : Int)) fun r4 =>
       bnd (value_wide_plus BIG (GWide.mk r1.1.neg (r1.1.size.1, r1.1.size.2.1, r1.1.size.2.2.1, r1.1.size.2.2.2)) (GWide.mk r1.1.neg (r4.size.1, r4.size.2.1, r4.size.2.2.1, r4.size.2.2.2))) fun r5 =>
       value_wide_rounded_j2 r5.neg r5.size.1 r5.size.2.1 r5.size.2.2.1 r5.size.2.2.2)
      (value_wide_rounded_j2 r1.1.neg r1.1.size.1 r1.1.size.2.1 r1.1.size.2.2.1 r1.1.size.2.2.2)

def value_wide_rounded (p1 : GWide) (p2 : GWide) : Option GWide :=
    bnd (value_wide_quo (GWide.mk p1.neg (p1.size.1, p1.size.2.1, p1.size.2.2.1, p1.size.2.2.2)) (GWide.mk p2.neg (p2.size.1, p2.size.2.1, p2.size.2.2.1, p2.size.2.2.2))) fun r1 =>
    bnd (value_wide_times (GWide.mk r1.2.neg (r1.2.size.1, r1.2.size.2.1, r1.2.size.2.2.1, r1.2.size.2.2.2)) (2 : Int)) fun r2 =>
    bnd (value_compareSize (GWide.mk r2.neg (r2.size.1, r2.size.2.1, r2.size.2.2.1, r2.size.2.2.2)) (GWide.mk p2.neg (p2.size.1, p2.size.2.1, p2.size.2.2.1, p2.size.2.2.2))) fun r3 =>
    ift (decide ((0 : Int) < r3))
      (value_wide_rounded_j1 r1 true)
      (ift (r3 == (0 : Int))
         (bnd (some (IntKind.u64.wrap (BitVec.ofInt (IntKind.u64).bits r1.1.size.1 &&& BitVec.ofInt (IntKind.u64).bits (1 : Int)).toNat)) fun y1 =>
          value_wide_rounded_j1 r1 (y1 == (1 : Int)))
         (value_wide_rounded_j1 r1 false))

abbrev qa1422 (p1 : GWide) : List CV := [cb p1.neg, ck .u64 p1.size.1, ck .u64 p1.size.2.1, ck .u64 p1.size.2.2.1, ck .u64 p1.size.2.2.2]
abbrev qa1423 (p2 : GWide) : List CV := [cb p2.neg, ck .u64 p2.size.1, ck .u64 p2.size.2.1, ck .u64 p2.size.2.2.1, ck .u64 p2.size.2.2.2]
abbrev qa1426 (p2 : GWide) : List PV := [.s (.bool p2.neg), .s (.int .u64 p2.size.1), .s (.int .u64 p2.size.2.1), .s (.int .u64 p2.size.2.2.1), .s (.int .u64 p2.size.2.2.2)]
abbrev qa1427 (r1 : (GWide × GWide)) : List CV := [cb r1.1.neg, ck .u64 r1.1.size.1, ck .u64 r1.1.size.2.1, ck .u64 r1.1.size.2.2.1, ck .u64 r1.1.size.2.2.2]
abbrev qa1428 (r1 : (GWide × GWide)) : List CV := [cb r1.2.neg, ck .u64 r1.2.size.1, ck .u64 r1.2.size.2.1, ck .u64 r1.2.size.2.2.1, ck .u64 r1.2.size.2.2.2]
abbrev qa1429 : Fr := [(4, .one (.pt 0 0 0 0)), (5, .one (.pt 1 0 0 0))]
abbrev qa1430 : List CV := [cb false, ck .u64 (0 : Int), ck .u64 (0 : Int), ck .u64 (0 : Int), ck .u64 (0 : Int)]
abbrev qa1432 (r2 : GWide) : List CV := [cb r2.neg, ck .u64 r2.size.1, ck .u64 r2.size.2.1, ck .u64 r2.size.2.2.1, ck .u64 r2.size.2.2.2]
abbrev qa1444 (r1 : (GWide × GWide)) : St := [.box qa1430, .box (qa1427 r1), .box (qa1428 r1)]

theorem c_value_wide_rounded (p1 : GWide) (p2 : GWide) (r : GWide) (h : value_wide_rounded p1 p2 = some r) : PC Tryd.prog 32 [.ag (qa1422 p1), .ag (qa1423 p2)] (.ag [cb r.neg, ck .u64 r.size.1, ck .u64 r.size.2.1, ck .u64 r.size.2.2.1, ck .u64 r.size.2.2.2]) := by
 unfold value_wide_rounded at h
 refine zF 40 Tryd.f32 (zq fun K1 hK1 => zr (zg [4, 5, 6, 8] 3 [2,3,4] (zd (hK1 _ _ (zq fun K2 hK2 => ?_)))))
 obtain ⟨r1, c3, h⟩ := zB h
 refine zr (zu [4, 5, 6, 8] 2 [3,4,10,11] [[.s (.bool p1.neg), .s (.int .u64 p1.size.1), .s (.int .u64 p1.size.2.1), .s (.int .u64 p1.size.2.2.1), .s (.int .u64 p1.size.2.2.2)], (qa1426 p2)] ?_)
 refine zl 56 [.ag (qa1422 p1), .ag (qa1423 p2)] (.tp [.ag (qa1427 r1), .ag (qa1428 r1)]) [(12, .tp [.ag (qa1427 r1), .ag (qa1428 r1)]), (3, .one (.pv (.rp [(qa1426 p2)] 0 0))), (4, .one (.pt 0 0 0 0)), (10, .ag (qa1422 p1)), (11, .ag (qa1423 p2))] (c_value_wide_quo _ _ _ c3) ?_
 refine zg [4, 5, 6, 8] 7 [3,4,5,6] (zd (hK2 _ _ (zq fun K4 hK4 => ?_)))
 have hJ2 : ∀ (z1 : Bool) (z2 : Int) (z3 : Int) (z4 : Int) (z5 : Int), value_wide_rounded_j2 z1 z2 z3 z4 z5 = some r → ∀ fr1 st1, Sub 40 0 [] fr1 st1 qa1429 [.box qa1430, .box [cb z1, ck .u64 z2, ck .u64 z3, ck .u64 z4, ck .u64 z5], .box (qa1428 r1)] → K4 fr1 st1 := by
  intro z1 z2 z3 z4 z5 h fr1 st1 hS
  unfold value_wide_rounded_j2 at h
  refine hK4 _ _ (XW.sub hS ?_)
  refine zq fun K17 hK17 => zr (zg [4, 5, 6, 8] 2 [4] (zd (hK17 _ _ (ze ?_))))
  obtain rfl := Option.some.inj h
  exact zf [.ag [cb z1, ck .u64 z2, ck .u64 z3, ck .u64 z4, ck .u64 z5]] (.ag (.cons (.rfl _ rfl) (.cons (.rfl _ rfl) (.cons (.rfl _ rfl) (.cons (.rfl _ rfl) (.cons (.rfl _ rfl) .nil))))))
 refine zq fun K5 hK5 => ?_
 obtain ⟨r2, c6, h⟩ := zB h
 obtain ⟨r3, c7, h⟩ := zB h
 refine zw 3 [(17, .ag (qa1423 p2)), (16, .ag (qa1432 r2)), (15, .ag (qa1428 r1)), (3, .one (.pv (.rp [(qa1426 p2)] 0 0))), (4, .one (.pt 0 0 0 0)), (5, .one (.pt 1 0 0 0)), (6, .one (.pt 2 0 0 0))] ?_ ?_
 ·refine zyg 1 ?_
  refine DX.cal 55 [.ag (qa1428 r1), vk .u64 (2 : Int)] (.ag (qa1432 r2)) [(16, .ag (qa1432 r2)), (15, .ag (qa1428 r1)), (3, .one (.pv (.rp [(qa1426 p2)] 0 0))), (4, .one (.pt 0 0 0 0)), (5, .one (.pt 1 0 0 0)), (6, .one (.pt 2 0 0 0))] (by kernel_rfl) (c_value_wide_times _ _ _ c6) rfl rfl (by kernel_rfl) ?_
  exact zyu 1 [(qa1426 p2)] zyd
 refine za (c_value_compareSize _ _ _ c7) (zv [4, 5, 6, 8] 1 [4,5,7] [] [(4, .one (.pt 0 0 0 0)), (5, .one (.pt 1 0 0 0)), (7, vi r3)] (qa1444 r1) (zd (hK5 _ _ (zq fun K8 hK8 => ?_))))
 have hJ1 : ∀ (x1 : Bool), value_wide_rounded_j1 r1 x1 = some r → ∀ fr1 st1, Sub 40 0 [] fr1 st1 [(4, .one (.pt 0 0 0 0)), (5, .one (.pt 1 0 0 0)), (31, vb x1)] (qa1444 r1) → K8 fr1 st1 := by
  intro x1 h fr1 st1 hS
  unfold value_wide_rounded_j1 at h
  refine hK8 _ _ (XW.sub hS ?_)
  refine zC h (fun b12 h => ?_) (fun b12 h => ?_)
  ·refine zq fun K13 hK13 => ?_
   obtain ⟨r4, c14, h⟩ := zB h
   refine zr (za (c_value_whole _ _ c14) (zg [4, 5, 6, 8] 2 [4,5,8] (zd (hK13 _ _ (zq fun K15 hK15 => zr ?_)))))
   refine zv [4, 5, 6, 8] 4 [4,5,8] [] [(4, .one (.pt 0 0 0 0)), (5, .one (.pt 1 0 0 0)), (8, .one (.pt 3 0 0 0))] [.box qa1430, .box (qa1427 r1), .box (qa1428 r1), .box [cb r1.1.neg, ck .u64 r4.size.1, ck .u64 r4.size.2.1, ck .u64 r4.size.2.2.1, ck .u64 r4.size.2.2.2]] (zd (hK15 _ _ ?_))
   obtain ⟨r5, c16, h⟩ := zB h
   refine zr (zg [4, 5, 6, 8] 2 [4,5,36,37] (za (c_value_wide_plus BIG _ _ _ c16) (zv [4, 5, 6, 8] 1 [4,5] [] qa1429 [.box qa1430, .box [cb r5.neg, ck .u64 r5.size.1, ck .u64 r5.size.2.1, ck .u64 r5.size.2.2.1, ck .u64 r5.size.2.2.2], .box (qa1428 r1), .box [cb r1.1.neg, ck .u64 r4.size.1, ck .u64 r4.size.2.1, ck .u64 r4.size.2.2.1, ck .u64 r4.size.2.2.2]] (zd ?_))))
   exact hJ2 r5.neg r5.size.1 r5.size.2.1 r5.size.2.2.1 r5.size.2.2.2 h _ _ (Sub.trans (Sub.pick (fr' := qa1429) [4,5] (by kernel_rfl)) (Sub.take (fr' := qa1429) 3 (Nat.zero_le _) (by kernel_rfl) (by kernel_rfl)))
  ·exact zs (hJ2 r1.1.neg r1.1.size.1 r1.1.size.2.1 r1.1.size.2.2.1 r1.1.size.2.2.2 h _ _ (zk [4,5]))
 rcases zW h with ⟨b9, h⟩ | ⟨b9, h⟩
 ·exact zr (zg [4, 5, 6, 8] 3 [4,5,7,21] (zt 21 b9 (zg [4, 5, 6, 8] 10 [4,5,31] (zd (hJ1 true h _ _ (zk [4,5,31]))))))
 ·rcases zW h with ⟨b10, h⟩ | ⟨b10, h⟩
  ·obtain ⟨y1, hy11, h⟩ := zB h
   refine zr (zv [4, 5, 6, 8] 3 [4,5,7,21] [] [(4, .one (.pt 0 0 0 0)), (5, .one (.pt 1 0 0 0)), (7, vi r3), (21, vb (decide ((0 : Int) < r3)))] (qa1444 r1) (zt 21 b9 (zg [4, 5, 6, 8] 3 [4,5,21,24] (zt 24 b10 ?_))))
   refine zp [4, 5, 6, 8] 4 [4,5,21,24,28] [] [(4, .one (.pt 0 0 0 0)), (5, .one (.pt 1 0 0 0)), (21, vb false), (24, vb true), (28, vk .u64 (IntKind.u64.wrap (BitVec.ofInt (IntKind.u64).bits r1.1.size.1 &&& BitVec.ofInt (IntKind.u64).bits (1 : Int)).toNat))] [.box [cb false, ck .u64 (0 : Int), ck .u64 (0 : Int), ck .u64 (0 : Int), ck .u64 (0 : Int)], .box [cb r1.1.neg, ck .u64 r1.1.size.1, ck .u64 r1.1.size.2.1, ck .u64 r1.1.size.2.2.1, ck .u64 r1.1.size.2.2.2], .box [cb r1.2.neg, ck .u64 r1.2.size.1, ck .u64 r1.2.size.2.1, ck .u64 r1.2.size.2.2.1, ck .u64 r1.2.size.2.2.2]] [0 ≤ (0 : Int) ∧ (0 : Int) < 4] (⟨by decide, trivial⟩) ?_
   rw [show (IntKind.u64.wrap (BitVec.ofInt (IntKind.u64).bits r1.1.size.1 &&& BitVec.ofInt (IntKind.u64).bits (1 : Int)).toNat) = y1 from Option.some.inj hy11]
   exact zg [4, 5, 6, 8] 3 [4,5,31] (zd (hJ1 (y1 == (1 : Int)) h _ _ (zk [4,5,31])))
  ·exact zr (zg [4, 5, 6, 8] 3 [4,5,7,21] (zt 21 b9 (zv [4, 5, 6, 8] 3 [4,5,21,24] [] [(4, .one (.pt 0 0 0 0)), (5, .one (.pt 1 0 0 0)), (21, vb false), (24, vb (r3 == (0 : Int)))] (qa1444 r1) (zt 24 b10 (zg [4, 5, 6, 8] 7 [4,5,31] (zd (hJ1 false h _ _ (zk [4,5,31]))))))))

def value_Mean_j1 (r1 : (GWide × Int × GType × Int)) (x1 : Bool) : Option (GValue × Int) :=
    ift x1
      (some ((GValue.mk (0 : Int) (0 : Int) (0 : Int) ByteArray.empty []), r1.2.2.2))
      (bnd (some (if (12 : Int) < (IntKind.i64.wrap (r1.2.2.1.scale + (6 : Int))) then (12 : Int) else (IntKind.i64.wrap (r1.2.2.1.scale + (6 : Int))))) fun y1 =>
       bnd (value_wide_shifted (GWide.mk r1.1.neg (r1.1.size.1, r1.1.size.2.1, r1.1.size.2.2.1, r1.1.size.2.2.2)) (IntKind.i64.wrap (y1 - r1.2.2.1.scale))) fun r2 =>
       bnd (value_whole r1.2.1) fun r3 =>
       bnd (value_wide_rounded (GWide.mk r2.neg (r2.size.1, r2.size.2.1, r2.size.2.2.1, r2.size.2.2.2)) (GWide.mk r3.neg (r3.size.1, r3.size.2.1, r3.size.2.2.1, r3.size.2.2.2))) fun r4 =>
       bnd (value_made (3 : Int) (GWide.mk r4.neg (r4.size.1, r4.size.2.1, r4.size.2.2.1, r4.size.2.2.2)) y1) fun r5 =>
       some (r5, (0 : Int)))

def value_Mean (p1 : (List GValue)) : Option (GValue × Int) :=
    bnd (value_sum p1) fun r1 =>
    ift (r1.2.2.2 != (0 : Int))
      (value_Mean_j1 r1 true)
      (value_Mean_j1 r1 (r1.2.1 == (0 : Int)))

abbrev qa1448 (r1 : (GWide × Int × GType × Int)) : List CV := [cb r1.1.neg, ck .u64 r1.1.size.1, ck .u64 r1.1.size.2.1, ck .u64 r1.1.size.2.2.1, ck .u64 r1.1.size.2.2.2]
abbrev qa1449 (r1 : (GWide × Int × GType × Int)) : List CV := [ci r1.2.2.1.kind, ci r1.2.2.1.scale, cl eField r1.2.2.1.fields]
abbrev qa1451 : List CV := [ci (0 : Int), ci (0 : Int), ci (0 : Int), cst ByteArray.empty, .pv (.s (.slice none 0 0))]
abbrev qa1452 (r2 : GWide) : List CV := [cb r2.neg, ck .u64 r2.size.1, ck .u64 r2.size.2.1, ck .u64 r2.size.2.2.1, ck .u64 r2.size.2.2.2]
abbrev qa1453 (r3 : GWide) : List CV := [cb r3.neg, ck .u64 r3.size.1, ck .u64 r3.size.2.1, ck .u64 r3.size.2.2.1, ck .u64 r3.size.2.2.2]
abbrev qa1454 (r4 : GWide) : List CV := [cb r4.neg, ck .u64 r4.size.1, ck .u64 r4.size.2.1, ck .u64 r4.size.2.2.1, ck .u64 r4.size.2.2.2]

theorem c_value_Mean (p1 : (List GValue)) (r : (GValue × Int)) (h : value_Mean p1 = some r) : PC Tryd.prog 12 [vl eValue p1] (.tp [.ag [ci r.1.kind, ci r.1.n, ci r.1.scale, cst r.1.s, cl eValue r.1.items], vi r.2]) := by
 unfold value_Mean at h
 refine zF 39 Tryd.f12 (zq fun K1 hK1 => zr (zg [2, 4, 6] 2 [0,2] (zd (hK1 _ _ (zq fun K2 hK2 => ?_)))))
 obtain ⟨r1, c3, h⟩ := zB h
 refine zr (zg [2, 4, 6] 1 [2,10] (zl 27 [vl eValue p1] (.tp [.ag (qa1448 r1), vi r1.2.1, .ag (qa1449 r1), vi r1.2.2.2]) [(11, .tp [.ag (qa1448 r1), vi r1.2.1, .ag (qa1449 r1), vi r1.2.2.2]), (2, .one (.pt 0 0 0 0)), (10, vl eValue p1)] (c_value_sum _ _ c3) (zg [2, 4, 6] 11 [2,4,5,6,7] (zd ?_))))
 refine hK2 _ _ (zq fun K4 hK4 => zq fun K5 hK5 => ?_)
 have hJ1 : ∀ (x1 : Bool), value_Mean_j1 r1 x1 = some r → ∀ fr1 st1, Sub 39 0 [] fr1 st1 [(2, .one (.pt 0 0 0 0)), (4, .one (.pt 1 0 0 0)), (5, vi r1.2.1), (6, .one (.pt 2 0 0 0)), (7, vi r1.2.2.2), (21, vb x1)] [.box qa1451, .box (qa1448 r1), .box (qa1449 r1)] → K5 fr1 st1 := by
  intro x1 h fr1 st1 hS
  unfold value_Mean_j1 at h
  refine hK5 _ _ (XW.sub hS ?_)
  refine zC h (fun b7 h => ?_) (fun b7 h => ?_)
  ·refine zq fun K8 hK8 => zr (zg [2, 4, 6] 4 [2,3] (zd (hK8 _ _ (ze ?_))))
   obtain rfl := Option.some.inj h
   exact zf [.ag qa1451, vi r1.2.2.2] (.tpc (.ag (.cons (.rfl _ rfl) (.cons (.rfl _ rfl) (.cons (.rfl _ rfl) (.cons (.rfl _ rfl) (.cons (.nl) .nil)))))) (.tpc (.one (.rfl _ rfl)) (.tp0)))
  ·refine zs (hK4 _ _ (zq fun K9 hK9 => ?_))
   obtain ⟨y1, hy10, h⟩ := zB h
   refine zr (zv [2, 4, 6] 4 [2,4,5,6,27] [] [(2, .one (.pt 0 0 0 0)), (4, .one (.pt 1 0 0 0)), (5, vi r1.2.1), (6, .one (.pt 2 0 0 0)), (27, vi (if (12 : Int) < (IntKind.i64.wrap (r1.2.2.1.scale + (6 : Int))) then (12 : Int) else (IntKind.i64.wrap (r1.2.2.1.scale + (6 : Int)))))] [.box [ci (0 : Int), ci (0 : Int), ci (0 : Int), cst ByteArray.empty, .pv (.s (.slice none 0 0))], .box [cb r1.1.neg, ck .u64 r1.1.size.1, ck .u64 r1.1.size.2.1, ck .u64 r1.1.size.2.2.1, ck .u64 r1.1.size.2.2.2], .box [ci r1.2.2.1.kind, ci r1.2.2.1.scale, cl eField r1.2.2.1.fields]] ?_)
   rw [show (if (12 : Int) < (IntKind.i64.wrap (r1.2.2.1.scale + (6 : Int))) then (12 : Int) else (IntKind.i64.wrap (r1.2.2.1.scale + (6 : Int)))) = y1 from Option.some.inj hy10]
   refine zg [2, 4, 6] 1 [2,4,5,6,8] (zd (hK9 _ _ (zq fun K11 hK11 => ?_)))
   obtain ⟨r2, c12, h⟩ := zB h
   obtain ⟨r3, c13, h⟩ := zB h
   obtain ⟨r4, c14, h⟩ := zB h
   obtain ⟨r5, c15, h⟩ := zB h
   refine zr (zg [2, 4, 6] 5 [2,5,8,28,32] ?_)
   refine zl 31 [.ag (qa1448 r1), vi (IntKind.i64.wrap (y1 - r1.2.2.1.scale))] (.ag (qa1452 r2)) [(33, .ag (qa1452 r2)), (2, .one (.pt 0 0 0 0)), (5, vi r1.2.1), (8, vi y1), (28, .ag (qa1448 r1)), (32, vi (IntKind.i64.wrap (y1 - r1.2.2.1.scale)))] (c_value_wide_shifted _ _ _ c12) ?_
   refine zg [2, 4, 6] 1 [2,8,33,34] (za (c_value_whole _ _ c13) ?_)
   refine zl 32 [.ag (qa1452 r2), .ag (qa1453 r3)] (.ag (qa1454 r4)) [(36, .ag (qa1454 r4)), (35, .ag (qa1453 r3)), (2, .one (.pt 0 0 0 0)), (8, vi y1), (33, .ag (qa1452 r2)), (34, vi r1.2.1)] (c_value_wide_rounded _ _ _ c14) ?_
   refine zg [2, 4, 6] 1 [2,36,37] (za (c_value_made _ _ _ _ c15) (zv [2, 4, 6] 2 [2,3] [] [(2, .one (.pt 0 0 0 0)), (3, vi (0 : Int))] [.box [ci r5.kind, ci r5.n, ci r5.scale, cst r5.s, cl eValue r5.items], .box (qa1448 r1), .box (qa1449 r1)] (zd (hK11 _ _ (ze ?_)))))
   obtain rfl := Option.some.inj h
   exact zf [.ag [ci r5.kind, ci r5.n, ci r5.scale, cst r5.s, cl eValue r5.items], vi (0 : Int)] (.tpc (.ag (.cons (.rfl _ rfl) (.cons (.rfl _ rfl) (.cons (.rfl _ rfl) (.cons (.rfl _ rfl) (.cons (.rfl _ rfl) .nil)))))) (.tpc (.one (.rfl _ rfl)) (.tp0)))
 rcases zW h with ⟨b6, h⟩ | ⟨b6, h⟩
 ·exact zr (zg [2, 4, 6] 3 [2,4,5,6,7,18] (zt 18 b6 (zv [2, 4, 6] 3 [2,4,5,6,7,21] [] [(2, .one (.pt 0 0 0 0)), (4, .one (.pt 1 0 0 0)), (5, vi r1.2.1), (6, .one (.pt 2 0 0 0)), (7, vi r1.2.2.2), (21, vb true)] [.box qa1451, .box (qa1448 r1), .box (qa1449 r1)] (zd (hJ1 true h _ _ (zk [2,4,5,6,7,21]))))))
 ·exact zr (zg [2, 4, 6] 3 [2,4,5,6,7,18] (zt 18 b6 (zg [2, 4, 6] 3 [2,4,5,6,7,21] (zd (hJ1 (r1.2.1 == (0 : Int)) h _ _ (zk [2,4,5,6,7,21]))))))

def ref1_tens (p1 : RWide) (p2 : Int) : Option RWide :=
    ift ((p1.d.length : Int) == (0 : Int))
      (some p1)
      (grd (0 ≤ p2 ∧ p2 ≤ p2 ∧ p2 ≤ 4294967296) <|
       grd ((List.replicate p2.toNat (0 : Int)).length + p1.d.length ≤ 4294967296) <|
       some (RWide.mk p1.below ((List.replicate p2.toNat (0 : Int)) ++ p1.d)))

abbrev qa1465 (p1 : RWide) : List PV := [.s (.bool p1.below), .ro (eI.els p1.d)]

theorem c_ref1_tens (p1 : RWide) (p2 : Int) (r : RWide) (h : ref1_tens p1 p2 = some r) : PC Tryd.prog 35 [.ag [cb p1.below, cl eI p1.d], vi p2] (.ag [cb r.below, cl eI r.d]) := by
 unfold ref1_tens at h
 refine zF 18 Tryd.f35 (zq fun K1 hK1 => zr (zg [4] 2 [1,2,4] (zd (hK1 _ _ (zq fun K2 hK2 => zq fun K3 hK3 => ?_)))))
 refine zr (zv [4] 3 [1,2,4,7] [[.s (.bool p1.below), .ro (eI.els p1.d)]] [(1, vi p2), (2, .one (.pv (.rp [[.s (.bool p1.below), .ro (eI.els p1.d)]] 0 0))), (4, .one (.pt 0 0 0 0)), (7, vi ((eI.els p1.d).length : Int))] [.box [cb false, .pv (.s (.slice none 0 0))]] ?_)
 rw [eI.len p1.d]
 refine zg [4] 1 [1,2,4,8] (zd (hK3 _ _ (zC h (fun b4 h => ?_) (fun b4 h => ?_))))
 ·refine zq fun K5 hK5 => zr (zu [4] 2 [4] [(qa1465 p1)] (zd (hK5 _ _ (ze ?_))))
  obtain rfl := Option.some.inj h
  exact zf [.ag [cb p1.below, cl eI p1.d]] (.ag (.cons (.rfl _ rfl) (.cons (.rfl _ rfl) .nil)))
 ·refine zs (hK2 _ _ (zq fun K6 hK6 => ?_))
  obtain ⟨g8, h⟩ := zG h
  obtain ⟨g9, h⟩ := zG h
  refine XW.sub (Sub.dead 1) ?_
  refine XW.drwG 7 [1, 2] [([], []), ([], []), ([], []), ([1], [1]), ([], []), ([], []), ([1], [1])] [(16, .one (.sl 1 1 0 (((List.replicate p2.toNat (0 : Int)) ++ p1.d).length))), (15, vl eI p1.d), (14, .one (.pv (.rp [(qa1465 p1)] 0 1))), (13, .j), (12, vi p2), (11, vb p1.below), (10, .one (.pv (.rp [(qa1465 p1)] 0 0))), (1, vi p2), (2, .one (.pv (.rp [(qa1465 p1)] 0 0))), (4, .one (.pt 0 0 0 0)), (8, vb ((p1.d.length : Int) == (0 : Int)))] [.box [cb false, .pv (.s (.slice none 0 0))], .arr 1 (eI.els ((List.replicate p2.toNat (0 : Int)) ++ p1.d))] (by kernel_rfl) (by kernel_rfl) ?_ ?_
  ·refine zgv 3 [(qa1465 p1)] [(12, vi p2), (11, vb p1.below), (10, .one (.pv (.rp [(qa1465 p1)] 0 0))), (1, vi p2), (2, .one (.pv (.rp [(qa1465 p1)] 0 0))), (4, .one (.pt 0 0 0 0)), (8, vb ((p1.d.length : Int) == (0 : Int)))] ?_
   refine GY.new false 1 [] [(13, .one (.sl 1 1 0 p2.toNat)), (12, vi p2), (11, vb p1.below), (10, .one (.pv (.rp [[.s (.bool p1.below), .ro (eI.els p1.d)]] 0 0))), (1, vi p2), (2, .one (.pv (.rp [[.s (.bool p1.below), .ro (eI.els p1.d)]] 0 0))), (4, .one (.pt 0 0 0 0)), (8, vb ((p1.d.length : Int) == (0 : Int)))] [1] [.box [cb false, .pv (.s (.slice none 0 0))], .arr 1 (List.replicate p2.toNat [pi (0 : Int)])] [0 ≤ p2, p2 ≤ p2, p2 ≤ 4294967296] (by kernel_rfl) (by kernel_rfl) (⟨g8.1, g8.2.1, g8.2.2, trivial⟩) ?_
   rw [show List.replicate p2.toNat [pi (0 : Int)] = eI.els (List.replicate p2.toNat (0 : Int)) from eI.rep _ (0 : Int)]
   refine zgv 2 [(qa1465 p1)] [(15, vl eI p1.d), (14, .one (.pv (.rp [(qa1465 p1)] 0 1))), (13, .one (.sl 1 1 0 p2.toNat)), (12, vi p2), (11, vb p1.below), (10, .one (.pv (.rp [(qa1465 p1)] 0 0))), (1, vi p2), (2, .one (.pv (.rp [(qa1465 p1)] 0 0))), (4, .one (.pt 0 0 0 0)), (8, vb ((p1.d.length : Int) == (0 : Int)))] ?_
   refine GY.wr [] [(16, .one (.sl 1 1 0 (p2.toNat + (eI.els p1.d).length))), (15, vl eI p1.d), (14, .one (.pv (.rp [[.s (.bool p1.below), .ro (eI.els p1.d)]] 0 1))), (13, .j), (12, vi p2), (11, vb p1.below), (10, .one (.pv (.rp [[.s (.bool p1.below), .ro (eI.els p1.d)]] 0 0))), (1, vi p2), (2, .one (.pv (.rp [[.s (.bool p1.below), .ro (eI.els p1.d)]] 0 0))), (4, .one (.pt 0 0 0 0)), (8, vb ((p1.d.length : Int) == (0 : Int)))] [1] [.box [cb false, .pv (.s (.slice none 0 0))], .arr 1 (eI.els (List.replicate p2.toNat (0 : Int)) ++ eI.els p1.d)] [elemsOk 1 (eI.els p1.d), p2.toNat = (eI.els (List.replicate p2.toNat (0 : Int))).length, p2.toNat + (eI.els p1.d).length ≤ 4294967296] (by kernel_rfl) (by kernel_rfl) (⟨eI.ok _, (by simp [Enc.len]), (by simp [Enc.len] at *; omega), trivial⟩) ?_
   rw [show p2.toNat + (eI.els p1.d).length = ((List.replicate p2.toNat (0 : Int)) ++ p1.d).length from (by simp [Enc.len] <;> omega)]
   rw [show eI.els (List.replicate p2.toNat (0 : Int)) ++ eI.els p1.d = eI.els ((List.replicate p2.toNat (0 : Int)) ++ p1.d) from eI.app2 _ _]
   exact GY.done (by kernel_rfl) (by kernel_rfl)
  refine zv [4] 2 [4] [] [(4, .one (.pt 0 0 0 0))] [.box [cb p1.below, .sl 1 1 0 (((List.replicate p2.toNat (0 : Int)) ++ p1.d).length)], .arr 1 (eI.els ((List.replicate p2.toNat (0 : Int)) ++ p1.d))] (zd (hK6 _ _ (ze ?_)))
  obtain rfl := Option.some.inj h
  exact zf [.ag [cb p1.below, .sl 1 1 0 (((List.replicate p2.toNat (0 : Int)) ++ p1.d).length)]] (.ag (.cons (.rfl _ rfl) (.cons (cf_sl eI ((List.replicate p2.toNat (0 : Int)) ++ p1.d) rfl rfl rfl) .nil)))

def ref1_divide_j1 (rec1 : List Int → List Int → Int → Option ((List Int) × (List Int))) (x2 : Int) (l3 : List Int) (x4 : List Int) : Option ((List Int) × (List Int)) :=
    rec1 l3 x4 (IntKind.i64.wrap (x2 - (1 : Int)))

def ref1_divide_l2 (rec1 : List Int → List Int → Int → Option ((List Int) × (List Int))) (p2 : (List Int)) (x2 : Int) : Nat → List Int → List Int → Option ((List Int) × (List Int))
  | 0, _, _ => none
  | k2 + 1, l2, x3 =>
    bnd (ref1_most x3 p2) fun r2 =>
    ift (decide ((0 : Int) ≤ r2))
      (bnd (ref1_minus x3 p2) fun r3 =>
       bnd (at? l2 x2) fun e2 =>
       (ref1_divide_l2 rec1 p2 x2 k2) (l2.set x2.toNat (IntKind.i64.wrap (e2 + (1 : Int)))) r3)
      (ref1_divide_j1 rec1 x2 l2 x3)

def ref1_divide_j2 (l4 : List Int) (x5 : List Int) : Option ((List Int) × (List Int)) :=
    bnd (ref1_cut false l4) fun r4 =>
    some (r4.d, x5)

def ref1_divide_l1 (p1 : (List Int)) (p2 : (List Int)) : Nat → List Int → List Int → Int → Option ((List Int) × (List Int))
  | 0, _, _, _ => none
  | k1 + 1, l1, x1, x2 =>
    ift (decide ((0 : Int) ≤ x2))
      (bnd (at? p1 x2) fun e1 =>
       grd ([e1].length + x1.length ≤ 4294967296) <|
       bnd (ref1_cut false ([e1] ++ x1)) fun r1 =>
       ref1_divide_l2 (ref1_divide_l1 p1 p2 k1) p2 x2 BIG l1 r1.d)
      (ref1_divide_j2 l1 x1)

def ref1_divide (p1 : (List Int)) (p2 : (List Int)) : Option ((List Int) × (List Int)) :=
    grd (0 ≤ (p1.length : Int) ∧ (p1.length : Int) ≤ (p1.length : Int) ∧ (p1.length : Int) ≤ 4294967296) <|
    ref1_divide_l1 p1 p2 BIG (List.replicate (p1.length : Int).toNat (0 : Int)) [] (IntKind.i64.wrap ((p1.length : Int) - (1 : Int)))


theorem c_ref1_divide (p1 : (List Int)) (p2 : (List Int)) (r : ((List Int) × (List Int))) (h : ref1_divide p1 p2 = some r) : PC Tryd.prog 58 [vl eI p1, vl eI p2] (.tp [vl eI r.1, vl eI r.2]) := by
 unfold ref1_divide at h
 refine zF 43 Tryd.f58 (zq fun K1 hK1 => zr (zg [21] 2 [0,1,5] (zd (hK1 _ _ (zq fun K2 hK2 => ?_)))))
 obtain ⟨g4, h⟩ := zG h
 refine zr (zv [21] 2 [0,1,5,8] [] [(0, vl eI p1), (1, vl eI p2), (5, .one (.pv (.s (.slice none 0 0)))), (8, vi ((eI.els p1).length : Int))] [] ?_)
 rw [eI.len p1]
 refine zp [21] 1 [0,1,5,9] [] [(0, vl eI p1), (1, vl eI p2), (5, .one (.pv (.s (.slice none 0 0)))), (9, .one (.sl 0 1 0 ((p1.length : Int).toNat)))] [.arr 1 (List.replicate (p1.length : Int).toNat [pi (0 : Int)])] [0 ≤ (p1.length : Int), (p1.length : Int) ≤ (p1.length : Int), (p1.length : Int) ≤ 4294967296] (⟨g4.1, g4.2.1, g4.2.2, trivial⟩) ?_
 rw [show List.replicate (p1.length : Int).toNat [pi (0 : Int)] = eI.els (List.replicate (p1.length : Int).toNat (0 : Int)) from eI.rep _ (0 : Int)]
 refine zg [21] 1 [0,1,4,5] (zd (hK2 _ _ (zq fun K5 hK5 => ?_)))
 have hJ2 : ∀ (l4 : List Int) (x5 : List Int), ref1_divide_j2 l4 x5 = some r → ∀ fr1 st1, Sub 43 0 [] fr1 st1 [(4, .one (.sl 0 1 0 l4.length)), (5, vl eI x5)] [.arr 1 (eI.els l4)] → K5 fr1 st1 := by
  intro l4 x5 h fr1 st1 hS
  unfold ref1_divide_j2 at h
  refine hK5 _ _ (XW.sub hS ?_)
  refine zq fun K22 hK22 => ?_
  obtain ⟨r4, c23, h⟩ := zB h
  refine zr (zv [21] 1 [5,39] [] [(5, vl eI x5), (39, .one (.sl 0 1 0 l4.length))] [.arr 1 (eI.els l4)] (XO.sub (Sub.kill (fr' := [(5, vl eI x5), (39, vl eI l4)]) 0 (Nat.zero_le _) (by kernel_rfl) ⟨.one (.rfl _ rfl), .one (cf_sl eI l4 rfl rfl rfl), trivial⟩) (za (c_ref1_cut _ _ _ c23) (zg [21] 4 [4,5] (zd (hK22 _ _ (ze ?_)))))))
  obtain rfl := Option.some.inj h
  exact zf [vl eI r4.d, vl eI x5] (.tpc (.one (.rfl _ rfl)) (.tpc (.one (.rfl _ rfl)) (.tp0)))
 refine zq fun K6 hK6 => zr (zv [21] 2 [0,1,4,5,11] [] [(0, vl eI p1), (1, vl eI p2), (4, .one (.sl 0 1 0 ((p1.length : Int).toNat))), (5, .one (.pv (.s (.slice none 0 0)))), (11, vi ((eI.els p1).length : Int))] [.arr 1 (eI.els (List.replicate (p1.length : Int).toNat (0 : Int)))] ?_)
 rw [eI.len p1]
 refine zg [21] 2 [0,1,4,5,6] (zd (hK6 _ _ (zb 0 (XW.rounds' BIG (x := cd Tryd.f58 [1,1,0,1,0,0]) (by kernel_rfl) fun Q1 hQ1 => ?_))))
 have hL1 : ∀ (k1 : Nat) (l1 : List Int) (x1 : List Int) (x2 : Int), ref1_divide_l1 p1 p2 k1 l1 x1 x2 = some r → XR Tryd.prog 43 0 [] (cd Tryd.f58 [1,1,0,1,0,0]) Q1 k1 [(0, vl eI p1), (1, vl eI p2), (4, .one (.sl 0 1 0 l1.length)), (5, vl eI x1), (6, vi x2)] [.arr 1 (eI.els l1)] := by
  intro k1
  induction k1 with
  | zero => intro l1 x1 x2 h; rw [ref1_divide_l1.eq_1] at h; cases h
  | succ k1 ih1 =>
   intro l1 x1 x2 h
   rw [ref1_divide_l1.eq_2] at h
   refine zq fun K7 hK7 => zq fun K8 hK8 => zr (zg [21] 2 [0,1,4,5,6,14] (zd (hK8 _ _ (zC h (fun b9 h => ?_) (fun b9 h => ?_)))))
   ·refine zs (hK7 _ _ (zq fun K10 hK10 => ?_))
    have hJ1 : ∀ (l3 : List Int) (x4 : List Int), ref1_divide_j1 (ref1_divide_l1 p1 p2 k1) x2 l3 x4 = some r → ∀ fr1 st1, Sub 43 0 [] fr1 st1 [(0, vl eI p1), (1, vl eI p2), (4, .one (.sl 0 1 0 l3.length)), (5, vl eI x4), (6, vi x2)] [.arr 1 (eI.els l3)] → K10 fr1 st1 := by
     intro l3 x4 h fr1 st1 hS
     unfold ref1_divide_j1 at h
     refine hK10 _ _ (XW.sub hS ?_)
     exact zr (zg [21] 3 [0,1,4,5,6] (zd (XR.sub (zk [0,1,4,5,6]) (ih1 l3 x4 (IntKind.i64.wrap (x2 - (1 : Int))) h))))
    refine zb 1 (zq fun K11 hK11 => ?_)
    obtain ⟨e1, a12, h⟩ := zB h
    obtain ⟨g13, h⟩ := zG h
    obtain ⟨r1, c14, h⟩ := zB h
    refine zr (zp [21] 7 [0,1,4,6,23] [[pi e1]] [(0, vl eI p1), (1, vl eI p2), (4, .one (.sl 0 1 0 l1.length)), (6, vi x2), (23, .one (.sl 1 1 0 (1 + (eI.els x1).length)))] [.arr 1 (eI.els l1), .arr 1 (eI.els [e1] ++ eI.els x1)] [0 ≤ x2 ∧ x2 < ((eI.els p1).length : Int) ∧ elemsOk 1 (eI.els p1), (eI.els p1)[x2.toNat]? = some [pi e1], elemsOk 1 (eI.els x1), 1 = (eI.els [e1]).length, 1 + (eI.els x1).length ≤ 4294967296] (⟨eI.inb a12, (eI.get a12), eI.ok _, (by simp [Enc.len]), (by simp [Enc.len] at *; omega), trivial⟩) ?_)
    rw [show 1 + (eI.els x1).length = ([e1] ++ x1).length from (by simp [Enc.len] <;> omega)]
    rw [show eI.els [e1] ++ eI.els x1 = eI.els ([e1] ++ x1) from eI.app2 _ _]
    refine XO.sub (Sub.kill (fr' := [(0, vl eI p1), (1, vl eI p2), (4, .one (.sl 0 1 0 l1.length)), (6, vi x2), (23, vl eI ([e1] ++ x1))]) 1 (Nat.zero_le _) (by kernel_rfl) ⟨.one (.rfl _ rfl), .one (.rfl _ rfl), .one (.rfl _ rfl), .one (.rfl _ rfl), .one (cf_sl eI ([e1] ++ x1) rfl rfl rfl), trivial⟩) (za (c_ref1_cut _ _ _ c14) (zg [21] 2 [0,1,4,5,6] (zd (hK11 _ _ (zb 2 (XW.rounds' BIG (x := cd Tryd.f58 [1,1,0,1,0,0,1,0,0,1,0,0]) (by kernel_rfl) fun Q2 hQ2 => ?_))))))
    have hL2 : ∀ (k2 : Nat) (l2 : List Int) (x3 : List Int), ref1_divide_l2 (ref1_divide_l1 p1 p2 k1) p2 x2 k2 l2 x3 = some r → XR Tryd.prog 43 0 [] (cd Tryd.f58 [1,1,0,1,0,0,1,0,0,1,0,0]) Q2 k2 [(0, vl eI p1), (1, vl eI p2), (4, .one (.sl 0 1 0 l2.length)), (5, vl eI x3), (6, vi x2)] [.arr 1 (eI.els l2), .dead] := by
     intro k2
     induction k2 with
     | zero => intro l2 x3 h; rw [ref1_divide_l2.eq_1] at h; cases h
     | succ k2 ih2 =>
      intro l2 x3 h
      rw [ref1_divide_l2.eq_2] at h
      refine zq fun K15 hK15 => zq fun K16 hK16 => ?_
      obtain ⟨r2, c17, h⟩ := zB h
      refine zr (zg [21] 2 [0,1,4,5,6,26,27] (za (c_ref1_most _ _ _ c17) (zv [21] 1 [0,1,4,5,6,29] [] [(0, vl eI p1), (1, vl eI p2), (4, .one (.sl 0 1 0 l2.length)), (5, vl eI x3), (6, vi x2), (29, vb (decide ((0 : Int) ≤ r2)))] [.arr 1 (eI.els l2), .dead] (zd (hK16 _ _ (zC h (fun b18 h => ?_) (fun b18 h => ?_)))))))
      ·refine zs (hK15 _ _ (zb 3 (zq fun K19 hK19 => ?_)))
       obtain ⟨r3, c20, h⟩ := zB h
       refine zr (zg [21] 2 [0,1,4,6,30,31] (za (c_ref1_minus _ _ _ c20) (zv [21] 1 [0,1,4,5,6] [] [(0, vl eI p1), (1, vl eI p2), (4, .one (.sl 0 1 0 l2.length)), (5, vl eI r3), (6, vi x2)] [.arr 1 (eI.els l2), .dead] (zd (hK19 _ _ ?_)))))
       obtain ⟨e2, a21, h⟩ := zB h
       refine zr (zp [21] 7 [0,1,4,5,6] [[pi e2], [pi e2]] [(0, vl eI p1), (1, vl eI p2), (4, .one (.sl 0 1 0 l2.length)), (5, vl eI r3), (6, vi x2)] [.arr 1 ((eI.els l2).set (0 + x2.toNat) [pi (IntKind.i64.wrap (e2 + (1 : Int)))]), .dead] [0 ≤ x2 ∧ x2 < ((l2.length : Nat) : Int), (eI.els l2)[(0 + x2.toNat)]? = some [pi e2], 0 ≤ x2 ∧ x2 < ((l2.length : Nat) : Int), (eI.els l2)[(0 + x2.toNat)]? = some [pi e2]] (⟨Enc.inb' a21, (eI.get0 a21), Enc.inb' a21, (eI.get0 a21), trivial⟩) ?_)
       rw [show (eI.els l2).set (0 + x2.toNat) [pi (IntKind.i64.wrap (e2 + (1 : Int)))] = eI.els (l2.set x2.toNat (IntKind.i64.wrap (e2 + (1 : Int)))) from eI.set0 _ _ (IntKind.i64.wrap (e2 + (1 : Int)))]
       exact zd (XR.sub (Sub.trans (Sub.pick (fr' := [(0, vl eI p1), (1, vl eI p2), (4, .one (.sl 0 1 0 l2.length)), (5, vl eI r3), (6, vi x2)]) [0,1,4,5,6] (by kernel_rfl)) (Sub.frame (fr' := [(0, vl eI p1), (1, vl eI p2), (4, .one (.sl 0 1 0 (l2.set x2.toNat (IntKind.i64.wrap (e2 + (1 : Int)))).length)), (5, vl eI r3), (6, vi x2)]) ⟨.rfl _, .rfl _, ALe.of_eq (show (.one (.sl 0 1 0 l2.length) : AV) = .one (.sl 0 1 0 (l2.set x2.toNat (IntKind.i64.wrap (e2 + (1 : Int)))).length) from by simp), .rfl _, .rfl _, trivial⟩)) (ih2 (l2.set x2.toNat (IntKind.i64.wrap (e2 + (1 : Int)))) r3 h))
      ·exact zx 2 (hQ2 _ _ _ (hJ1 l2 x3 h _ _ (Sub.trans (Sub.pick (fr' := [(0, vl eI p1), (1, vl eI p2), (4, .one (.sl 0 1 0 l2.length)), (5, vl eI x3), (6, vi x2)]) [0,1,4,5,6] (by kernel_rfl)) (Sub.take (fr' := [(0, vl eI p1), (1, vl eI p2), (4, .one (.sl 0 1 0 l2.length)), (5, vl eI x3), (6, vi x2)]) 1 (Nat.zero_le _) (by kernel_rfl) (by kernel_rfl)))))
    exact XR.sub (zk [0,1,4,5,6]) (hL2 BIG l1 r1.d h)
   ·exact zx 0 (hQ1 _ _ _ (hJ2 l1 x1 h _ _ (zk [4,5])))
 exact XR.sub (Sub.trans (Sub.pick (fr' := [(0, vl eI p1), (1, vl eI p2), (4, .one (.sl 0 1 0 ((p1.length : Int).toNat))), (5, .one (.pv (.s (.slice none 0 0)))), (6, vi (IntKind.i64.wrap ((p1.length : Int) - (1 : Int))))]) [0,1,4,5,6] (by kernel_rfl)) (Sub.frame (fr' := [(0, vl eI p1), (1, vl eI p2), (4, .one (.sl 0 1 0 (List.replicate (p1.length : Int).toNat (0 : Int)).length)), (5, vl eI []), (6, vi (IntKind.i64.wrap ((p1.length : Int) - (1 : Int))))]) ⟨.rfl _, .rfl _, ALe.of_eq (show (.one (.sl 0 1 0 ((p1.length : Int).toNat)) : AV) = .one (.sl 0 1 0 (List.replicate (p1.length : Int).toNat (0 : Int)).length) from by simp), .one .nl, .rfl _, trivial⟩)) (hL1 BIG (List.replicate (p1.length : Int).toNat (0 : Int)) [] (IntKind.i64.wrap ((p1.length : Int) - (1 : Int))) h)

def ref1_even_j2 (p1 : RWide) (p2 : RWide) (x2 : List Int) : Option RWide :=
    bnd (ref1_cut (!(p1.below == p2.below)) x2) fun r5 =>
    some r5

def ref1_even_j1 (p1 : RWide) (p2 : RWide) (r1 : ((List Int) × (List Int))) (x1 : Bool) : Option RWide :=
    ift x1
      (bnd (ref1_plus r1.1 [(1 : Int)]) fun r4 =>
       ref1_even_j2 p1 p2 r4)
      (ref1_even_j2 p1 p2 r1.1)

def ref1_even (p1 : RWide) (p2 : RWide) : Option RWide :=
    bnd (ref1_divide p1.d p2.d) fun r1 =>
    bnd (ref1_plus r1.2 r1.2) fun r2 =>
    bnd (ref1_most r2 p2.d) fun r3 =>
    ift (decide ((0 : Int) < r3))
      (ref1_even_j1 p1 p2 r1 true)
      (ift (r3 == (0 : Int))
         (ift (decide ((0 : Int) < (r1.1.length : Int)))
            (bnd (at? r1.1 (0 : Int)) fun e1 =>
             ref1_even_j1 p1 p2 r1 ((e1.tmod (2 : Int)) == (1 : Int)))
            (ref1_even_j1 p1 p2 r1 false))
         (ref1_even_j1 p1 p2 r1 false))

abbrev qa1489 (p1 : RWide) : List PV := [.s (.bool p1.below), .ro (eI.els p1.d)]
abbrev qa1490 (p2 : RWide) : List PV := [.s (.bool p2.below), .ro (eI.els p2.d)]
abbrev qa1491 : List CV := [cb false, .pv (.s (.slice none 0 0))]
abbrev qa1504 (p1 : RWide) (p2 : RWide) (r1 : ((List Int) × (List Int))) (r3 : Int) : Fr := [(2, .one (.pv (.rp [(qa1489 p1)] 0 0))), (3, .one (.pv (.rp [(qa1490 p2)] 0 0))), (4, .one (.pt 0 0 0 0)), (5, vl eI r1.1), (7, vi r3), (24, vb (decide ((0 : Int) < r3)))]

theorem c_ref1_even (p1 : RWide) (p2 : RWide) (r : RWide) (h : ref1_even p1 p2 = some r) : PC Tryd.prog 34 [.ag [cb p1.below, cl eI p1.d], .ag [cb p2.below, cl eI p2.d]] (.ag [cb r.below, cl eI r.d]) := by
 unfold ref1_even at h
 refine zF 50 Tryd.f34 (zq fun K1 hK1 => zr (zg [4] 3 [2,3,4] (zd (hK1 _ _ (zq fun K2 hK2 => ?_)))))
 obtain ⟨r1, c3, h⟩ := zB h
 refine zr (zu [4] 4 [2,3,4,10,12] [(qa1489 p1), (qa1490 p2)] (zl 58 [vl eI p1.d, vl eI p2.d] (.tp [vl eI r1.1, vl eI r1.2]) [(13, .tp [vl eI r1.1, vl eI r1.2]), (2, .one (.pv (.rp [(qa1489 p1)] 0 0))), (3, .one (.pv (.rp [(qa1490 p2)] 0 0))), (4, .one (.pt 0 0 0 0)), (10, vl eI p1.d), (12, vl eI p2.d)] (c_ref1_divide _ _ _ c3) (zg [4] 5 [2,3,4,5,6] (zd (hK2 _ _ (zq fun K4 hK4 => ?_))))))
 obtain ⟨r2, c5, h⟩ := zB h
 obtain ⟨r3, c6, h⟩ := zB h
 refine zw 5 [(20, vl eI p2.d), (19, .one (.pv (.rp [(qa1490 p2)] 0 1))), (18, vl eI r2), (17, vl eI r1.2), (16, vl eI r1.2), (2, .one (.pv (.rp [(qa1489 p1)] 0 0))), (3, .one (.pv (.rp [(qa1490 p2)] 0 0))), (4, .one (.pt 0 0 0 0)), (5, vl eI r1.1), (6, vl eI r1.2)] ?_ ?_
 ·exact zyg 2 (DX.cal 60 [vl eI r1.2, vl eI r1.2] (vl eI r2) [(18, vl eI r2), (17, vl eI r1.2), (16, vl eI r1.2), (2, .one (.pv (.rp [(qa1489 p1)] 0 0))), (3, .one (.pv (.rp [(qa1490 p2)] 0 0))), (4, .one (.pt 0 0 0 0)), (5, vl eI r1.1), (6, vl eI r1.2)] (by kernel_rfl) (c_ref1_plus _ _ _ c5) rfl rfl (by kernel_rfl) (zyu 2 [(qa1490 p2)] zyd))
 refine za (c_ref1_most _ _ _ c6) (zv [4] 1 [2,3,4,5,7] [] [(2, .one (.pv (.rp [(qa1489 p1)] 0 0))), (3, .one (.pv (.rp [(qa1490 p2)] 0 0))), (4, .one (.pt 0 0 0 0)), (5, vl eI r1.1), (7, vi r3)] [.box qa1491] (zd (hK4 _ _ (zq fun K7 hK7 => ?_))))
 have hJ2 : ∀ (x2 : List Int), ref1_even_j2 p1 p2 x2 = some r → ∀ fr1 st1, Sub 50 0 [] fr1 st1 [(2, .one (.pv (.rp [(qa1489 p1)] 0 0))), (3, .one (.pv (.rp [(qa1490 p2)] 0 0))), (4, .one (.pt 0 0 0 0)), (5, vl eI x2)] [.box qa1491] → K7 fr1 st1 := by
  intro x2 h fr1 st1 hS
  unfold ref1_even_j2 at h
  refine hK7 _ _ (XW.sub hS ?_)
  refine zq fun K15 hK15 => ?_
  obtain ⟨r5, c16, h⟩ := zB h
  refine zr (zu [4] 6 [4,47,48] [(qa1489 p1), (qa1490 p2)] (za (c_ref1_cut _ _ _ c16) (zv [4] 1 [4] [] [(4, .one (.pt 0 0 0 0))] [.box [cb r5.below, cl eI r5.d]] (zd (hK15 _ _ (ze ?_))))))
  obtain rfl := Option.some.inj h
  exact zf [.ag [cb r5.below, cl eI r5.d]] (.ag (.cons (.rfl _ rfl) (.cons (.rfl _ rfl) .nil)))
 refine zq fun K8 hK8 => ?_
 have hJ1 : ∀ (x1 : Bool), ref1_even_j1 p1 p2 r1 x1 = some r → ∀ fr1 st1, Sub 50 0 [] fr1 st1 [(2, .one (.pv (.rp [(qa1489 p1)] 0 0))), (3, .one (.pv (.rp [(qa1490 p2)] 0 0))), (4, .one (.pt 0 0 0 0)), (5, vl eI r1.1), (39, vb x1)] [.box qa1491] → K8 fr1 st1 := by
  intro x1 h fr1 st1 hS
  unfold ref1_even_j1 at h
  refine hK8 _ _ (XW.sub hS ?_)
  refine zC h (fun b13 h => ?_) (fun b13 h => ?_)
  ·obtain ⟨r4, c14, h⟩ := zB h
   exact zr (zg [4] 2 [2,3,4,40,41] (za (c_ref1_plus _ _ _ c14) (zv [4] 1 [2,3,4,5] [] [(2, .one (.pv (.rp [(qa1489 p1)] 0 0))), (3, .one (.pv (.rp [(qa1490 p2)] 0 0))), (4, .one (.pt 0 0 0 0)), (5, vl eI r4)] [.box qa1491] (zd (hJ2 r4 h _ _ (zk [2,3,4,5]))))))
  ·exact zs (hJ2 r1.1 h _ _ (zk [2,3,4,5]))
 rcases zW h with ⟨b9, h⟩ | ⟨b9, h⟩
 ·exact zr (zg [4] 3 [2,3,4,5,7,24] (zt 24 b9 (zg [4] 15 [2,3,4,5,39] (zd (hJ1 true h _ _ (zk [2,3,4,5,39]))))))
 ·rcases zW h with ⟨b10, h⟩ | ⟨b10, h⟩
  ·rcases zW h with ⟨b11, h⟩ | ⟨b11, h⟩
   ·obtain ⟨e1, a12, h⟩ := zB h
    refine zr (zv [4] 3 [2,3,4,5,7,24] [] (qa1504 p1 p2 r1 r3) [.box qa1491] (zt 24 b9 (zg [4] 3 [2,3,4,5,24,27] (zt 27 b10 ?_))))
    refine zv [4] 2 [2,3,4,5,24,27,29] [] [(2, .one (.pv (.rp [[.s (.bool p1.below), .ro (eI.els p1.d)]] 0 0))), (3, .one (.pv (.rp [[.s (.bool p2.below), .ro (eI.els p2.d)]] 0 0))), (4, .one (.pt 0 0 0 0)), (5, vl eI r1.1), (24, vb false), (27, vb true), (29, vi ((eI.els r1.1).length : Int))] [.box [cb false, .pv (.s (.slice none 0 0))]] ?_
    rw [eI.len r1.1]
    exact zg [4] 3 [2,3,4,5,24,32] (zt 32 b11 (zo [4] 7 [2,3,4,5,39] [[pi e1]] [0 ≤ (0 : Int) ∧ (0 : Int) < ((eI.els r1.1).length : Int) ∧ elemsOk 1 (eI.els r1.1), (eI.els r1.1)[(0 : Int).toNat]? = some [pi e1], (2 : Int) ≠ 0] (⟨eI.inb a12, (eI.get a12), by decide, trivial⟩) (zd (hJ1 ((e1.tmod (2 : Int)) == (1 : Int)) h _ _ (zk [2,3,4,5,39])))))
   ·refine zr (zv [4] 3 [2,3,4,5,7,24] [] (qa1504 p1 p2 r1 r3) [.box qa1491] (zt 24 b9 (zg [4] 3 [2,3,4,5,24,27] (zt 27 b10 ?_))))
    refine zv [4] 2 [2,3,4,5,24,27,29] [] [(2, .one (.pv (.rp [[.s (.bool p1.below), .ro (eI.els p1.d)]] 0 0))), (3, .one (.pv (.rp [[.s (.bool p2.below), .ro (eI.els p2.d)]] 0 0))), (4, .one (.pt 0 0 0 0)), (5, vl eI r1.1), (24, vb false), (27, vb true), (29, vi ((eI.els r1.1).length : Int))] [.box [cb false, .pv (.s (.slice none 0 0))]] ?_
    rw [eI.len r1.1]
    exact zg [4] 3 [2,3,4,5,24,32] (zt 32 b11 (zg [4] 7 [2,3,4,5,39] (zd (hJ1 false h _ _ (zk [2,3,4,5,39])))))
  ·exact zr (zv [4] 3 [2,3,4,5,7,24] [] (qa1504 p1 p2 r1 r3) [.box qa1491] (zt 24 b9 (zg [4] 3 [2,3,4,5,24,27] (zt 27 b10 (zg [4] 12 [2,3,4,5,39] (zd (hJ1 false h _ _ (zk [2,3,4,5,39]))))))))

def ref1_Mean_j2 (r1 : (RWide × Int × GType × Int)) (x2 : Int) : Option (GValue × Int) :=
    bnd (ref1_tens r1.1 (IntKind.i64.wrap (x2 - r1.2.2.1.scale))) fun r2 =>
    bnd (ref1_wideOf r1.2.1) fun r3 =>
    bnd (ref1_even r2 r3) fun r4 =>
    bnd (ref1_number (3 : Int) r4 x2) fun r5 =>
    some (r5, (0 : Int))

def ref1_Mean_j1 (r1 : (RWide × Int × GType × Int)) (x1 : Bool) : Option (GValue × Int) :=
    ift x1
      (some ((GValue.mk (0 : Int) (0 : Int) (0 : Int) ByteArray.empty []), r1.2.2.2))
      (bnd (some (decide ((12 : Int) < (IntKind.i64.wrap (r1.2.2.1.scale + (6 : Int)))))) fun y1 =>
       ift y1
         (ref1_Mean_j2 r1 (12 : Int))
         (ref1_Mean_j2 r1 (IntKind.i64.wrap (r1.2.2.1.scale + (6 : Int)))))

def ref1_Mean (p1 : (List GValue)) : Option (GValue × Int) :=
    bnd (ref1_added p1) fun r1 =>
    ift (r1.2.2.2 != (0 : Int))
      (ref1_Mean_j1 r1 true)
      (ref1_Mean_j1 r1 (r1.2.1 == (0 : Int)))

abbrev qa1506 (r1 : (RWide × Int × GType × Int)) : List CV := [cb r1.1.below, cl eI r1.1.d]
abbrev qa1507 (r1 : (RWide × Int × GType × Int)) : List CV := [ci r1.2.2.1.kind, ci r1.2.2.1.scale, cl eField r1.2.2.1.fields]
abbrev qa1509 : List CV := [ci (0 : Int), ci (0 : Int), ci (0 : Int), cst ByteArray.empty, .pv (.s (.slice none 0 0))]
abbrev qa1516 (r1 : (RWide × Int × GType × Int)) : St := [.box qa1509, .box (qa1506 r1), .box (qa1507 r1)]

theorem c_ref1_Mean (p1 : (List GValue)) (r : (GValue × Int)) (h : ref1_Mean p1 = some r) : PC Tryd.prog 13 [vl eValue p1] (.tp [.ag [ci r.1.kind, ci r.1.n, ci r.1.scale, cst r.1.s, cl eValue r.1.items], vi r.2]) := by
 unfold ref1_Mean at h
 refine zF 40 Tryd.f13 (zq fun K1 hK1 => zr (zg [2, 4, 6] 2 [0,2] (zd (hK1 _ _ (zq fun K2 hK2 => ?_)))))
 obtain ⟨r1, c3, h⟩ := zB h
 refine zr (zg [2, 4, 6] 1 [2,10] (zl 29 [vl eValue p1] (.tp [.ag (qa1506 r1), vi r1.2.1, .ag (qa1507 r1), vi r1.2.2.2]) [(11, .tp [.ag (qa1506 r1), vi r1.2.1, .ag (qa1507 r1), vi r1.2.2.2]), (2, .one (.pt 0 0 0 0)), (10, vl eValue p1)] (c_ref1_added _ _ c3) (zg [2, 4, 6] 11 [2,4,5,6,7] (zd (hK2 _ _ (zq fun K4 hK4 => zq fun K5 hK5 => ?_))))))
 have hJ1 : ∀ (x1 : Bool), ref1_Mean_j1 r1 x1 = some r → ∀ fr1 st1, Sub 40 0 [] fr1 st1 [(2, .one (.pt 0 0 0 0)), (4, .one (.pt 1 0 0 0)), (5, vi r1.2.1), (6, .one (.pt 2 0 0 0)), (7, vi r1.2.2.2), (21, vb x1)] (qa1516 r1) → K5 fr1 st1 := by
  intro x1 h fr1 st1 hS
  unfold ref1_Mean_j1 at h
  refine hK5 _ _ (XW.sub hS ?_)
  refine zC h (fun b7 h => ?_) (fun b7 h => ?_)
  ·refine zq fun K8 hK8 => zr (zg [2, 4, 6] 4 [2,3] (zd (hK8 _ _ (ze ?_))))
   obtain rfl := Option.some.inj h
   exact zf [.ag qa1509, vi r1.2.2.2] (.tpc (.ag (.cons (.rfl _ rfl) (.cons (.rfl _ rfl) (.cons (.rfl _ rfl) (.cons (.rfl _ rfl) (.cons (.nl) .nil)))))) (.tpc (.one (.rfl _ rfl)) (.tp0)))
  ·refine zs (hK4 _ _ (zq fun K9 hK9 => zr (zg [2, 4, 6] 4 [2,4,5,6,8] (zd (hK9 _ _ (zq fun K10 hK10 => ?_))))))
   have hJ2 : ∀ (x2 : Int), ref1_Mean_j2 r1 x2 = some r → ∀ fr1 st1, Sub 40 0 [] fr1 st1 [(2, .one (.pt 0 0 0 0)), (4, .one (.pt 1 0 0 0)), (5, vi r1.2.1), (6, .one (.pt 2 0 0 0)), (8, vi x2)] (qa1516 r1) → K10 fr1 st1 := by
    intro x2 h fr1 st1 hS
    unfold ref1_Mean_j2 at h
    refine hK10 _ _ (XW.sub hS ?_)
    refine zq fun K14 hK14 => ?_
    obtain ⟨r2, c15, h⟩ := zB h
    obtain ⟨r3, c16, h⟩ := zB h
    obtain ⟨r4, c17, h⟩ := zB h
    obtain ⟨r5, c18, h⟩ := zB h
    refine zr (zg [2, 4, 6] 5 [2,5,8,29,33] (za (c_ref1_tens _ _ _ c15) (zv [2, 4, 6] 1 [2,8,34,35] [] [(2, .one (.pt 0 0 0 0)), (8, vi x2), (34, .ag [cb r2.below, cl eI r2.d]), (35, vi r1.2.1)] (qa1516 r1) (za (c_ref1_wideOf _ _ c16) (za (c_ref1_even _ _ _ c17) ?_)))))
    refine zv [2, 4, 6] 1 [2,37,38] [] [(2, .one (.pt 0 0 0 0)), (37, .ag [cb r4.below, cl eI r4.d]), (38, vi x2)] (qa1516 r1) (za (c_ref1_number _ _ _ _ c18) (zg [2, 4, 6] 2 [2,3] (zd (hK14 _ _ (ze ?_)))))
    obtain rfl := Option.some.inj h
    exact zf [.ag [ci r5.kind, ci r5.n, ci r5.scale, cst r5.s, cl eValue r5.items], vi (0 : Int)] (.tpc (.ag (.cons (.rfl _ rfl) (.cons (.rfl _ rfl) (.cons (.rfl _ rfl) (.cons (.rfl _ rfl) (.cons (.rfl _ rfl) .nil)))))) (.tpc (.one (.rfl _ rfl)) (.tp0)))
   refine zq fun K11 hK11 => ?_
   obtain ⟨y1, hy12, h⟩ := zB h
   refine zr (zv [2, 4, 6] 2 [2,4,5,6,8,28] [] [(2, .one (.pt 0 0 0 0)), (4, .one (.pt 1 0 0 0)), (5, vi r1.2.1), (6, .one (.pt 2 0 0 0)), (8, vi (IntKind.i64.wrap (r1.2.2.1.scale + (6 : Int)))), (28, vb (decide ((12 : Int) < (IntKind.i64.wrap (r1.2.2.1.scale + (6 : Int))))))] [.box [ci (0 : Int), ci (0 : Int), ci (0 : Int), cst ByteArray.empty, .pv (.s (.slice none 0 0))], .box [cb r1.1.below, cl eI r1.1.d], .box [ci r1.2.2.1.kind, ci r1.2.2.1.scale, cl eField r1.2.2.1.fields]] ?_)
   rw [show (decide ((12 : Int) < (IntKind.i64.wrap (r1.2.2.1.scale + (6 : Int))))) = y1 from Option.some.inj hy12]
   refine zd (hK11 _ _ (zC h (fun b13 h => ?_) (fun b13 h => ?_)))
   ·exact zr (zg [2, 4, 6] 1 [2,4,5,6,8] (zd (hJ2 (12 : Int) h _ _ (zk [2,4,5,6,8]))))
   ·exact zs (hJ2 (IntKind.i64.wrap (r1.2.2.1.scale + (6 : Int))) h _ _ (zk [2,4,5,6,8]))
 rcases zW h with ⟨b6, h⟩ | ⟨b6, h⟩
 ·exact zr (zg [2, 4, 6] 3 [2,4,5,6,7,18] (zt 18 b6 (zv [2, 4, 6] 3 [2,4,5,6,7,21] [] [(2, .one (.pt 0 0 0 0)), (4, .one (.pt 1 0 0 0)), (5, vi r1.2.1), (6, .one (.pt 2 0 0 0)), (7, vi r1.2.2.2), (21, vb true)] (qa1516 r1) (zd (hJ1 true h _ _ (zk [2,4,5,6,7,21]))))))
 ·exact zr (zg [2, 4, 6] 3 [2,4,5,6,7,18] (zt 18 b6 (zg [2, 4, 6] 3 [2,4,5,6,7,21] (zd (hJ1 (r1.2.1 == (0 : Int)) h _ _ (zk [2,4,5,6,7,21]))))))

def law1_ValueSumsMatchSpec_j4 (x4 : Bool) : Option Bool :=
    some x4

def law1_ValueSumsMatchSpec_j3 (r6 : (GValue × Int)) (l2 : List GValue) : Option Bool :=
    bnd (value_Sum l2) fun r12 =>
    ift (r12.2 == r6.2)
      (bnd (law1_exactly BIG r12.1 r6.1) fun r13 =>
       law1_ValueSumsMatchSpec_j4 r13)
      (law1_ValueSumsMatchSpec_j4 false)

def law1_ValueSumsMatchSpec_l1 (p1 : (List GValue)) (r6 : (GValue × Int)) : Nat → List GValue → Int → Option Bool
  | 0, _, _ => none
  | k1 + 1, l1, x3 =>
    ift (decide (x3 < (p1.length : Int)))
      (bnd (at? p1 x3) fun e1 =>
       bnd (some (IntKind.i64.wrap ((IntKind.i64.wrap ((p1.length : Int) - (1 : Int))) - x3))) fun y1 =>
       bnd (at? l1 y1) fun e2 =>
       (law1_ValueSumsMatchSpec_l1 p1 r6 k1) (l1.set y1.toNat e1) (IntKind.i64.wrap (x3 + (1 : Int))))
      (law1_ValueSumsMatchSpec_j3 r6 l1)

def law1_ValueSumsMatchSpec_j2 (p1 : (List GValue)) (r6 : (GValue × Int)) (x2 : Bool) : Option Bool :=
    ift x2
      (some false)
      (grd (0 ≤ (p1.length : Int) ∧ (p1.length : Int) ≤ (p1.length : Int) ∧ (p1.length : Int) ≤ 4294967296) <|
       law1_ValueSumsMatchSpec_l1 p1 r6 BIG (List.replicate (p1.length : Int).toNat (GValue.mk (0 : Int) (0 : Int) (0 : Int) ByteArray.empty [])) (0 : Int))

def law1_ValueSumsMatchSpec_j1 (p1 : (List GValue)) (x1 : Bool) : Option Bool :=
    ift x1
      (some false)
      (bnd (value_Sum p1) fun r6 =>
       bnd (ref1_Sum p1) fun r7 =>
       bnd (value_Mean p1) fun r8 =>
       bnd (ref1_Mean p1) fun r9 =>
       ift (r6.2 != r7.2)
         (law1_ValueSumsMatchSpec_j2 p1 r6 true)
         (ift (r8.2 != r9.2)
            (law1_ValueSumsMatchSpec_j2 p1 r6 true)
            (bnd (law1_exactly BIG r6.1 r7.1) fun r10 =>
             ift (!r10)
               (law1_ValueSumsMatchSpec_j2 p1 r6 true)
               (bnd (law1_exactly BIG r8.1 r9.1) fun r11 =>
                law1_ValueSumsMatchSpec_j2 p1 r6 (!r11)))))

def law1_ValueSumsMatchSpec (p1 : (List GValue)) : Option Bool :=
    bnd (law1_number (1 : Int)) fun r1 =>
    bnd (law1_number (2 : Int)) fun r2 =>
    bnd (value_Sum [r1, r2]) fun r3 =>
    ift (r3.2 != (0 : Int))
      (law1_ValueSumsMatchSpec_j1 p1 true)
      (bnd (law1_number (3 : Int)) fun r4 =>
       bnd (law1_exactly BIG r3.1 r4) fun r5 =>
       law1_ValueSumsMatchSpec_j1 p1 (!r5))

abbrev qa1520 (r3 : (GValue × Int)) : List CV := [ci r3.1.kind, ci r3.1.n, ci r3.1.scale, cst r3.1.s, cl eValue r3.1.items]
abbrev qa1521 (r6 : (GValue × Int)) : List CV := [ci r6.1.kind, ci r6.1.n, ci r6.1.scale, cst r6.1.s, cl eValue r6.1.items]
abbrev qa1522 (r7 : (GValue × Int)) : List CV := [ci r7.1.kind, ci r7.1.n, ci r7.1.scale, cst r7.1.s, cl eValue r7.1.items]
abbrev qa1523 (r8 : (GValue × Int)) : List CV := [ci r8.1.kind, ci r8.1.n, ci r8.1.scale, cst r8.1.s, cl eValue r8.1.items]
abbrev qa1524 (r9 : (GValue × Int)) : List CV := [ci r9.1.kind, ci r9.1.n, ci r9.1.scale, cst r9.1.s, cl eValue r9.1.items]
abbrev qa1530 (r12 : (GValue × Int)) : List CV := [ci r12.1.kind, ci r12.1.n, ci r12.1.scale, cst r12.1.s, cl eValue r12.1.items]
abbrev qa1535 (p1 : (List GValue)) (r6 : (GValue × Int)) : Fr := [(0, vl eValue p1), (5, .one (.pt 1 0 0 0)), (6, vi r6.2), (72, vb true)]
abbrev qa1544 (r3 : (GValue × Int)) (r6 : (GValue × Int)) (r7 : (GValue × Int)) (r8 : (GValue × Int)) (r9 : (GValue × Int)) : St := [.box (qa1520 r3), .box (qa1521 r6), .box (qa1522 r7), .box (qa1523 r8), .box (qa1524 r9)]
abbrev qa1548 (p1 : (List GValue)) (r6 : (GValue × Int)) (r7 : (GValue × Int)) : Fr := [(0, vl eValue p1), (5, .one (.pt 1 0 0 0)), (6, vi r6.2), (9, .one (.pt 3 0 0 0)), (11, .one (.pt 4 0 0 0)), (61, vb false), (62, .ag (qa1521 r6)), (63, .ag (qa1522 r7))]

theorem c_law1_ValueSumsMatchSpec (p1 : (List GValue)) (r : Bool) (h : law1_ValueSumsMatchSpec p1 = some r) : PC Tryd.prog 4 [vl eValue p1] (vb r) := by
 unfold law1_ValueSumsMatchSpec at h
 refine zF 105 Tryd.f4 (zq fun K1 hK1 => zr (zg [3, 5, 7, 9, 11, 15, 16] 1 [0] (zd (hK1 _ _ (zq fun K2 hK2 => zq fun K3 hK3 => ?_)))))
 obtain ⟨r1, c4, h⟩ := zB h
 obtain ⟨r2, c5, h⟩ := zB h
 obtain ⟨r3, c6, h⟩ := zB h
 refine zr (za (c_law1_number _ _ c4) (zl 10 [vi (2 : Int)] (.ag [ci r2.kind, ci r2.n, ci r2.scale, cst r2.s, cl eValue r2.items]) [(20, .ag [ci r2.kind, ci r2.n, ci r2.scale, cst r2.s, cl eValue r2.items]), (19, .ag [ci r1.kind, ci r1.n, ci r1.scale, cst r1.s, cl eValue r1.items]), (0, vl eValue p1)] (c_law1_number _ _ c5) (zv [3, 5, 7, 9, 11, 15, 16] 1 [0,21] [] [(0, vl eValue p1), (21, .one (.pv (.ro [[pi r1.kind, pi r1.n, pi r1.scale, .s (.string r1.s), .ro (eValue.els r1.items)], [pi r2.kind, pi r2.n, pi r2.scale, .s (.string r2.s), .ro (eValue.els r2.items)]])))] [] ?_)))
 rw [show ([[pi r1.kind, pi r1.n, pi r1.scale, .s (.string r1.s), .ro (eValue.els r1.items)], [pi r2.kind, pi r2.n, pi r2.scale, .s (.string r2.s), .ro (eValue.els r2.items)]] : List (List PV)) = eValue.els [r1, r2] from by cases r1; cases r2; rfl]
 refine za (c_value_Sum _ _ c6) (zg [3, 5, 7, 9, 11, 15, 16] 6 [0,3,4] (zd (hK3 _ _ (zq fun K7 hK7 => ?_))))
 have hJ1 : ∀ (x1 : Bool), law1_ValueSumsMatchSpec_j1 p1 x1 = some r → ∀ fr1 st1, Sub 105 0 [] fr1 st1 [(0, vl eValue p1), (32, vb x1)] [.box (qa1520 r3)] → K7 fr1 st1 := by
  intro x1 h fr1 st1 hS
  unfold law1_ValueSumsMatchSpec_j1 at h
  refine hK7 _ _ (XW.sub hS ?_)
  refine zC h (fun b11 h => ?_) (fun b11 h => ?_)
  ·refine zq fun K12 hK12 => zr (zg [3, 5, 7, 9, 11, 15, 16] 1 [2] (zd (hK12 _ _ (ze ?_))))
   obtain rfl := Option.some.inj h
   exact zf [vb false] (.one (.rfl _ rfl))
  ·refine zs (hK2 _ _ (zq fun K13 hK13 => ?_))
   obtain ⟨r6, c14, h⟩ := zB h
   refine zr (zg [3, 5, 7, 9, 11, 15, 16] 1 [0,34] (zl 9 [vl eValue p1] (.tp [.ag (qa1521 r6), vi r6.2]) [(35, .tp [.ag (qa1521 r6), vi r6.2]), (0, vl eValue p1), (34, vl eValue p1)] (c_value_Sum _ _ c14) (zg [3, 5, 7, 9, 11, 15, 16] 6 [0,5,6] (zd (hK13 _ _ (zq fun K15 hK15 => ?_))))))
   obtain ⟨r7, c16, h⟩ := zB h
   refine zr (zg [3, 5, 7, 9, 11, 15, 16] 1 [0,5,6,39] (zl 11 [vl eValue p1] (.tp [.ag (qa1522 r7), vi r7.2]) [(40, .tp [.ag (qa1522 r7), vi r7.2]), (0, vl eValue p1), (5, .one (.pt 1 0 0 0)), (6, vi r6.2), (39, vl eValue p1)] (c_ref1_Sum _ _ c16) (zg [3, 5, 7, 9, 11, 15, 16] 6 [0,5,6,7,8] (zd (hK15 _ _ (zq fun K17 hK17 => ?_))))))
   obtain ⟨r8, c18, h⟩ := zB h
   refine zr (zg [3, 5, 7, 9, 11, 15, 16] 1 [0,5,6,7,8,44] (zl 12 [vl eValue p1] (.tp [.ag (qa1523 r8), vi r8.2]) [(45, .tp [.ag (qa1523 r8), vi r8.2]), (0, vl eValue p1), (5, .one (.pt 1 0 0 0)), (6, vi r6.2), (7, .one (.pt 2 0 0 0)), (8, vi r7.2), (44, vl eValue p1)] (c_value_Mean _ _ c18) (zg [3, 5, 7, 9, 11, 15, 16] 6 [0,5,6,7,8,9,10] (zd (hK17 _ _ (zq fun K19 hK19 => ?_))))))
   obtain ⟨r9, c20, h⟩ := zB h
   refine zr (zg [3, 5, 7, 9, 11, 15, 16] 1 [0,5,6,7,8,9,10,49] (zl 13 [vl eValue p1] (.tp [.ag (qa1524 r9), vi r9.2]) [(50, .tp [.ag (qa1524 r9), vi r9.2]), (0, vl eValue p1), (5, .one (.pt 1 0 0 0)), (6, vi r6.2), (7, .one (.pt 2 0 0 0)), (8, vi r7.2), (9, .one (.pt 3 0 0 0)), (10, vi r8.2), (49, vl eValue p1)] (c_ref1_Mean _ _ c20) (zg [3, 5, 7, 9, 11, 15, 16] 6 [0,5,6,7,8,9,10,11,12] (zd (hK19 _ _ (zq fun K21 hK21 => zq fun K22 hK22 => ?_))))))
   have hJ2 : ∀ (x2 : Bool), law1_ValueSumsMatchSpec_j2 p1 r6 x2 = some r → ∀ fr1 st1, Sub 105 0 [] fr1 st1 [(0, vl eValue p1), (5, .one (.pt 1 0 0 0)), (6, vi r6.2), (72, vb x2)] (qa1544 r3 r6 r7 r8 r9) → K22 fr1 st1 := by
    intro x2 h fr1 st1 hS
    unfold law1_ValueSumsMatchSpec_j2 at h
    refine hK22 _ _ (XW.sub hS ?_)
    refine zC h (fun b28 h => ?_) (fun b28 h => ?_)
    ·refine zq fun K29 hK29 => zr (zg [3, 5, 7, 9, 11, 15, 16] 1 [2] (zd (hK29 _ _ (ze ?_))))
     obtain rfl := Option.some.inj h
     exact zf [vb false] (.one (.rfl _ rfl))
    ·refine zs (hK21 _ _ (zq fun K30 hK30 => ?_))
     obtain ⟨g32, h⟩ := zG h
     refine zr (zv [3, 5, 7, 9, 11, 15, 16] 2 [0,5,6,74] [] [(0, vl eValue p1), (5, .one (.pt 1 0 0 0)), (6, vi r6.2), (74, vi ((eValue.els p1).length : Int))] [.box [ci r3.1.kind, ci r3.1.n, ci r3.1.scale, cst r3.1.s, cl eValue r3.1.items], .box [ci r6.1.kind, ci r6.1.n, ci r6.1.scale, cst r6.1.s, cl eValue r6.1.items], .box [ci r7.1.kind, ci r7.1.n, ci r7.1.scale, cst r7.1.s, cl eValue r7.1.items], .box [ci r8.1.kind, ci r8.1.n, ci r8.1.scale, cst r8.1.s, cl eValue r8.1.items], .box [ci r9.1.kind, ci r9.1.n, ci r9.1.scale, cst r9.1.s, cl eValue r9.1.items]] ?_)
     rw [eValue.len p1]
     refine zp [3, 5, 7, 9, 11, 15, 16] 1 [0,5,6,75] [] [(0, vl eValue p1), (5, .one (.pt 1 0 0 0)), (6, vi r6.2), (75, .one (.sl 5 5 0 ((p1.length : Int).toNat)))] [.box [ci r3.1.kind, ci r3.1.n, ci r3.1.scale, cst r3.1.s, cl eValue r3.1.items], .box [ci r6.1.kind, ci r6.1.n, ci r6.1.scale, cst r6.1.s, cl eValue r6.1.items], .box [ci r7.1.kind, ci r7.1.n, ci r7.1.scale, cst r7.1.s, cl eValue r7.1.items], .box [ci r8.1.kind, ci r8.1.n, ci r8.1.scale, cst r8.1.s, cl eValue r8.1.items], .box [ci r9.1.kind, ci r9.1.n, ci r9.1.scale, cst r9.1.s, cl eValue r9.1.items], .arr 5 (List.replicate (p1.length : Int).toNat [pi (0 : Int), pi (0 : Int), pi (0 : Int), .s (.string ByteArray.empty), .ro (eValue.els [])])] [0 ≤ (p1.length : Int), (p1.length : Int) ≤ (p1.length : Int), (p1.length : Int) ≤ 4294967296] (⟨g32.1, g32.2.1, g32.2.2, trivial⟩) ?_
     rw [show List.replicate (p1.length : Int).toNat [pi (0 : Int), pi (0 : Int), pi (0 : Int), .s (.string ByteArray.empty), .ro (eValue.els [])] = eValue.els (List.replicate (p1.length : Int).toNat (GValue.mk (0 : Int) (0 : Int) (0 : Int) ByteArray.empty [])) from eValue.rep _ (GValue.mk (0 : Int) (0 : Int) (0 : Int) ByteArray.empty [])]
     refine zg [3, 5, 7, 9, 11, 15, 16] 1 [0,5,6,13] (zd (hK30 _ _ (zq fun K33 hK33 => ?_)))
     have hJ3 : ∀ (l2 : List GValue), law1_ValueSumsMatchSpec_j3 r6 l2 = some r → ∀ fr1 st1, Sub 105 0 [] fr1 st1 [(5, .one (.pt 1 0 0 0)), (6, vi r6.2), (13, .one (.sl 5 5 0 l2.length))] [.box (qa1520 r3), .box (qa1521 r6), .box (qa1522 r7), .box (qa1523 r8), .box (qa1524 r9), .arr 5 (eValue.els l2)] → K33 fr1 st1 := by
      intro l2 h fr1 st1 hS
      unfold law1_ValueSumsMatchSpec_j3 at h
      refine hK33 _ _ (XW.sub hS ?_)
      refine zq fun K43 hK43 => ?_
      obtain ⟨r12, c44, h⟩ := zB h
      refine zr (zv [3, 5, 7, 9, 11, 15, 16] 1 [5,6,93] [] [(5, .one (.pt 1 0 0 0)), (6, vi r6.2), (93, .one (.sl 5 5 0 l2.length))] [.box (qa1520 r3), .box (qa1521 r6), .box (qa1522 r7), .box (qa1523 r8), .box (qa1524 r9), .arr 5 (eValue.els l2)] ?_)
      refine XO.sub (Sub.kill (fr' := [(5, .one (.pt 1 0 0 0)), (6, vi r6.2), (93, vl eValue l2)]) 5 (Nat.zero_le _) (by kernel_rfl) ⟨.one (.rfl _ rfl), .one (.rfl _ rfl), .one (cf_sl eValue l2 rfl rfl rfl), trivial⟩) (za (c_value_Sum _ _ c44) (zg [3, 5, 7, 9, 11, 15, 16] 6 [5,6,16,17] (zd (hK43 _ _ (zq fun K45 hK45 => ?_)))))
      have hJ4 : ∀ (x4 : Bool), law1_ValueSumsMatchSpec_j4 x4 = some r → ∀ fr1 st1, Sub 105 0 [] fr1 st1 [(2, vb x4)] [.box (qa1520 r3), .box (qa1521 r6), .box (qa1522 r7), .box (qa1523 r8), .box (qa1524 r9), .dead, .box (qa1530 r12)] → K45 fr1 st1 := by
       intro x4 h fr1 st1 hS
       unfold law1_ValueSumsMatchSpec_j4 at h
       refine hK45 _ _ (XW.sub hS ?_)
       refine ze ?_
       obtain rfl := Option.some.inj h
       exact zf [vb x4] (.one (.rfl _ rfl))
      rcases zW h with ⟨b46, h⟩ | ⟨b46, h⟩
      ·obtain ⟨r13, c47, h⟩ := zB h
       refine zr ?_
       refine zv [3, 5, 7, 9, 11, 15, 16] 4 [5,16,100] [] [(5, .one (.pt 1 0 0 0)), (16, .one (.pt 6 0 0 0)), (100, vb (r12.2 == r6.2))] [.box (qa1520 r3), .box (qa1521 r6), .box (qa1522 r7), .box (qa1523 r8), .box (qa1524 r9), .dead, .box (qa1530 r12)] ?_
       refine zt 100 b46 (zg [3, 5, 7, 9, 11, 15, 16] 2 [100,101,102] (za (c_law1_exactly BIG _ _ _ c47) ?_))
       exact zv [3, 5, 7, 9, 11, 15, 16] 2 [2] [] [(2, vb r13)] [.box (qa1520 r3), .box (qa1521 r6), .box (qa1522 r7), .box (qa1523 r8), .box (qa1524 r9), .dead, .box (qa1530 r12)] (zd (hJ4 r13 h _ _ (zk [2])))
      ·exact zr (zg [3, 5, 7, 9, 11, 15, 16] 4 [5,16,100] (zt 100 b46 (zg [3, 5, 7, 9, 11, 15, 16] 5 [2] (zd (hJ4 false h _ _ (zk [2]))))))
     refine zq fun K34 hK34 => zr ?_
     refine zv [3, 5, 7, 9, 11, 15, 16] 2 [0,5,6,13,76,77] [] [(0, vl eValue p1), (5, .one (.pt 1 0 0 0)), (6, vi r6.2), (13, .one (.sl 5 5 0 ((p1.length : Int).toNat))), (76, vl eValue p1), (77, vi ((eValue.els p1).length : Int))] [.box [ci r3.1.kind, ci r3.1.n, ci r3.1.scale, cst r3.1.s, cl eValue r3.1.items], .box [ci r6.1.kind, ci r6.1.n, ci r6.1.scale, cst r6.1.s, cl eValue r6.1.items], .box [ci r7.1.kind, ci r7.1.n, ci r7.1.scale, cst r7.1.s, cl eValue r7.1.items], .box [ci r8.1.kind, ci r8.1.n, ci r8.1.scale, cst r8.1.s, cl eValue r8.1.items], .box [ci r9.1.kind, ci r9.1.n, ci r9.1.scale, cst r9.1.s, cl eValue r9.1.items], .arr 5 (eValue.els (List.replicate (p1.length : Int).toNat (GValue.mk (0 : Int) (0 : Int) (0 : Int) ByteArray.empty [])))] ?_
     rw [eValue.len p1]
     refine zg [3, 5, 7, 9, 11, 15, 16] 1 [0,5,6,13,76,77,78] (zd (hK34 _ _ (zb 0 (XW.rounds' BIG (x := cd Tryd.f4 [1,1,1,1,1,1,1,1,0,1,0,0]) (by kernel_rfl) fun Q1 hQ1 => ?_))))
     have hL1 : ∀ (k1 : Nat) (l1 : List GValue) (x3 : Int), law1_ValueSumsMatchSpec_l1 p1 r6 k1 l1 x3 = some r → XR Tryd.prog 105 0 [] (cd Tryd.f4 [1,1,1,1,1,1,1,1,0,1,0,0]) Q1 k1 [(0, vl eValue p1), (5, .one (.pt 1 0 0 0)), (6, vi r6.2), (13, .one (.sl 5 5 0 l1.length)), (76, vl eValue p1), (77, vi (p1.length : Int)), (78, vi x3)] [.box (qa1520 r3), .box (qa1521 r6), .box (qa1522 r7), .box (qa1523 r8), .box (qa1524 r9), .arr 5 (eValue.els l1)] := by
      intro k1
      induction k1 with
      | zero => intro l1 x3 h; rw [law1_ValueSumsMatchSpec_l1.eq_1] at h; cases h
      | succ k1 ih1 =>
       intro l1 x3 h
       rw [law1_ValueSumsMatchSpec_l1.eq_2] at h
       refine zq fun K35 hK35 => zr (zg [3, 5, 7, 9, 11, 15, 16] 1 [0,5,6,13,76,77,78,79] (zd (hK35 _ _ (zq fun K36 hK36 => zC h (fun b37 h => ?_) (fun b37 h => ?_)))))
       ·refine zs (hK36 _ _ (zq fun K38 hK38 => zb 1 (zq fun K39 hK39 => ?_)))
        obtain ⟨e1, a40, h⟩ := zB h
        refine zr (zo [3, 5, 7, 9, 11, 15, 16] 6 [0,5,6,13,14,15,76,77,78] [[pi e1.kind, pi e1.n, pi e1.scale, .s (.string e1.s), .ro (eValue.els e1.items)]] [0 ≤ x3 ∧ x3 < ((eValue.els p1).length : Int) ∧ elemsOk 5 (eValue.els p1), (eValue.els p1)[x3.toNat]? = some [pi e1.kind, pi e1.n, pi e1.scale, .s (.string e1.s), .ro (eValue.els e1.items)]] (⟨eValue.inb a40, ((eValue.get a40).trans (by cases e1; rfl)), trivial⟩) (zd (hK39 _ _ ?_)))
        obtain ⟨y1, hy41, h⟩ := zB h
        obtain ⟨e2, a42, h⟩ := zB h
        refine zr ?_
        refine zv [3, 5, 7, 9, 11, 15, 16] 3 [0,5,6,13,14,15,76,77,78,83,85] [] [(0, vl eValue p1), (5, .one (.pt 1 0 0 0)), (6, vi r6.2), (13, .one (.sl 5 5 0 l1.length)), (14, vi x3), (15, .one (.pt 6 0 0 0)), (76, vl eValue p1), (77, vi (p1.length : Int)), (78, vi x3), (83, .one (.sl 5 5 0 l1.length)), (85, vi ((eValue.els p1).length : Int))] [.box [ci r3.1.kind, ci r3.1.n, ci r3.1.scale, cst r3.1.s, cl eValue r3.1.items], .box [ci r6.1.kind, ci r6.1.n, ci r6.1.scale, cst r6.1.s, cl eValue r6.1.items], .box [ci r7.1.kind, ci r7.1.n, ci r7.1.scale, cst r7.1.s, cl eValue r7.1.items], .box [ci r8.1.kind, ci r8.1.n, ci r8.1.scale, cst r8.1.s, cl eValue r8.1.items], .box [ci r9.1.kind, ci r9.1.n, ci r9.1.scale, cst r9.1.s, cl eValue r9.1.items], .arr 5 (eValue.els l1), .box [ci e1.kind, ci e1.n, ci e1.scale, cst e1.s, cl eValue e1.items]] ?_
        rw [eValue.len p1]
        refine zv [3, 5, 7, 9, 11, 15, 16] 3 [0,5,6,13,15,76,77,78,83,88] [] [(0, vl eValue p1), (5, .one (.pt 1 0 0 0)), (6, vi r6.2), (13, .one (.sl 5 5 0 l1.length)), (15, .one (.pt 6 0 0 0)), (76, vl eValue p1), (77, vi (p1.length : Int)), (78, vi x3), (83, .one (.sl 5 5 0 l1.length)), (88, vi (IntKind.i64.wrap ((IntKind.i64.wrap ((p1.length : Int) - (1 : Int))) - x3)))] [.box [ci r3.1.kind, ci r3.1.n, ci r3.1.scale, cst r3.1.s, cl eValue r3.1.items], .box [ci r6.1.kind, ci r6.1.n, ci r6.1.scale, cst r6.1.s, cl eValue r6.1.items], .box [ci r7.1.kind, ci r7.1.n, ci r7.1.scale, cst r7.1.s, cl eValue r7.1.items], .box [ci r8.1.kind, ci r8.1.n, ci r8.1.scale, cst r8.1.s, cl eValue r8.1.items], .box [ci r9.1.kind, ci r9.1.n, ci r9.1.scale, cst r9.1.s, cl eValue r9.1.items], .arr 5 (eValue.els l1), .box [ci e1.kind, ci e1.n, ci e1.scale, cst e1.s, cl eValue e1.items]] ?_
        rw [show (IntKind.i64.wrap ((IntKind.i64.wrap ((p1.length : Int) - (1 : Int))) - x3)) = y1 from Option.some.inj hy41]
        refine zp [3, 5, 7, 9, 11, 15, 16] 3 [0,5,6,13,76,77,78] [[pi e2.kind, pi e2.n, pi e2.scale, .s (.string e2.s), .ro (eValue.els e2.items)]] [(0, vl eValue p1), (5, .one (.pt 1 0 0 0)), (6, vi r6.2), (13, .one (.sl 5 5 0 l1.length)), (76, vl eValue p1), (77, vi (p1.length : Int)), (78, vi x3)] [.box [ci r3.1.kind, ci r3.1.n, ci r3.1.scale, cst r3.1.s, cl eValue r3.1.items], .box [ci r6.1.kind, ci r6.1.n, ci r6.1.scale, cst r6.1.s, cl eValue r6.1.items], .box [ci r7.1.kind, ci r7.1.n, ci r7.1.scale, cst r7.1.s, cl eValue r7.1.items], .box [ci r8.1.kind, ci r8.1.n, ci r8.1.scale, cst r8.1.s, cl eValue r8.1.items], .box [ci r9.1.kind, ci r9.1.n, ci r9.1.scale, cst r9.1.s, cl eValue r9.1.items], .arr 5 ((eValue.els l1).set (0 + y1.toNat) [pi e1.kind, pi e1.n, pi e1.scale, .s (.string e1.s), .ro (eValue.els e1.items)]), .box [ci e1.kind, ci e1.n, ci e1.scale, cst e1.s, cl eValue e1.items]] [0 ≤ y1 ∧ y1 < ((l1.length : Nat) : Int), (eValue.els l1)[(0 + y1.toNat)]? = some [pi e2.kind, pi e2.n, pi e2.scale, .s (.string e2.s), .ro (eValue.els e2.items)]] (⟨Enc.inb' a42, ((eValue.get0 a42).trans (by cases e2; rfl)), trivial⟩) ?_
        rw [show (eValue.els l1).set (0 + y1.toNat) [pi e1.kind, pi e1.n, pi e1.scale, .s (.string e1.s), .ro (eValue.els e1.items)] = eValue.els (l1.set y1.toNat e1) from by have hq : ([pi e1.kind, pi e1.n, pi e1.scale, .s (.string e1.s), .ro (eValue.els e1.items)] : List PV) = eValue.cells e1 := (by cases e1; rfl); rw [hq]; exact eValue.set0 _ _ _]
        refine zd (hK38 _ _ (zr (zg [3, 5, 7, 9, 11, 15, 16] 2 [0,5,6,13,76,77,78] (zd ?_))))
        exact XR.sub (Sub.trans (Sub.trans (Sub.pick (fr' := [(0, vl eValue p1), (5, .one (.pt 1 0 0 0)), (6, vi r6.2), (13, .one (.sl 5 5 0 l1.length)), (76, vl eValue p1), (77, vi (p1.length : Int)), (78, vi (IntKind.i64.wrap (x3 + (1 : Int))))]) [0,5,6,13,76,77,78] (by kernel_rfl)) (Sub.take (fr' := [(0, vl eValue p1), (5, .one (.pt 1 0 0 0)), (6, vi r6.2), (13, .one (.sl 5 5 0 l1.length)), (76, vl eValue p1), (77, vi (p1.length : Int)), (78, vi (IntKind.i64.wrap (x3 + (1 : Int))))]) 6 (Nat.zero_le _) (by kernel_rfl) (by kernel_rfl))) (Sub.frame (fr' := [(0, vl eValue p1), (5, .one (.pt 1 0 0 0)), (6, vi r6.2), (13, .one (.sl 5 5 0 (l1.set y1.toNat e1).length)), (76, vl eValue p1), (77, vi (p1.length : Int)), (78, vi (IntKind.i64.wrap (x3 + (1 : Int))))]) ⟨.rfl _, .rfl _, .rfl _, ALe.of_eq (show (.one (.sl 5 5 0 l1.length) : AV) = .one (.sl 5 5 0 (l1.set y1.toNat e1).length) from by simp), .rfl _, .rfl _, .rfl _, trivial⟩)) (ih1 (l1.set y1.toNat e1) (IntKind.i64.wrap (x3 + (1 : Int))) h)
       ·exact zx 0 (hQ1 _ _ _ (hJ3 l1 h _ _ (zk [5,6,13])))
     exact XR.sub (Sub.trans (Sub.pick (fr' := [(0, vl eValue p1), (5, .one (.pt 1 0 0 0)), (6, vi r6.2), (13, .one (.sl 5 5 0 ((p1.length : Int).toNat))), (76, vl eValue p1), (77, vi (p1.length : Int)), (78, vi (0 : Int))]) [0,5,6,13,76,77,78] (by kernel_rfl)) (Sub.frame (fr' := [(0, vl eValue p1), (5, .one (.pt 1 0 0 0)), (6, vi r6.2), (13, .one (.sl 5 5 0 (List.replicate (p1.length : Int).toNat (GValue.mk (0 : Int) (0 : Int) (0 : Int) ByteArray.empty [])).length)), (76, vl eValue p1), (77, vi (p1.length : Int)), (78, vi (0 : Int))]) ⟨.rfl _, .rfl _, .rfl _, ALe.of_eq (show (.one (.sl 5 5 0 ((p1.length : Int).toNat)) : AV) = .one (.sl 5 5 0 (List.replicate (p1.length : Int).toNat (GValue.mk (0 : Int) (0 : Int) (0 : Int) ByteArray.empty [])).length) from by simp), .rfl _, .rfl _, .rfl _, trivial⟩)) (hL1 BIG (List.replicate (p1.length : Int).toNat (GValue.mk (0 : Int) (0 : Int) (0 : Int) ByteArray.empty [])) (0 : Int) h)
   rcases zW h with ⟨b23, h⟩ | ⟨b23, h⟩
   ·refine zr (zg [3, 5, 7, 9, 11, 15, 16] 4 [0,5,6,7,9,10,11,12,56] (zt 56 b23 ?_))
    exact zv [3, 5, 7, 9, 11, 15, 16] 16 [0,5,6,72] [] (qa1535 p1 r6) (qa1544 r3 r6 r7 r8 r9) (zd (hJ2 true h _ _ (zk [0,5,6,72])))
   ·rcases zW h with ⟨b24, h⟩ | ⟨b24, h⟩
    ·refine zr (zg [3, 5, 7, 9, 11, 15, 16] 4 [0,5,6,7,9,10,11,12,56] (zt 56 b23 (zg [3, 5, 7, 9, 11, 15, 16] 5 [0,5,6,7,9,11,61] (zt 61 b24 ?_))))
     exact zv [3, 5, 7, 9, 11, 15, 16] 11 [0,5,6,72] [] (qa1535 p1 r6) (qa1544 r3 r6 r7 r8 r9) (zd (hJ2 true h _ _ (zk [0,5,6,72])))
    ·obtain ⟨r10, c25, h⟩ := zB h
     rcases zW h with ⟨b26, h⟩ | ⟨b26, h⟩
     ·refine zr (zg [3, 5, 7, 9, 11, 15, 16] 4 [0,5,6,7,9,10,11,12,56] (zt 56 b23 (zg [3, 5, 7, 9, 11, 15, 16] 5 [0,5,6,7,9,11,61] (zt 61 b24 ?_))))
      refine zv [3, 5, 7, 9, 11, 15, 16] 2 [0,5,6,9,11,61,62,63] [] (qa1548 p1 r6 r7) (qa1544 r3 r6 r7 r8 r9) ?_
      refine za (c_law1_exactly BIG _ _ _ c25) (zg [3, 5, 7, 9, 11, 15, 16] 3 [0,5,6,9,11,67] (zt 67 b26 ?_))
      exact zv [3, 5, 7, 9, 11, 15, 16] 5 [0,5,6,72] [] (qa1535 p1 r6) (qa1544 r3 r6 r7 r8 r9) (zd (hJ2 true h _ _ (zk [0,5,6,72])))
     ·obtain ⟨r11, c27, h⟩ := zB h
      refine zr (zg [3, 5, 7, 9, 11, 15, 16] 4 [0,5,6,7,9,10,11,12,56] (zt 56 b23 (zg [3, 5, 7, 9, 11, 15, 16] 5 [0,5,6,7,9,11,61] (zt 61 b24 ?_))))
      refine zv [3, 5, 7, 9, 11, 15, 16] 2 [0,5,6,9,11,61,62,63] [] (qa1548 p1 r6 r7) (qa1544 r3 r6 r7 r8 r9) ?_
      refine za (c_law1_exactly BIG _ _ _ c25) (zg [3, 5, 7, 9, 11, 15, 16] 3 [0,5,6,9,11,67] (zt 67 b26 ?_))
      refine zv [3, 5, 7, 9, 11, 15, 16] 2 [0,5,6,67,68,69] [] [(0, vl eValue p1), (5, .one (.pt 1 0 0 0)), (6, vi r6.2), (67, vb false), (68, .ag (qa1523 r8)), (69, .ag (qa1524 r9))] (qa1544 r3 r6 r7 r8 r9) ?_
      exact za (c_law1_exactly BIG _ _ _ c27) (zg [3, 5, 7, 9, 11, 15, 16] 2 [0,5,6,72] (zd (hJ2 (!r11) h _ _ (zk [0,5,6,72]))))
 rcases zW h with ⟨b8, h⟩ | ⟨b8, h⟩
 ·refine zw 5 [(29, .tp []), (28, .tp []), (27, vb true), (26, vb (r3.2 != (0 : Int))), (25, vi r3.2), (0, vl eValue p1), (3, .one (.pt 0 0 0 0)), (4, vi r3.2)] ?_ ?_
  ·refine zyv 3 [] [(27, vb (r3.2 != (0 : Int))), (26, vb (r3.2 != (0 : Int))), (25, vi r3.2), (0, vl eValue p1), (3, .one (.pt 0 0 0 0)), (4, vi r3.2)] ?_
   exact DX.eq (fr1 := [(27, vb true), (26, vb (r3.2 != (0 : Int))), (25, vi r3.2), (0, vl eValue p1), (3, .one (.pt 0 0 0 0)), (4, vi r3.2)]) (by rw [b8]) (zyg 2 zyd)
  exact zv [3, 5, 7, 9, 11, 15, 16] 3 [0,32] [] [(0, vl eValue p1), (32, vb true)] [.box (qa1520 r3)] (zd (hJ1 true h _ _ (zk [0,32])))
 ·obtain ⟨r4, c9, h⟩ := zB h
  obtain ⟨r5, c10, h⟩ := zB h
  refine zw 5 [(29, .ag [ci r4.kind, ci r4.n, ci r4.scale, cst r4.s, cl eValue r4.items]), (28, .ag (qa1520 r3)), (27, vb false), (26, vb (r3.2 != (0 : Int))), (25, vi r3.2), (0, vl eValue p1), (3, .one (.pt 0 0 0 0)), (4, vi r3.2)] ?_ ?_
  ·refine zyv 3 [] [(27, vb (r3.2 != (0 : Int))), (26, vb (r3.2 != (0 : Int))), (25, vi r3.2), (0, vl eValue p1), (3, .one (.pt 0 0 0 0)), (4, vi r3.2)] ?_
   exact DX.eq (fr1 := [(27, vb false), (26, vb (r3.2 != (0 : Int))), (25, vi r3.2), (0, vl eValue p1), (3, .one (.pt 0 0 0 0)), (4, vi r3.2)]) (by rw [b8]) (zyg 1 (zya (c_law1_number _ _ c9) zyd))
  exact za (c_law1_exactly BIG _ _ _ c10) (zg [3, 5, 7, 9, 11, 15, 16] 2 [0,32] (zd (hJ1 (!r5) h _ _ (zk [0,32]))))


end Go.Proofs.YtdbfodeghijdlaaDoor
