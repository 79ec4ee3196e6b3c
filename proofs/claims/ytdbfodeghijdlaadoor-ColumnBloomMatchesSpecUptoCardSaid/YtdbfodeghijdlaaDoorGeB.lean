/- Printed by a program: what the functions compute, and the proofs of their contracts. Printed by a program: what the functions compute, and the proofs of their contracts. -/
import Derived.Test.YtdbfodeghijdlaaDoorGeA
namespace Go.Proofs.YtdbfodeghijdlaaDoor
open Go.SX Go
set_option linter.unusedVariables false
set_option linter.unusedSimpArgs false
set_option maxRecDepth 100000
set_option maxHeartbeats 8000000

def column_bloom_j1 (rec1 : List Int → Int → Option (List Int)) (x1 : Int) (l2 : List Int) : Option (List Int) :=
    rec1 l2 (IntKind.i64.wrap (x1 + (1 : Int)))

def column_bloom_j2 (l3 : List Int) : Option (List Int) :=
    some l3

def column_bloom_l1 (p1 : Int) (p2 : (List GValue)) : Nat → List Int → Int → Option (List Int)
  | 0, _, _ => none
  | k1 + 1, l1, x1 =>
    ift (decide (x1 < (p2.length : Int)))
      (bnd (at? p2 x1) fun e1 =>
       ift (e1.kind != (0 : Int))
         (bnd (column_places p1 e1) fun r1 =>
          bnd (at? l1 (IntKind.i64.wrap (r1.1.tdiv (8 : Int)))) fun e2 =>
          grd (0 ≤ (r1.1.tmod (8 : Int))) <|
          bnd (some (IntKind.u8.wrap ((1 : Int) * 2 ^ (min (r1.1.tmod (8 : Int)).toNat (IntKind.u8).bits)))) fun y1 =>
          bnd (some (IntKind.u8.wrap (BitVec.ofInt (IntKind.u8).bits e2 ||| BitVec.ofInt (IntKind.u8).bits y1).toNat)) fun y2 =>
          bnd (at? (l1.set (IntKind.i64.wrap (r1.1.tdiv (8 : Int))).toNat y2) (IntKind.i64.wrap (r1.2.1.tdiv (8 : Int)))) fun e3 =>
          grd (0 ≤ (r1.2.1.tmod (8 : Int))) <|
          bnd (some (IntKind.u8.wrap ((1 : Int) * 2 ^ (min (r1.2.1.tmod (8 : Int)).toNat (IntKind.u8).bits)))) fun y3 =>
          bnd (some (IntKind.u8.wrap (BitVec.ofInt (IntKind.u8).bits e3 ||| BitVec.ofInt (IntKind.u8).bits y3).toNat)) fun y4 =>
          bnd (at? ((l1.set (IntKind.i64.wrap (r1.1.tdiv (8 : Int))).toNat y2).set (IntKind.i64.wrap (r1.2.1.tdiv (8 : Int))).toNat y4) (IntKind.i64.wrap (r1.2.2.tdiv (8 : Int)))) fun e4 =>
          grd (0 ≤ (r1.2.2.tmod (8 : Int))) <|
          bnd (some (IntKind.u8.wrap ((1 : Int) * 2 ^ (min (r1.2.2.tmod (8 : Int)).toNat (IntKind.u8).bits)))) fun y5 =>
          bnd (some (IntKind.u8.wrap (BitVec.ofInt (IntKind.u8).bits e4 ||| BitVec.ofInt (IntKind.u8).bits y5).toNat)) fun y6 =>
          column_bloom_j1 (column_bloom_l1 p1 p2 k1) x1 (((l1.set (IntKind.i64.wrap (r1.1.tdiv (8 : Int))).toNat y2).set (IntKind.i64.wrap (r1.2.1.tdiv (8 : Int))).toNat y4).set (IntKind.i64.wrap (r1.2.2.tdiv (8 : Int))).toNat y6))
         (column_bloom_j1 (column_bloom_l1 p1 p2 k1) x1 l1))
      (column_bloom_j2 l1)

def column_bloom (p1 : Int) (p2 : (List GValue)) : Option (List Int) :=
    grd (0 ≤ (IntKind.i64.wrap (p1.tdiv (8 : Int))) ∧ (IntKind.i64.wrap (p1.tdiv (8 : Int))) ≤ (IntKind.i64.wrap (p1.tdiv (8 : Int))) ∧ (IntKind.i64.wrap (p1.tdiv (8 : Int))) ≤ 4294967296) <|
    column_bloom_l1 p1 p2 BIG (List.replicate (IntKind.i64.wrap (p1.tdiv (8 : Int))).toNat (0 : Int)) (0 : Int)

abbrev qa1262 (p1 : Int) (p2 : (List GValue)) (l1 : List Int) (x1 : Int) : Fr := [(0, vi p1), (5, .one (.sl 0 1 0 l1.length)), (13, vl eValue p2), (14, vi (p2.length : Int)), (15, vi x1)]
abbrev qa1268 (e1 : GValue) : List CV := [ci e1.kind, ci e1.n, ci e1.scale, cst e1.s, cl eValue e1.items]
abbrev qa1269 (r1 : (Int × Int × Int)) : List CV := [ci r1.1, ci r1.2.1, ci r1.2.2]

theorem c_column_bloom (p1 : Int) (p2 : (List GValue)) (r : (List Int)) (h : column_bloom p1 p2 = some r) : PC Tryd.prog 40 [vi p1, vl eValue p2] (vl (eK .u8) r) := by
 unfold column_bloom at h
 refine zF 41 Tryd.f40 (zq fun K1 hK1 => zr (zg [7] 1 [0,1] (zd (hK1 _ _ (zq fun K2 hK2 => ?_)))))
 obtain ⟨g4, h⟩ := zG h
 refine zr (zp [7] 3 [0,1,12] [] [(0, vi p1), (1, vl eValue p2), (12, .one (.sl 0 1 0 ((IntKind.i64.wrap (p1.tdiv (8 : Int))).toNat)))] [.arr 1 (List.replicate (IntKind.i64.wrap (p1.tdiv (8 : Int))).toNat [.s (.int .u8 (0 : Int))])] [(8 : Int) ≠ 0, 0 ≤ (IntKind.i64.wrap (p1.tdiv (8 : Int))), (IntKind.i64.wrap (p1.tdiv (8 : Int))) ≤ (IntKind.i64.wrap (p1.tdiv (8 : Int))), (IntKind.i64.wrap (p1.tdiv (8 : Int))) ≤ 4294967296] (⟨by decide, g4.1, g4.2.1, g4.2.2, trivial⟩) ?_)
 rw [show List.replicate (IntKind.i64.wrap (p1.tdiv (8 : Int))).toNat [.s (.int .u8 (0 : Int))] = (eK .u8).els (List.replicate (IntKind.i64.wrap (p1.tdiv (8 : Int))).toNat (0 : Int)) from (eK .u8).rep _ (0 : Int)]
 refine zg [7] 1 [0,1,5] (zd (hK2 _ _ (zq fun K5 hK5 => ?_)))
 have hJ2 : ∀ (l3 : List Int), column_bloom_j2 l3 = some r → ∀ fr1 st1, Sub 41 0 [] fr1 st1 [(5, .one (.sl 0 1 0 l3.length))] [.arr 1 ((eK .u8).els l3)] → K5 fr1 st1 := by
  intro l3 h fr1 st1 hS
  unfold column_bloom_j2 at h
  refine hK5 _ _ (XW.sub hS ?_)
  refine zq fun K43 hK43 => zr (zg [7] 2 [4] (zd (hK43 _ _ (ze ?_))))
  obtain rfl := Option.some.inj h
  exact zf [.one (.sl 0 1 0 l3.length)] (.one (cf_sl (eK .u8) l3 rfl rfl rfl))
 refine zq fun K6 hK6 => zr (zv [7] 2 [0,5,13,14] [] [(0, vi p1), (5, .one (.sl 0 1 0 ((IntKind.i64.wrap (p1.tdiv (8 : Int))).toNat))), (13, vl eValue p2), (14, vi ((eValue.els p2).length : Int))] [.arr 1 ((eK .u8).els (List.replicate (IntKind.i64.wrap (p1.tdiv (8 : Int))).toNat (0 : Int)))] ?_)
 rw [eValue.len p2]
 refine zg [7] 1 [0,5,13,14,15] (zd (hK6 _ _ (zb 0 (XW.rounds' BIG (x := cd Tryd.f40 [1,1,0,1,0,0]) (by kernel_rfl) fun Q1 hQ1 => ?_))))
 have hL1 : ∀ (k1 : Nat) (l1 : List Int) (x1 : Int), column_bloom_l1 p1 p2 k1 l1 x1 = some r → XR Tryd.prog 41 0 [] (cd Tryd.f40 [1,1,0,1,0,0]) Q1 k1 (qa1262 p1 p2 l1 x1) [.arr 1 ((eK .u8).els l1)] := by
  intro k1
  induction k1 with
  | zero => intro l1 x1 h; rw [column_bloom_l1.eq_1] at h; cases h
  | succ k1 ih1 =>
   intro l1 x1 h
   rw [column_bloom_l1.eq_2] at h
   refine zq fun K7 hK7 => zr (zg [7] 1 [0,5,13,14,15,16] (zd (hK7 _ _ (zq fun K8 hK8 => zC h (fun b9 h => ?_) (fun b9 h => ?_)))))
   ·refine zs (hK8 _ _ (zq fun K10 hK10 => ?_))
    have hJ1 : ∀ (l2 : List Int), column_bloom_j1 (column_bloom_l1 p1 p2 k1) x1 l2 = some r → ∀ fr1 st1, Sub 41 0 [] fr1 st1 [(0, vi p1), (5, .one (.sl 0 1 0 l2.length)), (13, vl eValue p2), (14, vi (p2.length : Int)), (15, vi x1)] [.arr 1 ((eK .u8).els l2)] → K10 fr1 st1 := by
     intro l2 h fr1 st1 hS
     unfold column_bloom_j1 at h
     refine hK10 _ _ (XW.sub hS ?_)
     exact zr (zg [7] 2 [0,5,13,14,15] (zd (XR.sub (zk [0,5,13,14,15]) (ih1 l2 (IntKind.i64.wrap (x1 + (1 : Int))) h))))
    refine zb 1 (zq fun K11 hK11 => ?_)
    obtain ⟨e1, a12, h⟩ := zB h
    refine zr (zo [7] 4 [0,5,7,13,14,15] [[pi e1.kind, pi e1.n, pi e1.scale, .s (.string e1.s), .ro (eValue.els e1.items)]] [0 ≤ x1 ∧ x1 < ((eValue.els p2).length : Int) ∧ elemsOk 5 (eValue.els p2), (eValue.els p2)[x1.toNat]? = some [pi e1.kind, pi e1.n, pi e1.scale, .s (.string e1.s), .ro (eValue.els e1.items)]] (⟨eValue.inb a12, ((eValue.get a12).trans (by cases e1; rfl)), trivial⟩) (zd (hK11 _ _ (zq fun K13 hK13 => zr ?_))))
    refine zv [7] 3 [0,5,7,13,14,15,21] [] [(0, vi p1), (5, .one (.sl 0 1 0 l1.length)), (7, .one (.pt 1 0 0 0)), (13, vl eValue p2), (14, vi (p2.length : Int)), (15, vi x1), (21, vb (e1.kind != (0 : Int)))] [.arr 1 ((eK .u8).els l1), .box (qa1268 e1)] (zd (hK13 _ _ (zC h (fun b14 h => ?_) (fun b14 h => ?_))))
    ·refine zq fun K15 hK15 => ?_
     obtain ⟨r1, c16, h⟩ := zB h
     refine zr (zg [7] 2 [0,5,13,14,15,22,23] (za (c_column_places _ _ _ c16) (zv [7] 1 [0,5,13,14,15,24,25] [] [(0, vi p1), (5, .one (.sl 0 1 0 l1.length)), (13, vl eValue p2), (14, vi (p2.length : Int)), (15, vi x1), (24, .ag (qa1269 r1)), (25, vi (0 : Int))] [.arr 1 ((eK .u8).els l1), .box (qa1268 e1)] (zd (hK15 _ _ (zb 2 (XW.rounds' 4 (x := cd Tryd.f40 [1,1,0,1,0,0,1,1,0,0,1,1,0,1,0,0]) (by kernel_rfl) fun Q2 hQ2 => ?_)))))))
     refine XR.one (zq fun K17 hK17 => zr (zg [7] 1 [0,5,13,14,15,24,25,26] (zd (hK17 _ _ (zq fun K18 hK18 => zc true (fun _ => ?_) (fun hx => by cases hx))))))
     refine zs (hK18 _ _ (zq fun K19 hK19 => zb 3 (zq fun K20 hK20 => zr (zo [7] 2 [0,5,9,13,14,15,24,25] [] [0 ≤ (0 : Int) ∧ (0 : Int) < 3] (⟨by decide, trivial⟩) (zd ?_)))))
     refine hK20 _ _ ?_
     obtain ⟨e2, a21, h⟩ := zB h
     obtain ⟨g22, h⟩ := zG h
     obtain ⟨y1, hy23, h⟩ := zB h
     obtain ⟨y2, hy24, h⟩ := zB h
     refine zw 8 [(35, vk .u8 y1), (34, vi (r1.1.tmod (8 : Int))), (33, vi r1.1), (32, vk .u8 e2), (31, .one (.pt 0 1 (0 + (IntKind.i64.wrap (r1.1.tdiv (8 : Int))).toNat) 0)), (30, vi (IntKind.i64.wrap (r1.1.tdiv (8 : Int)))), (29, vi r1.1), (28, .one (.sl 0 1 0 l1.length)), (0, vi p1), (5, .one (.sl 0 1 0 l1.length)), (9, vi r1.1), (13, vl eValue p2), (14, vi (p2.length : Int)), (15, vi x1), (24, .ag (qa1269 r1)), (25, vi (0 : Int))] ?_ ?_
     ·refine zyp 8 [[.s (.int .u8 e2)]] [(35, vk .u8 (IntKind.u8.wrap ((1 : Int) * 2 ^ (min (r1.1.tmod (8 : Int)).toNat (IntKind.u8).bits)))), (34, vi (r1.1.tmod (8 : Int))), (33, vi r1.1), (32, vk .u8 e2), (31, .one (.pt 0 1 (0 + (IntKind.i64.wrap (r1.1.tdiv (8 : Int))).toNat) 0)), (30, vi (IntKind.i64.wrap (r1.1.tdiv (8 : Int)))), (29, vi r1.1), (28, .one (.sl 0 1 0 l1.length)), (0, vi p1), (5, .one (.sl 0 1 0 l1.length)), (9, vi r1.1), (13, vl eValue p2), (14, vi (p2.length : Int)), (15, vi x1), (24, .ag [ci r1.1, ci r1.2.1, ci r1.2.2]), (25, vi (0 : Int))] [(8 : Int) ≠ 0, 0 ≤ (IntKind.i64.wrap (r1.1.tdiv (8 : Int))) ∧ (IntKind.i64.wrap (r1.1.tdiv (8 : Int))) < ((l1.length : Nat) : Int), ((eK .u8).els l1)[(0 + (IntKind.i64.wrap (r1.1.tdiv (8 : Int))).toNat)]? = some [.s (.int .u8 e2)], (8 : Int) ≠ 0, 0 ≤ (r1.1.tmod (8 : Int))] (⟨by decide, Enc.inb' a21, ((eK .u8).get0 a21), by decide, g22, trivial⟩) ?_
      rw [show (IntKind.u8.wrap ((1 : Int) * 2 ^ (min (r1.1.tmod (8 : Int)).toNat (IntKind.u8).bits))) = y1 from Option.some.inj hy23]
      exact zyd
     refine zv [7] 1 [0,5,13,14,15,24,25,28,30,36] [] [(0, vi p1), (5, .one (.sl 0 1 0 l1.length)), (13, vl eValue p2), (14, vi (p2.length : Int)), (15, vi x1), (24, .ag [ci r1.1, ci r1.2.1, ci r1.2.2]), (25, vi (0 : Int)), (28, .one (.sl 0 1 0 l1.length)), (30, vi (IntKind.i64.wrap (r1.1.tdiv (8 : Int)))), (36, vk .u8 (IntKind.u8.wrap (BitVec.ofInt (IntKind.u8).bits e2 ||| BitVec.ofInt (IntKind.u8).bits y1).toNat))] [.arr 1 ((eK .u8).els l1), .box [ci e1.kind, ci e1.n, ci e1.scale, cst e1.s, cl eValue e1.items]] ?_
     rw [show (IntKind.u8.wrap (BitVec.ofInt (IntKind.u8).bits e2 ||| BitVec.ofInt (IntKind.u8).bits y1).toNat) = y2 from Option.some.inj hy24]
     refine zp [7] 2 [0,5,13,14,15,24,25] [[.s (.int .u8 e2)]] [(0, vi p1), (5, .one (.sl 0 1 0 l1.length)), (13, vl eValue p2), (14, vi (p2.length : Int)), (15, vi x1), (24, .ag [ci r1.1, ci r1.2.1, ci r1.2.2]), (25, vi (0 : Int))] [.arr 1 (((eK .u8).els l1).set (0 + (IntKind.i64.wrap (r1.1.tdiv (8 : Int))).toNat) [.s (.int .u8 y2)]), .box [ci e1.kind, ci e1.n, ci e1.scale, cst e1.s, cl eValue e1.items]] [0 ≤ (IntKind.i64.wrap (r1.1.tdiv (8 : Int))) ∧ (IntKind.i64.wrap (r1.1.tdiv (8 : Int))) < ((l1.length : Nat) : Int), ((eK .u8).els l1)[(0 + (IntKind.i64.wrap (r1.1.tdiv (8 : Int))).toNat)]? = some [.s (.int .u8 e2)]] (⟨Enc.inb' a21, ((eK .u8).get0 a21), trivial⟩) ?_
     rw [show ((eK .u8).els l1).set (0 + (IntKind.i64.wrap (r1.1.tdiv (8 : Int))).toNat) [.s (.int .u8 y2)] = (eK .u8).els (l1.set (IntKind.i64.wrap (r1.1.tdiv (8 : Int))).toNat y2) from (eK .u8).set0 _ _ y2]
     refine zd (hK19 _ _ (zr (zv [7] 2 [0,5,13,14,15,24,25] [] [(0, vi p1), (5, .one (.sl 0 1 0 l1.length)), (13, vl eValue p2), (14, vi (p2.length : Int)), (15, vi x1), (24, .ag (qa1269 r1)), (25, vi (1 : Int))] [.arr 1 ((eK .u8).els (l1.set (IntKind.i64.wrap (r1.1.tdiv (8 : Int))).toNat y2)), .box (qa1268 e1)] (zd (XR.one (zq fun K25 hK25 => zr ?_))))))
     refine zg [7] 1 [0,5,13,14,15,24,25,26] (zd (hK25 _ _ (zq fun K26 hK26 => zc true (fun _ => ?_) (fun hx => by cases hx))))
     refine zs (hK26 _ _ (zq fun K27 hK27 => zb 3 (zq fun K28 hK28 => zr (zo [7] 2 [0,5,9,13,14,15,24,25] [] [0 ≤ (1 : Int) ∧ (1 : Int) < 3] (⟨by decide, trivial⟩) (zd ?_)))))
     refine hK28 _ _ ?_
     obtain ⟨e3, a29, h⟩ := zB h
     obtain ⟨g30, h⟩ := zG h
     obtain ⟨y3, hy31, h⟩ := zB h
     obtain ⟨y4, hy32, h⟩ := zB h
     refine zw 8 [(35, vk .u8 y3), (34, vi (r1.2.1.tmod (8 : Int))), (33, vi r1.2.1), (32, vk .u8 e3), (31, .one (.pt 0 1 (0 + (IntKind.i64.wrap (r1.2.1.tdiv (8 : Int))).toNat) 0)), (30, vi (IntKind.i64.wrap (r1.2.1.tdiv (8 : Int)))), (29, vi r1.2.1), (28, .one (.sl 0 1 0 l1.length)), (0, vi p1), (5, .one (.sl 0 1 0 l1.length)), (9, vi r1.2.1), (13, vl eValue p2), (14, vi (p2.length : Int)), (15, vi x1), (24, .ag (qa1269 r1)), (25, vi (1 : Int))] ?_ ?_
     ·refine zyp 8 [[.s (.int .u8 e3)]] [(35, vk .u8 (IntKind.u8.wrap ((1 : Int) * 2 ^ (min (r1.2.1.tmod (8 : Int)).toNat (IntKind.u8).bits)))), (34, vi (r1.2.1.tmod (8 : Int))), (33, vi r1.2.1), (32, vk .u8 e3), (31, .one (.pt 0 1 (0 + (IntKind.i64.wrap (r1.2.1.tdiv (8 : Int))).toNat) 0)), (30, vi (IntKind.i64.wrap (r1.2.1.tdiv (8 : Int)))), (29, vi r1.2.1), (28, .one (.sl 0 1 0 l1.length)), (0, vi p1), (5, .one (.sl 0 1 0 l1.length)), (9, vi r1.2.1), (13, vl eValue p2), (14, vi (p2.length : Int)), (15, vi x1), (24, .ag [ci r1.1, ci r1.2.1, ci r1.2.2]), (25, vi (1 : Int))] [(8 : Int) ≠ 0, 0 ≤ (IntKind.i64.wrap (r1.2.1.tdiv (8 : Int))) ∧ (IntKind.i64.wrap (r1.2.1.tdiv (8 : Int))) < ((l1.length : Nat) : Int), ((eK .u8).els (l1.set (IntKind.i64.wrap (r1.1.tdiv (8 : Int))).toNat y2))[(0 + (IntKind.i64.wrap (r1.2.1.tdiv (8 : Int))).toNat)]? = some [.s (.int .u8 e3)], (8 : Int) ≠ 0, 0 ≤ (r1.2.1.tmod (8 : Int))] (⟨by decide, (by have := Enc.inb' a29; simpa using this), ((eK .u8).get0 a29), by decide, g30, trivial⟩) ?_
      rw [show (IntKind.u8.wrap ((1 : Int) * 2 ^ (min (r1.2.1.tmod (8 : Int)).toNat (IntKind.u8).bits))) = y3 from Option.some.inj hy31]
      exact zyd
     refine zv [7] 1 [0,5,13,14,15,24,25,28,30,36] [] [(0, vi p1), (5, .one (.sl 0 1 0 l1.length)), (13, vl eValue p2), (14, vi (p2.length : Int)), (15, vi x1), (24, .ag [ci r1.1, ci r1.2.1, ci r1.2.2]), (25, vi (1 : Int)), (28, .one (.sl 0 1 0 l1.length)), (30, vi (IntKind.i64.wrap (r1.2.1.tdiv (8 : Int)))), (36, vk .u8 (IntKind.u8.wrap (BitVec.ofInt (IntKind.u8).bits e3 ||| BitVec.ofInt (IntKind.u8).bits y3).toNat))] [.arr 1 ((eK .u8).els (l1.set (IntKind.i64.wrap (r1.1.tdiv (8 : Int))).toNat y2)), .box [ci e1.kind, ci e1.n, ci e1.scale, cst e1.s, cl eValue e1.items]] ?_
     rw [show (IntKind.u8.wrap (BitVec.ofInt (IntKind.u8).bits e3 ||| BitVec.ofInt (IntKind.u8).bits y3).toNat) = y4 from Option.some.inj hy32]
     refine zp [7] 2 [0,5,13,14,15,24,25] [[.s (.int .u8 e3)]] [(0, vi p1), (5, .one (.sl 0 1 0 l1.length)), (13, vl eValue p2), (14, vi (p2.length : Int)), (15, vi x1), (24, .ag [ci r1.1, ci r1.2.1, ci r1.2.2]), (25, vi (1 : Int))] [.arr 1 (((eK .u8).els (l1.set (IntKind.i64.wrap (r1.1.tdiv (8 : Int))).toNat y2)).set (0 + (IntKind.i64.wrap (r1.2.1.tdiv (8 : Int))).toNat) [.s (.int .u8 y4)]), .box [ci e1.kind, ci e1.n, ci e1.scale, cst e1.s, cl eValue e1.items]] [0 ≤ (IntKind.i64.wrap (r1.2.1.tdiv (8 : Int))) ∧ (IntKind.i64.wrap (r1.2.1.tdiv (8 : Int))) < ((l1.length : Nat) : Int), ((eK .u8).els (l1.set (IntKind.i64.wrap (r1.1.tdiv (8 : Int))).toNat y2))[(0 + (IntKind.i64.wrap (r1.2.1.tdiv (8 : Int))).toNat)]? = some [.s (.int .u8 e3)]] (⟨(by have := Enc.inb' a29; simpa using this), ((eK .u8).get0 a29), trivial⟩) ?_
     rw [show ((eK .u8).els (l1.set (IntKind.i64.wrap (r1.1.tdiv (8 : Int))).toNat y2)).set (0 + (IntKind.i64.wrap (r1.2.1.tdiv (8 : Int))).toNat) [.s (.int .u8 y4)] = (eK .u8).els ((l1.set (IntKind.i64.wrap (r1.1.tdiv (8 : Int))).toNat y2).set (IntKind.i64.wrap (r1.2.1.tdiv (8 : Int))).toNat y4) from (eK .u8).set0 _ _ y4]
     refine zd (hK27 _ _ (zr (zv [7] 2 [0,5,13,14,15,24,25] [] [(0, vi p1), (5, .one (.sl 0 1 0 l1.length)), (13, vl eValue p2), (14, vi (p2.length : Int)), (15, vi x1), (24, .ag (qa1269 r1)), (25, vi (2 : Int))] [.arr 1 ((eK .u8).els ((l1.set (IntKind.i64.wrap (r1.1.tdiv (8 : Int))).toNat y2).set (IntKind.i64.wrap (r1.2.1.tdiv (8 : Int))).toNat y4)), .box (qa1268 e1)] (zd (XR.one (zq fun K33 hK33 => zr ?_))))))
     refine zg [7] 1 [0,5,13,14,15,24,25,26] (zd (hK33 _ _ (zq fun K34 hK34 => zc true (fun _ => ?_) (fun hx => by cases hx))))
     refine zs (hK34 _ _ (zq fun K35 hK35 => zb 3 (zq fun K36 hK36 => zr (zo [7] 2 [0,5,9,13,14,15,24,25] [] [0 ≤ (2 : Int) ∧ (2 : Int) < 3] (⟨by decide, trivial⟩) (zd ?_)))))
     refine hK36 _ _ ?_
     obtain ⟨e4, a37, h⟩ := zB h
     obtain ⟨g38, h⟩ := zG h
     obtain ⟨y5, hy39, h⟩ := zB h
     obtain ⟨y6, hy40, h⟩ := zB h
     refine zw 8 [(35, vk .u8 y5), (34, vi (r1.2.2.tmod (8 : Int))), (33, vi r1.2.2), (32, vk .u8 e4), (31, .one (.pt 0 1 (0 + (IntKind.i64.wrap (r1.2.2.tdiv (8 : Int))).toNat) 0)), (30, vi (IntKind.i64.wrap (r1.2.2.tdiv (8 : Int)))), (29, vi r1.2.2), (28, .one (.sl 0 1 0 l1.length)), (0, vi p1), (5, .one (.sl 0 1 0 l1.length)), (9, vi r1.2.2), (13, vl eValue p2), (14, vi (p2.length : Int)), (15, vi x1), (24, .ag (qa1269 r1)), (25, vi (2 : Int))] ?_ ?_
     ·refine zyp 8 [[.s (.int .u8 e4)]] [(35, vk .u8 (IntKind.u8.wrap ((1 : Int) * 2 ^ (min (r1.2.2.tmod (8 : Int)).toNat (IntKind.u8).bits)))), (34, vi (r1.2.2.tmod (8 : Int))), (33, vi r1.2.2), (32, vk .u8 e4), (31, .one (.pt 0 1 (0 + (IntKind.i64.wrap (r1.2.2.tdiv (8 : Int))).toNat) 0)), (30, vi (IntKind.i64.wrap (r1.2.2.tdiv (8 : Int)))), (29, vi r1.2.2), (28, .one (.sl 0 1 0 l1.length)), (0, vi p1), (5, .one (.sl 0 1 0 l1.length)), (9, vi r1.2.2), (13, vl eValue p2), (14, vi (p2.length : Int)), (15, vi x1), (24, .ag [ci r1.1, ci r1.2.1, ci r1.2.2]), (25, vi (2 : Int))] [(8 : Int) ≠ 0, 0 ≤ (IntKind.i64.wrap (r1.2.2.tdiv (8 : Int))) ∧ (IntKind.i64.wrap (r1.2.2.tdiv (8 : Int))) < ((l1.length : Nat) : Int), ((eK .u8).els ((l1.set (IntKind.i64.wrap (r1.1.tdiv (8 : Int))).toNat y2).set (IntKind.i64.wrap (r1.2.1.tdiv (8 : Int))).toNat y4))[(0 + (IntKind.i64.wrap (r1.2.2.tdiv (8 : Int))).toNat)]? = some [.s (.int .u8 e4)], (8 : Int) ≠ 0, 0 ≤ (r1.2.2.tmod (8 : Int))] (⟨by decide, (by have := Enc.inb' a37; simpa using this), ((eK .u8).get0 a37), by decide, g38, trivial⟩) ?_
      rw [show (IntKind.u8.wrap ((1 : Int) * 2 ^ (min (r1.2.2.tmod (8 : Int)).toNat (IntKind.u8).bits))) = y5 from Option.some.inj hy39]
      exact zyd
     refine zv [7] 1 [0,5,13,14,15,24,25,28,30,36] [] [(0, vi p1), (5, .one (.sl 0 1 0 l1.length)), (13, vl eValue p2), (14, vi (p2.length : Int)), (15, vi x1), (24, .ag [ci r1.1, ci r1.2.1, ci r1.2.2]), (25, vi (2 : Int)), (28, .one (.sl 0 1 0 l1.length)), (30, vi (IntKind.i64.wrap (r1.2.2.tdiv (8 : Int)))), (36, vk .u8 (IntKind.u8.wrap (BitVec.ofInt (IntKind.u8).bits e4 ||| BitVec.ofInt (IntKind.u8).bits y5).toNat))] [.arr 1 ((eK .u8).els ((l1.set (IntKind.i64.wrap (r1.1.tdiv (8 : Int))).toNat y2).set (IntKind.i64.wrap (r1.2.1.tdiv (8 : Int))).toNat y4)), .box [ci e1.kind, ci e1.n, ci e1.scale, cst e1.s, cl eValue e1.items]] ?_
     rw [show (IntKind.u8.wrap (BitVec.ofInt (IntKind.u8).bits e4 ||| BitVec.ofInt (IntKind.u8).bits y5).toNat) = y6 from Option.some.inj hy40]
     refine zp [7] 2 [0,5,13,14,15,24,25] [[.s (.int .u8 e4)]] [(0, vi p1), (5, .one (.sl 0 1 0 l1.length)), (13, vl eValue p2), (14, vi (p2.length : Int)), (15, vi x1), (24, .ag [ci r1.1, ci r1.2.1, ci r1.2.2]), (25, vi (2 : Int))] [.arr 1 (((eK .u8).els ((l1.set (IntKind.i64.wrap (r1.1.tdiv (8 : Int))).toNat y2).set (IntKind.i64.wrap (r1.2.1.tdiv (8 : Int))).toNat y4)).set (0 + (IntKind.i64.wrap (r1.2.2.tdiv (8 : Int))).toNat) [.s (.int .u8 y6)]), .box [ci e1.kind, ci e1.n, ci e1.scale, cst e1.s, cl eValue e1.items]] [0 ≤ (IntKind.i64.wrap (r1.2.2.tdiv (8 : Int))) ∧ (IntKind.i64.wrap (r1.2.2.tdiv (8 : Int))) < ((l1.length : Nat) : Int), ((eK .u8).els ((l1.set (IntKind.i64.wrap (r1.1.tdiv (8 : Int))).toNat y2).set (IntKind.i64.wrap (r1.2.1.tdiv (8 : Int))).toNat y4))[(0 + (IntKind.i64.wrap (r1.2.2.tdiv (8 : Int))).toNat)]? = some [.s (.int .u8 e4)]] (⟨(by have := Enc.inb' a37; simpa using this), ((eK .u8).get0 a37), trivial⟩) ?_
     rw [show ((eK .u8).els ((l1.set (IntKind.i64.wrap (r1.1.tdiv (8 : Int))).toNat y2).set (IntKind.i64.wrap (r1.2.1.tdiv (8 : Int))).toNat y4)).set (0 + (IntKind.i64.wrap (r1.2.2.tdiv (8 : Int))).toNat) [.s (.int .u8 y6)] = (eK .u8).els (((l1.set (IntKind.i64.wrap (r1.1.tdiv (8 : Int))).toNat y2).set (IntKind.i64.wrap (r1.2.1.tdiv (8 : Int))).toNat y4).set (IntKind.i64.wrap (r1.2.2.tdiv (8 : Int))).toNat y6) from (eK .u8).set0 _ _ y6]
     refine zd (hK35 _ _ (zr (zv [7] 2 [0,5,13,14,15,24,25] [] [(0, vi p1), (5, .one (.sl 0 1 0 l1.length)), (13, vl eValue p2), (14, vi (p2.length : Int)), (15, vi x1), (24, .ag (qa1269 r1)), (25, vi (3 : Int))] [.arr 1 ((eK .u8).els (((l1.set (IntKind.i64.wrap (r1.1.tdiv (8 : Int))).toNat y2).set (IntKind.i64.wrap (r1.2.1.tdiv (8 : Int))).toNat y4).set (IntKind.i64.wrap (r1.2.2.tdiv (8 : Int))).toNat y6)), .box (qa1268 e1)] (zd (XR.one (zq fun K41 hK41 => zr ?_))))))
     refine zg [7] 1 [0,5,13,14,15,24,25,26] (zd (hK41 _ _ (zq fun K42 hK42 => zc false (fun hx => by cases hx) (fun _ => ?_))))
     refine zx 2 (hQ2 _ _ _ ?_)
     exact hJ1 (((l1.set (IntKind.i64.wrap (r1.1.tdiv (8 : Int))).toNat y2).set (IntKind.i64.wrap (r1.2.1.tdiv (8 : Int))).toNat y4).set (IntKind.i64.wrap (r1.2.2.tdiv (8 : Int))).toNat y6) h _ _ (Sub.trans (Sub.trans (Sub.pick (fr' := [(0, vi p1), (5, .one (.sl 0 1 0 l1.length)), (13, vl eValue p2), (14, vi (p2.length : Int)), (15, vi x1)]) [0,5,13,14,15] (by kernel_rfl)) (Sub.take (fr' := [(0, vi p1), (5, .one (.sl 0 1 0 l1.length)), (13, vl eValue p2), (14, vi (p2.length : Int)), (15, vi x1)]) 1 (Nat.zero_le _) (by kernel_rfl) (by kernel_rfl))) (Sub.frame (fr' := [(0, vi p1), (5, .one (.sl 0 1 0 (((l1.set (IntKind.i64.wrap (r1.1.tdiv (8 : Int))).toNat y2).set (IntKind.i64.wrap (r1.2.1.tdiv (8 : Int))).toNat y4).set (IntKind.i64.wrap (r1.2.2.tdiv (8 : Int))).toNat y6).length)), (13, vl eValue p2), (14, vi (p2.length : Int)), (15, vi x1)]) ⟨.rfl _, ALe.of_eq (show (.one (.sl 0 1 0 l1.length) : AV) = .one (.sl 0 1 0 (((l1.set (IntKind.i64.wrap (r1.1.tdiv (8 : Int))).toNat y2).set (IntKind.i64.wrap (r1.2.1.tdiv (8 : Int))).toNat y4).set (IntKind.i64.wrap (r1.2.2.tdiv (8 : Int))).toNat y6).length) from by simp), .rfl _, .rfl _, .rfl _, trivial⟩))
    ·exact zs (hJ1 l1 h _ _ (Sub.trans (Sub.pick (fr' := (qa1262 p1 p2 l1 x1)) [0,5,13,14,15] (by kernel_rfl)) (Sub.take (fr' := (qa1262 p1 p2 l1 x1)) 1 (Nat.zero_le _) (by kernel_rfl) (by kernel_rfl))))
   ·exact zx 0 (hQ1 _ _ _ (hJ2 l1 h _ _ (zk [5])))
 exact XR.sub (Sub.trans (Sub.pick (fr' := [(0, vi p1), (5, .one (.sl 0 1 0 ((IntKind.i64.wrap (p1.tdiv (8 : Int))).toNat))), (13, vl eValue p2), (14, vi (p2.length : Int)), (15, vi (0 : Int))]) [0,5,13,14,15] (by kernel_rfl)) (Sub.frame (fr' := [(0, vi p1), (5, .one (.sl 0 1 0 (List.replicate (IntKind.i64.wrap (p1.tdiv (8 : Int))).toNat (0 : Int)).length)), (13, vl eValue p2), (14, vi (p2.length : Int)), (15, vi (0 : Int))]) ⟨.rfl _, ALe.of_eq (show (.one (.sl 0 1 0 ((IntKind.i64.wrap (p1.tdiv (8 : Int))).toNat)) : AV) = .one (.sl 0 1 0 (List.replicate (IntKind.i64.wrap (p1.tdiv (8 : Int))).toNat (0 : Int)).length) from by simp), .rfl _, .rfl _, .rfl _, trivial⟩)) (hL1 BIG (List.replicate (IntKind.i64.wrap (p1.tdiv (8 : Int))).toNat (0 : Int)) (0 : Int) h)

def column_Bloom (p1 : Int) (p2 : (List GValue)) : Option ((List Int) × Int) :=
    bnd (column_filterBits p1) fun r1 =>
    ift (!r1)
      (some ([], (3 : Int)))
      (bnd (slices_ContainsFunc_api_Value_api_Value_of_column_Bloom_1 p2) fun r2 =>
       ift r2
         (some ([], (1 : Int)))
         (bnd (column_bloom p1 p2) fun r3 =>
          some (r3, (0 : Int))))


theorem c_column_Bloom (p1 : Int) (p2 : (List GValue)) (r : ((List Int) × Int)) (h : column_Bloom p1 p2 = some r) : PC Tryd.prog 14 [vi p1, vl eValue p2] (.tp [vl (eK .u8) r.1, vi r.2]) := by
 unfold column_Bloom at h
 refine zF 14 Tryd.f14 (zq fun K1 hK1 => zr (zg [] 2 [0,1] (zd (hK1 _ _ (zq fun K2 hK2 => zq fun K3 hK3 => ?_)))))
 obtain ⟨r1, c4, h⟩ := zB h
 refine zr (zg [] 1 [0,1,6] (zl 37 [vi p1] (vb r1) [(7, vb r1), (0, vi p1), (1, vl eValue p2), (6, vi p1)] (c_column_filterBits _ _ c4) (zg [] 1 [0,1,8] (zd (hK3 _ _ (zC h (fun b5 h => ?_) (fun b5 h => ?_)))))))
 ·refine zq fun K6 hK6 => zr (zg [] 2 [4,5] (zd (hK6 _ _ (ze ?_))))
  obtain rfl := Option.some.inj h
  exact zf [.one (.pv (.s (.slice none 0 0))), vi (3 : Int)] (.tpc (.one (.nl)) (.tpc (.one (.rfl _ rfl)) (.tp0)))
 ·refine zs (hK2 _ _ (zq fun K7 hK7 => zq fun K8 hK8 => ?_))
  obtain ⟨r2, c9, h⟩ := zB h
  refine zr (zv [] 1 [0,1,9] [] [(0, vi p1), (1, vl eValue p2), (9, vl eValue p2)] [] (za (c_slices_ContainsFunc_api_Value_api_Value_of_column_Bloom_1 _ _ c9) (zd (hK8 _ _ (zC h (fun b10 h => ?_) (fun b10 h => ?_))))))
  ·refine zq fun K11 hK11 => zr (zg [] 2 [4,5] (zd (hK11 _ _ (ze ?_))))
   obtain rfl := Option.some.inj h
   exact zf [.one (.pv (.s (.slice none 0 0))), vi (1 : Int)] (.tpc (.one (.nl)) (.tpc (.one (.rfl _ rfl)) (.tp0)))
  ·refine zs (hK7 _ _ (zq fun K12 hK12 => ?_))
   obtain ⟨r3, c13, h⟩ := zB h
   refine zr (zv [] 2 [11,12] [] [(11, vi p1), (12, vl eValue p2)] [] (za (c_column_bloom _ _ _ c13) (zg [] 2 [4,5] (zd (hK12 _ _ (ze ?_))))))
   obtain rfl := Option.some.inj h
   exact zf [vl (eK .u8) r3, vi (0 : Int)] (.tpc (.one (.rfl _ rfl)) (.tpc (.one (.rfl _ rfl)) (.tp0)))

def ref2_rightBits_j1 (x1 : Bool) : Option Bool :=
    some x1

def ref2_rightBits (p1 : Int) : Option Bool :=
    ift (decide ((8 : Int) ≤ p1))
      (ift (decide (p1 ≤ (4096 : Int)))
         (ref2_rightBits_j1 ((p1.tmod (8 : Int)) == (0 : Int)))
         (ref2_rightBits_j1 false))
      (ref2_rightBits_j1 false)


theorem c_ref2_rightBits (p1 : Int) (r : Bool) (h : ref2_rightBits p1 = some r) : PC Tryd.prog 41 [vi p1] (vb r) := by
 unfold ref2_rightBits at h
 refine zF 14 Tryd.f41 (zq fun K1 hK1 => zr (zg [] 1 [0] (zd (hK1 _ _ (zq fun K2 hK2 => ?_)))))
 have hJ1 : ∀ (x1 : Bool), ref2_rightBits_j1 x1 = some r → ∀ fr1 st1, Sub 14 0 [] fr1 st1 [(2, vb x1)] [] → K2 fr1 st1 := by
  intro x1 h fr1 st1 hS
  unfold ref2_rightBits_j1 at h
  refine hK2 _ _ (XW.sub hS ?_)
  refine ze ?_
  obtain rfl := Option.some.inj h
  exact zf [vb x1] (.one (.rfl _ rfl))
 rcases zW h with ⟨b3, h⟩ | ⟨b3, h⟩
 ·rcases zW h with ⟨b4, h⟩ | ⟨b4, h⟩
  ·exact zr (zg [] 3 [0,5] (zt 5 b3 (zv [] 4 [0,9] [] [(0, vi p1), (9, vb (decide (p1 ≤ (4096 : Int))))] [] (zt 9 b4 (zo [] 5 [2] [] [(8 : Int) ≠ 0] (⟨by decide, trivial⟩) (zd (hJ1 ((p1.tmod (8 : Int)) == (0 : Int)) h _ _ (zk [2]))))))))
  ·exact zr (zg [] 3 [0,5] (zt 5 b3 (zv [] 4 [0,9] [] [(0, vi p1), (9, vb (decide (p1 ≤ (4096 : Int))))] [] (zt 9 b4 (zg [] 5 [2] (zd (hJ1 false h _ _ (zk [2]))))))))
 ·exact zr (zg [] 3 [0,5] (zt 5 b3 (zv [] 9 [2] [] [(2, vb false)] [] (zd (hJ1 false h _ _ (zk [2]))))))

def ref1_within_j1 (x1 : Bool) : Option Bool :=
    some x1

def ref1_within (p1 : Int) (p2 : Int) (p3 : Int) : Option Bool :=
    ift (decide (p2 ≤ p1))
      (ref1_within_j1 (decide (p1 ≤ p3)))
      (ref1_within_j1 false)


theorem c_ref1_within (p1 : Int) (p2 : Int) (p3 : Int) (r : Bool) (h : ref1_within p1 p2 p3 = some r) : PC Tryd.prog 80 [vi p1, vi p2, vi p3] (vb r) := by
 unfold ref1_within at h
 refine zF 15 Tryd.f80 (zq fun K1 hK1 => zr (zg [] 1 [0,1,2] (zd (hK1 _ _ (zq fun K2 hK2 => ?_)))))
 have hJ1 : ∀ (x1 : Bool), ref1_within_j1 x1 = some r → ∀ fr1 st1, Sub 15 0 [] fr1 st1 [(6, vb x1)] [] → K2 fr1 st1 := by
  intro x1 h fr1 st1 hS
  unfold ref1_within_j1 at h
  refine hK2 _ _ (XW.sub hS ?_)
  refine ze ?_
  obtain rfl := Option.some.inj h
  exact zf [vb x1] (.one (.rfl _ rfl))
 rcases zW h with ⟨b3, h⟩ | ⟨b3, h⟩
 ·exact zr (zg [] 4 [0,2,10] (zt 10 b3 (zv [] 5 [6] [] [(6, vb (decide (p1 ≤ p3)))] [] (zd (hJ1 (decide (p1 ≤ p3)) h _ _ (zk [6]))))))
 ·exact zr (zg [] 4 [0,2,10] (zt 10 b3 (zg [] 5 [6] (zd (hJ1 false h _ _ (zk [6]))))))

def ref1_characters_j2 (rec1 : Int → Option Bool) (x2 : Int) (x3 : Bool) : Option Bool :=
    ift x3
      (some false)
      (rec1 (IntKind.i64.wrap (x2 + (1 : Int))))

def ref1_characters_j3 : Option Bool :=
    some true

def ref1_characters_l1 (p1 : ByteArray) : Nat → Int → Option Bool
  | 0, _ => none
  | k1 + 1, x2 =>
    ift (decide (x2 < (p1.size : Int)))
      (grd (0 ≤ x2 ∧ x2 < (p1.size : Int)) <|
       bnd (some (decide (((p1.data.toList.getD x2.toNat 0).toNat : Int) < (32 : Int)))) fun y1 =>
       ift y1
         (ref1_characters_j2 (ref1_characters_l1 p1 k1) x2 true)
         (grd (0 ≤ x2 ∧ x2 < (p1.size : Int)) <|
          ref1_characters_j2 (ref1_characters_l1 p1 k1) x2 (((p1.data.toList.getD x2.toNat 0).toNat : Int) == (127 : Int))))
      (ref1_characters_j3)

def ref1_characters_j1 (p1 : ByteArray) (x1 : Bool) : Option Bool :=
    ift x1
      (some false)
      (ref1_characters_l1 p1 BIG (0 : Int))

def ref1_characters (p1 : ByteArray) : Option Bool :=
    bnd (utf8_ValidString p1) fun r1 =>
    ift (!r1)
      (ref1_characters_j1 p1 true)
      (ref1_characters_j1 p1 (decide ((256 : Int) < (p1.size : Int))))


theorem c_ref1_characters (p1 : ByteArray) (r : Bool) (h : ref1_characters p1 = some r) : PC Tryd.prog 81 [vs p1] (vb r) := by
 unfold ref1_characters at h
 refine zF 28 Tryd.f81 (zq fun K1 hK1 => zr (zg [] 1 [0] (zd (hK1 _ _ (zq fun K2 hK2 => zq fun K3 hK3 => ?_)))))
 have hJ1 : ∀ (x1 : Bool), ref1_characters_j1 p1 x1 = some r → ∀ fr1 st1, Sub 28 0 [] fr1 st1 [(0, vs p1), (11, vb x1)] [] → K3 fr1 st1 := by
  intro x1 h fr1 st1 hS
  unfold ref1_characters_j1 at h
  refine hK3 _ _ (XW.sub hS ?_)
  refine zC h (fun b6 h => ?_) (fun b6 h => ?_)
  ·refine zq fun K7 hK7 => zr (zg [] 1 [2] (zd (hK7 _ _ (ze ?_))))
   obtain rfl := Option.some.inj h
   exact zf [vb false] (.one (.rfl _ rfl))
  ·refine zs (hK2 _ _ (zq fun K8 hK8 => ?_))
   have hJ3 : ∀ (_ : Unit), ref1_characters_j3 = some r → ∀ fr1 st1, Sub 28 0 [] fr1 st1 [] [] → K8 fr1 st1 := by
    intro _ h fr1 st1 hS
    unfold ref1_characters_j3 at h
    refine hK8 _ _ (XW.sub hS ?_)
    refine zq fun K21 hK21 => zr (zg [] 1 [2] (zd (hK21 _ _ (ze ?_))))
    obtain rfl := Option.some.inj h
    exact zf [vb true] (.one (.rfl _ rfl))
   refine zq fun K9 hK9 => zr (zg [] 1 [0,3] (zd (hK9 _ _ (zb 0 (XW.rounds' BIG (x := cd Tryd.f81 [1,1,0,1,0,0]) (by kernel_rfl) fun Q1 hQ1 => ?_)))))
   have hL1 : ∀ (k1 : Nat) (x2 : Int), ref1_characters_l1 p1 k1 x2 = some r → XR Tryd.prog 28 0 [] (cd Tryd.f81 [1,1,0,1,0,0]) Q1 k1 [(0, vs p1), (3, vi x2)] [] := by
    intro k1
    induction k1 with
    | zero => intro x2 h; rw [ref1_characters_l1.eq_1] at h; cases h
    | succ k1 ih1 =>
     intro x2 h
     rw [ref1_characters_l1.eq_2] at h
     refine zq fun K10 hK10 => zq fun K11 hK11 => zr (zg [] 4 [0,3,15] (zd (hK11 _ _ (zC h (fun b12 h => ?_) (fun b12 h => ?_)))))
     ·refine zs (hK10 _ _ (zq fun K13 hK13 => zb 1 (zq fun K14 hK14 => ?_)))
      have hJ2 : ∀ (x3 : Bool), ref1_characters_j2 (ref1_characters_l1 p1 k1) x2 x3 = some r → ∀ fr1 st1, Sub 28 0 [] fr1 st1 [(0, vs p1), (3, vi x2), (27, vb x3)] [] → K14 fr1 st1 := by
       intro x3 h fr1 st1 hS
       unfold ref1_characters_j2 at h
       refine hK14 _ _ (XW.sub hS ?_)
       refine zC h (fun b19 h => ?_) (fun b19 h => ?_)
       ·refine zq fun K20 hK20 => zr (zg [] 1 [2] (zd (hK20 _ _ (ze (hQ1 _ _ _ ?_)))))
        obtain rfl := Option.some.inj h
        exact zf [vb false] (.one (.rfl _ rfl))
       ·exact zs (hK13 _ _ (zr (zg [] 3 [0,3] (zd (XR.sub (zk [0,3]) (ih1 (IntKind.i64.wrap (x2 + (1 : Int))) h))))))
      obtain ⟨g15, h⟩ := zG h
      obtain ⟨y1, hy16, h⟩ := zB h
      rcases zW h with ⟨b17, h⟩ | ⟨b17, h⟩
      ·refine zr (zp [] 4 [0,3,21] [] [(0, vs p1), (3, vi x2), (21, vb (decide (((p1.data.toList.getD x2.toNat 0).toNat : Int) < (32 : Int))))] [] [0 ≤ x2 ∧ x2 < (p1.size : Int)] (⟨g15, trivial⟩) ?_)
       rw [show (decide (((p1.data.toList.getD x2.toNat 0).toNat : Int) < (32 : Int))) = y1 from Option.some.inj hy16]
       exact zg [] 1 [0,3,22] (zt 22 b17 (zg [] 5 [0,3,27] (zd (hJ2 true h _ _ (zk [0,3,27])))))
      ·obtain ⟨g18, h⟩ := zG h
       refine zr (zp [] 4 [0,3,21] [] [(0, vs p1), (3, vi x2), (21, vb (decide (((p1.data.toList.getD x2.toNat 0).toNat : Int) < (32 : Int))))] [] [0 ≤ x2 ∧ x2 < (p1.size : Int)] (⟨g15, trivial⟩) ?_)
       rw [show (decide (((p1.data.toList.getD x2.toNat 0).toNat : Int) < (32 : Int))) = y1 from Option.some.inj hy16]
       exact zg [] 1 [0,3,22] (zt 22 b17 (zo [] 5 [0,3,27] [] [0 ≤ x2 ∧ x2 < (p1.size : Int)] (⟨g18, trivial⟩) (zd (hJ2 (((p1.data.toList.getD x2.toNat 0).toNat : Int) == (127 : Int)) h _ _ (zk [0,3,27])))))
     ·exact zx 0 (hQ1 _ _ _ (hJ3 () h _ _ (zk [])))
   exact XR.sub (zk [0,3]) (hL1 BIG (0 : Int) h)
 obtain ⟨r1, c4, h⟩ := zB h
 rcases zW h with ⟨b5, h⟩ | ⟨b5, h⟩
 ·exact zr (zg [] 1 [0,4] (zl 87 [vs p1] (vb r1) [(5, vb r1), (0, vs p1), (4, vs p1)] (c_utf8_ValidString _ _ c4) (zg [] 2 [0,7] (zt 7 b5 (zg [] 4 [0,11] (zd (hJ1 true h _ _ (zk [0,11]))))))))
 ·exact zr (zv [] 1 [0,4] [] [(0, vs p1), (4, vs p1)] [] (za (c_utf8_ValidString _ _ c4) (zg [] 2 [0,7] (zt 7 b5 (zv [] 4 [0,11] [] [(0, vs p1), (11, vb (decide ((256 : Int) < (p1.size : Int))))] [] (zd (hJ1 (decide ((256 : Int) < (p1.size : Int))) h _ _ (zk [0,11]))))))))

def ref1_alone_j2 (x2 : Bool) : Option Bool :=
    some x2

def ref1_alone_j3 (x3 : Bool) : Option Bool :=
    some x3

def ref1_alone_j4 (x4 : Bool) : Option Bool :=
    some x4

def ref1_alone_j5 (x5 : Bool) : Option Bool :=
    some x5

def ref1_alone_j6 (x6 : Bool) : Option Bool :=
    some x6

def ref1_alone_j7 (x7 : Bool) : Option Bool :=
    some x7

def ref1_alone_j8 (x8 : Bool) : Option Bool :=
    some x8

def ref1_alone_j9 (x9 : Bool) : Option Bool :=
    some x9

def ref1_alone_j1 (p1 : GValue) (x1 : Bool) : Option Bool :=
    ift (p1.kind == (0 : Int))
      (ift x1
         (ift (p1.n == (0 : Int))
            (ref1_alone_j2 (p1.scale == (0 : Int)))
            (ref1_alone_j2 false))
         (ref1_alone_j2 false))
      (ift (p1.kind == (1 : Int))
         (ift x1
            (bnd (ref1_within p1.n (0 : Int) (1 : Int)) fun r1 =>
             ift r1
               (ref1_alone_j3 (p1.scale == (0 : Int)))
               (ref1_alone_j3 false))
            (ref1_alone_j3 false))
         (ift (p1.kind == (2 : Int))
            (ift x1
               (bnd (ref1_within p1.n (-999999999999999999 : Int) (999999999999999999 : Int)) fun r2 =>
                ift r2
                  (ref1_alone_j4 (p1.scale == (0 : Int)))
                  (ref1_alone_j4 false))
               (ref1_alone_j4 false))
            (ift (p1.kind == (3 : Int))
               (ift x1
                  (bnd (ref1_within p1.n (-999999999999999999 : Int) (999999999999999999 : Int)) fun r3 =>
                   ift r3
                     (bnd (ref1_within p1.scale (0 : Int) (12 : Int)) fun r4 =>
                      ref1_alone_j5 r4)
                     (ref1_alone_j5 false))
                  (ref1_alone_j5 false))
               (ift (p1.kind == (4 : Int))
                  (ift ((p1.items.length : Int) == (0 : Int))
                     (ift (p1.n == (0 : Int))
                        (ift (p1.scale == (0 : Int))
                           (bnd (ref1_characters p1.s) fun r5 =>
                            ref1_alone_j6 r5)
                           (ref1_alone_j6 false))
                        (ref1_alone_j6 false))
                     (ref1_alone_j6 false))
                  (ift (p1.kind == (5 : Int))
                     (ift x1
                        (bnd (ref1_within p1.n (-62135596800 : Int) (253402300799 : Int)) fun r6 =>
                         ift r6
                           (ref1_alone_j7 (p1.scale == (0 : Int)))
                           (ref1_alone_j7 false))
                        (ref1_alone_j7 false))
                     (ift (p1.kind == (6 : Int))
                        (ift (p1.s.toList == (ByteArray.mk #[]).toList)
                           (ift (p1.n == (0 : Int))
                              (ift (p1.scale == (0 : Int))
                                 (ref1_alone_j8 (decide ((p1.items.length : Int) ≤ (64 : Int))))
                                 (ref1_alone_j8 false))
                              (ref1_alone_j8 false))
                           (ref1_alone_j8 false))
                        (ift (p1.kind == (7 : Int))
                           (ift (p1.s.toList == (ByteArray.mk #[]).toList)
                              (ift (p1.n == (0 : Int))
                                 (ift (p1.scale == (0 : Int))
                                    (ref1_alone_j9 (decide ((0 : Int) < (p1.items.length : Int))))
                                    (ref1_alone_j9 false))
                                 (ref1_alone_j9 false))
                              (ref1_alone_j9 false))
                           (some false))))))))

def ref1_alone (p1 : GValue) : Option Bool :=
    ift (p1.s.toList == (ByteArray.mk #[]).toList)
      (ref1_alone_j1 p1 ((p1.items.length : Int) == (0 : Int)))
      (ref1_alone_j1 p1 false)

abbrev qa1296 (p1 : GValue) : List PV := [pi p1.kind, pi p1.n, pi p1.scale, .s (.string p1.s), .ro (eValue.els p1.items)]
abbrev qa1324 (p1 : GValue) : Fr := [(1, .one (.pv (.rp [(qa1296 p1)] 0 0))), (106, vb (p1.s.toList == (ByteArray.mk #[]).toList))]

theorem c_ref1_alone (p1 : GValue) (r : Bool) (h : ref1_alone p1 = some r) : PC Tryd.prog 67 [.ag [ci p1.kind, ci p1.n, ci p1.scale, cst p1.s, cl eValue p1.items]] (vb r) := by
 unfold ref1_alone at h
 refine zF 143 Tryd.f67 (zq fun K1 hK1 => zr (zg [] 2 [1] (zd (hK1 _ _ (zq fun K2 hK2 => ?_)))))
 have hJ1 : ∀ (x1 : Bool), ref1_alone_j1 p1 x1 = some r → ∀ fr1 st1, Sub 143 0 [] fr1 st1 [(1, .one (.pv (.rp [(qa1296 p1)] 0 0))), (3, vb x1)] [] → K2 fr1 st1 := by
  intro x1 h fr1 st1 hS
  unfold ref1_alone_j1 at h
  refine hK2 _ _ (XW.sub hS ?_)
  refine zq fun K4 hK4 => zq fun K5 hK5 => zr (zu [] 2 [1,3,14] [(qa1296 p1)] (zd (hK5 _ _ (zb 0 (zq fun K6 hK6 => ?_)))))
  refine zr (zg [] 2 [1,3,14,15] (zd (hK6 _ _ (zC h (fun b7 h => ?_) (fun b7 h => ?_)))))
  ·refine zq fun K8 hK8 => ?_
   have hJ2 : ∀ (x2 : Bool), ref1_alone_j2 x2 = some r → ∀ fr1 st1, Sub 143 0 [] fr1 st1 [(2, vb x2)] [] → K8 fr1 st1 := by
    intro x2 h fr1 st1 hS
    unfold ref1_alone_j2 at h
    refine hK8 _ _ (XW.sub hS ?_)
    refine ze ?_
    obtain rfl := Option.some.inj h
    exact zf [vb x2] (.one (.rfl _ rfl))
   rcases zW h with ⟨b9, h⟩ | ⟨b9, h⟩
   ·rcases zW h with ⟨b10, h⟩ | ⟨b10, h⟩
    ·exact zr (zv [] 2 [1,18] [] [(1, .one (.pv (.rp [(qa1296 p1)] 0 0))), (18, vb x1)] [] (zt 18 b9 (zu [] 5 [1,23] [(qa1296 p1)] (zt 23 b10 (zu [] 5 [2] [(qa1296 p1)] (zd (hJ2 (p1.scale == (0 : Int)) h _ _ (zk [2]))))))))
    ·exact zr (zv [] 2 [1,18] [] [(1, .one (.pv (.rp [(qa1296 p1)] 0 0))), (18, vb x1)] [] (zt 18 b9 (zu [] 5 [1,23] [(qa1296 p1)] (zt 23 b10 (zg [] 5 [2] (zd (hJ2 false h _ _ (zk [2]))))))))
   ·exact zr (zv [] 2 [1,18] [] [(1, .one (.pv (.rp [(qa1296 p1)] 0 0))), (18, vb x1)] [] (zt 18 b9 (zg [] 10 [2] (zd (hJ2 false h _ _ (zk [2]))))))
  ·refine zq fun K11 hK11 => zr (zv [] 2 [1,3,14,28] [] [(1, .one (.pv (.rp [(qa1296 p1)] 0 0))), (3, vb x1), (14, vi p1.kind), (28, vb (p1.kind == (1 : Int)))] [] (zd (hK11 _ _ (zC h (fun b12 h => ?_) (fun b12 h => ?_)))))
   ·refine zq fun K13 hK13 => ?_
    have hJ3 : ∀ (x3 : Bool), ref1_alone_j3 x3 = some r → ∀ fr1 st1, Sub 143 0 [] fr1 st1 [(2, vb x3)] [] → K13 fr1 st1 := by
     intro x3 h fr1 st1 hS
     unfold ref1_alone_j3 at h
     refine hK13 _ _ (XW.sub hS ?_)
     refine ze ?_
     obtain rfl := Option.some.inj h
     exact zf [vb x3] (.one (.rfl _ rfl))
    rcases zW h with ⟨b14, h⟩ | ⟨b14, h⟩
    ·obtain ⟨r1, c15, h⟩ := zB h
     rcases zW h with ⟨b16, h⟩ | ⟨b16, h⟩
     ·refine zr (zg [] 2 [1,31] (zt 31 b14 (zu [] 2 [1,31,33] [(qa1296 p1)] (zl 80 [vi p1.n, vi (0 : Int), vi (1 : Int)] (vb r1) [(34, vb r1), (1, .one (.pv (.rp [(qa1296 p1)] 0 0))), (31, vb true), (33, vi p1.n)] (c_ref1_within _ _ _ _ c15) (zg [] 2 [1,36] (zt 36 b16 (zu [] 5 [2] [(qa1296 p1)] ?_)))))))
      exact zd (hJ3 (p1.scale == (0 : Int)) h _ _ (zk [2]))
     ·refine zr (zv [] 2 [1,31] [] [(1, .one (.pv (.rp [(qa1296 p1)] 0 0))), (31, vb x1)] [] (zt 31 b14 (zu [] 2 [1,31,33] [(qa1296 p1)] (za (c_ref1_within _ _ _ _ c15) (zv [] 2 [1,36] [] [(1, .one (.pv (.rp [(qa1296 p1)] 0 0))), (36, vb r1)] [] (zt 36 b16 (zg [] 5 [2] ?_)))))))
      exact zd (hJ3 false h _ _ (zk [2]))
    ·exact zr (zg [] 2 [1,31] (zt 31 b14 (zg [] 10 [2] (zd (hJ3 false h _ _ (zk [2]))))))
   ·refine zq fun K17 hK17 => zr (zg [] 2 [1,3,14,41] (zd (hK17 _ _ (zC h (fun b18 h => ?_) (fun b18 h => ?_)))))
    ·refine zq fun K19 hK19 => ?_
     have hJ4 : ∀ (x4 : Bool), ref1_alone_j4 x4 = some r → ∀ fr1 st1, Sub 143 0 [] fr1 st1 [(2, vb x4)] [] → K19 fr1 st1 := by
      intro x4 h fr1 st1 hS
      unfold ref1_alone_j4 at h
      refine hK19 _ _ (XW.sub hS ?_)
      refine ze ?_
      obtain rfl := Option.some.inj h
      exact zf [vb x4] (.one (.rfl _ rfl))
     rcases zW h with ⟨b20, h⟩ | ⟨b20, h⟩
     ·obtain ⟨r2, c21, h⟩ := zB h
      rcases zW h with ⟨b22, h⟩ | ⟨b22, h⟩
      ·refine zr (zg [] 2 [1,44] (zt 44 b20 (zv [] 2 [1,44,46] [(qa1296 p1)] [(1, .one (.pv (.rp [(qa1296 p1)] 0 0))), (44, vb true), (46, vi p1.n)] [] (za (c_ref1_within _ _ _ _ c21) (zg [] 2 [1,49] (zt 49 b22 (zv [] 5 [2] [(qa1296 p1)] [(2, vb (p1.scale == (0 : Int)))] [] ?_)))))))
       exact zd (hJ4 (p1.scale == (0 : Int)) h _ _ (zk [2]))
      ·refine zr (zg [] 2 [1,44] (zt 44 b20 (zu [] 2 [1,44,46] [(qa1296 p1)] (zl 80 [vi p1.n, vi (-999999999999999999 : Int), vi (999999999999999999 : Int)] (vb r2) [(47, vb r2), (1, .one (.pv (.rp [(qa1296 p1)] 0 0))), (44, vb true), (46, vi p1.n)] (c_ref1_within _ _ _ _ c21) (zg [] 2 [1,49] (zt 49 b22 (zg [] 5 [2] ?_)))))))
       exact zd (hJ4 false h _ _ (zk [2]))
     ·exact zr (zg [] 2 [1,44] (zt 44 b20 (zv [] 10 [2] [] [(2, vb false)] [] (zd (hJ4 false h _ _ (zk [2]))))))
    ·refine zq fun K23 hK23 => zr (zg [] 2 [1,3,14,54] (zd (hK23 _ _ (zC h (fun b24 h => ?_) (fun b24 h => ?_)))))
     ·refine zq fun K25 hK25 => ?_
      have hJ5 : ∀ (x5 : Bool), ref1_alone_j5 x5 = some r → ∀ fr1 st1, Sub 143 0 [] fr1 st1 [(2, vb x5)] [] → K25 fr1 st1 := by
       intro x5 h fr1 st1 hS
       unfold ref1_alone_j5 at h
       refine hK25 _ _ (XW.sub hS ?_)
       refine ze ?_
       obtain rfl := Option.some.inj h
       exact zf [vb x5] (.one (.rfl _ rfl))
      rcases zW h with ⟨b26, h⟩ | ⟨b26, h⟩
      ·obtain ⟨r3, c27, h⟩ := zB h
       rcases zW h with ⟨b28, h⟩ | ⟨b28, h⟩
       ·obtain ⟨r4, c29, h⟩ := zB h
        refine zr (zv [] 2 [1,57] [] [(1, .one (.pv (.rp [(qa1296 p1)] 0 0))), (57, vb x1)] [] (zt 57 b26 (zu [] 2 [1,57,59] [(qa1296 p1)] (za (c_ref1_within _ _ _ _ c27) (zv [] 2 [1,62] [] [(1, .one (.pv (.rp [(qa1296 p1)] 0 0))), (62, vb r3)] [] (zt 62 b28 (zu [] 2 [62,64] [(qa1296 p1)] ?_)))))))
        exact za (c_ref1_within _ _ _ _ c29) (zv [] 2 [2] [] [(2, vb r4)] [] (zd (hJ5 r4 h _ _ (zk [2]))))
       ·refine zr (zg [] 2 [1,57] (zt 57 b26 (zu [] 2 [1,57,59] [(qa1296 p1)] (zl 80 [vi p1.n, vi (-999999999999999999 : Int), vi (999999999999999999 : Int)] (vb r3) [(60, vb r3), (1, .one (.pv (.rp [(qa1296 p1)] 0 0))), (57, vb true), (59, vi p1.n)] (c_ref1_within _ _ _ _ c27) (zg [] 2 [1,62] (zt 62 b28 (zg [] 5 [2] ?_)))))))
        exact zd (hJ5 false h _ _ (zk [2]))
      ·exact zr (zv [] 2 [1,57] [] [(1, .one (.pv (.rp [(qa1296 p1)] 0 0))), (57, vb x1)] [] (zt 57 b26 (zg [] 10 [2] (zd (hJ5 false h _ _ (zk [2]))))))
     ·refine zq fun K30 hK30 => zr (zv [] 2 [1,3,14,67] [] [(1, .one (.pv (.rp [(qa1296 p1)] 0 0))), (3, vb x1), (14, vi p1.kind), (67, vb (p1.kind == (4 : Int)))] [] (zd (hK30 _ _ (zC h (fun b31 h => ?_) (fun b31 h => ?_)))))
      ·refine zq fun K32 hK32 => ?_
       have hJ6 : ∀ (x6 : Bool), ref1_alone_j6 x6 = some r → ∀ fr1 st1, Sub 143 0 [] fr1 st1 [(2, vb x6)] [] → K32 fr1 st1 := by
        intro x6 h fr1 st1 hS
        unfold ref1_alone_j6 at h
        refine hK32 _ _ (XW.sub hS ?_)
        refine ze ?_
        obtain rfl := Option.some.inj h
        exact zf [vb x6] (.one (.rfl _ rfl))
       rcases zW h with ⟨b33, h⟩ | ⟨b33, h⟩
       ·rcases zW h with ⟨b34, h⟩ | ⟨b34, h⟩
        ·rcases zW h with ⟨b35, h⟩ | ⟨b35, h⟩
         ·obtain ⟨r5, c36, h⟩ := zB h
          refine zr (zv [] 3 [1,71] [[pi p1.kind, pi p1.n, pi p1.scale, .s (.string p1.s), .ro (eValue.els p1.items)]] [(1, .one (.pv (.rp [[pi p1.kind, pi p1.n, pi p1.scale, .s (.string p1.s), .ro (eValue.els p1.items)]] 0 0))), (71, vi ((eValue.els p1.items).length : Int))] [] ?_)
          rw [eValue.len p1.items]
          refine zg [] 2 [1,73] (zt 73 b33 (zu [] 5 [1,78] [(qa1296 p1)] (zt 78 b34 (zv [] 5 [1,83] [(qa1296 p1)] [(1, .one (.pv (.rp [(qa1296 p1)] 0 0))), (83, vb (p1.scale == (0 : Int)))] [] (zt 83 b35 (zu [] 2 [83,85] [(qa1296 p1)] (za (c_ref1_characters _ _ c36) ?_)))))))
          exact zv [] 2 [2] [] [(2, vb r5)] [] (zd (hJ6 r5 h _ _ (zk [2])))
         ·refine zr (zv [] 3 [1,71] [[pi p1.kind, pi p1.n, pi p1.scale, .s (.string p1.s), .ro (eValue.els p1.items)]] [(1, .one (.pv (.rp [[pi p1.kind, pi p1.n, pi p1.scale, .s (.string p1.s), .ro (eValue.els p1.items)]] 0 0))), (71, vi ((eValue.els p1.items).length : Int))] [] ?_)
          rw [eValue.len p1.items]
          refine zg [] 2 [1,73] (zt 73 b33 (zu [] 5 [1,78] [(qa1296 p1)] (zt 78 b34 (zv [] 5 [1,83] [(qa1296 p1)] [(1, .one (.pv (.rp [(qa1296 p1)] 0 0))), (83, vb (p1.scale == (0 : Int)))] [] (zt 83 b35 (zg [] 5 [2] (zd ?_)))))))
          exact hJ6 false h _ _ (zk [2])
        ·refine zr (zv [] 3 [1,71] [[pi p1.kind, pi p1.n, pi p1.scale, .s (.string p1.s), .ro (eValue.els p1.items)]] [(1, .one (.pv (.rp [[pi p1.kind, pi p1.n, pi p1.scale, .s (.string p1.s), .ro (eValue.els p1.items)]] 0 0))), (71, vi ((eValue.els p1.items).length : Int))] [] ?_)
         rw [eValue.len p1.items]
         exact zg [] 2 [1,73] (zt 73 b33 (zu [] 5 [1,78] [(qa1296 p1)] (zt 78 b34 (zv [] 10 [2] [] [(2, vb false)] [] (zd (hJ6 false h _ _ (zk [2])))))))
       ·refine zr (zv [] 3 [1,71] [[pi p1.kind, pi p1.n, pi p1.scale, .s (.string p1.s), .ro (eValue.els p1.items)]] [(1, .one (.pv (.rp [[pi p1.kind, pi p1.n, pi p1.scale, .s (.string p1.s), .ro (eValue.els p1.items)]] 0 0))), (71, vi ((eValue.els p1.items).length : Int))] [] ?_)
        rw [eValue.len p1.items]
        exact zg [] 2 [1,73] (zt 73 b33 (zg [] 15 [2] (zd (hJ6 false h _ _ (zk [2])))))
      ·refine zq fun K37 hK37 => zr (zg [] 2 [1,3,14,88] (zd (hK37 _ _ (zC h (fun b38 h => ?_) (fun b38 h => ?_)))))
       ·refine zq fun K39 hK39 => ?_
        have hJ7 : ∀ (x7 : Bool), ref1_alone_j7 x7 = some r → ∀ fr1 st1, Sub 143 0 [] fr1 st1 [(2, vb x7)] [] → K39 fr1 st1 := by
         intro x7 h fr1 st1 hS
         unfold ref1_alone_j7 at h
         refine hK39 _ _ (XW.sub hS ?_)
         refine ze ?_
         obtain rfl := Option.some.inj h
         exact zf [vb x7] (.one (.rfl _ rfl))
        rcases zW h with ⟨b40, h⟩ | ⟨b40, h⟩
        ·obtain ⟨r6, c41, h⟩ := zB h
         rcases zW h with ⟨b42, h⟩ | ⟨b42, h⟩
         ·refine zr (zg [] 2 [1,91] (zt 91 b40 (zv [] 2 [1,91,93] [(qa1296 p1)] [(1, .one (.pv (.rp [(qa1296 p1)] 0 0))), (91, vb true), (93, vi p1.n)] [] (za (c_ref1_within _ _ _ _ c41) (zg [] 2 [1,96] (zt 96 b42 (zv [] 5 [2] [(qa1296 p1)] [(2, vb (p1.scale == (0 : Int)))] [] ?_)))))))
          exact zd (hJ7 (p1.scale == (0 : Int)) h _ _ (zk [2]))
         ·refine zr (zg [] 2 [1,91] (zt 91 b40 (zu [] 2 [1,91,93] [(qa1296 p1)] (zl 80 [vi p1.n, vi (-62135596800 : Int), vi (253402300799 : Int)] (vb r6) [(94, vb r6), (1, .one (.pv (.rp [(qa1296 p1)] 0 0))), (91, vb true), (93, vi p1.n)] (c_ref1_within _ _ _ _ c41) (zg [] 2 [1,96] (zt 96 b42 (zg [] 5 [2] ?_)))))))
          exact zd (hJ7 false h _ _ (zk [2]))
        ·exact zr (zg [] 2 [1,91] (zt 91 b40 (zv [] 10 [2] [] [(2, vb false)] [] (zd (hJ7 false h _ _ (zk [2]))))))
       ·refine zq fun K43 hK43 => zr (zg [] 2 [1,14,101] (zd (hK43 _ _ (zC h (fun b44 h => ?_) (fun b44 h => ?_)))))
        ·refine zq fun K45 hK45 => ?_
         have hJ8 : ∀ (x8 : Bool), ref1_alone_j8 x8 = some r → ∀ fr1 st1, Sub 143 0 [] fr1 st1 [(2, vb x8)] [] → K45 fr1 st1 := by
          intro x8 h fr1 st1 hS
          unfold ref1_alone_j8 at h
          refine hK45 _ _ (XW.sub hS ?_)
          refine ze ?_
          obtain rfl := Option.some.inj h
          exact zf [vb x8] (.one (.rfl _ rfl))
         rcases zW h with ⟨b46, h⟩ | ⟨b46, h⟩
         ·rcases zW h with ⟨b47, h⟩ | ⟨b47, h⟩
          ·rcases zW h with ⟨b48, h⟩ | ⟨b48, h⟩
           ·refine zr (zv [] 4 [1,106] [(qa1296 p1)] (qa1324 p1) [] (zt 106 b46 (zu [] 5 [1,111] [(qa1296 p1)] (zt 111 b47 (zu [] 5 [1,116] [(qa1296 p1)] (zt 116 b48 ?_))))))
            refine zv [] 3 [116,119] [[pi p1.kind, pi p1.n, pi p1.scale, .s (.string p1.s), .ro (eValue.els p1.items)]] [(116, vb true), (119, vi ((eValue.els p1.items).length : Int))] [] ?_
            rw [eValue.len p1.items]
            exact zg [] 3 [2] (zd (hJ8 (decide ((p1.items.length : Int) ≤ (64 : Int))) h _ _ (zk [2])))
           ·refine zr (zu [] 4 [1,106] [(qa1296 p1)] (zt 106 b46 (zv [] 5 [1,111] [(qa1296 p1)] [(1, .one (.pv (.rp [(qa1296 p1)] 0 0))), (111, vb (p1.n == (0 : Int)))] [] (zt 111 b47 (zu [] 5 [1,116] [(qa1296 p1)] (zt 116 b48 (zg [] 6 [2] ?_)))))))
            exact zd (hJ8 false h _ _ (zk [2]))
          ·exact zr (zv [] 4 [1,106] [(qa1296 p1)] (qa1324 p1) [] (zt 106 b46 (zu [] 5 [1,111] [(qa1296 p1)] (zt 111 b47 (zg [] 11 [2] (zd (hJ8 false h _ _ (zk [2]))))))))
         ·exact zr (zv [] 4 [1,106] [(qa1296 p1)] (qa1324 p1) [] (zt 106 b46 (zg [] 16 [2] (zd (hJ8 false h _ _ (zk [2]))))))
        ·refine zq fun K49 hK49 => zr (zv [] 2 [1,122] [] [(1, .one (.pv (.rp [(qa1296 p1)] 0 0))), (122, vb (p1.kind == (7 : Int)))] [] (zd (hK49 _ _ (zC h (fun b50 h => ?_) (fun b50 h => ?_)))))
         ·refine zq fun K51 hK51 => ?_
          have hJ9 : ∀ (x9 : Bool), ref1_alone_j9 x9 = some r → ∀ fr1 st1, Sub 143 0 [] fr1 st1 [(2, vb x9)] [] → K51 fr1 st1 := by
           intro x9 h fr1 st1 hS
           unfold ref1_alone_j9 at h
           refine hK51 _ _ (XW.sub hS ?_)
           refine ze ?_
           obtain rfl := Option.some.inj h
           exact zf [vb x9] (.one (.rfl _ rfl))
          rcases zW h with ⟨b52, h⟩ | ⟨b52, h⟩
          ·rcases zW h with ⟨b53, h⟩ | ⟨b53, h⟩
           ·rcases zW h with ⟨b54, h⟩ | ⟨b54, h⟩
            ·refine zr (zu [] 4 [1,127] [(qa1296 p1)] (zt 127 b52 (zu [] 5 [1,132] [(qa1296 p1)] (zt 132 b53 (zv [] 5 [1,137] [(qa1296 p1)] [(1, .one (.pv (.rp [(qa1296 p1)] 0 0))), (137, vb (p1.scale == (0 : Int)))] [] (zt 137 b54 ?_))))))
             refine zv [] 3 [137,140] [[pi p1.kind, pi p1.n, pi p1.scale, .s (.string p1.s), .ro (eValue.els p1.items)]] [(137, vb true), (140, vi ((eValue.els p1.items).length : Int))] [] ?_
             rw [eValue.len p1.items]
             exact zg [] 3 [2] (zd (hJ9 (decide ((0 : Int) < (p1.items.length : Int))) h _ _ (zk [2])))
            ·refine zr (zu [] 4 [1,127] [(qa1296 p1)] (zt 127 b52 (zv [] 5 [1,132] [(qa1296 p1)] [(1, .one (.pv (.rp [(qa1296 p1)] 0 0))), (132, vb (p1.n == (0 : Int)))] [] (zt 132 b53 (zu [] 5 [1,137] [(qa1296 p1)] (zt 137 b54 (zg [] 6 [2] ?_)))))))
             exact zd (hJ9 false h _ _ (zk [2]))
           ·exact zr (zu [] 4 [1,127] [(qa1296 p1)] (zt 127 b52 (zu [] 5 [1,132] [(qa1296 p1)] (zt 132 b53 (zv [] 11 [2] [] [(2, vb false)] [] (zd (hJ9 false h _ _ (zk [2]))))))))
          ·exact zr (zu [] 4 [1,127] [(qa1296 p1)] (zt 127 b52 (zg [] 16 [2] (zd (hJ9 false h _ _ (zk [2]))))))
         ·refine zs (hK4 _ _ (zq fun K55 hK55 => zr (zg [] 1 [2] (zd (hK55 _ _ (ze ?_))))))
          obtain rfl := Option.some.inj h
          exact zf [vb false] (.one (.rfl _ rfl))
 rcases zW h with ⟨b3, h⟩ | ⟨b3, h⟩
 ·refine zr (zu [] 4 [1,7] [[pi p1.kind, pi p1.n, pi p1.scale, .s (.string p1.s), .ro (eValue.els p1.items)]] (zt 7 b3 (zv [] 3 [1,7,10] [[pi p1.kind, pi p1.n, pi p1.scale, .s (.string p1.s), .ro (eValue.els p1.items)]] [(1, .one (.pv (.rp [[pi p1.kind, pi p1.n, pi p1.scale, .s (.string p1.s), .ro (eValue.els p1.items)]] 0 0))), (7, vb true), (10, vi ((eValue.els p1.items).length : Int))] [] ?_)))
  rw [eValue.len p1.items]
  exact zg [] 3 [1,3] (zd (hJ1 ((p1.items.length : Int) == (0 : Int)) h _ _ (zk [1,3])))
 ·exact zr (zu [] 4 [1,7] [(qa1296 p1)] (zt 7 b3 (zv [] 6 [1,3] [] [(1, .one (.pv (.rp [(qa1296 p1)] 0 0))), (3, vb false)] [] (zd (hJ1 false h _ _ (zk [1,3]))))))

def ref1_sound_j3 (z3 : Int) : Option (Bool × Int) :=
    some (true, z3)

def ref1_sound_l1 (q_ref1_sound : GValue → Int → Int → Option (Bool × Int)) (p1 : GValue) (p2 : Int) : Nat → Int → Int → Option (Bool × Int)
  | 0, _, _ => none
  | k1 + 1, z2, x2 =>
    ift (decide (x2 < (p1.items.length : Int)))
      (bnd (at? p1.items x2) fun e1 =>
       bnd (q_ref1_sound e1 (IntKind.i64.wrap (p2 + (1 : Int))) z2) fun r2 =>
       ift (!r2.1)
         (some (false, r2.2))
         ((ref1_sound_l1 q_ref1_sound p1 p2 k1) r2.2 (IntKind.i64.wrap (x2 + (1 : Int)))))
      (ref1_sound_j3 z2)

def ref1_sound_j2 (q_ref1_sound : GValue → Int → Int → Option (Bool × Int)) (p1 : GValue) (p2 : Int) (z1 : Int) (x1 : Bool) : Option (Bool × Int) :=
    ift x1
      (some (false, z1))
      (ref1_sound_l1 q_ref1_sound p1 p2 BIG z1 (0 : Int))

def ref1_sound_j1 (q_ref1_sound : GValue → Int → Int → Option (Bool × Int)) (p1 : GValue) (p2 : Int) (z1 : Int) : Option (Bool × Int) :=
    ift (decide ((4 : Int) < p2))
      (ref1_sound_j2 q_ref1_sound p1 p2 z1 true)
      (ift (decide ((256 : Int) < z1))
         (ref1_sound_j2 q_ref1_sound p1 p2 z1 true)
         (bnd (ref1_alone p1) fun r1 =>
          ref1_sound_j2 q_ref1_sound p1 p2 z1 (!r1)))

def ref1_sound : Nat → GValue → Int → Int → Option (Bool × Int)
  | 0, _, _, _ => none
  | k0 + 1, p1, p2, p3 =>
    ift (p1.kind != (0 : Int))
      (ref1_sound_j1 (ref1_sound k0) p1 p2 (IntKind.i64.wrap (p3 + (1 : Int))))
      (ref1_sound_j1 (ref1_sound k0) p1 p2 p3)

abbrev qa1330 (p1 : GValue) : List CV := [ci p1.kind, ci p1.n, ci p1.scale, cst p1.s, cl eValue p1.items]
abbrev qa1333 (p1 : GValue) : List PV := [pi p1.kind, pi p1.n, pi p1.scale, .s (.string p1.s), .ro (eValue.els p1.items)]
abbrev qa1340 (e1 : GValue) : List CV := [ci e1.kind, ci e1.n, ci e1.scale, cst e1.s, cl eValue e1.items]
abbrev qa1354 (p1 : GValue) (p2 : Int) : Fr := [(1, vi p2), (2, .one (.pt 0 0 0 0)), (3, .one (.pv (.rp [(qa1333 p1)] 0 0))), (18, vb (decide ((4 : Int) < p2)))]

theorem c_ref1_sound : ∀ (k0 : Nat) (p1 : GValue) (p2 : Int) (p3 : Int) (r : (Bool × Int)), ref1_sound k0 p1 p2 p3 = some r → MC Tryd.prog 46 [.ag (qa1330 p1), vi p2, .one (.pt 0 0 0 0)] [.box [ci p3]] (vb r.1) [.box [ci r.2]]
 | 0, _, _, _, r, h => by rw [ref1_sound.eq_1] at h; cases h
 | k0 + 1, p1, p2, p3, r, h => by
  rw [ref1_sound.eq_2] at h
  refine MC.of 1 (n := 46) (fn := Tryd.f46) (c := cd Tryd.f46 []) (by kernel_rfl) (by kernel_rfl) (by kernel_rfl) (Nat.le_of_ble_eq_true rfl) rfl (zq fun K1 hK1 => zr (zg [] 2 [1,2,3] (zd (hK1 _ _ (zq fun K2 hK2 => ?_)))))
  have hJ1 : ∀ (z1 : Int), ref1_sound_j1 (ref1_sound k0) p1 p2 z1 = some r → ∀ fr1 st1, Sub 46 1 [] fr1 st1 [(1, vi p2), (2, .one (.pt 0 0 0 0)), (3, .one (.pv (.rp [(qa1333 p1)] 0 0)))] [.box [ci z1]] → K2 fr1 st1 := by
   intro z1 h fr1 st1 hS
   unfold ref1_sound_j1 at h
   refine hK2 _ _ (XW.sub hS ?_)
   refine zq fun K5 hK5 => zq fun K6 hK6 => ?_
   have hJ2 : ∀ (x1 : Bool), ref1_sound_j2 (ref1_sound k0) p1 p2 z1 x1 = some r → ∀ fr1 st1, Sub 46 1 [] fr1 st1 [(1, vi p2), (2, .one (.pt 0 0 0 0)), (3, .one (.pv (.rp [(qa1333 p1)] 0 0))), (28, vb x1)] [.box [ci z1]] → K6 fr1 st1 := by
    intro x1 h fr1 st1 hS
    unfold ref1_sound_j2 at h
    refine hK6 _ _ (XW.sub hS ?_)
    refine zC h (fun b10 h => ?_) (fun b10 h => ?_)
    ·refine zq fun K11 hK11 => zr (zv [] 1 [6] [] [(6, vb false)] [.box [ci z1]] (zd (hK11 _ _ (ze ?_))))
     obtain rfl := Option.some.inj h
     exact FinM.fin (.inr rfl) [] [vb false] [] (by kernel_rfl) trivial (by kernel_rfl) (by kernel_rfl) (.one (.rfl _ rfl))
    ·refine zs (hK5 _ _ (zq fun K12 hK12 => ?_))
     have hJ3 : ∀ (z3 : Int), ref1_sound_j3 z3 = some r → ∀ fr1 st1, Sub 46 1 [] fr1 st1 [] [.box [ci z3]] → K12 fr1 st1 := by
      intro z3 h fr1 st1 hS
      unfold ref1_sound_j3 at h
      refine hK12 _ _ (XW.sub hS ?_)
      refine zq fun K24 hK24 => zr (zv [] 1 [6] [] [(6, vb true)] [.box [ci z3]] (zd (hK24 _ _ (ze ?_))))
      obtain rfl := Option.some.inj h
      exact FinM.fin (.inr rfl) [] [vb true] [] (by kernel_rfl) trivial (by kernel_rfl) (by kernel_rfl) (.one (.rfl _ rfl))
     refine zq fun K13 hK13 => zr (zv [] 3 [1,2,3,31] [[pi p1.kind, pi p1.n, pi p1.scale, .s (.string p1.s), .ro (eValue.els p1.items)]] [(1, vi p2), (2, .one (.pt 0 0 0 0)), (3, .one (.pv (.rp [[pi p1.kind, pi p1.n, pi p1.scale, .s (.string p1.s), .ro (eValue.els p1.items)]] 0 0))), (31, vi ((eValue.els p1.items).length : Int))] [.box [ci z1]] ?_)
     rw [eValue.len p1.items]
     refine zg [] 1 [1,2,3,31,32] (zd (hK13 _ _ (zb 0 (XW.rounds' BIG (x := cd Tryd.f46 [1,1,1,0,1,0,0]) (by kernel_rfl) fun Q1 hQ1 => ?_))))
     have hL1 : ∀ (k1 : Nat) (z2 : Int) (x2 : Int), ref1_sound_l1 (ref1_sound k0) p1 p2 k1 z2 x2 = some r → XR Tryd.prog 46 1 [] (cd Tryd.f46 [1,1,1,0,1,0,0]) Q1 k1 [(1, vi p2), (2, .one (.pt 0 0 0 0)), (3, .one (.pv (.rp [(qa1333 p1)] 0 0))), (31, vi (p1.items.length : Int)), (32, vi x2)] [.box [ci z2]] := by
      intro k1
      induction k1 with
      | zero => intro z2 x2 h; rw [ref1_sound_l1.eq_1] at h; cases h
      | succ k1 ih1 =>
       intro z2 x2 h
       rw [ref1_sound_l1.eq_2] at h
       refine zq fun K14 hK14 => zr (zg [] 1 [1,2,3,31,32,33] (zd (hK14 _ _ (zq fun K15 hK15 => zC h (fun b16 h => ?_) (fun b16 h => ?_)))))
       ·refine zs (hK15 _ _ (zq fun K17 hK17 => zb 1 (zq fun K18 hK18 => zr (zg [] 2 [1,2,3,7,31,32] (zd ?_)))))
        refine hK18 _ _ (zq fun K19 hK19 => ?_)
        obtain ⟨e1, a20, h⟩ := zB h
        obtain ⟨r2, c21, h⟩ := zB h
        refine zr ?_
        refine zp [] 8 [1,2,3,31,32,39,41,42] [(qa1333 p1), [pi e1.kind, pi e1.n, pi e1.scale, .s (.string e1.s), .ro (eValue.els e1.items)]] [(1, vi p2), (2, .one (.pt 0 0 0 0)), (3, .one (.pv (.rp [(qa1333 p1)] 0 0))), (31, vi (p1.items.length : Int)), (32, vi x2), (39, .ag (qa1340 e1)), (41, vi (IntKind.i64.wrap (p2 + (1 : Int)))), (42, .one (.pt 0 0 0 0))] [.box [ci z2]] [([(qa1333 p1)] : List (List PV))[0]? = some (qa1333 p1), 0 ≤ x2 ∧ x2 < ((eValue.els p1.items).length : Int) ∧ elemsOk 5 (eValue.els p1.items), (eValue.els p1.items)[x2.toNat]? = some [pi e1.kind, pi e1.n, pi e1.scale, .s (.string e1.s), .ro (eValue.els e1.items)]] (⟨rfl, eValue.inb a20, ((eValue.get a20).trans (by cases e1; rfl)), trivial⟩) ?_
        refine XO.calm 46 [.ag (qa1340 e1), vi (IntKind.i64.wrap (p2 + (1 : Int))), .one (.pt 0 0 0 0)] [.box [ci z2]] [.box [ci r2.2]] (vb r2.1) [0] [(43, vb r2.1), (1, vi p2), (2, .one (.pt 0 0 0 0)), (3, .one (.pv (.rp [(qa1333 p1)] 0 0))), (31, vi (p1.items.length : Int)), (32, vi x2), (39, .ag (qa1340 e1)), (41, vi (IntKind.i64.wrap (p2 + (1 : Int)))), (42, .one (.pt 0 0 0 0))] [.box [ci r2.2]] (by kernel_rfl) (c_ref1_sound k0 _ _ _ _ c21) (by kernel_rfl) (by kernel_rfl) (by kernel_rfl) (by kernel_rfl) ?_
        refine zg [] 1 [1,2,3,31,32,44] (zd (hK19 _ _ (zC h (fun b22 h => ?_) (fun b22 h => ?_))))
        ·refine zq fun K23 hK23 => zr (zv [] 1 [6] [] [(6, vb false)] [.box [ci r2.2]] (zd (hK23 _ _ (ze (hQ1 _ _ _ ?_)))))
         obtain rfl := Option.some.inj h
         exact FinM.fin (.inr rfl) [] [vb false] [] (by kernel_rfl) trivial (by kernel_rfl) (by kernel_rfl) (.one (.rfl _ rfl))
        ·exact zs (hK17 _ _ (zr (zg [] 2 [1,2,3,31,32] (zd (XR.sub (zk [1,2,3,31,32]) (ih1 r2.2 (IntKind.i64.wrap (x2 + (1 : Int))) h))))))
       ·exact zx 0 (hQ1 _ _ _ (hJ3 z2 h _ _ (zk [])))
     exact XR.sub (zk [1,2,3,31,32]) (hL1 BIG z1 (0 : Int) h)
   rcases zW h with ⟨b7, h⟩ | ⟨b7, h⟩
   ·exact zr (zg [] 3 [1,2,3,18] (zt 18 b7 (zg [] 10 [1,2,3,28] (zd (hJ2 true h _ _ (zk [1,2,3,28]))))))
   ·rcases zW h with ⟨b8, h⟩ | ⟨b8, h⟩
    ·exact zr (zv [] 3 [1,2,3,18] [] (qa1354 p1 p2) [.box [ci z1]] (zt 18 b7 (zg [] 6 [1,2,3,24] (zt 24 b8 (zg [] 4 [1,2,3,28] (zd (hJ2 true h _ _ (zk [1,2,3,28]))))))))
    ·obtain ⟨r1, c9, h⟩ := zB h
     refine zr (zv [] 3 [1,2,3,18] [] (qa1354 p1 p2) [.box [ci z1]] (zt 18 b7 (zg [] 6 [1,2,3,24] (zt 24 b8 (zu [] 1 [1,2,3,24,25] [(qa1333 p1)] ?_)))))
     exact zl 67 [.ag (qa1330 p1)] (vb r1) [(26, vb r1), (1, vi p2), (2, .one (.pt 0 0 0 0)), (3, .one (.pv (.rp [(qa1333 p1)] 0 0))), (24, vb false), (25, .ag (qa1330 p1))] (c_ref1_alone _ _ c9) (zg [] 2 [1,2,3,28] (zd (hJ2 (!r1) h _ _ (zk [1,2,3,28]))))
  refine zq fun K3 hK3 => zr (zu [] 3 [1,2,3,10] [(qa1333 p1)] (zd (hK3 _ _ (zC h (fun b4 h => ?_) (fun b4 h => ?_)))))
  ·exact zr (zv [] 6 [1,2,3] [] [(1, vi p2), (2, .one (.pt 0 0 0 0)), (3, .one (.pv (.rp [(qa1333 p1)] 0 0)))] [.box [ci (IntKind.i64.wrap (p3 + (1 : Int)))]] (zd (hJ1 (IntKind.i64.wrap (p3 + (1 : Int))) h _ _ (zk [1,2,3]))))
  ·exact zs (hJ1 p3 h _ _ (zk [1,2,3]))

def ref1_Sound (p1 : GValue) : Option Bool :=
    bnd (ref1_sound BIG p1 (1 : Int) (0 : Int)) fun r1 =>
    some r1.1

abbrev qa1357 (p1 : GValue) : List CV := [ci p1.kind, ci p1.n, ci p1.scale, cst p1.s, cl eValue p1.items]

theorem c_ref1_Sound (p1 : GValue) (r : Bool) (h : ref1_Sound p1 = some r) : PC Tryd.prog 24 [.ag (qa1357 p1)] (vb r) := by
 unfold ref1_Sound at h
 refine zF 6 Tryd.f24 (zq fun K1 hK1 => zr (zg [3] 2 [1] (zd (hK1 _ _ (zq fun K2 hK2 => zr ?_)))))
 refine zg [3] 2 [1,3] (zd (hK2 _ _ (zq fun K3 hK3 => ?_)))
 obtain ⟨r1, c4, h⟩ := zB h
 refine zr (zv [3] 1 [3,4] [[pi p1.kind, pi p1.n, pi p1.scale, .s (.string p1.s), .ro (eValue.els p1.items)]] [(3, .one (.pt 0 0 0 0)), (4, .ag (qa1357 p1))] [.box [ci (0 : Int)]] ?_)
 refine XO.calm 46 [.ag (qa1357 p1), vi (1 : Int), .one (.pt 0 0 0 0)] [.box [ci (0 : Int)]] [.box [ci r1.2]] (vb r1.1) [0] [(5, vb r1.1), (3, .one (.pt 0 0 0 0)), (4, .ag (qa1357 p1))] [.box [ci r1.2]] (by kernel_rfl) (c_ref1_sound BIG _ _ _ _ c4) (by kernel_rfl) (by kernel_rfl) (by kernel_rfl) (by kernel_rfl) (zg [3] 1 [2] (zd (hK3 _ _ (ze ?_))))
 obtain rfl := Option.some.inj h
 exact zf [vb r1.1] (.one (.rfl _ rfl))

def ref1_wideOf_j1 (rec1 : List Int → Int → Option RWide) (l1 : List Int) (x1 : Int) (x2 : Int) : Option RWide :=
    grd (l1.length + 1 ≤ 4294967296) <|
    rec1 (l1 ++ [x2]) (IntKind.i64.wrap (x1.tdiv (10 : Int)))

def ref1_wideOf_j2 (p1 : Int) (l2 : List Int) : Option RWide :=
    some (RWide.mk (decide (p1 < (0 : Int))) l2)

def ref1_wideOf_l1 (p1 : Int) : Nat → List Int → Int → Option RWide
  | 0, _, _ => none
  | k1 + 1, l1, x1 =>
    ift (x1 != (0 : Int))
      (ift (decide ((x1.tmod (10 : Int)) < (0 : Int)))
         (ref1_wideOf_j1 (ref1_wideOf_l1 p1 k1) l1 x1 (IntKind.i64.wrap (0 - (x1.tmod (10 : Int)))))
         (ref1_wideOf_j1 (ref1_wideOf_l1 p1 k1) l1 x1 (x1.tmod (10 : Int))))
      (ref1_wideOf_j2 p1 l1)

def ref1_wideOf (p1 : Int) : Option RWide :=
    ref1_wideOf_l1 p1 BIG [] p1

abbrev qa1367 : List CV := [cb false, .pv (.s (.slice none 0 0))]

theorem c_ref1_wideOf (p1 : Int) (r : RWide) (h : ref1_wideOf p1 = some r) : PC Tryd.prog 36 [vi p1] (.ag [cb r.below, cl eI r.d]) := by
 unfold ref1_wideOf at h
 refine zF 25 Tryd.f36 (zq fun K1 hK1 => zr (zg [2] 1 [0,2] (zd (hK1 _ _ (zq fun K2 hK2 => zr ?_)))))
 refine zg [2] 1 [0,2,3] (zd (hK2 _ _ (zq fun K3 hK3 => ?_)))
 have hJ2 : ∀ (l2 : List Int), ref1_wideOf_j2 p1 l2 = some r → ∀ fr1 st1, Sub 25 0 [] fr1 st1 [(0, vi p1), (2, .one (.pt 0 0 0 0)), (3, .one (.sl 1 1 0 l2.length))] [.box qa1367, .arr 1 (eI.els l2)] → K3 fr1 st1 := by
  intro l2 h fr1 st1 hS
  unfold ref1_wideOf_j2 at h
  refine hK3 _ _ (XW.sub hS ?_)
  refine zq fun K14 hK14 => zr (zg [2] 5 [2] (zd (hK14 _ _ (ze ?_))))
  obtain rfl := Option.some.inj h
  exact zf [.ag [cb (decide (p1 < (0 : Int))), .sl 1 1 0 l2.length]] (.ag (.cons (.rfl _ rfl) (.cons (cf_sl eI l2 rfl rfl rfl) .nil)))
 refine zq fun K4 hK4 => zr (zv [2] 2 [0,2,3,4] [] [(0, vi p1), (2, .one (.pt 0 0 0 0)), (3, .one (.pv (.s (.slice none 0 0)))), (4, vi p1)] [.box [cb false, .pv (.s (.slice none 0 0))]] (zd (hK4 _ _ (zb 0 (XW.sub (Sub.list (t := 3) (sz := 1) rfl) (XW.rounds' BIG (x := cd Tryd.f36 [1,1,0,1,0,0]) (by kernel_rfl) fun Q1 hQ1 => ?_))))))
 have hL1 : ∀ (k1 : Nat) (l1 : List Int) (x1 : Int), ref1_wideOf_l1 p1 k1 l1 x1 = some r → XR Tryd.prog 25 0 [] (cd Tryd.f36 [1,1,0,1,0,0]) Q1 k1 [(0, vi p1), (2, .one (.pt 0 0 0 0)), (3, .one (.sl 1 1 0 l1.length)), (4, vi x1)] [.box qa1367, .arr 1 (eI.els l1)] := by
  intro k1
  induction k1 with
  | zero => intro l1 x1 h; rw [ref1_wideOf_l1.eq_1] at h; cases h
  | succ k1 ih1 =>
   intro l1 x1 h
   rw [ref1_wideOf_l1.eq_2] at h
   refine zq fun K5 hK5 => zq fun K6 hK6 => zr (zg [2] 2 [0,2,3,4,8] (zd (hK6 _ _ (zC h (fun b7 h => ?_) (fun b7 h => ?_)))))
   ·refine zs (hK5 _ _ (zq fun K8 hK8 => zb 1 (zq fun K9 hK9 => zr (zo [2] 3 [0,2,3,4,5] [] [(10 : Int) ≠ 0] (⟨by decide, trivial⟩) (zd ?_)))))
    refine hK9 _ _ (zq fun K10 hK10 => ?_)
    have hJ1 : ∀ (x2 : Int), ref1_wideOf_j1 (ref1_wideOf_l1 p1 k1) l1 x1 x2 = some r → ∀ fr1 st1, Sub 25 0 [] fr1 st1 [(0, vi p1), (2, .one (.pt 0 0 0 0)), (3, .one (.sl 1 1 0 l1.length)), (4, vi x1), (5, vi x2)] [.box qa1367, .arr 1 (eI.els l1)] → K10 fr1 st1 := by
     intro x2 h fr1 st1 hS
     unfold ref1_wideOf_j1 at h
     refine hK10 _ _ (XW.sub hS ?_)
     obtain ⟨g13, h⟩ := zG h
     refine zr (zp [2] 4 [0,2,4,20] [] [(0, vi p1), (2, .one (.pt 0 0 0 0)), (4, vi x1), (20, .one (.sl 1 1 0 (l1.length + (eI.els [x2]).length)))] [.box [cb false, .pv (.s (.slice none 0 0))], .arr 1 (eI.els l1 ++ eI.els [x2])] [elemsOk 1 (eI.els [x2]), l1.length = (eI.els l1).length, l1.length + (eI.els [x2]).length ≤ 4294967296] (⟨eI.ok _, (eI.len l1).symm, g13, trivial⟩) ?_)
     rw [show l1.length + (eI.els [x2]).length = (l1 ++ [x2]).length from eI.lapp _ _]
     rw [show eI.els l1 ++ eI.els [x2] = eI.els (l1 ++ [x2]) from eI.app2 _ _]
     exact zg [2] 1 [0,2,3,4] (zd (hK8 _ _ (zr (zo [2] 3 [0,2,3,4] [] [(10 : Int) ≠ 0] (⟨by decide, trivial⟩) (zd (XR.sub (zk [0,2,3,4]) (ih1 (l1 ++ [x2]) (IntKind.i64.wrap (x1.tdiv (10 : Int))) h)))))))
    refine zq fun K11 hK11 => zr (zv [2] 2 [0,2,3,4,5,14] [] [(0, vi p1), (2, .one (.pt 0 0 0 0)), (3, .one (.sl 1 1 0 l1.length)), (4, vi x1), (5, vi (x1.tmod (10 : Int))), (14, vb (decide ((x1.tmod (10 : Int)) < (0 : Int))))] [.box qa1367, .arr 1 (eI.els l1)] (zd (hK11 _ _ (zC h (fun b12 h => ?_) (fun b12 h => ?_)))))
    ·exact zr (zg [2] 3 [0,2,3,4,5] (zd (hJ1 (IntKind.i64.wrap (0 - (x1.tmod (10 : Int)))) h _ _ (zk [0,2,3,4,5]))))
    ·exact zs (hJ1 (x1.tmod (10 : Int)) h _ _ (zk [0,2,3,4,5]))
   ·exact zx 0 (hQ1 _ _ _ (hJ2 l1 h _ _ (zk [0,2,3])))
 exact XR.sub (zk [0,2,3,4]) (hL1 BIG [] p1 h)

def ref1_cut_j3 (x3 : List Int) (z1 : Bool) : Option RWide :=
    some (RWide.mk z1 x3)

def ref1_cut_j2 (p1 : Bool) (x3 : List Int) : Option RWide :=
    ift p1
      (ref1_cut_j3 x3 (decide ((0 : Int) < (x3.length : Int))))
      (ref1_cut_j3 x3 false)

def ref1_cut_j1 (rec1 : List Int → Option RWide) (p1 : Bool) (x1 : List Int) (x2 : Bool) : Option RWide :=
    ift x2
      (grd (0 ≤ (0 : Int) ∧ (0 : Int) ≤ (IntKind.i64.wrap ((x1.length : Int) - (1 : Int))) ∧ (IntKind.i64.wrap ((x1.length : Int) - (1 : Int))) ≤ (x1.length : Int)) <|
       rec1 ((x1.drop (0 : Int).toNat).take ((IntKind.i64.wrap ((x1.length : Int) - (1 : Int))).toNat - (0 : Int).toNat)))
      (ref1_cut_j2 p1 x1)

def ref1_cut_l1 (p1 : Bool) : Nat → List Int → Option RWide
  | 0, _ => none
  | k1 + 1, x1 =>
    ift (decide ((0 : Int) < (x1.length : Int)))
      (bnd (at? x1 (IntKind.i64.wrap ((x1.length : Int) - (1 : Int)))) fun e1 =>
       ref1_cut_j1 (ref1_cut_l1 p1 k1) p1 x1 (e1 == (0 : Int)))
      (ref1_cut_j1 (ref1_cut_l1 p1 k1) p1 x1 false)

def ref1_cut (p1 : Bool) (p2 : (List Int)) : Option RWide :=
    ref1_cut_l1 p1 BIG p2

abbrev qa1376 : List CV := [cb false, .pv (.s (.slice none 0 0))]

theorem c_ref1_cut (p1 : Bool) (p2 : (List Int)) (r : RWide) (h : ref1_cut p1 p2 = some r) : PC Tryd.prog 61 [vb p1, vl eI p2] (.ag [cb r.below, cl eI r.d]) := by
 unfold ref1_cut at h
 refine zF 30 Tryd.f61 (zq fun K1 hK1 => zr (zg [4] 1 [0,1,4] (zd (hK1 _ _ (zq fun K2 hK2 => ?_)))))
 have hJ2 : ∀ (x3 : List Int), ref1_cut_j2 p1 x3 = some r → ∀ fr1 st1, Sub 30 0 [] fr1 st1 [(0, vb p1), (1, vl eI x3), (4, .one (.pt 0 0 0 0))] [.box qa1376] → K2 fr1 st1 := by
  intro x3 h fr1 st1 hS
  unfold ref1_cut_j2 at h
  refine hK2 _ _ (XW.sub hS ?_)
  refine zq fun K9 hK9 => ?_
  have hJ3 : ∀ (z1 : Bool), ref1_cut_j3 x3 z1 = some r → ∀ fr1 st1, Sub 30 0 [] fr1 st1 [(4, .one (.pt 0 0 0 0))] [.box [cb z1, cl eI x3]] → K9 fr1 st1 := by
   intro z1 h fr1 st1 hS
   unfold ref1_cut_j3 at h
   refine hK9 _ _ (XW.sub hS ?_)
   refine ze ?_
   obtain rfl := Option.some.inj h
   exact zf [.ag [cb z1, cl eI x3]] (.ag (.cons (.rfl _ rfl) (.cons (.rfl _ rfl) .nil)))
  rcases zW h with ⟨b10, h⟩ | ⟨b10, h⟩
  ·refine zr (zg [4] 2 [1,4,23] (zt 23 b10 (zv [4] 2 [1,4,23,25] [] [(1, vl eI x3), (4, .one (.pt 0 0 0 0)), (23, vb true), (25, vi ((eI.els x3).length : Int))] [.box [cb false, .pv (.s (.slice none 0 0))]] ?_)))
   rw [eI.len x3]
   exact zg [4] 5 [4] (zd (hJ3 (decide ((0 : Int) < (x3.length : Int))) h _ _ (zk [4])))
  ·exact zr (zg [4] 2 [1,4,23] (zt 23 b10 (zv [4] 7 [4] [] [(4, .one (.pt 0 0 0 0))] [.box [cb false, cl eI x3]] (zd (hJ3 false h _ _ (zk [4]))))))
 refine zb 0 (XW.rounds' BIG (x := cd Tryd.f61 [1,0,0,0]) (by kernel_rfl) fun Q1 hQ1 => ?_)
 have hL1 : ∀ (k1 : Nat) (x1 : List Int), ref1_cut_l1 p1 k1 x1 = some r → XR Tryd.prog 30 0 [] (cd Tryd.f61 [1,0,0,0]) Q1 k1 [(0, vb p1), (1, vl eI x1), (4, .one (.pt 0 0 0 0))] [.box qa1376] := by
  intro k1
  induction k1 with
  | zero => intro x1 h; rw [ref1_cut_l1.eq_1] at h; cases h
  | succ k1 ih1 =>
   intro x1 h
   rw [ref1_cut_l1.eq_2] at h
   refine zq fun K3 hK3 => zq fun K4 hK4 => ?_
   have hJ1 : ∀ (x2 : Bool), ref1_cut_j1 (ref1_cut_l1 p1 k1) p1 x1 x2 = some r → ∀ fr1 st1, Sub 30 0 [] fr1 st1 [(0, vb p1), (1, vl eI x1), (4, .one (.pt 0 0 0 0)), (16, vb x2)] [.box qa1376] → K4 fr1 st1 := by
    intro x2 h fr1 st1 hS
    unfold ref1_cut_j1 at h
    refine hK4 _ _ (XW.sub hS ?_)
    refine zC h (fun b7 h => ?_) (fun b7 h => ?_)
    ·refine zs (hK3 _ _ (zb 1 ?_))
     obtain ⟨g8, h⟩ := zG h
     refine zr (zv [4] 3 [0,4,17,19] [] [(0, vb p1), (4, .one (.pt 0 0 0 0)), (17, vl eI x1), (19, vi ((eI.els x1).length : Int))] [.box [cb false, .pv (.s (.slice none 0 0))]] ?_)
     rw [eI.len x1]
     refine zp [4] 2 [0,4,21] [] [(0, vb p1), (4, .one (.pt 0 0 0 0)), (21, .one (.pv (.ro (((eI.els x1).drop (0 : Int).toNat).take ((IntKind.i64.wrap ((x1.length : Int) - (1 : Int))).toNat - (0 : Int).toNat)))))] [.box [cb false, .pv (.s (.slice none 0 0))]] [(0 ≤ (0 : Int) ∧ (0 : Int) ≤ (IntKind.i64.wrap ((x1.length : Int) - (1 : Int))) ∧ (IntKind.i64.wrap ((x1.length : Int) - (1 : Int))) ≤ ((eI.els x1).length : Int)) ∧ elemsOk 1 (eI.els x1)] (⟨eI.cutOk g8, trivial⟩) ?_
     rw [show ((eI.els x1).drop (0 : Int).toNat).take ((IntKind.i64.wrap ((x1.length : Int) - (1 : Int))).toNat - (0 : Int).toNat) = eI.els ((x1.drop (0 : Int).toNat).take ((IntKind.i64.wrap ((x1.length : Int) - (1 : Int))).toNat - (0 : Int).toNat)) from eI.cut _ _ _]
     exact zg [4] 1 [0,1,4] (zd (XR.sub (zk [0,1,4]) (ih1 ((x1.drop (0 : Int).toNat).take ((IntKind.i64.wrap ((x1.length : Int) - (1 : Int))).toNat - (0 : Int).toNat)) h)))
    ·exact zx 0 (hQ1 _ _ _ (hJ2 x1 h _ _ (zk [0,1,4])))
   rcases zW h with ⟨b5, h⟩ | ⟨b5, h⟩
   ·obtain ⟨e1, a6, h⟩ := zB h
    refine zr (zv [4] 2 [0,1,4,6] [] [(0, vb p1), (1, vl eI x1), (4, .one (.pt 0 0 0 0)), (6, vi ((eI.els x1).length : Int))] [.box [cb false, .pv (.s (.slice none 0 0))]] ?_)
    rw [eI.len x1]
    refine zg [4] 2 [0,1,4,8] (zt 8 b5 (zv [4] 3 [0,1,4,8,9,11] [] [(0, vb p1), (1, vl eI x1), (4, .one (.pt 0 0 0 0)), (8, vb true), (9, vl eI x1), (11, vi ((eI.els x1).length : Int))] [.box [cb false, .pv (.s (.slice none 0 0))]] ?_))
    rw [eI.len x1]
    exact zo [4] 5 [0,1,4,16] [[pi e1]] [0 ≤ (IntKind.i64.wrap ((x1.length : Int) - (1 : Int))) ∧ (IntKind.i64.wrap ((x1.length : Int) - (1 : Int))) < ((eI.els x1).length : Int) ∧ elemsOk 1 (eI.els x1), (eI.els x1)[(IntKind.i64.wrap ((x1.length : Int) - (1 : Int))).toNat]? = some [pi e1]] (⟨eI.inb a6, (eI.get a6), trivial⟩) (zd (hJ1 (e1 == (0 : Int)) h _ _ (zk [0,1,4,16])))
   ·refine zr (zv [4] 2 [0,1,4,6] [] [(0, vb p1), (1, vl eI x1), (4, .one (.pt 0 0 0 0)), (6, vi ((eI.els x1).length : Int))] [.box [cb false, .pv (.s (.slice none 0 0))]] ?_)
    rw [eI.len x1]
    exact zg [4] 2 [0,1,4,8] (zt 8 b5 (zg [4] 8 [0,1,4,16] (zd (hJ1 false h _ _ (zk [0,1,4,16])))))
 exact XR.sub (zk [0,1,4]) (hL1 BIG p2 h)

def ref1_mulWide_j1 (rec1 : List Int → Int → Option RWide) (x1 : Int) (l3 : List Int) : Option RWide :=
    rec1 l3 (IntKind.i64.wrap (x1 + (1 : Int)))

def ref1_mulWide_l2 (rec1 : List Int → Int → Option RWide) (p2 : RWide) (x1 : Int) (e1 : Int) : Nat → List Int → Int → Option RWide
  | 0, _, _ => none
  | k2 + 1, l2, x2 =>
    ift (decide (x2 < (p2.d.length : Int)))
      (bnd (at? p2.d x2) fun e2 =>
       bnd (at? l2 (IntKind.i64.wrap (x1 + x2))) fun e3 =>
       (ref1_mulWide_l2 rec1 p2 x1 e1 k2) (l2.set (IntKind.i64.wrap (x1 + x2)).toNat (IntKind.i64.wrap (e3 + (IntKind.i64.wrap (e1 * e2))))) (IntKind.i64.wrap (x2 + (1 : Int))))
      (ref1_mulWide_j1 rec1 x1 l2)

def ref1_mulWide_j3 (p1 : RWide) (p2 : RWide) (l6 : List Int) : Option RWide :=
    bnd (ref1_cut (!(p1.below == p2.below)) l6) fun r1 =>
    some r1

def ref1_mulWide_l3 (p1 : RWide) (p2 : RWide) : Nat → List Int → Int → Option RWide
  | 0, _, _ => none
  | k3 + 1, l5, x3 =>
    bnd (some (decide ((IntKind.i64.wrap (x3 + (1 : Int))) < ((l5.length : Nat) : Int)))) fun y2 =>
    ift y2
      (bnd (at? l5 (IntKind.i64.wrap (x3 + (1 : Int)))) fun e4 =>
       bnd (at? l5 x3) fun e5 =>
       bnd (at? (l5.set (IntKind.i64.wrap (x3 + (1 : Int))).toNat (IntKind.i64.wrap (e4 + (IntKind.i64.wrap (e5.tdiv (10 : Int)))))) x3) fun e6 =>
       (ref1_mulWide_l3 p1 p2 k3) ((l5.set (IntKind.i64.wrap (x3 + (1 : Int))).toNat (IntKind.i64.wrap (e4 + (IntKind.i64.wrap (e5.tdiv (10 : Int)))))).set x3.toNat (e6.tmod (10 : Int))) (IntKind.i64.wrap (x3 + (1 : Int))))
      (ref1_mulWide_j3 p1 p2 l5)

def ref1_mulWide_j2 (p1 : RWide) (p2 : RWide) (l4 : List Int) : Option RWide :=
    ref1_mulWide_l3 p1 p2 BIG l4 (0 : Int)

def ref1_mulWide_l1 (p1 : RWide) (p2 : RWide) : Nat → List Int → Int → Option RWide
  | 0, _, _ => none
  | k1 + 1, l1, x1 =>
    ift (decide (x1 < (p1.d.length : Int)))
      (bnd (at? p1.d x1) fun e1 =>
       ref1_mulWide_l2 (ref1_mulWide_l1 p1 p2 k1) p2 x1 e1 BIG l1 (0 : Int))
      (ref1_mulWide_j2 p1 p2 l1)

def ref1_mulWide (p1 : RWide) (p2 : RWide) : Option RWide :=
    bnd (some (IntKind.i64.wrap ((IntKind.i64.wrap ((p1.d.length : Int) + (p2.d.length : Int))) + (1 : Int)))) fun y1 =>
    grd (0 ≤ y1 ∧ y1 ≤ y1 ∧ y1 ≤ 4294967296) <|
    ref1_mulWide_l1 p1 p2 BIG (List.replicate y1.toNat (0 : Int)) (0 : Int)

abbrev qa1389 (p1 : RWide) : List PV := [.s (.bool p1.below), .ro (eI.els p1.d)]
abbrev qa1390 (p2 : RWide) : List PV := [.s (.bool p2.below), .ro (eI.els p2.d)]
abbrev qa1391 : List CV := [cb false, .pv (.s (.slice none 0 0))]

theorem c_ref1_mulWide (p1 : RWide) (p2 : RWide) (r : RWide) (h : ref1_mulWide p1 p2 = some r) : PC Tryd.prog 95 [.ag [cb p1.below, cl eI p1.d], .ag [cb p2.below, cl eI p2.d]] (.ag [cb r.below, cl eI r.d]) := by
 unfold ref1_mulWide at h
 refine zF 81 Tryd.f95 (zq fun K1 hK1 => zr (zg [4] 3 [2,3,4] (zd (hK1 _ _ (zq fun K2 hK2 => ?_)))))
 obtain ⟨y1, hy3, h⟩ := zB h
 obtain ⟨g5, h⟩ := zG h
 refine zr (zv [4] 3 [2,3,4,13] [[.s (.bool p1.below), .ro (eI.els p1.d)]] [(2, .one (.pv (.rp [[.s (.bool p1.below), .ro (eI.els p1.d)]] 0 0))), (3, .one (.pv (.rp [[.s (.bool p2.below), .ro (eI.els p2.d)]] 0 0))), (4, .one (.pt 0 0 0 0)), (13, vi ((eI.els p1.d).length : Int))] [.box [cb false, .pv (.s (.slice none 0 0))]] ?_)
 rw [eI.len p1.d]
 refine zv [4] 3 [2,3,4,13,16] [[.s (.bool p2.below), .ro (eI.els p2.d)]] [(2, .one (.pv (.rp [[.s (.bool p1.below), .ro (eI.els p1.d)]] 0 0))), (3, .one (.pv (.rp [[.s (.bool p2.below), .ro (eI.els p2.d)]] 0 0))), (4, .one (.pt 0 0 0 0)), (13, vi (p1.d.length : Int)), (16, vi ((eI.els p2.d).length : Int))] [.box [cb false, .pv (.s (.slice none 0 0))]] ?_
 rw [eI.len p2.d]
 refine zv [4] 2 [2,3,4,18] [] [(2, .one (.pv (.rp [[.s (.bool p1.below), .ro (eI.els p1.d)]] 0 0))), (3, .one (.pv (.rp [[.s (.bool p2.below), .ro (eI.els p2.d)]] 0 0))), (4, .one (.pt 0 0 0 0)), (18, vi (IntKind.i64.wrap ((IntKind.i64.wrap ((p1.d.length : Int) + (p2.d.length : Int))) + (1 : Int))))] [.box [cb false, .pv (.s (.slice none 0 0))]] ?_
 rw [show (IntKind.i64.wrap ((IntKind.i64.wrap ((p1.d.length : Int) + (p2.d.length : Int))) + (1 : Int))) = y1 from Option.some.inj hy3]
 refine zp [4] 1 [2,3,4,19] [] [(2, .one (.pv (.rp [[.s (.bool p1.below), .ro (eI.els p1.d)]] 0 0))), (3, .one (.pv (.rp [[.s (.bool p2.below), .ro (eI.els p2.d)]] 0 0))), (4, .one (.pt 0 0 0 0)), (19, .one (.sl 1 1 0 y1.toNat))] [.box [cb false, .pv (.s (.slice none 0 0))], .arr 1 (List.replicate y1.toNat [pi (0 : Int)])] [0 ≤ y1, y1 ≤ y1, y1 ≤ 4294967296] (⟨g5.1, g5.2.1, g5.2.2, trivial⟩) ?_
 rw [show List.replicate y1.toNat [pi (0 : Int)] = eI.els (List.replicate y1.toNat (0 : Int)) from eI.rep _ (0 : Int)]
 refine zg [4] 1 [2,3,4,5] (zd (hK2 _ _ (zq fun K6 hK6 => ?_)))
 have hJ2 : ∀ (l4 : List Int), ref1_mulWide_j2 p1 p2 l4 = some r → ∀ fr1 st1, Sub 81 0 [] fr1 st1 [(2, .one (.pv (.rp [(qa1389 p1)] 0 0))), (3, .one (.pv (.rp [(qa1390 p2)] 0 0))), (4, .one (.pt 0 0 0 0)), (5, .one (.sl 1 1 0 l4.length))] [.box qa1391, .arr 1 (eI.els l4)] → K6 fr1 st1 := by
  intro l4 h fr1 st1 hS
  unfold ref1_mulWide_j2 at h
  refine hK6 _ _ (XW.sub hS ?_)
  refine zq fun K22 hK22 => ?_
  have hJ3 : ∀ (l6 : List Int), ref1_mulWide_j3 p1 p2 l6 = some r → ∀ fr1 st1, Sub 81 0 [] fr1 st1 [(2, .one (.pv (.rp [(qa1389 p1)] 0 0))), (3, .one (.pv (.rp [(qa1390 p2)] 0 0))), (4, .one (.pt 0 0 0 0)), (5, .one (.sl 1 1 0 l6.length))] [.box qa1391, .arr 1 (eI.els l6)] → K22 fr1 st1 := by
   intro l6 h fr1 st1 hS
   unfold ref1_mulWide_j3 at h
   refine hK22 _ _ (XW.sub hS ?_)
   refine zq fun K33 hK33 => ?_
   obtain ⟨r1, c34, h⟩ := zB h
   refine zr (zv [4] 6 [4,78,79] [(qa1389 p1), (qa1390 p2)] [(4, .one (.pt 0 0 0 0)), (78, vb (!(p1.below == p2.below))), (79, .one (.sl 1 1 0 l6.length))] [.box qa1391, .arr 1 (eI.els l6)] (XO.sub (Sub.kill (fr' := [(4, .one (.pt 0 0 0 0)), (78, vb (!(p1.below == p2.below))), (79, vl eI l6)]) 1 (Nat.zero_le _) (by kernel_rfl) ⟨.one (.rfl _ rfl), .one (.rfl _ rfl), .one (cf_sl eI l6 rfl rfl rfl), trivial⟩) (za (c_ref1_cut _ _ _ c34) (zg [4] 1 [4] (zd (hK33 _ _ (ze ?_)))))))
   obtain rfl := Option.some.inj h
   exact zf [.ag [cb r1.below, cl eI r1.d]] (.ag (.cons (.rfl _ rfl) (.cons (.rfl _ rfl) .nil)))
  refine zq fun K23 hK23 => zr (zg [4] 1 [2,3,4,5,10] (zd (hK23 _ _ (zb 4 (XW.rounds' BIG (x := cd Tryd.f95 [1,1,1,0,1,0,0]) (by kernel_rfl) fun Q3 hQ3 => ?_)))))
  have hL3 : ∀ (k3 : Nat) (l5 : List Int) (x3 : Int), ref1_mulWide_l3 p1 p2 k3 l5 x3 = some r → XR Tryd.prog 81 0 [] (cd Tryd.f95 [1,1,1,0,1,0,0]) Q3 k3 [(2, .one (.pv (.rp [(qa1389 p1)] 0 0))), (3, .one (.pv (.rp [(qa1390 p2)] 0 0))), (4, .one (.pt 0 0 0 0)), (5, .one (.sl 1 1 0 l5.length)), (10, vi x3)] [.box qa1391, .arr 1 (eI.els l5)] := by
   intro k3
   induction k3 with
   | zero => intro l5 x3 h; rw [ref1_mulWide_l3.eq_1] at h; cases h
   | succ k3 ih3 =>
    intro l5 x3 h
    rw [ref1_mulWide_l3.eq_2] at h
    refine zq fun K24 hK24 => zq fun K25 hK25 => ?_
    obtain ⟨y2, hy26, h⟩ := zB h
    refine zr (zv [4] 5 [2,3,4,5,10,53] [] [(2, .one (.pv (.rp [[.s (.bool p1.below), .ro (eI.els p1.d)]] 0 0))), (3, .one (.pv (.rp [[.s (.bool p2.below), .ro (eI.els p2.d)]] 0 0))), (4, .one (.pt 0 0 0 0)), (5, .one (.sl 1 1 0 l5.length)), (10, vi x3), (53, vb (decide ((IntKind.i64.wrap (x3 + (1 : Int))) < ((l5.length : Nat) : Int))))] [.box [cb false, .pv (.s (.slice none 0 0))], .arr 1 (eI.els l5)] ?_)
    rw [show (decide ((IntKind.i64.wrap (x3 + (1 : Int))) < ((l5.length : Nat) : Int))) = y2 from Option.some.inj hy26]
    refine zd (hK25 _ _ (zC h (fun b27 h => ?_) (fun b27 h => ?_)))
    ·refine zs (hK24 _ _ (zq fun K28 hK28 => zb 5 (zq fun K29 hK29 => ?_)))
     obtain ⟨e4, a30, h⟩ := zB h
     obtain ⟨e5, a31, h⟩ := zB h
     refine zw 10 [(65, vi (IntKind.i64.wrap (e5.tdiv (10 : Int)))), (64, vi e5), (63, .one (.pt 1 1 (0 + x3.toNat) 0)), (62, vi x3), (61, .one (.sl 1 1 0 l5.length)), (60, vi e4), (59, .one (.pt 1 1 (0 + (IntKind.i64.wrap (x3 + (1 : Int))).toNat) 0)), (58, vi (IntKind.i64.wrap (x3 + (1 : Int)))), (57, vi x3), (56, .one (.sl 1 1 0 l5.length)), (2, .one (.pv (.rp [(qa1389 p1)] 0 0))), (3, .one (.pv (.rp [(qa1390 p2)] 0 0))), (4, .one (.pt 0 0 0 0)), (5, .one (.sl 1 1 0 l5.length)), (10, vi x3), (53, vb y2)] ?_ ?_
     ·exact zyo 10 [[pi e4], [pi e5]] [0 ≤ (IntKind.i64.wrap (x3 + (1 : Int))) ∧ (IntKind.i64.wrap (x3 + (1 : Int))) < ((l5.length : Nat) : Int), (eI.els l5)[(0 + (IntKind.i64.wrap (x3 + (1 : Int))).toNat)]? = some [pi e4], 0 ≤ x3 ∧ x3 < ((l5.length : Nat) : Int), (eI.els l5)[(0 + x3.toNat)]? = some [pi e5], (10 : Int) ≠ 0] (⟨Enc.inb' a30, (eI.get0 a30), Enc.inb' a31, (eI.get0 a31), by decide, trivial⟩) zyd
     refine zp [4] 3 [2,3,4,5,10] [[pi e4]] [(2, .one (.pv (.rp [[.s (.bool p1.below), .ro (eI.els p1.d)]] 0 0))), (3, .one (.pv (.rp [[.s (.bool p2.below), .ro (eI.els p2.d)]] 0 0))), (4, .one (.pt 0 0 0 0)), (5, .one (.sl 1 1 0 l5.length)), (10, vi x3)] [.box [cb false, .pv (.s (.slice none 0 0))], .arr 1 ((eI.els l5).set (0 + (IntKind.i64.wrap (x3 + (1 : Int))).toNat) [pi (IntKind.i64.wrap (e4 + (IntKind.i64.wrap (e5.tdiv (10 : Int)))))])] [0 ≤ (IntKind.i64.wrap (x3 + (1 : Int))) ∧ (IntKind.i64.wrap (x3 + (1 : Int))) < ((l5.length : Nat) : Int), (eI.els l5)[(0 + (IntKind.i64.wrap (x3 + (1 : Int))).toNat)]? = some [pi e4]] (⟨Enc.inb' a30, (eI.get0 a30), trivial⟩) ?_
     rw [show (eI.els l5).set (0 + (IntKind.i64.wrap (x3 + (1 : Int))).toNat) [pi (IntKind.i64.wrap (e4 + (IntKind.i64.wrap (e5.tdiv (10 : Int)))))] = eI.els (l5.set (IntKind.i64.wrap (x3 + (1 : Int))).toNat (IntKind.i64.wrap (e4 + (IntKind.i64.wrap (e5.tdiv (10 : Int)))))) from eI.set0 _ _ (IntKind.i64.wrap (e4 + (IntKind.i64.wrap (e5.tdiv (10 : Int)))))]
     refine zd (hK29 _ _ ?_)
     obtain ⟨e6, a32, h⟩ := zB h
     refine zr ?_
     refine zp [4] 7 [2,3,4,5,10] [[pi e6], [pi e6]] [(2, .one (.pv (.rp [[.s (.bool p1.below), .ro (eI.els p1.d)]] 0 0))), (3, .one (.pv (.rp [[.s (.bool p2.below), .ro (eI.els p2.d)]] 0 0))), (4, .one (.pt 0 0 0 0)), (5, .one (.sl 1 1 0 l5.length)), (10, vi x3)] [.box [cb false, .pv (.s (.slice none 0 0))], .arr 1 ((eI.els (l5.set (IntKind.i64.wrap (x3 + (1 : Int))).toNat (IntKind.i64.wrap (e4 + (IntKind.i64.wrap (e5.tdiv (10 : Int))))))).set (0 + x3.toNat) [pi (e6.tmod (10 : Int))])] [0 ≤ x3 ∧ x3 < ((l5.length : Nat) : Int), (eI.els (l5.set (IntKind.i64.wrap (x3 + (1 : Int))).toNat (IntKind.i64.wrap (e4 + (IntKind.i64.wrap (e5.tdiv (10 : Int)))))))[(0 + x3.toNat)]? = some [pi e6], (10 : Int) ≠ 0, 0 ≤ x3 ∧ x3 < ((l5.length : Nat) : Int), (eI.els (l5.set (IntKind.i64.wrap (x3 + (1 : Int))).toNat (IntKind.i64.wrap (e4 + (IntKind.i64.wrap (e5.tdiv (10 : Int)))))))[(0 + x3.toNat)]? = some [pi e6]] (⟨(by have := Enc.inb' a32; simpa using this), (eI.get0 a32), by decide, (by have := Enc.inb' a32; simpa using this), (eI.get0 a32), trivial⟩) ?_
     rw [show (eI.els (l5.set (IntKind.i64.wrap (x3 + (1 : Int))).toNat (IntKind.i64.wrap (e4 + (IntKind.i64.wrap (e5.tdiv (10 : Int))))))).set (0 + x3.toNat) [pi (e6.tmod (10 : Int))] = eI.els ((l5.set (IntKind.i64.wrap (x3 + (1 : Int))).toNat (IntKind.i64.wrap (e4 + (IntKind.i64.wrap (e5.tdiv (10 : Int)))))).set x3.toNat (e6.tmod (10 : Int))) from eI.set0 _ _ (e6.tmod (10 : Int))]
     refine zd (hK28 _ _ (zr (zg [4] 3 [2,3,4,5,10] (zd ?_))))
     exact XR.sub (Sub.trans (Sub.pick (fr' := [(2, .one (.pv (.rp [[.s (.bool p1.below), .ro (eI.els p1.d)]] 0 0))), (3, .one (.pv (.rp [[.s (.bool p2.below), .ro (eI.els p2.d)]] 0 0))), (4, .one (.pt 0 0 0 0)), (5, .one (.sl 1 1 0 l5.length)), (10, vi (IntKind.i64.wrap (x3 + (1 : Int))))]) [2,3,4,5,10] (by kernel_rfl)) (Sub.frame (fr' := [(2, .one (.pv (.rp [[.s (.bool p1.below), .ro (eI.els p1.d)]] 0 0))), (3, .one (.pv (.rp [[.s (.bool p2.below), .ro (eI.els p2.d)]] 0 0))), (4, .one (.pt 0 0 0 0)), (5, .one (.sl 1 1 0 ((l5.set (IntKind.i64.wrap (x3 + (1 : Int))).toNat (IntKind.i64.wrap (e4 + (IntKind.i64.wrap (e5.tdiv (10 : Int)))))).set x3.toNat (e6.tmod (10 : Int))).length)), (10, vi (IntKind.i64.wrap (x3 + (1 : Int))))]) ⟨.rfl _, .rfl _, .rfl _, ALe.of_eq (show (.one (.sl 1 1 0 l5.length) : AV) = .one (.sl 1 1 0 ((l5.set (IntKind.i64.wrap (x3 + (1 : Int))).toNat (IntKind.i64.wrap (e4 + (IntKind.i64.wrap (e5.tdiv (10 : Int)))))).set x3.toNat (e6.tmod (10 : Int))).length) from by simp), .rfl _, trivial⟩)) (ih3 ((l5.set (IntKind.i64.wrap (x3 + (1 : Int))).toNat (IntKind.i64.wrap (e4 + (IntKind.i64.wrap (e5.tdiv (10 : Int)))))).set x3.toNat (e6.tmod (10 : Int))) (IntKind.i64.wrap (x3 + (1 : Int))) h)
    ·exact zx 4 (hQ3 _ _ _ (hJ3 l5 h _ _ (zk [2,3,4,5])))
  exact XR.sub (zk [2,3,4,5,10]) (hL3 BIG l4 (0 : Int) h)
 refine zq fun K7 hK7 => zr (zv [4] 3 [2,3,4,5,21,22] [[.s (.bool p1.below), .ro (eI.els p1.d)]] [(2, .one (.pv (.rp [[.s (.bool p1.below), .ro (eI.els p1.d)]] 0 0))), (3, .one (.pv (.rp [[.s (.bool p2.below), .ro (eI.els p2.d)]] 0 0))), (4, .one (.pt 0 0 0 0)), (5, .one (.sl 1 1 0 y1.toNat)), (21, vl eI p1.d), (22, vi ((eI.els p1.d).length : Int))] [.box [cb false, .pv (.s (.slice none 0 0))], .arr 1 (eI.els (List.replicate y1.toNat (0 : Int)))] ?_)
 rw [eI.len p1.d]
 refine zg [4] 1 [2,3,4,5,21,22,23] (zd (hK7 _ _ (zb 0 (XW.rounds' BIG (x := cd Tryd.f95 [1,1,0,1,0,0]) (by kernel_rfl) fun Q1 hQ1 => ?_))))
 have hL1 : ∀ (k1 : Nat) (l1 : List Int) (x1 : Int), ref1_mulWide_l1 p1 p2 k1 l1 x1 = some r → XR Tryd.prog 81 0 [] (cd Tryd.f95 [1,1,0,1,0,0]) Q1 k1 [(2, .one (.pv (.rp [(qa1389 p1)] 0 0))), (3, .one (.pv (.rp [(qa1390 p2)] 0 0))), (4, .one (.pt 0 0 0 0)), (5, .one (.sl 1 1 0 l1.length)), (21, vl eI p1.d), (22, vi (p1.d.length : Int)), (23, vi x1)] [.box qa1391, .arr 1 (eI.els l1)] := by
  intro k1
  induction k1 with
  | zero => intro l1 x1 h; rw [ref1_mulWide_l1.eq_1] at h; cases h
  | succ k1 ih1 =>
   intro l1 x1 h
   rw [ref1_mulWide_l1.eq_2] at h
   refine zq fun K8 hK8 => zr (zg [4] 1 [2,3,4,5,21,22,23,24] (zd (hK8 _ _ (zq fun K9 hK9 => zC h (fun b10 h => ?_) (fun b10 h => ?_)))))
   ·refine zs (hK9 _ _ (zq fun K11 hK11 => ?_))
    have hJ1 : ∀ (l3 : List Int), ref1_mulWide_j1 (ref1_mulWide_l1 p1 p2 k1) x1 l3 = some r → ∀ fr1 st1, Sub 81 0 [] fr1 st1 [(2, .one (.pv (.rp [(qa1389 p1)] 0 0))), (3, .one (.pv (.rp [(qa1390 p2)] 0 0))), (4, .one (.pt 0 0 0 0)), (5, .one (.sl 1 1 0 l3.length)), (21, vl eI p1.d), (22, vi (p1.d.length : Int)), (23, vi x1)] [.box qa1391, .arr 1 (eI.els l3)] → K11 fr1 st1 := by
     intro l3 h fr1 st1 hS
     unfold ref1_mulWide_j1 at h
     refine hK11 _ _ (XW.sub hS ?_)
     exact zr (zg [4] 2 [2,3,4,5,21,22,23] (zd (XR.sub (zk [2,3,4,5,21,22,23]) (ih1 l3 (IntKind.i64.wrap (x1 + (1 : Int))) h))))
    refine zb 1 (zq fun K12 hK12 => ?_)
    obtain ⟨e1, a13, h⟩ := zB h
    refine zr (zo [4] 5 [2,3,4,5,6,7,21,22,23] [[pi e1]] [0 ≤ x1 ∧ x1 < ((eI.els p1.d).length : Int) ∧ elemsOk 1 (eI.els p1.d), (eI.els p1.d)[x1.toNat]? = some [pi e1]] (⟨eI.inb a13, (eI.get a13), trivial⟩) (zd (hK12 _ _ (zq fun K14 hK14 => zr ?_))))
    refine zv [4] 3 [2,3,4,5,6,7,21,22,23,29,30] [[.s (.bool p2.below), .ro (eI.els p2.d)]] [(2, .one (.pv (.rp [[.s (.bool p1.below), .ro (eI.els p1.d)]] 0 0))), (3, .one (.pv (.rp [[.s (.bool p2.below), .ro (eI.els p2.d)]] 0 0))), (4, .one (.pt 0 0 0 0)), (5, .one (.sl 1 1 0 l1.length)), (6, vi x1), (7, vi e1), (21, vl eI p1.d), (22, vi (p1.d.length : Int)), (23, vi x1), (29, vl eI p2.d), (30, vi ((eI.els p2.d).length : Int))] [.box [cb false, .pv (.s (.slice none 0 0))], .arr 1 (eI.els l1)] ?_
    rw [eI.len p2.d]
    refine zg [4] 1 [2,3,4,5,6,7,21,22,23,29,30,31] (zd (hK14 _ _ (zb 2 (XW.rounds' BIG (x := cd Tryd.f95 [1,1,0,1,0,0,1,1,0,0,1,1,0,0]) (by kernel_rfl) fun Q2 hQ2 => ?_))))
    have hL2 : ∀ (k2 : Nat) (l2 : List Int) (x2 : Int), ref1_mulWide_l2 (ref1_mulWide_l1 p1 p2 k1) p2 x1 e1 k2 l2 x2 = some r → XR Tryd.prog 81 0 [] (cd Tryd.f95 [1,1,0,1,0,0,1,1,0,0,1,1,0,0]) Q2 k2 [(2, .one (.pv (.rp [(qa1389 p1)] 0 0))), (3, .one (.pv (.rp [(qa1390 p2)] 0 0))), (4, .one (.pt 0 0 0 0)), (5, .one (.sl 1 1 0 l2.length)), (6, vi x1), (7, vi e1), (21, vl eI p1.d), (22, vi (p1.d.length : Int)), (23, vi x1), (29, vl eI p2.d), (30, vi (p2.d.length : Int)), (31, vi x2)] [.box qa1391, .arr 1 (eI.els l2)] := by
     intro k2
     induction k2 with
     | zero => intro l2 x2 h; rw [ref1_mulWide_l2.eq_1] at h; cases h
     | succ k2 ih2 =>
      intro l2 x2 h
      rw [ref1_mulWide_l2.eq_2] at h
      refine zq fun K15 hK15 => zr (zg [4] 1 [2,3,4,5,6,7,21,22,23,29,30,31,32] (zd (hK15 _ _ (zq fun K16 hK16 => zC h (fun b17 h => ?_) (fun b17 h => ?_)))))
      ·refine zs (hK16 _ _ (zq fun K18 hK18 => zb 3 (zq fun K19 hK19 => ?_)))
       obtain ⟨e2, a20, h⟩ := zB h
       refine zr (zo [4] 5 [2,3,4,5,6,7,8,9,21,22,23,29,30,31] [[pi e2]] [0 ≤ x2 ∧ x2 < ((eI.els p2.d).length : Int) ∧ elemsOk 1 (eI.els p2.d), (eI.els p2.d)[x2.toNat]? = some [pi e2]] (⟨eI.inb a20, (eI.get a20), trivial⟩) (zd (hK19 _ _ ?_)))
       obtain ⟨e3, a21, h⟩ := zB h
       refine zr ?_
       refine zp [4] 12 [2,3,4,5,6,7,21,22,23,29,30,31] [[pi e3], [pi e3]] [(2, .one (.pv (.rp [[.s (.bool p1.below), .ro (eI.els p1.d)]] 0 0))), (3, .one (.pv (.rp [[.s (.bool p2.below), .ro (eI.els p2.d)]] 0 0))), (4, .one (.pt 0 0 0 0)), (5, .one (.sl 1 1 0 l2.length)), (6, vi x1), (7, vi e1), (21, vl eI p1.d), (22, vi (p1.d.length : Int)), (23, vi x1), (29, vl eI p2.d), (30, vi (p2.d.length : Int)), (31, vi x2)] [.box [cb false, .pv (.s (.slice none 0 0))], .arr 1 ((eI.els l2).set (0 + (IntKind.i64.wrap (x1 + x2)).toNat) [pi (IntKind.i64.wrap (e3 + (IntKind.i64.wrap (e1 * e2))))])] [0 ≤ (IntKind.i64.wrap (x1 + x2)) ∧ (IntKind.i64.wrap (x1 + x2)) < ((l2.length : Nat) : Int), (eI.els l2)[(0 + (IntKind.i64.wrap (x1 + x2)).toNat)]? = some [pi e3], 0 ≤ (IntKind.i64.wrap (x1 + x2)) ∧ (IntKind.i64.wrap (x1 + x2)) < ((l2.length : Nat) : Int), (eI.els l2)[(0 + (IntKind.i64.wrap (x1 + x2)).toNat)]? = some [pi e3]] (⟨Enc.inb' a21, (eI.get0 a21), Enc.inb' a21, (eI.get0 a21), trivial⟩) ?_
       rw [show (eI.els l2).set (0 + (IntKind.i64.wrap (x1 + x2)).toNat) [pi (IntKind.i64.wrap (e3 + (IntKind.i64.wrap (e1 * e2))))] = eI.els (l2.set (IntKind.i64.wrap (x1 + x2)).toNat (IntKind.i64.wrap (e3 + (IntKind.i64.wrap (e1 * e2))))) from eI.set0 _ _ (IntKind.i64.wrap (e3 + (IntKind.i64.wrap (e1 * e2))))]
       refine zd (hK18 _ _ (zr (zg [4] 2 [2,3,4,5,6,7,21,22,23,29,30,31] (zd ?_))))
       exact XR.sub (Sub.trans (Sub.pick (fr' := [(2, .one (.pv (.rp [[.s (.bool p1.below), .ro (eI.els p1.d)]] 0 0))), (3, .one (.pv (.rp [[.s (.bool p2.below), .ro (eI.els p2.d)]] 0 0))), (4, .one (.pt 0 0 0 0)), (5, .one (.sl 1 1 0 l2.length)), (6, vi x1), (7, vi e1), (21, vl eI p1.d), (22, vi (p1.d.length : Int)), (23, vi x1), (29, vl eI p2.d), (30, vi (p2.d.length : Int)), (31, vi (IntKind.i64.wrap (x2 + (1 : Int))))]) [2,3,4,5,6,7,21,22,23,29,30,31] (by kernel_rfl)) (Sub.frame (fr' := [(2, .one (.pv (.rp [[.s (.bool p1.below), .ro (eI.els p1.d)]] 0 0))), (3, .one (.pv (.rp [[.s (.bool p2.below), .ro (eI.els p2.d)]] 0 0))), (4, .one (.pt 0 0 0 0)), (5, .one (.sl 1 1 0 (l2.set (IntKind.i64.wrap (x1 + x2)).toNat (IntKind.i64.wrap (e3 + (IntKind.i64.wrap (e1 * e2))))).length)), (6, vi x1), (7, vi e1), (21, vl eI p1.d), (22, vi (p1.d.length : Int)), (23, vi x1), (29, vl eI p2.d), (30, vi (p2.d.length : Int)), (31, vi (IntKind.i64.wrap (x2 + (1 : Int))))]) ⟨.rfl _, .rfl _, .rfl _, ALe.of_eq (show (.one (.sl 1 1 0 l2.length) : AV) = .one (.sl 1 1 0 (l2.set (IntKind.i64.wrap (x1 + x2)).toNat (IntKind.i64.wrap (e3 + (IntKind.i64.wrap (e1 * e2))))).length) from by simp), .rfl _, .rfl _, .rfl _, .rfl _, .rfl _, .rfl _, .rfl _, .rfl _, trivial⟩)) (ih2 (l2.set (IntKind.i64.wrap (x1 + x2)).toNat (IntKind.i64.wrap (e3 + (IntKind.i64.wrap (e1 * e2))))) (IntKind.i64.wrap (x2 + (1 : Int))) h)
      ·exact zx 2 (hQ2 _ _ _ (hJ1 l2 h _ _ (zk [2,3,4,5,21,22,23])))
    exact XR.sub (zk [2,3,4,5,6,7,21,22,23,29,30,31]) (hL2 BIG l1 (0 : Int) h)
   ·exact zx 0 (hQ1 _ _ _ (hJ2 l1 h _ _ (zk [2,3,4,5])))
 exact XR.sub (Sub.trans (Sub.pick (fr' := [(2, .one (.pv (.rp [[.s (.bool p1.below), .ro (eI.els p1.d)]] 0 0))), (3, .one (.pv (.rp [[.s (.bool p2.below), .ro (eI.els p2.d)]] 0 0))), (4, .one (.pt 0 0 0 0)), (5, .one (.sl 1 1 0 y1.toNat)), (21, vl eI p1.d), (22, vi (p1.d.length : Int)), (23, vi (0 : Int))]) [2,3,4,5,21,22,23] (by kernel_rfl)) (Sub.frame (fr' := [(2, .one (.pv (.rp [[.s (.bool p1.below), .ro (eI.els p1.d)]] 0 0))), (3, .one (.pv (.rp [[.s (.bool p2.below), .ro (eI.els p2.d)]] 0 0))), (4, .one (.pt 0 0 0 0)), (5, .one (.sl 1 1 0 (List.replicate y1.toNat (0 : Int)).length)), (21, vl eI p1.d), (22, vi (p1.d.length : Int)), (23, vi (0 : Int))]) ⟨.rfl _, .rfl _, .rfl _, ALe.of_eq (show (.one (.sl 1 1 0 y1.toNat) : AV) = .one (.sl 1 1 0 (List.replicate y1.toNat (0 : Int)).length) from by simp), .rfl _, .rfl _, .rfl _, trivial⟩)) (hL1 BIG (List.replicate y1.toNat (0 : Int)) (0 : Int) h)

def ref1_half_j1 (z3 : Bool) (z4 : List Int) : Option RWide :=
    some (RWide.mk z3 z4)

def ref1_half_l1 (p1 : Int) : Nat → Bool → List Int → Int → Option RWide
  | 0, _, _, _ => none
  | k1 + 1, z1, z2, x1 =>
    ift (decide (x1 < p1))
      (bnd (ref1_wideOf (256 : Int)) fun r2 =>
       bnd (ref1_mulWide (RWide.mk z1 z2) r2) fun r3 =>
       (ref1_half_l1 p1 k1) r3.below r3.d (IntKind.i64.wrap (x1 + (1 : Int))))
      (ref1_half_j1 z1 z2)

def ref1_half (p1 : Int) : Option RWide :=
    bnd (ref1_wideOf (128 : Int)) fun r1 =>
    ref1_half_l1 p1 BIG r1.below r1.d (1 : Int)

abbrev qa1414 : List CV := [cb false, .pv (.s (.slice none 0 0))]
abbrev qa1425 (p1 : Int) (z1 : Bool) (z2 : List Int) (x1 : Int) (r2 : RWide) : Fr := [(12, .ag [cb r2.below, cl eI r2.d]), (11, .ag [cb z1, cl eI z2]), (0, vi p1), (2, .one (.pt 0 0 0 0)), (3, .one (.pt 1 0 0 0)), (4, vi x1), (8, vb (decide (x1 < p1)))]

theorem c_ref1_half (p1 : Int) (r : RWide) (h : ref1_half p1 = some r) : PC Tryd.prog 92 [vi p1] (.ag [cb r.below, cl eI r.d]) := by
 unfold ref1_half at h
 refine zF 15 Tryd.f92 (zq fun K1 hK1 => zr (zg [2, 3] 1 [0,2] (zd (hK1 _ _ (zq fun K2 hK2 => ?_)))))
 obtain ⟨r1, c3, h⟩ := zB h
 refine zr (za (c_ref1_wideOf _ _ c3) (zv [2, 3] 2 [0,2,3] [] [(0, vi p1), (2, .one (.pt 0 0 0 0)), (3, .one (.pt 1 0 0 0))] [.box qa1414, .box [cb r1.below, cl eI r1.d]] (zd (hK2 _ _ (zq fun K4 hK4 => ?_)))))
 have hJ1 : ∀ (z3 : Bool) (z4 : List Int), ref1_half_j1 z3 z4 = some r → ∀ fr1 st1, Sub 15 0 [] fr1 st1 [(2, .one (.pt 0 0 0 0)), (3, .one (.pt 1 0 0 0))] [.box qa1414, .box [cb z3, cl eI z4]] → K4 fr1 st1 := by
  intro z3 z4 h fr1 st1 hS
  unfold ref1_half_j1 at h
  refine hK4 _ _ (XW.sub hS ?_)
  refine zq fun K12 hK12 => zr (zg [2, 3] 2 [2] (zd (hK12 _ _ (ze ?_))))
  obtain rfl := Option.some.inj h
  exact zf [.ag [cb z3, cl eI z4]] (.ag (.cons (.rfl _ rfl) (.cons (.rfl _ rfl) .nil)))
 refine zq fun K5 hK5 => zr (zg [2, 3] 1 [0,2,3,4] (zd (hK5 _ _ (zb 0 (XW.rounds' BIG (x := cd Tryd.f92 [1,1,0,1,0,0]) (by kernel_rfl) fun Q1 hQ1 => ?_)))))
 have hL1 : ∀ (k1 : Nat) (z1 : Bool) (z2 : List Int) (x1 : Int), ref1_half_l1 p1 k1 z1 z2 x1 = some r → XR Tryd.prog 15 0 [] (cd Tryd.f92 [1,1,0,1,0,0]) Q1 k1 [(0, vi p1), (2, .one (.pt 0 0 0 0)), (3, .one (.pt 1 0 0 0)), (4, vi x1)] [.box qa1414, .box [cb z1, cl eI z2]] := by
  intro k1
  induction k1 with
  | zero => intro z1 z2 x1 h; rw [ref1_half_l1.eq_1] at h; cases h
  | succ k1 ih1 =>
   intro z1 z2 x1 h
   rw [ref1_half_l1.eq_2] at h
   refine zq fun K6 hK6 => zq fun K7 hK7 => zr (zg [2, 3] 3 [0,2,3,4,8] (zd (hK7 _ _ (zC h (fun b8 h => ?_) (fun b8 h => ?_)))))
   ·refine zs (hK6 _ _ (zq fun K9 hK9 => zb 1 ?_))
    obtain ⟨r2, c10, h⟩ := zB h
    obtain ⟨r3, c11, h⟩ := zB h
    refine zw 2 (qa1425 p1 z1 z2 x1 r2) ?_ ?_
    ·exact zyg 1 (DX.cal 36 [vi (256 : Int)] (.ag [cb r2.below, cl eI r2.d]) (qa1425 p1 z1 z2 x1 r2) (by kernel_rfl) (c_ref1_wideOf _ _ c10) rfl rfl (by kernel_rfl) zyd)
    exact za (c_ref1_mulWide _ _ _ c11) (zv [2, 3] 1 [0,2,3,4] [] [(0, vi p1), (2, .one (.pt 0 0 0 0)), (3, .one (.pt 1 0 0 0)), (4, vi x1)] [.box qa1414, .box [cb r3.below, cl eI r3.d]] (zd (hK9 _ _ (zr (zg [2, 3] 3 [0,2,3,4] (zd (XR.sub (zk [0,2,3,4]) (ih1 r3.below r3.d (IntKind.i64.wrap (x1 + (1 : Int))) h))))))))
   ·exact zx 0 (hQ1 _ _ _ (hJ1 z1 z2 h _ _ (zk [2,3])))
 exact XR.sub (zk [0,2,3,4]) (hL1 BIG r1.below r1.d (1 : Int) h)

def ref1_plus_j3 (rec1 : List Int → Int → Int → Option (List Int)) (l1 : List Int) (x2 : Int) (x5 : Int) : Option (List Int) :=
    grd (l1.length + 1 ≤ 4294967296) <|
    rec1 (l1 ++ [(x5.tmod (10 : Int))]) (IntKind.i64.wrap (x5.tdiv (10 : Int))) (IntKind.i64.wrap (x2 + (1 : Int)))

def ref1_plus_j2 (rec1 : List Int → Int → Int → Option (List Int)) (p2 : (List Int)) (l1 : List Int) (x2 : Int) (x4 : Int) : Option (List Int) :=
    ift (decide (x2 < (p2.length : Int)))
      (bnd (at? p2 x2) fun e2 =>
       ref1_plus_j3 rec1 l1 x2 (IntKind.i64.wrap (x4 + e2)))
      (ref1_plus_j3 rec1 l1 x2 x4)

def ref1_plus_j4 (l2 : List Int) : Option (List Int) :=
    some l2

def ref1_plus_j1 (rec1 : List Int → Int → Int → Option (List Int)) (p1 : (List Int)) (p2 : (List Int)) (l1 : List Int) (x1 : Int) (x2 : Int) (x3 : Bool) : Option (List Int) :=
    ift x3
      (ift (decide (x2 < (p1.length : Int)))
         (bnd (at? p1 x2) fun e1 =>
          ref1_plus_j2 rec1 p2 l1 x2 (IntKind.i64.wrap (x1 + e1)))
         (ref1_plus_j2 rec1 p2 l1 x2 x1))
      (ref1_plus_j4 l1)

def ref1_plus_l1 (p1 : (List Int)) (p2 : (List Int)) : Nat → List Int → Int → Int → Option (List Int)
  | 0, _, _, _ => none
  | k1 + 1, l1, x1, x2 =>
    ift (decide (x2 < (p1.length : Int)))
      (ref1_plus_j1 (ref1_plus_l1 p1 p2 k1) p1 p2 l1 x1 x2 true)
      (ift (decide (x2 < (p2.length : Int)))
         (ref1_plus_j1 (ref1_plus_l1 p1 p2 k1) p1 p2 l1 x1 x2 true)
         (ref1_plus_j1 (ref1_plus_l1 p1 p2 k1) p1 p2 l1 x1 x2 (decide ((0 : Int) < x1))))

def ref1_plus (p1 : (List Int)) (p2 : (List Int)) : Option (List Int) :=
    ref1_plus_l1 p1 p2 BIG [] (0 : Int) (0 : Int)


theorem c_ref1_plus (p1 : (List Int)) (p2 : (List Int)) (r : (List Int)) (h : ref1_plus p1 p2 = some r) : PC Tryd.prog 60 [vl eI p1, vl eI p2] (vl eI r) := by
 unfold ref1_plus at h
 refine zF 54 Tryd.f60 (zq fun K1 hK1 => zr (zg [] 1 [0,1] (zd (hK1 _ _ (zq fun K2 hK2 => zr ?_)))))
 refine zg [] 1 [0,1,5] (zd (hK2 _ _ (zq fun K3 hK3 => zr (zv [] 1 [0,1,5,6] [] [(0, vl eI p1), (1, vl eI p2), (5, .one (.pv (.s (.slice none 0 0)))), (6, vi (0 : Int))] [] (zd (hK3 _ _ ?_))))))
 refine zq fun K4 hK4 => ?_
 have hJ4 : ∀ (l2 : List Int), ref1_plus_j4 l2 = some r → ∀ fr1 st1, Sub 54 0 [] fr1 st1 [(5, .one (.sl 0 1 0 l2.length))] [.arr 1 (eI.els l2)] → K4 fr1 st1 := by
  intro l2 h fr1 st1 hS
  unfold ref1_plus_j4 at h
  refine hK4 _ _ (XW.sub hS ?_)
  refine zq fun K23 hK23 => zr (zg [] 2 [4] (zd (hK23 _ _ (ze ?_))))
  obtain rfl := Option.some.inj h
  exact zf [.one (.sl 0 1 0 l2.length)] (.one (cf_sl eI l2 rfl rfl rfl))
 refine zq fun K5 hK5 => zr (zv [] 1 [0,1,5,6,7] [] [(0, vl eI p1), (1, vl eI p2), (5, .one (.pv (.s (.slice none 0 0)))), (6, vi (0 : Int)), (7, vi (0 : Int))] [] (zd (hK5 _ _ (zb 0 (XW.sub (Sub.list (t := 5) (sz := 1) rfl) (XW.rounds' BIG (x := cd Tryd.f60 [1,1,1,0,1,0,0]) (by kernel_rfl) fun Q1 hQ1 => ?_))))))
 have hL1 : ∀ (k1 : Nat) (l1 : List Int) (x1 : Int) (x2 : Int), ref1_plus_l1 p1 p2 k1 l1 x1 x2 = some r → XR Tryd.prog 54 0 [] (cd Tryd.f60 [1,1,1,0,1,0,0]) Q1 k1 [(0, vl eI p1), (1, vl eI p2), (5, .one (.sl 0 1 0 l1.length)), (6, vi x1), (7, vi x2)] [.arr 1 (eI.els l1)] := by
  intro k1
  induction k1 with
  | zero => intro l1 x1 x2 h; rw [ref1_plus_l1.eq_1] at h; cases h
  | succ k1 ih1 =>
   intro l1 x1 x2 h
   rw [ref1_plus_l1.eq_2] at h
   refine zq fun K6 hK6 => zq fun K7 hK7 => ?_
   have hJ1 : ∀ (x3 : Bool), ref1_plus_j1 (ref1_plus_l1 p1 p2 k1) p1 p2 l1 x1 x2 x3 = some r → ∀ fr1 st1, Sub 54 0 [] fr1 st1 [(0, vl eI p1), (1, vl eI p2), (5, .one (.sl 0 1 0 l1.length)), (6, vi x1), (7, vi x2), (22, vb x3)] [.arr 1 (eI.els l1)] → K7 fr1 st1 := by
    intro x3 h fr1 st1 hS
    unfold ref1_plus_j1 at h
    refine hK7 _ _ (XW.sub hS ?_)
    refine zC h (fun b10 h => ?_) (fun b10 h => ?_)
    ·refine zs (hK6 _ _ (zq fun K11 hK11 => zb 1 (zq fun K12 hK12 => zr (zg [] 2 [0,1,5,7,8] (zd ?_)))))
     refine hK12 _ _ (zq fun K13 hK13 => ?_)
     have hJ2 : ∀ (x4 : Int), ref1_plus_j2 (ref1_plus_l1 p1 p2 k1) p2 l1 x2 x4 = some r → ∀ fr1 st1, Sub 54 0 [] fr1 st1 [(0, vl eI p1), (1, vl eI p2), (5, .one (.sl 0 1 0 l1.length)), (7, vi x2), (8, vi x4)] [.arr 1 (eI.els l1)] → K13 fr1 st1 := by
      intro x4 h fr1 st1 hS
      unfold ref1_plus_j2 at h
      refine hK13 _ _ (XW.sub hS ?_)
      refine zq fun K17 hK17 => ?_
      have hJ3 : ∀ (x5 : Int), ref1_plus_j3 (ref1_plus_l1 p1 p2 k1) l1 x2 x5 = some r → ∀ fr1 st1, Sub 54 0 [] fr1 st1 [(0, vl eI p1), (1, vl eI p2), (5, .one (.sl 0 1 0 l1.length)), (7, vi x2), (8, vi x5)] [.arr 1 (eI.els l1)] → K17 fr1 st1 := by
       intro x5 h fr1 st1 hS
       unfold ref1_plus_j3 at h
       refine hK17 _ _ (XW.sub hS ?_)
       refine zq fun K21 hK21 => ?_
       obtain ⟨g22, h⟩ := zG h
       refine zr (zp [] 5 [0,1,7,8,50] [] [(0, vl eI p1), (1, vl eI p2), (7, vi x2), (8, vi x5), (50, .one (.sl 0 1 0 (l1.length + (eI.els [(x5.tmod (10 : Int))]).length)))] [.arr 1 (eI.els l1 ++ eI.els [(x5.tmod (10 : Int))])] [(10 : Int) ≠ 0, elemsOk 1 (eI.els [(x5.tmod (10 : Int))]), l1.length = (eI.els l1).length, l1.length + (eI.els [(x5.tmod (10 : Int))]).length ≤ 4294967296] (⟨by decide, eI.ok _, (eI.len l1).symm, g22, trivial⟩) ?_)
       rw [show l1.length + (eI.els [(x5.tmod (10 : Int))]).length = (l1 ++ [(x5.tmod (10 : Int))]).length from eI.lapp _ _]
       rw [show eI.els l1 ++ eI.els [(x5.tmod (10 : Int))] = eI.els (l1 ++ [(x5.tmod (10 : Int))]) from eI.app2 _ _]
       refine zg [] 1 [0,1,5,7,8] (zd (hK21 _ _ (zr (zo [] 3 [0,1,5,6,7] [] [(10 : Int) ≠ 0] (⟨by decide, trivial⟩) (zd (hK11 _ _ (zr ?_)))))))
       exact zv [] 3 [0,1,5,6,7] [] [(0, vl eI p1), (1, vl eI p2), (5, .one (.sl 0 1 0 ((l1 ++ [(x5.tmod (10 : Int))]).length))), (6, vi (IntKind.i64.wrap (x5.tdiv (10 : Int)))), (7, vi (IntKind.i64.wrap (x2 + (1 : Int))))] [.arr 1 (eI.els (l1 ++ [(x5.tmod (10 : Int))]))] (zd (XR.sub (zk [0,1,5,6,7]) (ih1 (l1 ++ [(x5.tmod (10 : Int))]) (IntKind.i64.wrap (x5.tdiv (10 : Int))) (IntKind.i64.wrap (x2 + (1 : Int))) h)))
      refine zq fun K18 hK18 => zr (zv [] 3 [0,1,5,7,8,36,38] [] [(0, vl eI p1), (1, vl eI p2), (5, .one (.sl 0 1 0 l1.length)), (7, vi x2), (8, vi x4), (36, vi x2), (38, vi ((eI.els p2).length : Int))] [.arr 1 (eI.els l1)] ?_)
      rw [eI.len p2]
      refine zg [] 1 [0,1,5,7,8,39] (zd (hK18 _ _ (zC h (fun b19 h => ?_) (fun b19 h => ?_))))
      ·obtain ⟨e2, a20, h⟩ := zB h
       exact zr (zo [] 7 [0,1,5,7,8] [[pi e2]] [0 ≤ x2 ∧ x2 < ((eI.els p2).length : Int) ∧ elemsOk 1 (eI.els p2), (eI.els p2)[x2.toNat]? = some [pi e2]] (⟨eI.inb a20, (eI.get a20), trivial⟩) (zd (hJ3 (IntKind.i64.wrap (x4 + e2)) h _ _ (zk [0,1,5,7,8]))))
      ·exact zs (hJ3 x4 h _ _ (zk [0,1,5,7,8]))
     refine zq fun K14 hK14 => zr (zv [] 3 [0,1,5,7,8,26,28] [] [(0, vl eI p1), (1, vl eI p2), (5, .one (.sl 0 1 0 l1.length)), (7, vi x2), (8, vi x1), (26, vi x2), (28, vi ((eI.els p1).length : Int))] [.arr 1 (eI.els l1)] ?_)
     rw [eI.len p1]
     refine zg [] 1 [0,1,5,7,8,29] (zd (hK14 _ _ (zC h (fun b15 h => ?_) (fun b15 h => ?_))))
     ·obtain ⟨e1, a16, h⟩ := zB h
      exact zr (zo [] 7 [0,1,5,7,8] [[pi e1]] [0 ≤ x2 ∧ x2 < ((eI.els p1).length : Int) ∧ elemsOk 1 (eI.els p1), (eI.els p1)[x2.toNat]? = some [pi e1]] (⟨eI.inb a16, (eI.get a16), trivial⟩) (zd (hJ2 (IntKind.i64.wrap (x1 + e1)) h _ _ (zk [0,1,5,7,8]))))
     ·exact zs (hJ2 x1 h _ _ (zk [0,1,5,7,8]))
    ·exact zx 0 (hQ1 _ _ _ (hJ4 l1 h _ _ (zk [5])))
   rcases zW h with ⟨b8, h⟩ | ⟨b8, h⟩
   ·refine zr (zv [] 3 [0,1,5,6,7,9,11] [] [(0, vl eI p1), (1, vl eI p2), (5, .one (.sl 0 1 0 l1.length)), (6, vi x1), (7, vi x2), (9, vi x2), (11, vi ((eI.els p1).length : Int))] [.arr 1 (eI.els l1)] ?_)
    rw [eI.len p1]
    exact zg [] 2 [0,1,5,6,7,13] (zt 13 b8 (zg [] 9 [0,1,5,6,7,22] (zd (hJ1 true h _ _ (zk [0,1,5,6,7,22])))))
   ·rcases zW h with ⟨b9, h⟩ | ⟨b9, h⟩
    ·refine zr (zv [] 3 [0,1,5,6,7,9,11] [] [(0, vl eI p1), (1, vl eI p2), (5, .one (.sl 0 1 0 l1.length)), (6, vi x1), (7, vi x2), (9, vi x2), (11, vi ((eI.els p1).length : Int))] [.arr 1 (eI.els l1)] ?_)
     rw [eI.len p1]
     refine zg [] 2 [0,1,5,6,7,13] (zt 13 b8 (zv [] 3 [0,1,5,6,7,13,14,16] [] [(0, vl eI p1), (1, vl eI p2), (5, .one (.sl 0 1 0 l1.length)), (6, vi x1), (7, vi x2), (13, vb false), (14, vi x2), (16, vi ((eI.els p2).length : Int))] [.arr 1 (eI.els l1)] ?_))
     rw [eI.len p2]
     exact zg [] 3 [0,1,5,6,7,19] (zt 19 b9 (zg [] 3 [0,1,5,6,7,22] (zd (hJ1 true h _ _ (zk [0,1,5,6,7,22])))))
    ·refine zr (zv [] 3 [0,1,5,6,7,9,11] [] [(0, vl eI p1), (1, vl eI p2), (5, .one (.sl 0 1 0 l1.length)), (6, vi x1), (7, vi x2), (9, vi x2), (11, vi ((eI.els p1).length : Int))] [.arr 1 (eI.els l1)] ?_)
     rw [eI.len p1]
     refine zg [] 2 [0,1,5,6,7,13] (zt 13 b8 (zv [] 3 [0,1,5,6,7,13,14,16] [] [(0, vl eI p1), (1, vl eI p2), (5, .one (.sl 0 1 0 l1.length)), (6, vi x1), (7, vi x2), (13, vb false), (14, vi x2), (16, vi ((eI.els p2).length : Int))] [.arr 1 (eI.els l1)] ?_))
     rw [eI.len p2]
     exact zg [] 3 [0,1,5,6,7,19] (zt 19 b9 (zg [] 3 [0,1,5,6,7,22] (zd (hJ1 (decide ((0 : Int) < x1)) h _ _ (zk [0,1,5,6,7,22])))))
 exact XR.sub (zk [0,1,5,6,7]) (hL1 BIG [] (0 : Int) (0 : Int) h)

def ref1_most_j1 : Option Int :=
    some (0 : Int)

def ref1_most_l1 (p1 : (List Int)) (p2 : (List Int)) : Nat → Int → Option Int
  | 0, _ => none
  | k1 + 1, x1 =>
    ift (decide ((0 : Int) ≤ x1))
      (bnd (at? p1 x1) fun e1 =>
       bnd (at? p2 x1) fun e2 =>
       ift (e1 != e2)
         (some (IntKind.i64.wrap (e1 - e2)))
         ((ref1_most_l1 p1 p2 k1) (IntKind.i64.wrap (x1 - (1 : Int)))))
      (ref1_most_j1)

def ref1_most (p1 : (List Int)) (p2 : (List Int)) : Option Int :=
    ift ((p1.length : Int) != (p2.length : Int))
      (some (IntKind.i64.wrap ((p1.length : Int) - (p2.length : Int))))
      (ref1_most_l1 p1 p2 BIG (IntKind.i64.wrap ((p1.length : Int) - (1 : Int))))

abbrev qa1443 (p1 : (List Int)) (p2 : (List Int)) (x1 : Int) (e1 : Int) (e2 : Int) : Fr := [(39, vi e2), (38, .one (.pv (.rp (eI.els p2) x1.toNat 0))), (37, vi x1), (36, vl eI p2), (35, vi e1), (34, .one (.pv (.rp (eI.els p1) x1.toNat 0))), (33, vi x1), (32, vl eI p1), (0, vl eI p1), (1, vl eI p2), (5, vi x1), (31, vb (e1 != e2))]

theorem c_ref1_most (p1 : (List Int)) (p2 : (List Int)) (r : Int) (h : ref1_most p1 p2 = some r) : PC Tryd.prog 59 [vl eI p1, vl eI p2] (vi r) := by
 unfold ref1_most at h
 refine zF 41 Tryd.f59 (zq fun K1 hK1 => zr (zg [] 1 [0,1] (zd (hK1 _ _ (zq fun K2 hK2 => zq fun K3 hK3 => ?_)))))
 refine zr (zv [] 2 [0,1,7] [] [(0, vl eI p1), (1, vl eI p2), (7, vi ((eI.els p1).length : Int))] [] ?_)
 rw [eI.len p1]
 refine zv [] 2 [0,1,7,9] [] [(0, vl eI p1), (1, vl eI p2), (7, vi (p1.length : Int)), (9, vi ((eI.els p2).length : Int))] [] ?_
 rw [eI.len p2]
 refine zg [] 1 [0,1,10] (zd (hK3 _ _ (zC h (fun b4 h => ?_) (fun b4 h => ?_))))
 ·refine zq fun K5 hK5 => zr (zv [] 2 [1,12] [] [(1, vl eI p2), (12, vi ((eI.els p1).length : Int))] [] ?_)
  rw [eI.len p1]
  refine zv [] 2 [12,14] [] [(12, vi (p1.length : Int)), (14, vi ((eI.els p2).length : Int))] [] ?_
  rw [eI.len p2]
  refine zg [] 2 [4] (zd (hK5 _ _ (ze ?_)))
  obtain rfl := Option.some.inj h
  exact zf [vi (IntKind.i64.wrap ((p1.length : Int) - (p2.length : Int)))] (.one (.rfl _ rfl))
 ·refine zs (hK2 _ _ (zq fun K6 hK6 => ?_))
  have hJ1 : ∀ (_ : Unit), ref1_most_j1 = some r → ∀ fr1 st1, Sub 41 0 [] fr1 st1 [] [] → K6 fr1 st1 := by
   intro _ h fr1 st1 hS
   unfold ref1_most_j1 at h
   refine hK6 _ _ (XW.sub hS ?_)
   refine zq fun K17 hK17 => zr (zg [] 1 [4] (zd (hK17 _ _ (ze ?_))))
   obtain rfl := Option.some.inj h
   exact zf [vi (0 : Int)] (.one (.rfl _ rfl))
  refine zq fun K7 hK7 => zr (zv [] 2 [0,1,17] [] [(0, vl eI p1), (1, vl eI p2), (17, vi ((eI.els p1).length : Int))] [] ?_)
  rw [eI.len p1]
  refine zg [] 2 [0,1,5] (zd (hK7 _ _ (zb 0 (XW.rounds' BIG (x := cd Tryd.f59 [1,1,0,1,0,0]) (by kernel_rfl) fun Q1 hQ1 => ?_))))
  have hL1 : ∀ (k1 : Nat) (x1 : Int), ref1_most_l1 p1 p2 k1 x1 = some r → XR Tryd.prog 41 0 [] (cd Tryd.f59 [1,1,0,1,0,0]) Q1 k1 [(0, vl eI p1), (1, vl eI p2), (5, vi x1)] [] := by
   intro k1
   induction k1 with
   | zero => intro x1 h; rw [ref1_most_l1.eq_1] at h; cases h
   | succ k1 ih1 =>
    intro x1 h
    rw [ref1_most_l1.eq_2] at h
    refine zq fun K8 hK8 => zq fun K9 hK9 => zr (zg [] 2 [0,1,5,20] (zd (hK9 _ _ (zC h (fun b10 h => ?_) (fun b10 h => ?_)))))
    ·refine zs (hK8 _ _ (zq fun K11 hK11 => zb 1 (zq fun K12 hK12 => ?_)))
     obtain ⟨e1, a13, h⟩ := zB h
     obtain ⟨e2, a14, h⟩ := zB h
     refine zw 8 [(30, vi e2), (29, .one (.pv (.rp (eI.els p2) x1.toNat 0))), (28, vi x1), (27, vl eI p2), (26, vi e1), (25, .one (.pv (.rp (eI.els p1) x1.toNat 0))), (24, vi x1), (23, vl eI p1), (0, vl eI p1), (1, vl eI p2), (5, vi x1), (20, vb (decide ((0 : Int) ≤ x1)))] ?_ ?_
     ·exact zyo 8 [[pi e1], [pi e2]] [0 ≤ x1 ∧ x1 < ((eI.els p1).length : Int) ∧ elemsOk 1 (eI.els p1), (eI.els p1)[x1.toNat]? = some [pi e1], 0 ≤ x1 ∧ x1 < ((eI.els p2).length : Int) ∧ elemsOk 1 (eI.els p2), (eI.els p2)[x1.toNat]? = some [pi e2]] (⟨eI.inb a13, (eI.get a13), eI.inb a14, (eI.get a14), trivial⟩) zyd
     refine zg [] 1 [0,1,5,31] (zd (hK12 _ _ (zC h (fun b15 h => ?_) (fun b15 h => ?_))))
     ·refine zq fun K16 hK16 => zw 8 (qa1443 p1 p2 x1 e1 e2) ?_ ?_
      ·exact zyp 8 [[pi e1], [pi e2]] (qa1443 p1 p2 x1 e1 e2) [0 ≤ x1 ∧ x1 < ((eI.els p1).length : Int) ∧ elemsOk 1 (eI.els p1), (eI.els p1)[x1.toNat]? = some [pi e1], 0 ≤ x1 ∧ x1 < ((eI.els p2).length : Int) ∧ elemsOk 1 (eI.els p2), (eI.els p2)[x1.toNat]? = some [pi e2]] (⟨eI.inb a13, (eI.get a13), eI.inb a14, (eI.get a14), trivial⟩) zyd
      refine zv [] 2 [4] [] [(4, vi (IntKind.i64.wrap (e1 - e2)))] [] (zd (hK16 _ _ (ze (hQ1 _ _ _ ?_))))
      obtain rfl := Option.some.inj h
      exact zf [vi (IntKind.i64.wrap (e1 - e2))] (.one (.rfl _ rfl))
     ·exact zs (hK11 _ _ (zr (zg [] 3 [0,1,5] (zd (XR.sub (zk [0,1,5]) (ih1 (IntKind.i64.wrap (x1 - (1 : Int))) h))))))
    ·exact zx 0 (hQ1 _ _ _ (hJ1 () h _ _ (zk [])))
  exact XR.sub (zk [0,1,5]) (hL1 BIG (IntKind.i64.wrap ((p1.length : Int) - (1 : Int))) h)

def ref1_minus_j2 (rec1 : List Int → Int → Int → Option (List Int)) (l1 : List Int) (x2 : Int) (x4 : Int) (x5 : Int) : Option (List Int) :=
    grd (l1.length + 1 ≤ 4294967296) <|
    rec1 (l1 ++ [x5]) x4 (IntKind.i64.wrap (x2 + (1 : Int)))

def ref1_minus_j1 (rec1 : List Int → Int → Int → Option (List Int)) (l1 : List Int) (x2 : Int) (x3 : Int) : Option (List Int) :=
    ift (decide (x3 < (0 : Int)))
      (ref1_minus_j2 rec1 l1 x2 (1 : Int) (IntKind.i64.wrap (x3 + (10 : Int))))
      (ref1_minus_j2 rec1 l1 x2 (0 : Int) x3)

def ref1_minus_j3 (l2 : List Int) : Option (List Int) :=
    bnd (ref1_cut false l2) fun r1 =>
    some r1.d

def ref1_minus_l1 (p1 : (List Int)) (p2 : (List Int)) : Nat → List Int → Int → Int → Option (List Int)
  | 0, _, _, _ => none
  | k1 + 1, l1, x1, x2 =>
    ift (decide (x2 < (p1.length : Int)))
      (bnd (at? p1 x2) fun e1 =>
       ift (decide (x2 < (p2.length : Int)))
         (bnd (at? p2 x2) fun e2 =>
          ref1_minus_j1 (ref1_minus_l1 p1 p2 k1) l1 x2 (IntKind.i64.wrap ((IntKind.i64.wrap (e1 - x1)) - e2)))
         (ref1_minus_j1 (ref1_minus_l1 p1 p2 k1) l1 x2 (IntKind.i64.wrap (e1 - x1))))
      (ref1_minus_j3 l1)

def ref1_minus (p1 : (List Int)) (p2 : (List Int)) : Option (List Int) :=
    ref1_minus_l1 p1 p2 BIG [] (0 : Int) (0 : Int)


theorem c_ref1_minus (p1 : (List Int)) (p2 : (List Int)) (r : (List Int)) (h : ref1_minus p1 p2 = some r) : PC Tryd.prog 72 [vl eI p1, vl eI p2] (vl eI r) := by
 unfold ref1_minus at h
 refine zF 42 Tryd.f72 (zq fun K1 hK1 => zr (zg [] 1 [0,1] (zd (hK1 _ _ (zq fun K2 hK2 => zr ?_)))))
 refine zg [] 1 [0,1,5] (zd (hK2 _ _ (zq fun K3 hK3 => zr (zv [] 1 [0,1,5,6] [] [(0, vl eI p1), (1, vl eI p2), (5, .one (.pv (.s (.slice none 0 0)))), (6, vi (0 : Int))] [] (zd (hK3 _ _ ?_))))))
 refine zq fun K4 hK4 => ?_
 have hJ3 : ∀ (l2 : List Int), ref1_minus_j3 l2 = some r → ∀ fr1 st1, Sub 42 0 [] fr1 st1 [(5, .one (.sl 0 1 0 l2.length))] [.arr 1 (eI.els l2)] → K4 fr1 st1 := by
  intro l2 h fr1 st1 hS
  unfold ref1_minus_j3 at h
  refine hK4 _ _ (XW.sub hS ?_)
  refine zq fun K22 hK22 => ?_
  obtain ⟨r1, c23, h⟩ := zB h
  refine zr (zv [] 1 [39] [] [(39, .one (.sl 0 1 0 l2.length))] [.arr 1 (eI.els l2)] (XO.sub (Sub.kill (fr' := [(39, vl eI l2)]) 0 (Nat.zero_le _) (by kernel_rfl) ⟨.one (cf_sl eI l2 rfl rfl rfl), trivial⟩) (za (c_ref1_cut _ _ _ c23) (zg [] 2 [4] (zd (hK22 _ _ (ze ?_)))))))
  obtain rfl := Option.some.inj h
  exact zf [vl eI r1.d] (.one (.rfl _ rfl))
 refine zq fun K5 hK5 => zr (zv [] 2 [0,1,5,6,10] [] [(0, vl eI p1), (1, vl eI p2), (5, .one (.pv (.s (.slice none 0 0)))), (6, vi (0 : Int)), (10, vi ((eI.els p1).length : Int))] [] ?_)
 rw [eI.len p1]
 refine zv [] 1 [0,1,5,6,10,11] [] [(0, vl eI p1), (1, vl eI p2), (5, .one (.pv (.s (.slice none 0 0)))), (6, vi (0 : Int)), (10, vi (p1.length : Int)), (11, vi (0 : Int))] [] (zd (hK5 _ _ (zb 0 (XW.sub (Sub.list (t := 5) (sz := 1) rfl) (XW.rounds' BIG (x := cd Tryd.f72 [1,1,1,0,1,0,0]) (by kernel_rfl) fun Q1 hQ1 => ?_)))))
 have hL1 : ∀ (k1 : Nat) (l1 : List Int) (x1 : Int) (x2 : Int), ref1_minus_l1 p1 p2 k1 l1 x1 x2 = some r → XR Tryd.prog 42 0 [] (cd Tryd.f72 [1,1,1,0,1,0,0]) Q1 k1 [(0, vl eI p1), (1, vl eI p2), (5, .one (.sl 0 1 0 l1.length)), (6, vi x1), (10, vi (p1.length : Int)), (11, vi x2)] [.arr 1 (eI.els l1)] := by
  intro k1
  induction k1 with
  | zero => intro l1 x1 x2 h; rw [ref1_minus_l1.eq_1] at h; cases h
  | succ k1 ih1 =>
   intro l1 x1 x2 h
   rw [ref1_minus_l1.eq_2] at h
   refine zq fun K6 hK6 => zr (zg [] 1 [0,1,5,6,10,11,12] (zd (hK6 _ _ (zq fun K7 hK7 => zC h (fun b8 h => ?_) (fun b8 h => ?_)))))
   ·refine zs (hK7 _ _ (zq fun K9 hK9 => zb 1 (zq fun K10 hK10 => zr (zg [] 2 [0,1,5,6,7,10,11] (zd ?_)))))
    refine hK10 _ _ (zq fun K11 hK11 => ?_)
    obtain ⟨e1, a12, h⟩ := zB h
    refine zr (zp [] 7 [0,1,5,7,8,10,11] [[pi e1]] [(0, vl eI p1), (1, vl eI p2), (5, .one (.sl 0 1 0 l1.length)), (7, vi x2), (8, vi (IntKind.i64.wrap (e1 - x1))), (10, vi (p1.length : Int)), (11, vi x2)] [.arr 1 (eI.els l1)] [0 ≤ x2 ∧ x2 < ((eI.els p1).length : Int) ∧ elemsOk 1 (eI.els p1), (eI.els p1)[x2.toNat]? = some [pi e1]] (⟨eI.inb a12, (eI.get a12), trivial⟩) (zd (hK11 _ _ (zq fun K13 hK13 => ?_))))
    have hJ1 : ∀ (x3 : Int), ref1_minus_j1 (ref1_minus_l1 p1 p2 k1) l1 x2 x3 = some r → ∀ fr1 st1, Sub 42 0 [] fr1 st1 [(0, vl eI p1), (1, vl eI p2), (5, .one (.sl 0 1 0 l1.length)), (8, vi x3), (10, vi (p1.length : Int)), (11, vi x2)] [.arr 1 (eI.els l1)] → K13 fr1 st1 := by
     intro x3 h fr1 st1 hS
     unfold ref1_minus_j1 at h
     refine hK13 _ _ (XW.sub hS ?_)
     refine zq fun K17 hK17 => zr (zg [] 1 [0,1,5,6,8,10,11] (zd (hK17 _ _ (zq fun K18 hK18 => ?_))))
     have hJ2 : ∀ (x4 : Int) (x5 : Int), ref1_minus_j2 (ref1_minus_l1 p1 p2 k1) l1 x2 x4 x5 = some r → ∀ fr1 st1, Sub 42 0 [] fr1 st1 [(0, vl eI p1), (1, vl eI p2), (5, .one (.sl 0 1 0 l1.length)), (6, vi x4), (8, vi x5), (10, vi (p1.length : Int)), (11, vi x2)] [.arr 1 (eI.els l1)] → K18 fr1 st1 := by
      intro x4 x5 h fr1 st1 hS
      unfold ref1_minus_j2 at h
      refine hK18 _ _ (XW.sub hS ?_)
      obtain ⟨g21, h⟩ := zG h
      refine zr (zp [] 4 [0,1,6,10,11,37] [] [(0, vl eI p1), (1, vl eI p2), (6, vi x4), (10, vi (p1.length : Int)), (11, vi x2), (37, .one (.sl 0 1 0 (l1.length + (eI.els [x5]).length)))] [.arr 1 (eI.els l1 ++ eI.els [x5])] [elemsOk 1 (eI.els [x5]), l1.length = (eI.els l1).length, l1.length + (eI.els [x5]).length ≤ 4294967296] (⟨eI.ok _, (eI.len l1).symm, g21, trivial⟩) ?_)
      rw [show l1.length + (eI.els [x5]).length = (l1 ++ [x5]).length from eI.lapp _ _]
      rw [show eI.els l1 ++ eI.els [x5] = eI.els (l1 ++ [x5]) from eI.app2 _ _]
      exact zg [] 1 [0,1,5,6,10,11] (zd (hK9 _ _ (zr (zg [] 2 [0,1,5,6,10,11] (zd (XR.sub (zk [0,1,5,6,10,11]) (ih1 (l1 ++ [x5]) x4 (IntKind.i64.wrap (x2 + (1 : Int))) h)))))))
     refine zq fun K19 hK19 => zr (zg [] 2 [0,1,5,6,8,10,11,31] (zd (hK19 _ _ (zC h (fun b20 h => ?_) (fun b20 h => ?_)))))
     ·exact zr (zv [] 4 [0,1,5,6,8,10,11] [] [(0, vl eI p1), (1, vl eI p2), (5, .one (.sl 0 1 0 l1.length)), (6, vi (1 : Int)), (8, vi (IntKind.i64.wrap (x3 + (10 : Int)))), (10, vi (p1.length : Int)), (11, vi x2)] [.arr 1 (eI.els l1)] (zd (hJ2 (1 : Int) (IntKind.i64.wrap (x3 + (10 : Int))) h _ _ (zk [0,1,5,6,8,10,11]))))
     ·exact zs (hJ2 (0 : Int) x3 h _ _ (zk [0,1,5,6,8,10,11]))
    refine zq fun K14 hK14 => zr (zv [] 3 [0,1,5,7,8,10,11,20,22] [] [(0, vl eI p1), (1, vl eI p2), (5, .one (.sl 0 1 0 l1.length)), (7, vi x2), (8, vi (IntKind.i64.wrap (e1 - x1))), (10, vi (p1.length : Int)), (11, vi x2), (20, vi x2), (22, vi ((eI.els p2).length : Int))] [.arr 1 (eI.els l1)] ?_)
    rw [eI.len p2]
    refine zg [] 1 [0,1,5,7,8,10,11,23] (zd (hK14 _ _ (zC h (fun b15 h => ?_) (fun b15 h => ?_))))
    ·obtain ⟨e2, a16, h⟩ := zB h
     exact zr (zo [] 7 [0,1,5,8,10,11] [[pi e2]] [0 ≤ x2 ∧ x2 < ((eI.els p2).length : Int) ∧ elemsOk 1 (eI.els p2), (eI.els p2)[x2.toNat]? = some [pi e2]] (⟨eI.inb a16, (eI.get a16), trivial⟩) (zd (hJ1 (IntKind.i64.wrap ((IntKind.i64.wrap (e1 - x1)) - e2)) h _ _ (zk [0,1,5,8,10,11]))))
    ·exact zs (hJ1 (IntKind.i64.wrap (e1 - x1)) h _ _ (zk [0,1,5,8,10,11]))
   ·exact zx 0 (hQ1 _ _ _ (hJ3 l1 h _ _ (zk [5])))
 exact XR.sub (zk [0,1,5,6,10,11]) (hL1 BIG [] (0 : Int) (0 : Int) h)

def ref1_addWide (p1 : RWide) (p2 : RWide) : Option RWide :=
    ift (p1.below == p2.below)
      (bnd (ref1_plus p1.d p2.d) fun r1 =>
       bnd (ref1_cut p1.below r1) fun r2 =>
       some r2)
      (bnd (ref1_most p1.d p2.d) fun r3 =>
       ift (decide ((0 : Int) ≤ r3))
         (bnd (ref1_minus p1.d p2.d) fun r4 =>
          bnd (ref1_cut p1.below r4) fun r5 =>
          some r5)
         (bnd (ref1_minus p2.d p1.d) fun r6 =>
          bnd (ref1_cut p2.below r6) fun r7 =>
          some r7))

abbrev qa1461 (p1 : RWide) : List PV := [.s (.bool p1.below), .ro (eI.els p1.d)]
abbrev qa1462 (p2 : RWide) : List PV := [.s (.bool p2.below), .ro (eI.els p2.d)]
abbrev qa1471 (p1 : RWide) (p2 : RWide) (r3 : Int) (r4 : (List Int)) : Fr := [(30, vl eI r4), (29, vl eI p2.d), (28, .one (.pv (.rp [(qa1462 p2)] 0 1))), (27, vl eI p1.d), (26, .one (.pv (.rp [(qa1461 p1)] 0 1))), (25, vb p1.below), (24, .one (.pv (.rp [(qa1461 p1)] 0 0))), (2, .one (.pv (.rp [(qa1461 p1)] 0 0))), (3, .one (.pv (.rp [(qa1462 p2)] 0 0))), (4, .one (.pt 0 0 0 0)), (23, vb (decide ((0 : Int) ≤ r3)))]

theorem c_ref1_addWide (p1 : RWide) (p2 : RWide) (r : RWide) (h : ref1_addWide p1 p2 = some r) : PC Tryd.prog 53 [.ag [cb p1.below, cl eI p1.d], .ag [cb p2.below, cl eI p2.d]] (.ag [cb r.below, cl eI r.d]) := by
 unfold ref1_addWide at h
 refine zF 40 Tryd.f53 (zq fun K1 hK1 => zr (zg [4] 3 [2,3,4] (zd (hK1 _ _ (zq fun K2 hK2 => zq fun K3 hK3 => ?_)))))
 refine zr (zu [4] 5 [2,3,4,9] [(qa1461 p1), (qa1462 p2)] (zd (hK3 _ _ (zC h (fun b4 h => ?_) (fun b4 h => ?_)))))
 ·refine zq fun K5 hK5 => ?_
  obtain ⟨r1, c6, h⟩ := zB h
  obtain ⟨r2, c7, h⟩ := zB h
  refine zw 7 [(16, vl eI r1), (15, vl eI p2.d), (14, .one (.pv (.rp [(qa1462 p2)] 0 1))), (13, vl eI p1.d), (12, .one (.pv (.rp [(qa1461 p1)] 0 1))), (11, vb p1.below), (10, .one (.pv (.rp [(qa1461 p1)] 0 0))), (2, .one (.pv (.rp [(qa1461 p1)] 0 0))), (3, .one (.pv (.rp [(qa1462 p2)] 0 0))), (4, .one (.pt 0 0 0 0)), (9, vb (p1.below == p2.below))] ?_ ?_
  ·refine zyv 6 [(qa1461 p1), (qa1461 p1), (qa1462 p2)] [(15, vl eI p2.d), (14, .one (.pv (.rp [(qa1462 p2)] 0 1))), (13, vl eI p1.d), (12, .one (.pv (.rp [(qa1461 p1)] 0 1))), (11, vb p1.below), (10, .one (.pv (.rp [(qa1461 p1)] 0 0))), (2, .one (.pv (.rp [(qa1461 p1)] 0 0))), (3, .one (.pv (.rp [(qa1462 p2)] 0 0))), (4, .one (.pt 0 0 0 0)), (9, vb (p1.below == p2.below))] ?_
   exact zya (c_ref1_plus _ _ _ c6) zyd
  refine zl 61 [vb p1.below, vl eI r1] (.ag [cb r2.below, cl eI r2.d]) [(17, .ag [cb r2.below, cl eI r2.d]), (16, vl eI r1), (15, vl eI p2.d), (14, .one (.pv (.rp [(qa1462 p2)] 0 1))), (13, vl eI p1.d), (12, .one (.pv (.rp [(qa1461 p1)] 0 1))), (11, vb p1.below), (10, .one (.pv (.rp [(qa1461 p1)] 0 0))), (2, .one (.pv (.rp [(qa1461 p1)] 0 0))), (3, .one (.pv (.rp [(qa1462 p2)] 0 0))), (4, .one (.pt 0 0 0 0)), (9, vb (p1.below == p2.below))] (c_ref1_cut _ _ _ c7) ?_
  refine zg [4] 1 [4] (zd (hK5 _ _ (ze ?_)))
  obtain rfl := Option.some.inj h
  exact zf [.ag [cb r2.below, cl eI r2.d]] (.ag (.cons (.rfl _ rfl) (.cons (.rfl _ rfl) .nil)))
 ·refine zs (hK2 _ _ (zq fun K8 hK8 => zq fun K9 hK9 => ?_))
  obtain ⟨r3, c10, h⟩ := zB h
  refine zr (zu [4] 4 [2,3,4,19,21] [(qa1461 p1), (qa1462 p2)] (zl 59 [vl eI p1.d, vl eI p2.d] (vi r3) [(22, vi r3), (2, .one (.pv (.rp [(qa1461 p1)] 0 0))), (3, .one (.pv (.rp [(qa1462 p2)] 0 0))), (4, .one (.pt 0 0 0 0)), (19, vl eI p1.d), (21, vl eI p2.d)] (c_ref1_most _ _ _ c10) (zg [4] 1 [2,3,4,23] (zd (hK9 _ _ (zC h (fun b11 h => ?_) (fun b11 h => ?_)))))))
  ·refine zq fun K12 hK12 => ?_
   obtain ⟨r4, c13, h⟩ := zB h
   obtain ⟨r5, c14, h⟩ := zB h
   refine zw 7 (qa1471 p1 p2 r3 r4) ?_ ?_
   ·refine zyu 6 [(qa1461 p1), (qa1461 p1), (qa1462 p2)] ?_
    refine DX.cal 72 [vl eI p1.d, vl eI p2.d] (vl eI r4) (qa1471 p1 p2 r3 r4) (by kernel_rfl) (c_ref1_minus _ _ _ c13) rfl rfl (by kernel_rfl) ?_
    exact zyd
   refine za (c_ref1_cut _ _ _ c14) (zv [4] 1 [4] [] [(4, .one (.pt 0 0 0 0))] [.box [cb r5.below, cl eI r5.d]] (zd (hK12 _ _ (ze ?_))))
   obtain rfl := Option.some.inj h
   exact zf [.ag [cb r5.below, cl eI r5.d]] (.ag (.cons (.rfl _ rfl) (.cons (.rfl _ rfl) .nil)))
  ·refine zs (hK8 _ _ (zq fun K15 hK15 => ?_))
   obtain ⟨r6, c16, h⟩ := zB h
   obtain ⟨r7, c17, h⟩ := zB h
   refine zw 7 [(38, vl eI r6), (37, vl eI p1.d), (36, .one (.pv (.rp [(qa1461 p1)] 0 1))), (35, vl eI p2.d), (34, .one (.pv (.rp [(qa1462 p2)] 0 1))), (33, vb p2.below), (32, .one (.pv (.rp [(qa1462 p2)] 0 0))), (2, .one (.pv (.rp [(qa1461 p1)] 0 0))), (3, .one (.pv (.rp [(qa1462 p2)] 0 0))), (4, .one (.pt 0 0 0 0)), (23, vb (decide ((0 : Int) ≤ r3)))] ?_ ?_
   ·exact zyu 6 [(qa1462 p2), (qa1462 p2), (qa1461 p1)] (zya (c_ref1_minus _ _ _ c16) zyd)
   refine za (c_ref1_cut _ _ _ c17) (zg [4] 1 [4] (zd (hK15 _ _ (ze ?_))))
   obtain rfl := Option.some.inj h
   exact zf [.ag [cb r7.below, cl eI r7.d]] (.ag (.cons (.rfl _ rfl) (.cons (.rfl _ rfl) .nil)))

def ref1_fixed_j1 (rec1 : List Int → Bool → List Int → Int → Option (List Int)) (l1 : List Int) (x1 : Int) (l3 : List Int) (x4 : Int) : Option (List Int) :=
    bnd (at? l1 x1) fun e3 =>
    bnd (ref1_cut false l3) fun r1 =>
    rec1 (l1.set x1.toNat (IntKind.u8.wrap x4)) r1.below r1.d (IntKind.i64.wrap (x1 - (1 : Int)))

def ref1_fixed_l2 (rec1 : List Int → Bool → List Int → Int → Option (List Int)) (l1 : List Int) (z2 : List Int) (x1 : Int) : Nat → List Int → Int → Int → Option (List Int)
  | 0, _, _, _ => none
  | k2 + 1, l2, x2, x3 =>
    ift (decide ((0 : Int) ≤ x3))
      (bnd (at? z2 x3) fun e1 =>
       bnd (some (IntKind.i64.wrap ((IntKind.i64.wrap ((IntKind.i64.wrap ((10 : Int) * x2)) + e1)).tdiv (256 : Int)))) fun y1 =>
       bnd (some ((IntKind.i64.wrap ((IntKind.i64.wrap ((10 : Int) * x2)) + e1)).tmod (256 : Int))) fun y2 =>
       bnd (at? l2 x3) fun e2 =>
       (ref1_fixed_l2 rec1 l1 z2 x1 k2) (l2.set x3.toNat y1) y2 (IntKind.i64.wrap (x3 - (1 : Int))))
      (ref1_fixed_j1 rec1 l1 x1 l2 x2)

def ref1_fixed_j2 (l4 : List Int) (z3 : Bool) (z4 : List Int) : Option (List Int) :=
    some l4

def ref1_fixed_l1 : Nat → List Int → Bool → List Int → Int → Option (List Int)
  | 0, _, _, _, _ => none
  | k1 + 1, l1, z1, z2, x1 =>
    ift (decide ((0 : Int) ≤ x1))
      (grd (0 ≤ (z2.length : Int) ∧ (z2.length : Int) ≤ (z2.length : Int) ∧ (z2.length : Int) ≤ 4294967296) <|
       ref1_fixed_l2 (ref1_fixed_l1 k1) l1 z2 x1 BIG (List.replicate (z2.length : Int).toNat (0 : Int)) (0 : Int) (IntKind.i64.wrap ((z2.length : Int) - (1 : Int))))
      (ref1_fixed_j2 l1 z1 z2)

def ref1_fixed (p1 : RWide) (p2 : Int) : Option (List Int) :=
    grd (0 ≤ p2 ∧ p2 ≤ p2 ∧ p2 ≤ 4294967296) <|
    ref1_fixed_l1 BIG (List.replicate p2.toNat (0 : Int)) p1.below p1.d (IntKind.i64.wrap (p2 - (1 : Int)))


theorem c_ref1_fixed (p1 : RWide) (p2 : Int) (r : (List Int)) (h : ref1_fixed p1 p2 = some r) : PC Tryd.prog 91 [.ag [cb p1.below, cl eI p1.d], vi p2] (vl (eK .u8) r) := by
 unfold ref1_fixed at h
 refine zF 54 Tryd.f91 (zq fun K1 hK1 => zr (zg [2] 2 [1,2] (zd (hK1 _ _ (zq fun K2 hK2 => ?_)))))
 obtain ⟨g4, h⟩ := zG h
 refine zr (zp [2] 2 [1,2,12] [] [(1, vi p2), (2, .one (.pt 0 0 0 0)), (12, .one (.sl 1 1 0 p2.toNat))] [.box [cb p1.below, cl eI p1.d], .arr 1 (List.replicate p2.toNat [.s (.int .u8 (0 : Int))])] [0 ≤ p2, p2 ≤ p2, p2 ≤ 4294967296] (⟨g4.1, g4.2.1, g4.2.2, trivial⟩) ?_)
 rw [show List.replicate p2.toNat [.s (.int .u8 (0 : Int))] = (eK .u8).els (List.replicate p2.toNat (0 : Int)) from (eK .u8).rep _ (0 : Int)]
 refine zg [2] 1 [1,2,5] (zd (hK2 _ _ (zq fun K5 hK5 => ?_)))
 have hJ2 : ∀ (l4 : List Int) (z3 : Bool) (z4 : List Int), ref1_fixed_j2 l4 z3 z4 = some r → ∀ fr1 st1, Sub 54 0 [] fr1 st1 [(5, .one (.sl 1 1 0 l4.length))] [.box [cb z3, cl eI z4], .arr 1 ((eK .u8).els l4)] → K5 fr1 st1 := by
  intro l4 z3 z4 h fr1 st1 hS
  unfold ref1_fixed_j2 at h
  refine hK5 _ _ (XW.sub hS ?_)
  refine zq fun K29 hK29 => zr (zg [2] 2 [4] (zd (hK29 _ _ (ze ?_))))
  obtain rfl := Option.some.inj h
  exact zf [.one (.sl 1 1 0 l4.length)] (.one (cf_sl (eK .u8) l4 rfl rfl rfl))
 refine zq fun K6 hK6 => zr (zg [2] 3 [2,5,6] (zd (hK6 _ _ (zb 0 (XW.rounds' BIG (x := cd Tryd.f91 [1,1,0,1,0,0]) (by kernel_rfl) fun Q1 hQ1 => ?_)))))
 have hL1 : ∀ (k1 : Nat) (l1 : List Int) (z1 : Bool) (z2 : List Int) (x1 : Int), ref1_fixed_l1 k1 l1 z1 z2 x1 = some r → XR Tryd.prog 54 0 [] (cd Tryd.f91 [1,1,0,1,0,0]) Q1 k1 [(2, .one (.pt 0 0 0 0)), (5, .one (.sl 1 1 0 l1.length)), (6, vi x1)] [.box [cb z1, cl eI z2], .arr 1 ((eK .u8).els l1)] := by
  intro k1
  induction k1 with
  | zero => intro l1 z1 z2 x1 h; rw [ref1_fixed_l1.eq_1] at h; cases h
  | succ k1 ih1 =>
   intro l1 z1 z2 x1 h
   rw [ref1_fixed_l1.eq_2] at h
   refine zq fun K7 hK7 => zq fun K8 hK8 => zr (zg [2] 2 [2,5,6,16] (zd (hK8 _ _ (zC h (fun b9 h => ?_) (fun b9 h => ?_)))))
   ·refine zs (hK7 _ _ (zq fun K10 hK10 => zb 1 (zq fun K11 hK11 => zr (zg [2] 1 [2,5,6,7] (zd ?_)))))
    refine hK11 _ _ (zq fun K12 hK12 => ?_)
    obtain ⟨g14, h⟩ := zG h
    refine zr (zv [2] 3 [2,5,6,7,21] [] [(2, .one (.pt 0 0 0 0)), (5, .one (.sl 1 1 0 l1.length)), (6, vi x1), (7, vi (0 : Int)), (21, vi ((eI.els z2).length : Int))] [.box [cb z1, cl eI z2], .arr 1 ((eK .u8).els l1)] ?_)
    rw [eI.len z2]
    refine zp [2] 1 [2,5,6,7,22] [] [(2, .one (.pt 0 0 0 0)), (5, .one (.sl 1 1 0 l1.length)), (6, vi x1), (7, vi (0 : Int)), (22, .one (.sl 2 1 0 ((z2.length : Int).toNat)))] [.box [cb z1, cl eI z2], .arr 1 ((eK .u8).els l1), .arr 1 (List.replicate (z2.length : Int).toNat [pi (0 : Int)])] [0 ≤ (z2.length : Int), (z2.length : Int) ≤ (z2.length : Int), (z2.length : Int) ≤ 4294967296] (⟨g14.1, g14.2.1, g14.2.2, trivial⟩) ?_
    rw [show List.replicate (z2.length : Int).toNat [pi (0 : Int)] = eI.els (List.replicate (z2.length : Int).toNat (0 : Int)) from eI.rep _ (0 : Int)]
    refine zg [2] 1 [2,5,6,7,8] (zd (hK12 _ _ (zq fun K15 hK15 => ?_)))
    have hJ1 : ∀ (l3 : List Int) (x4 : Int), ref1_fixed_j1 (ref1_fixed_l1 k1) l1 x1 l3 x4 = some r → ∀ fr1 st1, Sub 54 0 [] fr1 st1 [(2, .one (.pt 0 0 0 0)), (5, .one (.sl 1 1 0 l1.length)), (6, vi x1), (7, vi x4), (8, .one (.sl 2 1 0 l3.length))] [.box [cb z1, cl eI z2], .arr 1 ((eK .u8).els l1), .arr 1 (eI.els l3)] → K15 fr1 st1 := by
     intro l3 x4 h fr1 st1 hS
     unfold ref1_fixed_j1 at h
     refine hK15 _ _ (XW.sub hS ?_)
     refine zq fun K26 hK26 => ?_
     obtain ⟨e3, a27, h⟩ := zB h
     refine zr (zp [2] 6 [2,5,6,8] [[.s (.int .u8 e3)]] [(2, .one (.pt 0 0 0 0)), (5, .one (.sl 1 1 0 l1.length)), (6, vi x1), (8, .one (.sl 2 1 0 l3.length))] [.box [cb z1, cl eI z2], .arr 1 (((eK .u8).els l1).set (0 + x1.toNat) [.s (.int .u8 (IntKind.u8.wrap x4))]), .arr 1 (eI.els l3)] [0 ≤ x1 ∧ x1 < ((l1.length : Nat) : Int), ((eK .u8).els l1)[(0 + x1.toNat)]? = some [.s (.int .u8 e3)]] (⟨Enc.inb' a27, ((eK .u8).get0 a27), trivial⟩) ?_)
     rw [show ((eK .u8).els l1).set (0 + x1.toNat) [.s (.int .u8 (IntKind.u8.wrap x4))] = (eK .u8).els (l1.set x1.toNat (IntKind.u8.wrap x4)) from (eK .u8).set0 _ _ (IntKind.u8.wrap x4)]
     refine zd (hK26 _ _ ?_)
     obtain ⟨r1, c28, h⟩ := zB h
     refine zr (zv [2] 1 [2,5,6,51] [] [(2, .one (.pt 0 0 0 0)), (5, .one (.sl 1 1 0 l1.length)), (6, vi x1), (51, .one (.sl 2 1 0 l3.length))] [.box [cb z1, cl eI z2], .arr 1 ((eK .u8).els (l1.set x1.toNat (IntKind.u8.wrap x4))), .arr 1 (eI.els l3)] (XO.sub (Sub.kill (fr' := [(2, .one (.pt 0 0 0 0)), (5, .one (.sl 1 1 0 l1.length)), (6, vi x1), (51, vl eI l3)]) 2 (Nat.zero_le _) (by kernel_rfl) ⟨.one (.rfl _ rfl), .one (.rfl _ rfl), .one (.rfl _ rfl), .one (cf_sl eI l3 rfl rfl rfl), trivial⟩) (za (c_ref1_cut _ _ _ c28) (zg [2] 1 [2,5,6] (zd (hK10 _ _ (zr ?_)))))))
     refine zv [2] 3 [2,5,6] [] [(2, .one (.pt 0 0 0 0)), (5, .one (.sl 1 1 0 l1.length)), (6, vi (IntKind.i64.wrap (x1 - (1 : Int))))] [.box [cb r1.below, cl eI r1.d], .arr 1 ((eK .u8).els (l1.set x1.toNat (IntKind.u8.wrap x4))), .dead] (zd ?_)
     exact XR.sub (Sub.trans (Sub.trans (Sub.pick (fr' := [(2, .one (.pt 0 0 0 0)), (5, .one (.sl 1 1 0 l1.length)), (6, vi (IntKind.i64.wrap (x1 - (1 : Int))))]) [2,5,6] (by kernel_rfl)) (Sub.take (fr' := [(2, .one (.pt 0 0 0 0)), (5, .one (.sl 1 1 0 l1.length)), (6, vi (IntKind.i64.wrap (x1 - (1 : Int))))]) 2 (Nat.zero_le _) (by kernel_rfl) (by kernel_rfl))) (Sub.frame (fr' := [(2, .one (.pt 0 0 0 0)), (5, .one (.sl 1 1 0 (l1.set x1.toNat (IntKind.u8.wrap x4)).length)), (6, vi (IntKind.i64.wrap (x1 - (1 : Int))))]) ⟨.rfl _, ALe.of_eq (show (.one (.sl 1 1 0 l1.length) : AV) = .one (.sl 1 1 0 (l1.set x1.toNat (IntKind.u8.wrap x4)).length) from by simp), .rfl _, trivial⟩)) (ih1 (l1.set x1.toNat (IntKind.u8.wrap x4)) r1.below r1.d (IntKind.i64.wrap (x1 - (1 : Int))) h)
    refine zq fun K16 hK16 => zr (zv [2] 3 [2,5,6,7,8,25] [] [(2, .one (.pt 0 0 0 0)), (5, .one (.sl 1 1 0 l1.length)), (6, vi x1), (7, vi (0 : Int)), (8, .one (.sl 2 1 0 ((z2.length : Int).toNat))), (25, vi ((eI.els z2).length : Int))] [.box [cb z1, cl eI z2], .arr 1 ((eK .u8).els l1), .arr 1 (eI.els (List.replicate (z2.length : Int).toNat (0 : Int)))] ?_)
    rw [eI.len z2]
    refine zg [2] 2 [2,5,6,7,8,9] (zd (hK16 _ _ (zb 2 (XW.rounds' BIG (x := cd Tryd.f91 [1,1,0,1,0,0,1,0,0,1,1,0,1,0,0]) (by kernel_rfl) fun Q2 hQ2 => ?_))))
    have hL2 : ∀ (k2 : Nat) (l2 : List Int) (x2 : Int) (x3 : Int), ref1_fixed_l2 (ref1_fixed_l1 k1) l1 z2 x1 k2 l2 x2 x3 = some r → XR Tryd.prog 54 0 [] (cd Tryd.f91 [1,1,0,1,0,0,1,0,0,1,1,0,1,0,0]) Q2 k2 [(2, .one (.pt 0 0 0 0)), (5, .one (.sl 1 1 0 l1.length)), (6, vi x1), (7, vi x2), (8, .one (.sl 2 1 0 l2.length)), (9, vi x3)] [.box [cb z1, cl eI z2], .arr 1 ((eK .u8).els l1), .arr 1 (eI.els l2)] := by
     intro k2
     induction k2 with
     | zero => intro l2 x2 x3 h; rw [ref1_fixed_l2.eq_1] at h; cases h
     | succ k2 ih2 =>
      intro l2 x2 x3 h
      rw [ref1_fixed_l2.eq_2] at h
      refine zq fun K17 hK17 => zq fun K18 hK18 => zr (zg [2] 2 [2,5,6,7,8,9,28] (zd (hK18 _ _ (zC h (fun b19 h => ?_) (fun b19 h => ?_)))))
      ·refine zs (hK17 _ _ (zq fun K20 hK20 => zb 3 (zq fun K21 hK21 => ?_)))
       obtain ⟨e1, a22, h⟩ := zB h
       refine zr (zo [2] 9 [2,5,6,8,9,10] [[pi e1]] [0 ≤ x3 ∧ x3 < ((eI.els z2).length : Int) ∧ elemsOk 1 (eI.els z2), (eI.els z2)[x3.toNat]? = some [pi e1]] (⟨eI.inb a22, (eI.get a22), trivial⟩) (zd (hK21 _ _ ?_)))
       obtain ⟨y1, hy23, h⟩ := zB h
       obtain ⟨y2, hy24, h⟩ := zB h
       obtain ⟨e2, a25, h⟩ := zB h
       refine zr (zp [2] 4 [2,5,6,8,9,10,39,40,42] [] [(2, .one (.pt 0 0 0 0)), (5, .one (.sl 1 1 0 l1.length)), (6, vi x1), (8, .one (.sl 2 1 0 l2.length)), (9, vi x3), (10, vi (IntKind.i64.wrap ((IntKind.i64.wrap ((10 : Int) * x2)) + e1))), (39, .one (.sl 2 1 0 l2.length)), (40, vi x3), (42, vi (IntKind.i64.wrap ((IntKind.i64.wrap ((IntKind.i64.wrap ((10 : Int) * x2)) + e1)).tdiv (256 : Int))))] [.box [cb z1, cl eI z2], .arr 1 ((eK .u8).els l1), .arr 1 (eI.els l2)] [(256 : Int) ≠ 0] (⟨by decide, trivial⟩) ?_)
       rw [show (IntKind.i64.wrap ((IntKind.i64.wrap ((IntKind.i64.wrap ((10 : Int) * x2)) + e1)).tdiv (256 : Int))) = y1 from Option.some.inj hy23]
       refine zp [2] 2 [2,5,6,8,9,39,40,42,44] [] [(2, .one (.pt 0 0 0 0)), (5, .one (.sl 1 1 0 l1.length)), (6, vi x1), (8, .one (.sl 2 1 0 l2.length)), (9, vi x3), (39, .one (.sl 2 1 0 l2.length)), (40, vi x3), (42, vi y1), (44, vi ((IntKind.i64.wrap ((IntKind.i64.wrap ((10 : Int) * x2)) + e1)).tmod (256 : Int)))] [.box [cb z1, cl eI z2], .arr 1 ((eK .u8).els l1), .arr 1 (eI.els l2)] [(256 : Int) ≠ 0] (⟨by decide, trivial⟩) ?_
       rw [show ((IntKind.i64.wrap ((IntKind.i64.wrap ((10 : Int) * x2)) + e1)).tmod (256 : Int)) = y2 from Option.some.inj hy24]
       refine zp [2] 2 [2,5,6,8,9,44] [[pi e2]] [(2, .one (.pt 0 0 0 0)), (5, .one (.sl 1 1 0 l1.length)), (6, vi x1), (8, .one (.sl 2 1 0 l2.length)), (9, vi x3), (44, vi y2)] [.box [cb z1, cl eI z2], .arr 1 ((eK .u8).els l1), .arr 1 ((eI.els l2).set (0 + x3.toNat) [pi y1])] [0 ≤ x3 ∧ x3 < ((l2.length : Nat) : Int), (eI.els l2)[(0 + x3.toNat)]? = some [pi e2]] (⟨Enc.inb' a25, (eI.get0 a25), trivial⟩) ?_
       rw [show (eI.els l2).set (0 + x3.toNat) [pi y1] = eI.els (l2.set x3.toNat y1) from eI.set0 _ _ y1]
       refine zg [2] 1 [2,5,6,7,8,9] (zd (hK20 _ _ (zr (zg [2] 3 [2,5,6,7,8,9] (zd ?_)))))
       exact XR.sub (Sub.trans (Sub.pick (fr' := [(2, .one (.pt 0 0 0 0)), (5, .one (.sl 1 1 0 l1.length)), (6, vi x1), (7, vi y2), (8, .one (.sl 2 1 0 l2.length)), (9, vi (IntKind.i64.wrap (x3 - (1 : Int))))]) [2,5,6,7,8,9] (by kernel_rfl)) (Sub.frame (fr' := [(2, .one (.pt 0 0 0 0)), (5, .one (.sl 1 1 0 l1.length)), (6, vi x1), (7, vi y2), (8, .one (.sl 2 1 0 (l2.set x3.toNat y1).length)), (9, vi (IntKind.i64.wrap (x3 - (1 : Int))))]) ⟨.rfl _, .rfl _, .rfl _, .rfl _, ALe.of_eq (show (.one (.sl 2 1 0 l2.length) : AV) = .one (.sl 2 1 0 (l2.set x3.toNat y1).length) from by simp), .rfl _, trivial⟩)) (ih2 (l2.set x3.toNat y1) y2 (IntKind.i64.wrap (x3 - (1 : Int))) h)
      ·exact zx 2 (hQ2 _ _ _ (hJ1 l2 x2 h _ _ (zk [2,5,6,7,8])))
    exact XR.sub (Sub.trans (Sub.pick (fr' := [(2, .one (.pt 0 0 0 0)), (5, .one (.sl 1 1 0 l1.length)), (6, vi x1), (7, vi (0 : Int)), (8, .one (.sl 2 1 0 ((z2.length : Int).toNat))), (9, vi (IntKind.i64.wrap ((z2.length : Int) - (1 : Int))))]) [2,5,6,7,8,9] (by kernel_rfl)) (Sub.frame (fr' := [(2, .one (.pt 0 0 0 0)), (5, .one (.sl 1 1 0 l1.length)), (6, vi x1), (7, vi (0 : Int)), (8, .one (.sl 2 1 0 (List.replicate (z2.length : Int).toNat (0 : Int)).length)), (9, vi (IntKind.i64.wrap ((z2.length : Int) - (1 : Int))))]) ⟨.rfl _, .rfl _, .rfl _, .rfl _, ALe.of_eq (show (.one (.sl 2 1 0 ((z2.length : Int).toNat)) : AV) = .one (.sl 2 1 0 (List.replicate (z2.length : Int).toNat (0 : Int)).length) from by simp), .rfl _, trivial⟩)) (hL2 BIG (List.replicate (z2.length : Int).toNat (0 : Int)) (0 : Int) (IntKind.i64.wrap ((z2.length : Int) - (1 : Int))) h)
   ·exact zx 0 (hQ1 _ _ _ (hJ2 l1 z1 z2 h _ _ (zk [5])))
 exact XR.sub (Sub.trans (Sub.pick (fr' := [(2, .one (.pt 0 0 0 0)), (5, .one (.sl 1 1 0 p2.toNat)), (6, vi (IntKind.i64.wrap (p2 - (1 : Int))))]) [2,5,6] (by kernel_rfl)) (Sub.frame (fr' := [(2, .one (.pt 0 0 0 0)), (5, .one (.sl 1 1 0 (List.replicate p2.toNat (0 : Int)).length)), (6, vi (IntKind.i64.wrap (p2 - (1 : Int))))]) ⟨.rfl _, ALe.of_eq (show (.one (.sl 1 1 0 p2.toNat) : AV) = .one (.sl 1 1 0 (List.replicate p2.toNat (0 : Int)).length) from by simp), .rfl _, trivial⟩)) (hL1 BIG (List.replicate p2.toNat (0 : Int)) p1.below p1.d (IntKind.i64.wrap (p2 - (1 : Int))) h)

def ref1_tens (p1 : RWide) (p2 : Int) : Option RWide :=
    ift ((p1.d.length : Int) == (0 : Int))
      (some p1)
      (grd (0 ≤ p2 ∧ p2 ≤ p2 ∧ p2 ≤ 4294967296) <|
       grd ((List.replicate p2.toNat (0 : Int)).length + p1.d.length ≤ 4294967296) <|
       some (RWide.mk p1.below ((List.replicate p2.toNat (0 : Int)) ++ p1.d)))

abbrev qa1494 (p1 : RWide) : List PV := [.s (.bool p1.below), .ro (eI.els p1.d)]

theorem c_ref1_tens (p1 : RWide) (p2 : Int) (r : RWide) (h : ref1_tens p1 p2 = some r) : PC Tryd.prog 35 [.ag [cb p1.below, cl eI p1.d], vi p2] (.ag [cb r.below, cl eI r.d]) := by
 unfold ref1_tens at h
 refine zF 18 Tryd.f35 (zq fun K1 hK1 => zr (zg [4] 2 [1,2,4] (zd (hK1 _ _ (zq fun K2 hK2 => zq fun K3 hK3 => ?_)))))
 refine zr (zv [4] 3 [1,2,4,7] [[.s (.bool p1.below), .ro (eI.els p1.d)]] [(1, vi p2), (2, .one (.pv (.rp [[.s (.bool p1.below), .ro (eI.els p1.d)]] 0 0))), (4, .one (.pt 0 0 0 0)), (7, vi ((eI.els p1.d).length : Int))] [.box [cb false, .pv (.s (.slice none 0 0))]] ?_)
 rw [eI.len p1.d]
 refine zg [4] 1 [1,2,4,8] (zd (hK3 _ _ (zC h (fun b4 h => ?_) (fun b4 h => ?_))))
 ·refine zq fun K5 hK5 => zr (zu [4] 2 [4] [(qa1494 p1)] (zd (hK5 _ _ (ze ?_))))
  obtain rfl := Option.some.inj h
  exact zf [.ag [cb p1.below, cl eI p1.d]] (.ag (.cons (.rfl _ rfl) (.cons (.rfl _ rfl) .nil)))
 ·refine zs (hK2 _ _ (zq fun K6 hK6 => ?_))
  obtain ⟨g8, h⟩ := zG h
  obtain ⟨g9, h⟩ := zG h
  refine XW.sub (Sub.dead 1) ?_
  refine XW.drwG 7 [1, 2] [([], []), ([], []), ([], []), ([1], [1]), ([], []), ([], []), ([1], [1])] [(16, .one (.sl 1 1 0 (((List.replicate p2.toNat (0 : Int)) ++ p1.d).length))), (15, vl eI p1.d), (14, .one (.pv (.rp [(qa1494 p1)] 0 1))), (13, .j), (12, vi p2), (11, vb p1.below), (10, .one (.pv (.rp [(qa1494 p1)] 0 0))), (1, vi p2), (2, .one (.pv (.rp [(qa1494 p1)] 0 0))), (4, .one (.pt 0 0 0 0)), (8, vb ((p1.d.length : Int) == (0 : Int)))] [.box [cb false, .pv (.s (.slice none 0 0))], .arr 1 (eI.els ((List.replicate p2.toNat (0 : Int)) ++ p1.d))] (by kernel_rfl) (by kernel_rfl) ?_ ?_
  ·refine zgv 3 [(qa1494 p1)] [(12, vi p2), (11, vb p1.below), (10, .one (.pv (.rp [(qa1494 p1)] 0 0))), (1, vi p2), (2, .one (.pv (.rp [(qa1494 p1)] 0 0))), (4, .one (.pt 0 0 0 0)), (8, vb ((p1.d.length : Int) == (0 : Int)))] ?_
   refine GY.new false 1 [] [(13, .one (.sl 1 1 0 p2.toNat)), (12, vi p2), (11, vb p1.below), (10, .one (.pv (.rp [[.s (.bool p1.below), .ro (eI.els p1.d)]] 0 0))), (1, vi p2), (2, .one (.pv (.rp [[.s (.bool p1.below), .ro (eI.els p1.d)]] 0 0))), (4, .one (.pt 0 0 0 0)), (8, vb ((p1.d.length : Int) == (0 : Int)))] [1] [.box [cb false, .pv (.s (.slice none 0 0))], .arr 1 (List.replicate p2.toNat [pi (0 : Int)])] [0 ≤ p2, p2 ≤ p2, p2 ≤ 4294967296] (by kernel_rfl) (by kernel_rfl) (⟨g8.1, g8.2.1, g8.2.2, trivial⟩) ?_
   rw [show List.replicate p2.toNat [pi (0 : Int)] = eI.els (List.replicate p2.toNat (0 : Int)) from eI.rep _ (0 : Int)]
   refine zgv 2 [(qa1494 p1)] [(15, vl eI p1.d), (14, .one (.pv (.rp [(qa1494 p1)] 0 1))), (13, .one (.sl 1 1 0 p2.toNat)), (12, vi p2), (11, vb p1.below), (10, .one (.pv (.rp [(qa1494 p1)] 0 0))), (1, vi p2), (2, .one (.pv (.rp [(qa1494 p1)] 0 0))), (4, .one (.pt 0 0 0 0)), (8, vb ((p1.d.length : Int) == (0 : Int)))] ?_
   refine GY.wr [] [(16, .one (.sl 1 1 0 (p2.toNat + (eI.els p1.d).length))), (15, vl eI p1.d), (14, .one (.pv (.rp [[.s (.bool p1.below), .ro (eI.els p1.d)]] 0 1))), (13, .j), (12, vi p2), (11, vb p1.below), (10, .one (.pv (.rp [[.s (.bool p1.below), .ro (eI.els p1.d)]] 0 0))), (1, vi p2), (2, .one (.pv (.rp [[.s (.bool p1.below), .ro (eI.els p1.d)]] 0 0))), (4, .one (.pt 0 0 0 0)), (8, vb ((p1.d.length : Int) == (0 : Int)))] [1] [.box [cb false, .pv (.s (.slice none 0 0))], .arr 1 (eI.els (List.replicate p2.toNat (0 : Int)) ++ eI.els p1.d)] [elemsOk 1 (eI.els p1.d), p2.toNat = (eI.els (List.replicate p2.toNat (0 : Int))).length, p2.toNat + (eI.els p1.d).length ≤ 4294967296] (by kernel_rfl) (by kernel_rfl) (⟨eI.ok _, (by simp [Enc.len]), (by simp [Enc.len] at * <;> omega), trivial⟩) ?_
   rw [show p2.toNat + (eI.els p1.d).length = ((List.replicate p2.toNat (0 : Int)) ++ p1.d).length from (by simp [Enc.len] <;> omega)]
   rw [show eI.els (List.replicate p2.toNat (0 : Int)) ++ eI.els p1.d = eI.els ((List.replicate p2.toNat (0 : Int)) ++ p1.d) from eI.app2 _ _]
   exact GY.done (by kernel_rfl) (by kernel_rfl)
  refine zv [4] 2 [4] [] [(4, .one (.pt 0 0 0 0))] [.box [cb p1.below, .sl 1 1 0 (((List.replicate p2.toNat (0 : Int)) ++ p1.d).length)], .arr 1 (eI.els ((List.replicate p2.toNat (0 : Int)) ++ p1.d))] (zd (hK6 _ _ (ze ?_)))
  obtain rfl := Option.some.inj h
  exact zf [.ag [cb p1.below, .sl 1 1 0 (((List.replicate p2.toNat (0 : Int)) ++ p1.d).length)]] (.ag (.cons (.rfl _ rfl) (.cons (cf_sl eI ((List.replicate p2.toNat (0 : Int)) ++ p1.d) rfl rfl rfl) .nil)))

def ref1_twelve (p1 : GValue) : Option RWide :=
    bnd (ref1_wideOf p1.n) fun r1 =>
    bnd (ref1_tens r1 (IntKind.i64.wrap ((12 : Int) - p1.scale))) fun r2 =>
    some r2

abbrev qa1505 (p1 : GValue) : List PV := [pi p1.kind, pi p1.n, pi p1.scale, .s (.string p1.s), .ro (eValue.els p1.items)]

theorem c_ref1_twelve (p1 : GValue) (r : RWide) (h : ref1_twelve p1 = some r) : PC Tryd.prog 93 [.ag [ci p1.kind, ci p1.n, ci p1.scale, cst p1.s, cl eValue p1.items]] (.ag [cb r.below, cl eI r.d]) := by
 unfold ref1_twelve at h
 refine zF 10 Tryd.f93 (zq fun K1 hK1 => zr (zg [2] 2 [1,2] (zd (hK1 _ _ (zq fun K2 hK2 => ?_)))))
 obtain ⟨r1, c3, h⟩ := zB h
 obtain ⟨r2, c4, h⟩ := zB h
 refine zw 6 [(8, vi (IntKind.i64.wrap ((12 : Int) - p1.scale))), (7, vi p1.scale), (6, .one (.pv (.rp [(qa1505 p1)] 0 2))), (5, .ag [cb r1.below, cl eI r1.d]), (4, vi p1.n), (3, .one (.pv (.rp [(qa1505 p1)] 0 1))), (1, .one (.pv (.rp [(qa1505 p1)] 0 0))), (2, .one (.pt 0 0 0 0))] ?_ ?_
 ·refine zyu 2 [(qa1505 p1)] (DX.cal 36 [vi p1.n] (.ag [cb r1.below, cl eI r1.d]) [(5, .ag [cb r1.below, cl eI r1.d]), (4, vi p1.n), (3, .one (.pv (.rp [(qa1505 p1)] 0 1))), (1, .one (.pv (.rp [(qa1505 p1)] 0 0))), (2, .one (.pt 0 0 0 0))] (by kernel_rfl) (c_ref1_wideOf _ _ c3) rfl rfl (by kernel_rfl) ?_)
  exact zyu 3 [(qa1505 p1)] zyd
 refine za (c_ref1_tens _ _ _ c4) (zv [2] 1 [2] [] [(2, .one (.pt 0 0 0 0))] [.box [cb r2.below, cl eI r2.d]] (zd (hK2 _ _ (ze ?_))))
 obtain rfl := Option.some.inj h
 exact zf [.ag [cb r2.below, cl eI r2.d]] (.ag (.cons (.rfl _ rfl) (.cons (.rfl _ rfl) .nil)))

def ref1_key_j3 (l3 : List Int) : Option (List Int) :=
    some l3

def ref1_key_j2 (l2 : List Int) : Option (List Int) :=
    grd (l2.length + 1 ≤ 4294967296) <|
    ref1_key_j3 (l2 ++ [(0 : Int)])

def ref1_key_l1 (q_ref1_key : GValue → Option (List Int)) (p1 : GValue) : Nat → List Int → Int → Option (List Int)
  | 0, _, _ => none
  | k1 + 1, l1, x2 =>
    ift (decide (x2 < (p1.items.length : Int)))
      (grd (l1.length + 1 ≤ 4294967296) <|
       bnd (at? p1.items x2) fun e1 =>
       bnd (q_ref1_key e1) fun r9 =>
       grd ((l1 ++ [(1 : Int)]).length + r9.length ≤ 4294967296) <|
       (ref1_key_l1 q_ref1_key p1 k1) ((l1 ++ [(1 : Int)]) ++ r9) (IntKind.i64.wrap (x2 + (1 : Int))))
      (ref1_key_j2 l1)

def ref1_key_j1 (q_ref1_key : GValue → Option (List Int)) (p1 : GValue) (x1 : Bool) : Option (List Int) :=
    ift x1
      (bnd (ref1_wideOf p1.n) fun r1 =>
       bnd (ref1_half (8 : Int)) fun r2 =>
       bnd (ref1_addWide r1 r2) fun r3 =>
       bnd (ref1_fixed r3 (8 : Int)) fun r4 =>
       grd ([(IntKind.u8.wrap p1.kind)].length + r4.length ≤ 4294967296) <|
       ref1_key_j3 ([(IntKind.u8.wrap p1.kind)] ++ r4))
      (ift (p1.kind == (3 : Int))
         (bnd (ref1_twelve p1) fun r5 =>
          bnd (ref1_half (16 : Int)) fun r6 =>
          bnd (ref1_addWide r5 r6) fun r7 =>
          bnd (ref1_fixed r7 (16 : Int)) fun r8 =>
          grd ([(IntKind.u8.wrap p1.kind)].length + r8.length ≤ 4294967296) <|
          grd (([(IntKind.u8.wrap p1.kind)] ++ r8).length + 1 ≤ 4294967296) <|
          ref1_key_j3 (([(IntKind.u8.wrap p1.kind)] ++ r8) ++ [(IntKind.u8.wrap p1.scale)]))
         (ift (p1.kind == (4 : Int))
            (grd ([(IntKind.u8.wrap p1.kind)].length + (bytesL p1.s).length ≤ 4294967296) <|
             grd (([(IntKind.u8.wrap p1.kind)] ++ (bytesL p1.s)).length + 1 ≤ 4294967296) <|
             ref1_key_j3 (([(IntKind.u8.wrap p1.kind)] ++ (bytesL p1.s)) ++ [(0 : Int)]))
            (ref1_key_l1 q_ref1_key p1 BIG [(IntKind.u8.wrap p1.kind)] (0 : Int))))

def ref1_key : Nat → GValue → Option (List Int)
  | 0, _ => none
  | k0 + 1, p1 =>
    ift (p1.kind == (0 : Int))
      (some [(8 : Int)])
      (ift (p1.kind == (1 : Int))
         (grd ([(IntKind.u8.wrap p1.kind)].length + 1 ≤ 4294967296) <|
          ref1_key_j3 ([(IntKind.u8.wrap p1.kind)] ++ [(IntKind.u8.wrap p1.n)]))
         (ift (p1.kind == (2 : Int))
            (ref1_key_j1 (ref1_key k0) p1 (p1.kind == (2 : Int)))
            (ref1_key_j1 (ref1_key k0) p1 (p1.kind == (5 : Int)))))

abbrev qa1512 (p1 : GValue) : List CV := [ci p1.kind, ci p1.n, ci p1.scale, cst p1.s, cl eValue p1.items]
abbrev qa1513 (p1 : GValue) : List PV := [pi p1.kind, pi p1.n, pi p1.scale, .s (.string p1.s), .ro (eValue.els p1.items)]
abbrev qa1517 (p1 : GValue) : St := [.arr 1 ((eK .u8).els [(IntKind.u8.wrap p1.kind)])]

theorem c_ref1_key : ∀ (k0 : Nat) (p1 : GValue) (r : (List Int)), ref1_key k0 p1 = some r → PC Tryd.prog 86 [.ag (qa1512 p1)] (vl (eK .u8) r)
 | 0, _, r, h => by rw [ref1_key.eq_1] at h; cases h
 | k0 + 1, p1, r, h => by
  rw [ref1_key.eq_2] at h
  refine zF 80 Tryd.f86 (zq fun K1 hK1 => zr (zg [12] 2 [1] (zd (hK1 _ _ (zq fun K2 hK2 => zq fun K3 hK3 => ?_)))))
  refine zr (zu [12] 3 [1,7] [(qa1513 p1)] (zd (hK3 _ _ (zC h (fun b4 h => ?_) (fun b4 h => ?_)))))
  ·refine zq fun K5 hK5 => zr (zv [12] 2 [2] [] [(2, vl (eK .u8) [(8 : Int)])] [] (zd (hK5 _ _ (ze ?_))))
   obtain rfl := Option.some.inj h
   exact zf [vl (eK .u8) [(8 : Int)]] (.one (.rfl _ rfl))
  ·refine zs (hK2 _ _ (zq fun K6 hK6 => zr (zu [12] 5 [1,3] [(qa1513 p1)] (zd (hK6 _ _ (zq fun K7 hK7 => ?_))))))
   have hJ3 : ∀ (l3 : List Int), ref1_key_j3 l3 = some r → ∀ fr1 st1, Sub 80 0 [] fr1 st1 [(3, .one (.sl 0 1 0 l3.length))] [.arr 1 ((eK .u8).els l3)] → K7 fr1 st1 := by
    intro l3 h fr1 st1 hS
    unfold ref1_key_j3 at h
    refine hK7 _ _ (XW.sub hS ?_)
    refine zq fun K48 hK48 => zr (zg [12] 2 [2] (zd (hK48 _ _ (ze ?_))))
    obtain rfl := Option.some.inj h
    exact zf [.one (.sl 0 1 0 l3.length)] (.one (cf_sl (eK .u8) l3 rfl rfl rfl))
   refine zq fun K8 hK8 => zr (zu [12] 2 [1,3,14] [(qa1513 p1)] (zd (hK8 _ _ (zb 0 (zq fun K9 hK9 => zr ?_)))))
   refine zv [12] 2 [1,3,14,36] [] [(1, .one (.pv (.rp [(qa1513 p1)] 0 0))), (3, .one (.sl 0 1 0 1)), (14, vi p1.kind), (36, vb (p1.kind == (1 : Int)))] (qa1517 p1) (zd (hK9 _ _ (zC h (fun b10 h => ?_) (fun b10 h => ?_))))
   ·obtain ⟨g11, h⟩ := zG h
    refine zr ?_
    refine zp [12] 6 [43] [[pi p1.kind, pi p1.n, pi p1.scale, .s (.string p1.s), .ro (eValue.els p1.items)]] [(43, .one (.sl 0 1 0 (1 + ((eK .u8).els [(IntKind.u8.wrap p1.n)]).length)))] [.arr 1 ((eK .u8).els [(IntKind.u8.wrap p1.kind)] ++ (eK .u8).els [(IntKind.u8.wrap p1.n)])] [([[pi p1.kind, pi p1.n, pi p1.scale, .s (.string p1.s), .ro (eValue.els p1.items)]] : List (List PV))[0]? = some [pi p1.kind, pi p1.n, pi p1.scale, .s (.string p1.s), .ro (eValue.els p1.items)], elemsOk 1 ((eK .u8).els [(IntKind.u8.wrap p1.n)]), 1 = ((eK .u8).els [(IntKind.u8.wrap p1.kind)]).length, 1 + ((eK .u8).els [(IntKind.u8.wrap p1.n)]).length ≤ 4294967296] (⟨rfl, (eK .u8).ok _, (by simp [Enc.len]), (by simp [Enc.len] at * <;> omega), trivial⟩) ?_
    rw [show 1 + ((eK .u8).els [(IntKind.u8.wrap p1.n)]).length = ([(IntKind.u8.wrap p1.kind)] ++ [(IntKind.u8.wrap p1.n)]).length from (by simp [Enc.len] <;> omega)]
    rw [show (eK .u8).els [(IntKind.u8.wrap p1.kind)] ++ (eK .u8).els [(IntKind.u8.wrap p1.n)] = (eK .u8).els ([(IntKind.u8.wrap p1.kind)] ++ [(IntKind.u8.wrap p1.n)]) from (eK .u8).app2 _ _]
    exact zg [12] 1 [3] (zd (hJ3 ([(IntKind.u8.wrap p1.kind)] ++ [(IntKind.u8.wrap p1.n)]) h _ _ (zk [3])))
   ·refine zq fun K12 hK12 => ?_
    have hJ1 : ∀ (x1 : Bool), ref1_key_j1 (ref1_key k0) p1 x1 = some r → ∀ fr1 st1, Sub 80 0 [] fr1 st1 [(1, .one (.pv (.rp [(qa1513 p1)] 0 0))), (3, .one (.sl 0 1 0 1)), (14, vi p1.kind), (44, vb x1)] (qa1517 p1) → K12 fr1 st1 := by
     intro x1 h fr1 st1 hS
     unfold ref1_key_j1 at h
     refine hK12 _ _ (XW.sub hS ?_)
     refine zC h (fun b15 h => ?_) (fun b15 h => ?_)
     ·obtain ⟨r1, c16, h⟩ := zB h
      obtain ⟨r2, c17, h⟩ := zB h
      obtain ⟨r3, c18, h⟩ := zB h
      obtain ⟨r4, c19, h⟩ := zB h
      obtain ⟨g20, h⟩ := zG h
      refine zr (zu [12] 3 [47,49] [(qa1513 p1)] (za (c_ref1_wideOf _ _ c16) (zl 92 [vi (8 : Int)] (.ag [cb r2.below, cl eI r2.d]) [(51, .ag [cb r2.below, cl eI r2.d]), (50, .ag [cb r1.below, cl eI r1.d]), (47, .one (.sl 0 1 0 1)), (49, vi p1.n)] (c_ref1_half _ _ c17) (za (c_ref1_addWide _ _ _ c18) (za (c_ref1_fixed _ _ _ c19) ?_)))))
      refine zp [12] 1 [54] [] [(54, .one (.sl 0 1 0 (1 + ((eK .u8).els r4).length)))] [.arr 1 ((eK .u8).els [(IntKind.u8.wrap p1.kind)] ++ (eK .u8).els r4)] [elemsOk 1 ((eK .u8).els r4), 1 = ((eK .u8).els [(IntKind.u8.wrap p1.kind)]).length, 1 + ((eK .u8).els r4).length ≤ 4294967296] (⟨(eK .u8).ok _, (by simp [Enc.len]), (by simp [Enc.len] at * <;> omega), trivial⟩) ?_
      rw [show 1 + ((eK .u8).els r4).length = ([(IntKind.u8.wrap p1.kind)] ++ r4).length from (by simp [Enc.len] <;> omega)]
      rw [show (eK .u8).els [(IntKind.u8.wrap p1.kind)] ++ (eK .u8).els r4 = (eK .u8).els ([(IntKind.u8.wrap p1.kind)] ++ r4) from (eK .u8).app2 _ _]
      exact zg [12] 1 [3] (zd (hJ3 ([(IntKind.u8.wrap p1.kind)] ++ r4) h _ _ (zk [3])))
     ·refine zq fun K21 hK21 => zr (zg [12] 2 [1,3,14,55] (zd (hK21 _ _ (zC h (fun b22 h => ?_) (fun b22 h => ?_)))))
      ·refine zq fun K23 hK23 => ?_
       obtain ⟨r5, c24, h⟩ := zB h
       obtain ⟨r6, c25, h⟩ := zB h
       obtain ⟨r7, c26, h⟩ := zB h
       obtain ⟨r8, c27, h⟩ := zB h
       obtain ⟨g28, h⟩ := zG h
       refine zr (zv [12] 2 [1,57,58] [(qa1513 p1)] [(1, .one (.pv (.rp [(qa1513 p1)] 0 0))), (57, .one (.sl 0 1 0 1)), (58, .ag (qa1512 p1))] (qa1517 p1) (za (c_ref1_twelve _ _ c24) (za (c_ref1_half _ _ c25) ?_)))
       refine zl 53 [.ag [cb r5.below, cl eI r5.d], .ag [cb r6.below, cl eI r6.d]] (.ag [cb r7.below, cl eI r7.d]) [(61, .ag [cb r7.below, cl eI r7.d]), (60, .ag [cb r6.below, cl eI r6.d]), (59, .ag [cb r5.below, cl eI r5.d]), (1, .one (.pv (.rp [(qa1513 p1)] 0 0))), (57, .one (.sl 0 1 0 1)), (58, .ag (qa1512 p1))] (c_ref1_addWide _ _ _ c26) (za (c_ref1_fixed _ _ _ c27) ?_)
       refine zp [12] 1 [1,63] [] [(1, .one (.pv (.rp [[pi p1.kind, pi p1.n, pi p1.scale, .s (.string p1.s), .ro (eValue.els p1.items)]] 0 0))), (63, .one (.sl 0 1 0 (1 + ((eK .u8).els r8).length)))] [.arr 1 ((eK .u8).els [(IntKind.u8.wrap p1.kind)] ++ (eK .u8).els r8)] [elemsOk 1 ((eK .u8).els r8), 1 = ((eK .u8).els [(IntKind.u8.wrap p1.kind)]).length, 1 + ((eK .u8).els r8).length ≤ 4294967296] (⟨(eK .u8).ok _, (by simp [Enc.len]), (by simp [Enc.len] at * <;> omega), trivial⟩) ?_
       rw [show 1 + ((eK .u8).els r8).length = ([(IntKind.u8.wrap p1.kind)] ++ r8).length from (by simp [Enc.len] <;> omega)]
       rw [show (eK .u8).els [(IntKind.u8.wrap p1.kind)] ++ (eK .u8).els r8 = (eK .u8).els ([(IntKind.u8.wrap p1.kind)] ++ r8) from (eK .u8).app2 _ _]
       refine zg [12] 1 [1,3] (zd (hK23 _ _ ?_))
       obtain ⟨g29, h⟩ := zG h
       refine zr ?_
       refine zp [12] 6 [69] [[pi p1.kind, pi p1.n, pi p1.scale, .s (.string p1.s), .ro (eValue.els p1.items)]] [(69, .one (.sl 0 1 0 (([(IntKind.u8.wrap p1.kind)] ++ r8).length + ((eK .u8).els [(IntKind.u8.wrap p1.scale)]).length)))] [.arr 1 ((eK .u8).els ([(IntKind.u8.wrap p1.kind)] ++ r8) ++ (eK .u8).els [(IntKind.u8.wrap p1.scale)])] [([[pi p1.kind, pi p1.n, pi p1.scale, .s (.string p1.s), .ro (eValue.els p1.items)]] : List (List PV))[0]? = some [pi p1.kind, pi p1.n, pi p1.scale, .s (.string p1.s), .ro (eValue.els p1.items)], elemsOk 1 ((eK .u8).els [(IntKind.u8.wrap p1.scale)]), ([(IntKind.u8.wrap p1.kind)] ++ r8).length = ((eK .u8).els ([(IntKind.u8.wrap p1.kind)] ++ r8)).length, ([(IntKind.u8.wrap p1.kind)] ++ r8).length + ((eK .u8).els [(IntKind.u8.wrap p1.scale)]).length ≤ 4294967296] (⟨rfl, (eK .u8).ok _, ((eK .u8).len ([(IntKind.u8.wrap p1.kind)] ++ r8)).symm, g29, trivial⟩) ?_
       rw [show ([(IntKind.u8.wrap p1.kind)] ++ r8).length + ((eK .u8).els [(IntKind.u8.wrap p1.scale)]).length = (([(IntKind.u8.wrap p1.kind)] ++ r8) ++ [(IntKind.u8.wrap p1.scale)]).length from (eK .u8).lapp _ _]
       rw [show (eK .u8).els ([(IntKind.u8.wrap p1.kind)] ++ r8) ++ (eK .u8).els [(IntKind.u8.wrap p1.scale)] = (eK .u8).els (([(IntKind.u8.wrap p1.kind)] ++ r8) ++ [(IntKind.u8.wrap p1.scale)]) from (eK .u8).app2 _ _]
       exact zg [12] 1 [3] (zd (hJ3 (([(IntKind.u8.wrap p1.kind)] ++ r8) ++ [(IntKind.u8.wrap p1.scale)]) h _ _ (zk [3])))
      ·refine zq fun K30 hK30 => zr (zg [12] 2 [1,3,70] (zd (hK30 _ _ (zC h (fun b31 h => ?_) (fun b31 h => ?_)))))
       ·refine zq fun K32 hK32 => ?_
        obtain ⟨g33, h⟩ := zG h
        refine zr ?_
        refine zp [12] 4 [75] [[pi p1.kind, pi p1.n, pi p1.scale, .s (.string p1.s), .ro (eValue.els p1.items)]] [(75, .one (.sl 0 1 0 (1 + (byteEls p1.s).length)))] [.arr 1 ((eK .u8).els [(IntKind.u8.wrap p1.kind)] ++ byteEls p1.s)] [([[pi p1.kind, pi p1.n, pi p1.scale, .s (.string p1.s), .ro (eValue.els p1.items)]] : List (List PV))[0]? = some [pi p1.kind, pi p1.n, pi p1.scale, .s (.string p1.s), .ro (eValue.els p1.items)], elemsOk 1 (byteEls p1.s), 1 = ((eK .u8).els [(IntKind.u8.wrap p1.kind)]).length, 1 + (byteEls p1.s).length ≤ 4294967296] (⟨rfl, byteEls_ok _, (by simp [Enc.len]), (by simp [Enc.len, byteEls_len] at * <;> omega), trivial⟩) ?_
        rw [show 1 + (byteEls p1.s).length = ([(IntKind.u8.wrap p1.kind)] ++ (bytesL p1.s)).length from (by simp [byteEls_len] <;> omega)]
        rw [show (eK .u8).els [(IntKind.u8.wrap p1.kind)] ++ byteEls p1.s = (eK .u8).els ([(IntKind.u8.wrap p1.kind)] ++ (bytesL p1.s)) from byteEls_app _ _]
        refine zg [12] 1 [3] (zd (hK32 _ _ ?_))
        obtain ⟨g34, h⟩ := zG h
        refine zr ?_
        refine zp [12] 3 [78] [] [(78, .one (.sl 0 1 0 (([(IntKind.u8.wrap p1.kind)] ++ (bytesL p1.s)).length + ((eK .u8).els [(0 : Int)]).length)))] [.arr 1 ((eK .u8).els ([(IntKind.u8.wrap p1.kind)] ++ (bytesL p1.s)) ++ (eK .u8).els [(0 : Int)])] [elemsOk 1 ((eK .u8).els [(0 : Int)]), ([(IntKind.u8.wrap p1.kind)] ++ (bytesL p1.s)).length = ((eK .u8).els ([(IntKind.u8.wrap p1.kind)] ++ (bytesL p1.s))).length, ([(IntKind.u8.wrap p1.kind)] ++ (bytesL p1.s)).length + ((eK .u8).els [(0 : Int)]).length ≤ 4294967296] (⟨(eK .u8).ok _, ((eK .u8).len ([(IntKind.u8.wrap p1.kind)] ++ (bytesL p1.s))).symm, g34, trivial⟩) ?_
        rw [show ([(IntKind.u8.wrap p1.kind)] ++ (bytesL p1.s)).length + ((eK .u8).els [(0 : Int)]).length = (([(IntKind.u8.wrap p1.kind)] ++ (bytesL p1.s)) ++ [(0 : Int)]).length from (eK .u8).lapp _ _]
        rw [show (eK .u8).els ([(IntKind.u8.wrap p1.kind)] ++ (bytesL p1.s)) ++ (eK .u8).els [(0 : Int)] = (eK .u8).els (([(IntKind.u8.wrap p1.kind)] ++ (bytesL p1.s)) ++ [(0 : Int)]) from (eK .u8).app2 _ _]
        exact zg [12] 1 [3] (zd (hJ3 (([(IntKind.u8.wrap p1.kind)] ++ (bytesL p1.s)) ++ [(0 : Int)]) h _ _ (zk [3])))
       ·refine zq fun K35 hK35 => ?_
        have hJ2 : ∀ (l2 : List Int), ref1_key_j2 l2 = some r → ∀ fr1 st1, Sub 80 0 [] fr1 st1 [(3, .one (.sl 0 1 0 l2.length))] [.arr 1 ((eK .u8).els l2)] → K35 fr1 st1 := by
         intro l2 h fr1 st1 hS
         unfold ref1_key_j2 at h
         refine hK35 _ _ (XW.sub hS ?_)
         obtain ⟨g47, h⟩ := zG h
         refine zr (zp [12] 3 [35] [] [(35, .one (.sl 0 1 0 (l2.length + ((eK .u8).els [(0 : Int)]).length)))] [.arr 1 ((eK .u8).els l2 ++ (eK .u8).els [(0 : Int)])] [elemsOk 1 ((eK .u8).els [(0 : Int)]), l2.length = ((eK .u8).els l2).length, l2.length + ((eK .u8).els [(0 : Int)]).length ≤ 4294967296] (⟨(eK .u8).ok _, ((eK .u8).len l2).symm, g47, trivial⟩) ?_)
         rw [show l2.length + ((eK .u8).els [(0 : Int)]).length = (l2 ++ [(0 : Int)]).length from (eK .u8).lapp _ _]
         rw [show (eK .u8).els l2 ++ (eK .u8).els [(0 : Int)] = (eK .u8).els (l2 ++ [(0 : Int)]) from (eK .u8).app2 _ _]
         exact zg [12] 1 [3] (zd (hJ3 (l2 ++ [(0 : Int)]) h _ _ (zk [3])))
        refine zq fun K36 hK36 => zr (zv [12] 3 [1,3,17] [[pi p1.kind, pi p1.n, pi p1.scale, .s (.string p1.s), .ro (eValue.els p1.items)]] [(1, .one (.pv (.rp [[pi p1.kind, pi p1.n, pi p1.scale, .s (.string p1.s), .ro (eValue.els p1.items)]] 0 0))), (3, .one (.sl 0 1 0 1)), (17, vi ((eValue.els p1.items).length : Int))] [.arr 1 ((eK .u8).els [(IntKind.u8.wrap p1.kind)])] ?_)
        rw [eValue.len p1.items]
        refine zg [12] 1 [1,3,17,18] (zd (hK36 _ _ (zb 1 (XW.rounds' BIG (x := cd Tryd.f86 [1,1,1,0,1,0,1,1,1,1,1,1,1,1,0,1,0,0]) (by kernel_rfl) fun Q1 hQ1 => ?_))))
        have hL1 : ∀ (k1 : Nat) (l1 : List Int) (x2 : Int), ref1_key_l1 (ref1_key k0) p1 k1 l1 x2 = some r → XR Tryd.prog 80 0 [] (cd Tryd.f86 [1,1,1,0,1,0,1,1,1,1,1,1,1,1,0,1,0,0]) Q1 k1 [(1, .one (.pv (.rp [(qa1513 p1)] 0 0))), (3, .one (.sl 0 1 0 l1.length)), (17, vi (p1.items.length : Int)), (18, vi x2)] [.arr 1 ((eK .u8).els l1)] := by
         intro k1
         induction k1 with
         | zero => intro l1 x2 h; rw [ref1_key_l1.eq_1] at h; cases h
         | succ k1 ih1 =>
          intro l1 x2 h
          rw [ref1_key_l1.eq_2] at h
          refine zq fun K37 hK37 => zr (zg [12] 1 [1,3,17,18,19] (zd (hK37 _ _ (zq fun K38 hK38 => zC h (fun b39 h => ?_) (fun b39 h => ?_)))))
          ·refine zs (hK38 _ _ (zq fun K40 hK40 => zb 2 (zq fun K41 hK41 => zr (zg [12] 2 [1,3,4,17,18] (zd ?_)))))
           refine hK41 _ _ (zq fun K42 hK42 => ?_)
           obtain ⟨g43, h⟩ := zG h
           refine zr (zp [12] 3 [1,4,17,18,23] [] [(1, .one (.pv (.rp [[pi p1.kind, pi p1.n, pi p1.scale, .s (.string p1.s), .ro (eValue.els p1.items)]] 0 0))), (4, vi x2), (17, vi (p1.items.length : Int)), (18, vi x2), (23, .one (.sl 0 1 0 (l1.length + ((eK .u8).els [(1 : Int)]).length)))] [.arr 1 ((eK .u8).els l1 ++ (eK .u8).els [(1 : Int)])] [elemsOk 1 ((eK .u8).els [(1 : Int)]), l1.length = ((eK .u8).els l1).length, l1.length + ((eK .u8).els [(1 : Int)]).length ≤ 4294967296] (⟨(eK .u8).ok _, ((eK .u8).len l1).symm, g43, trivial⟩) ?_)
           rw [show l1.length + ((eK .u8).els [(1 : Int)]).length = (l1 ++ [(1 : Int)]).length from (eK .u8).lapp _ _]
           rw [show (eK .u8).els l1 ++ (eK .u8).els [(1 : Int)] = (eK .u8).els (l1 ++ [(1 : Int)]) from (eK .u8).app2 _ _]
           refine zg [12] 1 [1,3,4,17,18] (zd (hK42 _ _ ?_))
           obtain ⟨e1, a44, h⟩ := zB h
           obtain ⟨r9, c45, h⟩ := zB h
           obtain ⟨g46, h⟩ := zG h
           refine zr ?_
           refine zo [12] 6 [1,17,18,24,29] [(qa1513 p1), [pi e1.kind, pi e1.n, pi e1.scale, .s (.string e1.s), .ro (eValue.els e1.items)]] [([(qa1513 p1)] : List (List PV))[0]? = some (qa1513 p1), 0 ≤ x2 ∧ x2 < ((eValue.els p1.items).length : Int) ∧ elemsOk 5 (eValue.els p1.items), (eValue.els p1.items)[x2.toNat]? = some [pi e1.kind, pi e1.n, pi e1.scale, .s (.string e1.s), .ro (eValue.els e1.items)]] (⟨rfl, eValue.inb a44, ((eValue.get a44).trans (by cases e1; rfl)), trivial⟩) ?_
           refine zl 86 [.ag [ci e1.kind, ci e1.n, ci e1.scale, cst e1.s, cl eValue e1.items]] (vl (eK .u8) r9) [(30, vl (eK .u8) r9), (1, .one (.pv (.rp [(qa1513 p1)] 0 0))), (17, vi (p1.items.length : Int)), (18, vi x2), (24, .one (.sl 0 1 0 ((l1 ++ [(1 : Int)]).length))), (29, .ag [ci e1.kind, ci e1.n, ci e1.scale, cst e1.s, cl eValue e1.items])] (c_ref1_key k0 _ _ c45) ?_
           refine zp [12] 1 [1,17,18,31] [] [(1, .one (.pv (.rp [[pi p1.kind, pi p1.n, pi p1.scale, .s (.string p1.s), .ro (eValue.els p1.items)]] 0 0))), (17, vi (p1.items.length : Int)), (18, vi x2), (31, .one (.sl 0 1 0 ((l1 ++ [(1 : Int)]).length + ((eK .u8).els r9).length)))] [.arr 1 ((eK .u8).els (l1 ++ [(1 : Int)]) ++ (eK .u8).els r9)] [elemsOk 1 ((eK .u8).els r9), (l1 ++ [(1 : Int)]).length = ((eK .u8).els (l1 ++ [(1 : Int)])).length, (l1 ++ [(1 : Int)]).length + ((eK .u8).els r9).length ≤ 4294967296] (⟨(eK .u8).ok _, ((eK .u8).len (l1 ++ [(1 : Int)])).symm, (by rw [(eK .u8).len]; exact g46), trivial⟩) ?_
           rw [show (l1 ++ [(1 : Int)]).length + ((eK .u8).els r9).length = ((l1 ++ [(1 : Int)]) ++ r9).length from (eK .u8).lapp _ _]
           rw [show (eK .u8).els (l1 ++ [(1 : Int)]) ++ (eK .u8).els r9 = (eK .u8).els ((l1 ++ [(1 : Int)]) ++ r9) from (eK .u8).app2 _ _]
           exact zg [12] 1 [1,3,17,18] (zd (hK40 _ _ (zr (zg [12] 2 [1,3,17,18] (zd (XR.sub (zk [1,3,17,18]) (ih1 ((l1 ++ [(1 : Int)]) ++ r9) (IntKind.i64.wrap (x2 + (1 : Int))) h)))))))
          ·exact zx 1 (hQ1 _ _ _ (hJ2 l1 h _ _ (zk [3])))
        exact XR.sub (zk [1,3,17,18]) (hL1 BIG [(IntKind.u8.wrap p1.kind)] (0 : Int) h)
    refine zq fun K13 hK13 => zr (zg [12] 2 [1,3,14,44] (zd (hK13 _ _ (zC h (fun b14 h => ?_) (fun b14 h => ?_)))))
    ·exact zs (hJ1 (p1.kind == (2 : Int)) h _ _ (zk [1,3,14,44]))
    ·exact zr (zv [12] 2 [1,3,14,44] [] [(1, .one (.pv (.rp [(qa1513 p1)] 0 0))), (3, .one (.sl 0 1 0 1)), (14, vi p1.kind), (44, vb (p1.kind == (5 : Int)))] (qa1517 p1) (zd (hJ1 (p1.kind == (5 : Int)) h _ _ (zk [1,3,14,44]))))

def ref1_Key_j1 (l2 : List Int) : Option (List Int) :=
    some l2

def ref1_Key_l1 (p1 : (List GValue)) : Nat → List Int → Int → Option (List Int)
  | 0, _, _ => none
  | k1 + 1, l1, x1 =>
    ift (decide (x1 < (p1.length : Int)))
      (bnd (at? p1 x1) fun e1 =>
       bnd (ref1_Sound e1) fun r1 =>
       ift (!r1)
         (some [])
         (bnd (ref1_key BIG e1) fun r2 =>
          grd (l1.length + r2.length ≤ 4294967296) <|
          (ref1_Key_l1 p1 k1) (l1 ++ r2) (IntKind.i64.wrap (x1 + (1 : Int)))))
      (ref1_Key_j1 l1)

def ref1_Key (p1 : (List GValue)) : Option (List Int) :=
    ref1_Key_l1 p1 BIG [] (0 : Int)

abbrev qa1540 (e1 : GValue) : List PV := [pi e1.kind, pi e1.n, pi e1.scale, .s (.string e1.s), .ro (eValue.els e1.items)]

theorem c_ref1_Key (p1 : (List GValue)) (r : (List Int)) (h : ref1_Key p1 = some r) : PC Tryd.prog 77 [vl eValue p1] (vl (eK .u8) r) := by
 unfold ref1_Key at h
 refine zF 25 Tryd.f77 (zq fun K1 hK1 => zr (zg [] 1 [0] (zd (hK1 _ _ (zq fun K2 hK2 => zr ?_)))))
 refine zg [] 1 [0,3] (zd (hK2 _ _ (zq fun K3 hK3 => ?_)))
 have hJ1 : ∀ (l2 : List Int), ref1_Key_j1 l2 = some r → ∀ fr1 st1, Sub 25 0 [] fr1 st1 [(3, .one (.sl 0 1 0 l2.length))] [.arr 1 ((eK .u8).els l2)] → K3 fr1 st1 := by
  intro l2 h fr1 st1 hS
  unfold ref1_Key_j1 at h
  refine hK3 _ _ (XW.sub hS ?_)
  refine zq fun K18 hK18 => zr (zg [] 2 [2] (zd (hK18 _ _ (ze ?_))))
  obtain rfl := Option.some.inj h
  exact zf [.one (.sl 0 1 0 l2.length)] (.one (cf_sl (eK .u8) l2 rfl rfl rfl))
 refine zq fun K4 hK4 => zr (zv [] 2 [0,3,6] [] [(0, vl eValue p1), (3, .one (.pv (.s (.slice none 0 0)))), (6, vi ((eValue.els p1).length : Int))] [] ?_)
 rw [eValue.len p1]
 refine zv [] 1 [0,3,6,7] [] [(0, vl eValue p1), (3, .one (.pv (.s (.slice none 0 0)))), (6, vi (p1.length : Int)), (7, vi (0 : Int))] [] (zd (hK4 _ _ (zb 0 (XW.sub (Sub.list (t := 3) (sz := 1) rfl) (XW.rounds' BIG (x := cd Tryd.f77 [1,1,0,1,0,0]) (by kernel_rfl) fun Q1 hQ1 => ?_)))))
 have hL1 : ∀ (k1 : Nat) (l1 : List Int) (x1 : Int), ref1_Key_l1 p1 k1 l1 x1 = some r → XR Tryd.prog 25 0 [] (cd Tryd.f77 [1,1,0,1,0,0]) Q1 k1 [(0, vl eValue p1), (3, .one (.sl 0 1 0 l1.length)), (6, vi (p1.length : Int)), (7, vi x1)] [.arr 1 ((eK .u8).els l1)] := by
  intro k1
  induction k1 with
  | zero => intro l1 x1 h; rw [ref1_Key_l1.eq_1] at h; cases h
  | succ k1 ih1 =>
   intro l1 x1 h
   rw [ref1_Key_l1.eq_2] at h
   refine zq fun K5 hK5 => zr (zg [] 1 [0,3,6,7,8] (zd (hK5 _ _ (zq fun K6 hK6 => zC h (fun b7 h => ?_) (fun b7 h => ?_)))))
   ·refine zs (hK6 _ _ (zq fun K8 hK8 => zb 1 (zq fun K9 hK9 => zr (zg [] 2 [0,3,4,6,7] (zd ?_)))))
    refine hK9 _ _ (zq fun K10 hK10 => zq fun K11 hK11 => ?_)
    obtain ⟨e1, a12, h⟩ := zB h
    obtain ⟨r1, c13, h⟩ := zB h
    refine zr (zp [] 4 [0,3,4,6,7,13] [(qa1540 e1)] [(0, vl eValue p1), (3, .one (.sl 0 1 0 l1.length)), (4, vi x1), (6, vi (p1.length : Int)), (7, vi x1), (13, .ag [ci e1.kind, ci e1.n, ci e1.scale, cst e1.s, cl eValue e1.items])] [.arr 1 ((eK .u8).els l1)] [0 ≤ x1 ∧ x1 < ((eValue.els p1).length : Int) ∧ elemsOk 5 (eValue.els p1), (eValue.els p1)[x1.toNat]? = some (qa1540 e1)] (⟨eValue.inb a12, ((eValue.get a12).trans (by cases e1; rfl)), trivial⟩) ?_)
    refine za (c_ref1_Sound _ _ c13) (zg [] 1 [0,3,4,6,7,15] (zd (hK11 _ _ (zC h (fun b14 h => ?_) (fun b14 h => ?_)))))
    ·refine zq fun K15 hK15 => zr (zv [] 1 [2] [] [(2, .one (.pv (.s (.slice none 0 0))))] [.arr 1 ((eK .u8).els l1)] (zd (hK15 _ _ (ze (hQ1 _ _ _ ?_)))))
     obtain rfl := Option.some.inj h
     exact zf [.one (.pv (.s (.slice none 0 0)))] (.one (.nl))
    ·refine zs (hK10 _ _ ?_)
     obtain ⟨r2, c16, h⟩ := zB h
     obtain ⟨g17, h⟩ := zG h
     refine zr (zo [] 5 [0,6,7,16,20] [(qa1540 e1)] [0 ≤ x1 ∧ x1 < ((eValue.els p1).length : Int) ∧ elemsOk 5 (eValue.els p1), (eValue.els p1)[x1.toNat]? = some (qa1540 e1)] (⟨eValue.inb a12, ((eValue.get a12).trans (by cases e1; rfl)), trivial⟩) (za (c_ref1_key BIG _ _ c16) ?_))
     refine zp [] 1 [0,6,7,22] [] [(0, vl eValue p1), (6, vi (p1.length : Int)), (7, vi x1), (22, .one (.sl 0 1 0 (l1.length + ((eK .u8).els r2).length)))] [.arr 1 ((eK .u8).els l1 ++ (eK .u8).els r2)] [elemsOk 1 ((eK .u8).els r2), l1.length = ((eK .u8).els l1).length, l1.length + ((eK .u8).els r2).length ≤ 4294967296] (⟨(eK .u8).ok _, ((eK .u8).len l1).symm, (by rw [(eK .u8).len]; exact g17), trivial⟩) ?_
     rw [show l1.length + ((eK .u8).els r2).length = (l1 ++ r2).length from (eK .u8).lapp _ _]
     rw [show (eK .u8).els l1 ++ (eK .u8).els r2 = (eK .u8).els (l1 ++ r2) from (eK .u8).app2 _ _]
     exact zg [] 1 [0,3,6,7] (zd (hK8 _ _ (zr (zg [] 2 [0,3,6,7] (zd (XR.sub (zk [0,3,6,7]) (ih1 (l1 ++ r2) (IntKind.i64.wrap (x1 + (1 : Int))) h)))))))
   ·exact zx 0 (hQ1 _ _ _ (hJ1 l1 h _ _ (zk [3])))
 exact XR.sub (zk [0,3,6,7]) (hL1 BIG [] (0 : Int) h)

def ref1_Fnv_j1 (x3 : Int) : Option Int :=
    some x3

def ref1_Fnv_l1 (p1 : (List Int)) : Nat → Int → Int → Option Int
  | 0, _, _ => none
  | k1 + 1, x1, x2 =>
    ift (decide (x2 < (p1.length : Int)))
      (bnd (at? p1 x2) fun e1 =>
       bnd (some (IntKind.u64.wrap (BitVec.ofInt (IntKind.u64).bits x1 ^^^ BitVec.ofInt (IntKind.u64).bits (IntKind.u64.wrap e1)).toNat)) fun y1 =>
       (ref1_Fnv_l1 p1 k1) (IntKind.u64.wrap (y1 * (1099511628211 : Int))) (IntKind.i64.wrap (x2 + (1 : Int))))
      (ref1_Fnv_j1 x1)

def ref1_Fnv (p1 : (List Int)) : Option Int :=
    ref1_Fnv_l1 p1 BIG (14695981039346656037 : Int) (0 : Int)


theorem c_ref1_Fnv (p1 : (List Int)) (r : Int) (h : ref1_Fnv p1 = some r) : PC Tryd.prog 76 [vl (eK .u8) p1] (vk .u64 r) := by
 unfold ref1_Fnv at h
 refine zF 19 Tryd.f76 (zq fun K1 hK1 => zr (zg [] 1 [0] (zd (hK1 _ _ (zq fun K2 hK2 => zr ?_)))))
 refine zg [] 1 [0,3] (zd (hK2 _ _ (zq fun K3 hK3 => ?_)))
 have hJ1 : ∀ (x3 : Int), ref1_Fnv_j1 x3 = some r → ∀ fr1 st1, Sub 19 0 [] fr1 st1 [(3, vk .u64 x3)] [] → K3 fr1 st1 := by
  intro x3 h fr1 st1 hS
  unfold ref1_Fnv_j1 at h
  refine hK3 _ _ (XW.sub hS ?_)
  refine zq fun K12 hK12 => zr (zg [] 2 [2] (zd (hK12 _ _ (ze ?_))))
  obtain rfl := Option.some.inj h
  exact zf [vk .u64 x3] (.one (.rfl _ rfl))
 refine zq fun K4 hK4 => zr (zv [] 2 [3,6,7] [] [(3, vk .u64 (14695981039346656037 : Int)), (6, vl (eK .u8) p1), (7, vi (((eK .u8).els p1).length : Int))] [] ?_)
 rw [(eK .u8).len p1]
 refine zg [] 1 [3,6,7,8] (zd (hK4 _ _ (zb 0 (XW.rounds' BIG (x := cd Tryd.f76 [1,1,0,1,0,0]) (by kernel_rfl) fun Q1 hQ1 => ?_))))
 have hL1 : ∀ (k1 : Nat) (x1 : Int) (x2 : Int), ref1_Fnv_l1 p1 k1 x1 x2 = some r → XR Tryd.prog 19 0 [] (cd Tryd.f76 [1,1,0,1,0,0]) Q1 k1 [(3, vk .u64 x1), (6, vl (eK .u8) p1), (7, vi (p1.length : Int)), (8, vi x2)] [] := by
  intro k1
  induction k1 with
  | zero => intro x1 x2 h; rw [ref1_Fnv_l1.eq_1] at h; cases h
  | succ k1 ih1 =>
   intro x1 x2 h
   rw [ref1_Fnv_l1.eq_2] at h
   refine zq fun K5 hK5 => zr (zg [] 1 [3,6,7,8,9] (zd (hK5 _ _ (zq fun K6 hK6 => zC h (fun b7 h => ?_) (fun b7 h => ?_)))))
   ·refine zs (hK6 _ _ (zq fun K8 hK8 => zb 1 (zq fun K9 hK9 => ?_)))
    obtain ⟨e1, a10, h⟩ := zB h
    refine zr (zo [] 3 [3,5,6,7,8] [[.s (.int .u8 e1)]] [0 ≤ x2 ∧ x2 < (((eK .u8).els p1).length : Int) ∧ elemsOk 1 ((eK .u8).els p1), ((eK .u8).els p1)[x2.toNat]? = some [.s (.int .u8 e1)]] (⟨(eK .u8).inb a10, ((eK .u8).get a10), trivial⟩) (zd (hK9 _ _ ?_)))
    obtain ⟨y1, hy11, h⟩ := zB h
    refine zr (zv [] 4 [6,7,8,15] [] [(6, vl (eK .u8) p1), (7, vi (p1.length : Int)), (8, vi x2), (15, vk .u64 (IntKind.u64.wrap (BitVec.ofInt (IntKind.u64).bits x1 ^^^ BitVec.ofInt (IntKind.u64).bits (IntKind.u64.wrap e1)).toNat))] [] ?_)
    rw [show (IntKind.u64.wrap (BitVec.ofInt (IntKind.u64).bits x1 ^^^ BitVec.ofInt (IntKind.u64).bits (IntKind.u64.wrap e1)).toNat) = y1 from Option.some.inj hy11]
    exact zg [] 2 [3,6,7,8] (zd (hK8 _ _ (zr (zg [] 2 [3,6,7,8] (zd (XR.sub (zk [3,6,7,8]) (ih1 (IntKind.u64.wrap (y1 * (1099511628211 : Int))) (IntKind.i64.wrap (x2 + (1 : Int))) h)))))))
   ·exact zx 0 (hQ1 _ _ _ (hJ1 x1 h _ _ (zk [3])))
 exact XR.sub (zk [3,6,7,8]) (hL1 BIG (14695981039346656037 : Int) (0 : Int) h)

def ref1_Hash (p1 : GValue) : Option Int :=
    bnd (ref1_Key [p1]) fun r1 =>
    bnd (ref1_Fnv r1) fun r2 =>
    some r2


theorem c_ref1_Hash (p1 : GValue) (r : Int) (h : ref1_Hash p1 = some r) : PC Tryd.prog 64 [.ag [ci p1.kind, ci p1.n, ci p1.scale, cst p1.s, cl eValue p1.items]] (vk .u64 r) := by
 unfold ref1_Hash at h
 refine zF 7 Tryd.f64 (zq fun K1 hK1 => zr (zg [] 2 [1] (zd (hK1 _ _ (zq fun K2 hK2 => ?_)))))
 obtain ⟨r1, c3, h⟩ := zB h
 obtain ⟨r2, c4, h⟩ := zB h
 refine zr (zv [] 2 [4] [[pi p1.kind, pi p1.n, pi p1.scale, .s (.string p1.s), .ro (eValue.els p1.items)]] [(4, .one (.pv (.ro [[pi p1.kind, pi p1.n, pi p1.scale, .s (.string p1.s), .ro (eValue.els p1.items)]])))] [] ?_)
 rw [show ([[pi p1.kind, pi p1.n, pi p1.scale, .s (.string p1.s), .ro (eValue.els p1.items)]] : List (List PV)) = eValue.els [p1] from by cases p1; rfl]
 refine za (c_ref1_Key _ _ c3) (za (c_ref1_Fnv _ _ c4) (zv [] 1 [2] [] [(2, vk .u64 r2)] [] (zd (hK2 _ _ (ze ?_)))))
 obtain rfl := Option.some.inj h
 exact zf [vk .u64 r2] (.one (.rfl _ rfl))

def ref2_spots_j1 (p1 : Int) (r1 : Int) (x1 : Int) : Option (Int × Int × Int) :=
    grd ((IntKind.u64.wrap p1) ≠ 0) <|
    grd ((IntKind.u64.wrap p1) ≠ 0) <|
    bnd (some (IntKind.i64.wrap ((IntKind.u64.wrap (r1 + x1)).tmod (IntKind.u64.wrap p1)))) fun y3 =>
    grd ((IntKind.u64.wrap p1) ≠ 0) <|
    bnd (some ((IntKind.u64.wrap ((IntKind.u64.wrap (r1 + x1)) + x1)).tmod (IntKind.u64.wrap p1))) fun y4 =>
    some ((IntKind.i64.wrap (r1.tmod (IntKind.u64.wrap p1))), y3, (IntKind.i64.wrap y4))

def ref2_spots (p1 : Int) (p2 : GValue) : Option (Int × Int × Int) :=
    bnd (ref1_Hash p2) fun r1 =>
    bnd (some (((IntKind.u64.wrap (r1.tdiv (4294967296 : Int))).tmod (2 : Int)) == (0 : Int))) fun y1 =>
    ift y1
      (bnd (some (IntKind.u64.wrap ((IntKind.u64.wrap (r1.tdiv (4294967296 : Int))) + (1 : Int)))) fun y2 =>
       ref2_spots_j1 p1 r1 y2)
      (ref2_spots_j1 p1 r1 (IntKind.u64.wrap (r1.tdiv (4294967296 : Int))))

abbrev qa1549 (p2 : GValue) : List CV := [ci p2.kind, ci p2.n, ci p2.scale, cst p2.s, cl eValue p2.items]

theorem c_ref2_spots (p1 : Int) (p2 : GValue) (r : (Int × Int × Int)) (h : ref2_spots p1 p2 = some r) : PC Tryd.prog 44 [vi p1, .ag (qa1549 p2)] (.ag [ci r.1, ci r.2.1, ci r.2.2]) := by
 unfold ref2_spots at h
 refine zF 38 Tryd.f44 (zq fun K1 hK1 => zr (zg [4] 2 [0,3,4] (zd (hK1 _ _ (zq fun K2 hK2 => ?_)))))
 obtain ⟨r1, c3, h⟩ := zB h
 refine zr (zu [4] 1 [0,4,8] [[pi p2.kind, pi p2.n, pi p2.scale, .s (.string p2.s), .ro (eValue.els p2.items)]] (zl 64 [.ag (qa1549 p2)] (vk .u64 r1) [(9, vk .u64 r1), (0, vi p1), (4, .one (.pt 0 0 0 0)), (8, .ag (qa1549 p2))] (c_ref1_Hash _ _ c3) (zg [4] 1 [0,4,5] (zd (hK2 _ _ (zq fun K4 hK4 => zr ?_))))))
 refine zo [4] 3 [0,4,5,6] [] [(4294967296 : Int) ≠ 0] (⟨by decide, trivial⟩) (zd (hK4 _ _ (zq fun K5 hK5 => ?_)))
 have hJ1 : ∀ (x1 : Int), ref2_spots_j1 p1 r1 x1 = some r → ∀ fr1 st1, Sub 38 0 [] fr1 st1 [(0, vi p1), (4, .one (.pt 0 0 0 0)), (5, vk .u64 r1), (6, vk .u64 x1)] [.box [ci (0 : Int), ci (0 : Int), ci (0 : Int)]] → K5 fr1 st1 := by
  intro x1 h fr1 st1 hS
  unfold ref2_spots_j1 at h
  refine hK5 _ _ (XW.sub hS ?_)
  refine zq fun K10 hK10 => zr (zg [4] 3 [4,5,6,7] (zd (hK10 _ _ (zq fun K11 hK11 => ?_))))
  obtain ⟨g12, h⟩ := zG h
  obtain ⟨g13, h⟩ := zG h
  obtain ⟨y3, hy14, h⟩ := zB h
  obtain ⟨g15, h⟩ := zG h
  obtain ⟨y4, hy16, h⟩ := zB h
  refine zw 18 [(36, vi (IntKind.i64.wrap y4)), (35, vk .u64 y4), (34, vk .u64 (IntKind.u64.wrap p1)), (33, vk .u64 (IntKind.u64.wrap ((IntKind.u64.wrap (r1 + x1)) + x1))), (32, vk .u64 x1), (31, vk .u64 (IntKind.u64.wrap (r1 + x1))), (30, vk .u64 x1), (29, vk .u64 r1), (28, vi y3), (27, vk .u64 ((IntKind.u64.wrap (r1 + x1)).tmod (IntKind.u64.wrap p1))), (26, vk .u64 (IntKind.u64.wrap p1)), (25, vk .u64 (IntKind.u64.wrap (r1 + x1))), (24, vk .u64 x1), (23, vk .u64 r1), (22, vi (IntKind.i64.wrap (r1.tmod (IntKind.u64.wrap p1)))), (21, vk .u64 (r1.tmod (IntKind.u64.wrap p1))), (20, vk .u64 (IntKind.u64.wrap p1)), (19, vk .u64 r1), (4, .one (.pt 0 0 0 0)), (5, vk .u64 r1), (6, vk .u64 x1), (7, vk .u64 (IntKind.u64.wrap p1))] ?_ ?_
  ·refine zyp 10 [] [(28, vi (IntKind.i64.wrap ((IntKind.u64.wrap (r1 + x1)).tmod (IntKind.u64.wrap p1)))), (27, vk .u64 ((IntKind.u64.wrap (r1 + x1)).tmod (IntKind.u64.wrap p1))), (26, vk .u64 (IntKind.u64.wrap p1)), (25, vk .u64 (IntKind.u64.wrap (r1 + x1))), (24, vk .u64 x1), (23, vk .u64 r1), (22, vi (IntKind.i64.wrap (r1.tmod (IntKind.u64.wrap p1)))), (21, vk .u64 (r1.tmod (IntKind.u64.wrap p1))), (20, vk .u64 (IntKind.u64.wrap p1)), (19, vk .u64 r1), (4, .one (.pt 0 0 0 0)), (5, vk .u64 r1), (6, vk .u64 x1), (7, vk .u64 (IntKind.u64.wrap p1))] [(IntKind.u64.wrap p1) ≠ 0, (IntKind.u64.wrap p1) ≠ 0] (⟨g12, g13, trivial⟩) ?_
   rw [show (IntKind.i64.wrap ((IntKind.u64.wrap (r1 + x1)).tmod (IntKind.u64.wrap p1))) = y3 from Option.some.inj hy14]
   refine zyp 7 [] [(35, vk .u64 ((IntKind.u64.wrap ((IntKind.u64.wrap (r1 + x1)) + x1)).tmod (IntKind.u64.wrap p1))), (34, vk .u64 (IntKind.u64.wrap p1)), (33, vk .u64 (IntKind.u64.wrap ((IntKind.u64.wrap (r1 + x1)) + x1))), (32, vk .u64 x1), (31, vk .u64 (IntKind.u64.wrap (r1 + x1))), (30, vk .u64 x1), (29, vk .u64 r1), (28, vi y3), (27, vk .u64 ((IntKind.u64.wrap (r1 + x1)).tmod (IntKind.u64.wrap p1))), (26, vk .u64 (IntKind.u64.wrap p1)), (25, vk .u64 (IntKind.u64.wrap (r1 + x1))), (24, vk .u64 x1), (23, vk .u64 r1), (22, vi (IntKind.i64.wrap (r1.tmod (IntKind.u64.wrap p1)))), (21, vk .u64 (r1.tmod (IntKind.u64.wrap p1))), (20, vk .u64 (IntKind.u64.wrap p1)), (19, vk .u64 r1), (4, .one (.pt 0 0 0 0)), (5, vk .u64 r1), (6, vk .u64 x1), (7, vk .u64 (IntKind.u64.wrap p1))] [(IntKind.u64.wrap p1) ≠ 0] (⟨g15, trivial⟩) ?_
   rw [show ((IntKind.u64.wrap ((IntKind.u64.wrap (r1 + x1)) + x1)).tmod (IntKind.u64.wrap p1)) = y4 from Option.some.inj hy16]
   exact zyg 1 zyd
  refine zg [4] 2 [4] (zd (hK11 _ _ (ze ?_)))
  obtain rfl := Option.some.inj h
  exact zf [.ag [ci (IntKind.i64.wrap (r1.tmod (IntKind.u64.wrap p1))), ci y3, ci (IntKind.i64.wrap y4)]] (.ag (.cons (.rfl _ rfl) (.cons (.rfl _ rfl) (.cons (.rfl _ rfl) .nil))))
 refine zq fun K6 hK6 => ?_
 obtain ⟨y1, hy7, h⟩ := zB h
 refine zr (zp [4] 3 [0,4,5,6,14] [] [(0, vi p1), (4, .one (.pt 0 0 0 0)), (5, vk .u64 r1), (6, vk .u64 (IntKind.u64.wrap (r1.tdiv (4294967296 : Int)))), (14, vb (((IntKind.u64.wrap (r1.tdiv (4294967296 : Int))).tmod (2 : Int)) == (0 : Int)))] [.box [ci (0 : Int), ci (0 : Int), ci (0 : Int)]] [(2 : Int) ≠ 0] (⟨by decide, trivial⟩) ?_)
 rw [show (((IntKind.u64.wrap (r1.tdiv (4294967296 : Int))).tmod (2 : Int)) == (0 : Int)) = y1 from Option.some.inj hy7]
 refine zd (hK6 _ _ (zC h (fun b8 h => ?_) (fun b8 h => ?_)))
 ·obtain ⟨y2, hy9, h⟩ := zB h
  refine zr (zv [4] 2 [0,4,5,16] [] [(0, vi p1), (4, .one (.pt 0 0 0 0)), (5, vk .u64 r1), (16, vk .u64 (IntKind.u64.wrap ((IntKind.u64.wrap (r1.tdiv (4294967296 : Int))) + (1 : Int))))] [.box [ci (0 : Int), ci (0 : Int), ci (0 : Int)]] ?_)
  rw [show (IntKind.u64.wrap ((IntKind.u64.wrap (r1.tdiv (4294967296 : Int))) + (1 : Int))) = y2 from Option.some.inj hy9]
  exact zg [4] 1 [0,4,5,6] (zd (hJ1 y2 h _ _ (zk [0,4,5,6])))
 ·exact zs (hJ1 (IntKind.u64.wrap (r1.tdiv (4294967296 : Int))) h _ _ (zk [0,4,5,6]))

def ref2_bloom_j1 (rec1 : List Int → Int → Option (List Int)) (x1 : Int) (l2 : List Int) : Option (List Int) :=
    rec1 l2 (IntKind.i64.wrap (x1 + (1 : Int)))

def ref2_bloom_j2 (l3 : List Int) : Option (List Int) :=
    some l3

def ref2_bloom_l1 (p1 : Int) (p2 : (List GValue)) : Nat → List Int → Int → Option (List Int)
  | 0, _, _ => none
  | k1 + 1, l1, x1 =>
    ift (decide (x1 < (p2.length : Int)))
      (bnd (at? p2 x1) fun e1 =>
       ift (e1.kind == (0 : Int))
         (ref2_bloom_j1 (ref2_bloom_l1 p1 p2 k1) x1 l1)
         (bnd (ref2_spots p1 e1) fun r1 =>
          bnd (at? l1 (IntKind.i64.wrap (r1.1.tdiv (8 : Int)))) fun e2 =>
          grd (0 ≤ (r1.1.tmod (8 : Int))) <|
          bnd (some (IntKind.u8.wrap ((1 : Int) * 2 ^ (min (r1.1.tmod (8 : Int)).toNat (IntKind.u8).bits)))) fun y1 =>
          bnd (some (IntKind.u8.wrap (BitVec.ofInt (IntKind.u8).bits e2 ||| BitVec.ofInt (IntKind.u8).bits y1).toNat)) fun y2 =>
          bnd (at? (l1.set (IntKind.i64.wrap (r1.1.tdiv (8 : Int))).toNat y2) (IntKind.i64.wrap (r1.2.1.tdiv (8 : Int)))) fun e3 =>
          grd (0 ≤ (r1.2.1.tmod (8 : Int))) <|
          bnd (some (IntKind.u8.wrap ((1 : Int) * 2 ^ (min (r1.2.1.tmod (8 : Int)).toNat (IntKind.u8).bits)))) fun y3 =>
          bnd (some (IntKind.u8.wrap (BitVec.ofInt (IntKind.u8).bits e3 ||| BitVec.ofInt (IntKind.u8).bits y3).toNat)) fun y4 =>
          bnd (at? ((l1.set (IntKind.i64.wrap (r1.1.tdiv (8 : Int))).toNat y2).set (IntKind.i64.wrap (r1.2.1.tdiv (8 : Int))).toNat y4) (IntKind.i64.wrap (r1.2.2.tdiv (8 : Int)))) fun e4 =>
          grd (0 ≤ (r1.2.2.tmod (8 : Int))) <|
          bnd (some (IntKind.u8.wrap ((1 : Int) * 2 ^ (min (r1.2.2.tmod (8 : Int)).toNat (IntKind.u8).bits)))) fun y5 =>
          bnd (some (IntKind.u8.wrap (BitVec.ofInt (IntKind.u8).bits e4 ||| BitVec.ofInt (IntKind.u8).bits y5).toNat)) fun y6 =>
          ref2_bloom_j1 (ref2_bloom_l1 p1 p2 k1) x1 (((l1.set (IntKind.i64.wrap (r1.1.tdiv (8 : Int))).toNat y2).set (IntKind.i64.wrap (r1.2.1.tdiv (8 : Int))).toNat y4).set (IntKind.i64.wrap (r1.2.2.tdiv (8 : Int))).toNat y6)))
      (ref2_bloom_j2 l1)

def ref2_bloom (p1 : Int) (p2 : (List GValue)) : Option (List Int) :=
    grd (0 ≤ (IntKind.i64.wrap (p1.tdiv (8 : Int))) ∧ (IntKind.i64.wrap (p1.tdiv (8 : Int))) ≤ (IntKind.i64.wrap (p1.tdiv (8 : Int))) ∧ (IntKind.i64.wrap (p1.tdiv (8 : Int))) ≤ 4294967296) <|
    ref2_bloom_l1 p1 p2 BIG (List.replicate (IntKind.i64.wrap (p1.tdiv (8 : Int))).toNat (0 : Int)) (0 : Int)

abbrev qa1560 (p1 : Int) (p2 : (List GValue)) (l1 : List Int) (x1 : Int) : Fr := [(0, vi p1), (5, .one (.sl 0 1 0 l1.length)), (13, vl eValue p2), (14, vi (p2.length : Int)), (15, vi x1)]
abbrev qa1566 (e1 : GValue) : List CV := [ci e1.kind, ci e1.n, ci e1.scale, cst e1.s, cl eValue e1.items]
abbrev qa1567 (r1 : (Int × Int × Int)) : List CV := [ci r1.1, ci r1.2.1, ci r1.2.2]

theorem c_ref2_bloom (p1 : Int) (p2 : (List GValue)) (r : (List Int)) (h : ref2_bloom p1 p2 = some r) : PC Tryd.prog 42 [vi p1, vl eValue p2] (vl (eK .u8) r) := by
 unfold ref2_bloom at h
 refine zF 41 Tryd.f42 (zq fun K1 hK1 => zr (zg [7] 1 [0,1] (zd (hK1 _ _ (zq fun K2 hK2 => ?_)))))
 obtain ⟨g4, h⟩ := zG h
 refine zr (zp [7] 3 [0,1,12] [] [(0, vi p1), (1, vl eValue p2), (12, .one (.sl 0 1 0 ((IntKind.i64.wrap (p1.tdiv (8 : Int))).toNat)))] [.arr 1 (List.replicate (IntKind.i64.wrap (p1.tdiv (8 : Int))).toNat [.s (.int .u8 (0 : Int))])] [(8 : Int) ≠ 0, 0 ≤ (IntKind.i64.wrap (p1.tdiv (8 : Int))), (IntKind.i64.wrap (p1.tdiv (8 : Int))) ≤ (IntKind.i64.wrap (p1.tdiv (8 : Int))), (IntKind.i64.wrap (p1.tdiv (8 : Int))) ≤ 4294967296] (⟨by decide, g4.1, g4.2.1, g4.2.2, trivial⟩) ?_)
 rw [show List.replicate (IntKind.i64.wrap (p1.tdiv (8 : Int))).toNat [.s (.int .u8 (0 : Int))] = (eK .u8).els (List.replicate (IntKind.i64.wrap (p1.tdiv (8 : Int))).toNat (0 : Int)) from (eK .u8).rep _ (0 : Int)]
 refine zg [7] 1 [0,1,5] (zd (hK2 _ _ (zq fun K5 hK5 => ?_)))
 have hJ2 : ∀ (l3 : List Int), ref2_bloom_j2 l3 = some r → ∀ fr1 st1, Sub 41 0 [] fr1 st1 [(5, .one (.sl 0 1 0 l3.length))] [.arr 1 ((eK .u8).els l3)] → K5 fr1 st1 := by
  intro l3 h fr1 st1 hS
  unfold ref2_bloom_j2 at h
  refine hK5 _ _ (XW.sub hS ?_)
  refine zq fun K44 hK44 => zr (zg [7] 2 [4] (zd (hK44 _ _ (ze ?_))))
  obtain rfl := Option.some.inj h
  exact zf [.one (.sl 0 1 0 l3.length)] (.one (cf_sl (eK .u8) l3 rfl rfl rfl))
 refine zq fun K6 hK6 => zr (zv [7] 2 [0,5,13,14] [] [(0, vi p1), (5, .one (.sl 0 1 0 ((IntKind.i64.wrap (p1.tdiv (8 : Int))).toNat))), (13, vl eValue p2), (14, vi ((eValue.els p2).length : Int))] [.arr 1 ((eK .u8).els (List.replicate (IntKind.i64.wrap (p1.tdiv (8 : Int))).toNat (0 : Int)))] ?_)
 rw [eValue.len p2]
 refine zg [7] 1 [0,5,13,14,15] (zd (hK6 _ _ (zb 0 (XW.rounds' BIG (x := cd Tryd.f42 [1,1,0,1,0,0]) (by kernel_rfl) fun Q1 hQ1 => ?_))))
 have hL1 : ∀ (k1 : Nat) (l1 : List Int) (x1 : Int), ref2_bloom_l1 p1 p2 k1 l1 x1 = some r → XR Tryd.prog 41 0 [] (cd Tryd.f42 [1,1,0,1,0,0]) Q1 k1 (qa1560 p1 p2 l1 x1) [.arr 1 ((eK .u8).els l1)] := by
  intro k1
  induction k1 with
  | zero => intro l1 x1 h; rw [ref2_bloom_l1.eq_1] at h; cases h
  | succ k1 ih1 =>
   intro l1 x1 h
   rw [ref2_bloom_l1.eq_2] at h
   refine zq fun K7 hK7 => zr (zg [7] 1 [0,5,13,14,15,16] (zd (hK7 _ _ (zq fun K8 hK8 => zC h (fun b9 h => ?_) (fun b9 h => ?_)))))
   ·refine zs (hK8 _ _ (zq fun K10 hK10 => ?_))
    have hJ1 : ∀ (l2 : List Int), ref2_bloom_j1 (ref2_bloom_l1 p1 p2 k1) x1 l2 = some r → ∀ fr1 st1, Sub 41 0 [] fr1 st1 [(0, vi p1), (5, .one (.sl 0 1 0 l2.length)), (13, vl eValue p2), (14, vi (p2.length : Int)), (15, vi x1)] [.arr 1 ((eK .u8).els l2)] → K10 fr1 st1 := by
     intro l2 h fr1 st1 hS
     unfold ref2_bloom_j1 at h
     refine hK10 _ _ (XW.sub hS ?_)
     exact zr (zg [7] 2 [0,5,13,14,15] (zd (XR.sub (zk [0,5,13,14,15]) (ih1 l2 (IntKind.i64.wrap (x1 + (1 : Int))) h))))
    refine zb 1 (zq fun K11 hK11 => ?_)
    obtain ⟨e1, a12, h⟩ := zB h
    refine zr (zo [7] 4 [0,5,7,13,14,15] [[pi e1.kind, pi e1.n, pi e1.scale, .s (.string e1.s), .ro (eValue.els e1.items)]] [0 ≤ x1 ∧ x1 < ((eValue.els p2).length : Int) ∧ elemsOk 5 (eValue.els p2), (eValue.els p2)[x1.toNat]? = some [pi e1.kind, pi e1.n, pi e1.scale, .s (.string e1.s), .ro (eValue.els e1.items)]] (⟨eValue.inb a12, ((eValue.get a12).trans (by cases e1; rfl)), trivial⟩) (zd (hK11 _ _ (zq fun K13 hK13 => zq fun K14 hK14 => zr ?_))))
    refine zv [7] 3 [0,5,7,13,14,15,21] [] [(0, vi p1), (5, .one (.sl 0 1 0 l1.length)), (7, .one (.pt 1 0 0 0)), (13, vl eValue p2), (14, vi (p2.length : Int)), (15, vi x1), (21, vb (e1.kind == (0 : Int)))] [.arr 1 ((eK .u8).els l1), .box (qa1566 e1)] (zd (hK14 _ _ (zC h (fun b15 h => ?_) (fun b15 h => ?_))))
    ·exact zx 1 (hJ1 l1 h _ _ (Sub.trans (Sub.pick (fr' := (qa1560 p1 p2 l1 x1)) [0,5,13,14,15] (by kernel_rfl)) (Sub.take (fr' := (qa1560 p1 p2 l1 x1)) 1 (Nat.zero_le _) (by kernel_rfl) (by kernel_rfl))))
    ·refine zs (hK13 _ _ (zq fun K16 hK16 => ?_))
     obtain ⟨r1, c17, h⟩ := zB h
     refine zr (zg [7] 2 [0,5,13,14,15,22,23] (za (c_ref2_spots _ _ _ c17) (zv [7] 1 [0,5,13,14,15,24,25] [] [(0, vi p1), (5, .one (.sl 0 1 0 l1.length)), (13, vl eValue p2), (14, vi (p2.length : Int)), (15, vi x1), (24, .ag (qa1567 r1)), (25, vi (0 : Int))] [.arr 1 ((eK .u8).els l1), .box (qa1566 e1)] (zd (hK16 _ _ (zb 2 (XW.rounds' 4 (x := cd Tryd.f42 [1,1,0,1,0,0,1,1,0,0,1,1,1,0,0]) (by kernel_rfl) fun Q2 hQ2 => ?_)))))))
     refine XR.one (zq fun K18 hK18 => zr (zg [7] 1 [0,5,13,14,15,24,25,26] (zd (hK18 _ _ (zq fun K19 hK19 => zc true (fun _ => ?_) (fun hx => by cases hx))))))
     refine zs (hK19 _ _ (zq fun K20 hK20 => zb 3 (zq fun K21 hK21 => zr (zo [7] 2 [0,5,9,13,14,15,24,25] [] [0 ≤ (0 : Int) ∧ (0 : Int) < 3] (⟨by decide, trivial⟩) (zd ?_)))))
     refine hK21 _ _ ?_
     obtain ⟨e2, a22, h⟩ := zB h
     obtain ⟨g23, h⟩ := zG h
     obtain ⟨y1, hy24, h⟩ := zB h
     obtain ⟨y2, hy25, h⟩ := zB h
     refine zw 8 [(35, vk .u8 y1), (34, vi (r1.1.tmod (8 : Int))), (33, vi r1.1), (32, vk .u8 e2), (31, .one (.pt 0 1 (0 + (IntKind.i64.wrap (r1.1.tdiv (8 : Int))).toNat) 0)), (30, vi (IntKind.i64.wrap (r1.1.tdiv (8 : Int)))), (29, vi r1.1), (28, .one (.sl 0 1 0 l1.length)), (0, vi p1), (5, .one (.sl 0 1 0 l1.length)), (9, vi r1.1), (13, vl eValue p2), (14, vi (p2.length : Int)), (15, vi x1), (24, .ag (qa1567 r1)), (25, vi (0 : Int))] ?_ ?_
     ·refine zyp 8 [[.s (.int .u8 e2)]] [(35, vk .u8 (IntKind.u8.wrap ((1 : Int) * 2 ^ (min (r1.1.tmod (8 : Int)).toNat (IntKind.u8).bits)))), (34, vi (r1.1.tmod (8 : Int))), (33, vi r1.1), (32, vk .u8 e2), (31, .one (.pt 0 1 (0 + (IntKind.i64.wrap (r1.1.tdiv (8 : Int))).toNat) 0)), (30, vi (IntKind.i64.wrap (r1.1.tdiv (8 : Int)))), (29, vi r1.1), (28, .one (.sl 0 1 0 l1.length)), (0, vi p1), (5, .one (.sl 0 1 0 l1.length)), (9, vi r1.1), (13, vl eValue p2), (14, vi (p2.length : Int)), (15, vi x1), (24, .ag [ci r1.1, ci r1.2.1, ci r1.2.2]), (25, vi (0 : Int))] [(8 : Int) ≠ 0, 0 ≤ (IntKind.i64.wrap (r1.1.tdiv (8 : Int))) ∧ (IntKind.i64.wrap (r1.1.tdiv (8 : Int))) < ((l1.length : Nat) : Int), ((eK .u8).els l1)[(0 + (IntKind.i64.wrap (r1.1.tdiv (8 : Int))).toNat)]? = some [.s (.int .u8 e2)], (8 : Int) ≠ 0, 0 ≤ (r1.1.tmod (8 : Int))] (⟨by decide, Enc.inb' a22, ((eK .u8).get0 a22), by decide, g23, trivial⟩) ?_
      rw [show (IntKind.u8.wrap ((1 : Int) * 2 ^ (min (r1.1.tmod (8 : Int)).toNat (IntKind.u8).bits))) = y1 from Option.some.inj hy24]
      exact zyd
     refine zv [7] 1 [0,5,13,14,15,24,25,28,30,36] [] [(0, vi p1), (5, .one (.sl 0 1 0 l1.length)), (13, vl eValue p2), (14, vi (p2.length : Int)), (15, vi x1), (24, .ag [ci r1.1, ci r1.2.1, ci r1.2.2]), (25, vi (0 : Int)), (28, .one (.sl 0 1 0 l1.length)), (30, vi (IntKind.i64.wrap (r1.1.tdiv (8 : Int)))), (36, vk .u8 (IntKind.u8.wrap (BitVec.ofInt (IntKind.u8).bits e2 ||| BitVec.ofInt (IntKind.u8).bits y1).toNat))] [.arr 1 ((eK .u8).els l1), .box [ci e1.kind, ci e1.n, ci e1.scale, cst e1.s, cl eValue e1.items]] ?_
     rw [show (IntKind.u8.wrap (BitVec.ofInt (IntKind.u8).bits e2 ||| BitVec.ofInt (IntKind.u8).bits y1).toNat) = y2 from Option.some.inj hy25]
     refine zp [7] 2 [0,5,13,14,15,24,25] [[.s (.int .u8 e2)]] [(0, vi p1), (5, .one (.sl 0 1 0 l1.length)), (13, vl eValue p2), (14, vi (p2.length : Int)), (15, vi x1), (24, .ag [ci r1.1, ci r1.2.1, ci r1.2.2]), (25, vi (0 : Int))] [.arr 1 (((eK .u8).els l1).set (0 + (IntKind.i64.wrap (r1.1.tdiv (8 : Int))).toNat) [.s (.int .u8 y2)]), .box [ci e1.kind, ci e1.n, ci e1.scale, cst e1.s, cl eValue e1.items]] [0 ≤ (IntKind.i64.wrap (r1.1.tdiv (8 : Int))) ∧ (IntKind.i64.wrap (r1.1.tdiv (8 : Int))) < ((l1.length : Nat) : Int), ((eK .u8).els l1)[(0 + (IntKind.i64.wrap (r1.1.tdiv (8 : Int))).toNat)]? = some [.s (.int .u8 e2)]] (⟨Enc.inb' a22, ((eK .u8).get0 a22), trivial⟩) ?_
     rw [show ((eK .u8).els l1).set (0 + (IntKind.i64.wrap (r1.1.tdiv (8 : Int))).toNat) [.s (.int .u8 y2)] = (eK .u8).els (l1.set (IntKind.i64.wrap (r1.1.tdiv (8 : Int))).toNat y2) from (eK .u8).set0 _ _ y2]
     refine zd (hK20 _ _ (zr (zv [7] 2 [0,5,13,14,15,24,25] [] [(0, vi p1), (5, .one (.sl 0 1 0 l1.length)), (13, vl eValue p2), (14, vi (p2.length : Int)), (15, vi x1), (24, .ag (qa1567 r1)), (25, vi (1 : Int))] [.arr 1 ((eK .u8).els (l1.set (IntKind.i64.wrap (r1.1.tdiv (8 : Int))).toNat y2)), .box (qa1566 e1)] (zd (XR.one (zq fun K26 hK26 => zr ?_))))))
     refine zg [7] 1 [0,5,13,14,15,24,25,26] (zd (hK26 _ _ (zq fun K27 hK27 => zc true (fun _ => ?_) (fun hx => by cases hx))))
     refine zs (hK27 _ _ (zq fun K28 hK28 => zb 3 (zq fun K29 hK29 => zr (zo [7] 2 [0,5,9,13,14,15,24,25] [] [0 ≤ (1 : Int) ∧ (1 : Int) < 3] (⟨by decide, trivial⟩) (zd ?_)))))
     refine hK29 _ _ ?_
     obtain ⟨e3, a30, h⟩ := zB h
     obtain ⟨g31, h⟩ := zG h
     obtain ⟨y3, hy32, h⟩ := zB h
     obtain ⟨y4, hy33, h⟩ := zB h
     refine zw 8 [(35, vk .u8 y3), (34, vi (r1.2.1.tmod (8 : Int))), (33, vi r1.2.1), (32, vk .u8 e3), (31, .one (.pt 0 1 (0 + (IntKind.i64.wrap (r1.2.1.tdiv (8 : Int))).toNat) 0)), (30, vi (IntKind.i64.wrap (r1.2.1.tdiv (8 : Int)))), (29, vi r1.2.1), (28, .one (.sl 0 1 0 l1.length)), (0, vi p1), (5, .one (.sl 0 1 0 l1.length)), (9, vi r1.2.1), (13, vl eValue p2), (14, vi (p2.length : Int)), (15, vi x1), (24, .ag (qa1567 r1)), (25, vi (1 : Int))] ?_ ?_
     ·refine zyp 8 [[.s (.int .u8 e3)]] [(35, vk .u8 (IntKind.u8.wrap ((1 : Int) * 2 ^ (min (r1.2.1.tmod (8 : Int)).toNat (IntKind.u8).bits)))), (34, vi (r1.2.1.tmod (8 : Int))), (33, vi r1.2.1), (32, vk .u8 e3), (31, .one (.pt 0 1 (0 + (IntKind.i64.wrap (r1.2.1.tdiv (8 : Int))).toNat) 0)), (30, vi (IntKind.i64.wrap (r1.2.1.tdiv (8 : Int)))), (29, vi r1.2.1), (28, .one (.sl 0 1 0 l1.length)), (0, vi p1), (5, .one (.sl 0 1 0 l1.length)), (9, vi r1.2.1), (13, vl eValue p2), (14, vi (p2.length : Int)), (15, vi x1), (24, .ag [ci r1.1, ci r1.2.1, ci r1.2.2]), (25, vi (1 : Int))] [(8 : Int) ≠ 0, 0 ≤ (IntKind.i64.wrap (r1.2.1.tdiv (8 : Int))) ∧ (IntKind.i64.wrap (r1.2.1.tdiv (8 : Int))) < ((l1.length : Nat) : Int), ((eK .u8).els (l1.set (IntKind.i64.wrap (r1.1.tdiv (8 : Int))).toNat y2))[(0 + (IntKind.i64.wrap (r1.2.1.tdiv (8 : Int))).toNat)]? = some [.s (.int .u8 e3)], (8 : Int) ≠ 0, 0 ≤ (r1.2.1.tmod (8 : Int))] (⟨by decide, (by have := Enc.inb' a30; simpa using this), ((eK .u8).get0 a30), by decide, g31, trivial⟩) ?_
      rw [show (IntKind.u8.wrap ((1 : Int) * 2 ^ (min (r1.2.1.tmod (8 : Int)).toNat (IntKind.u8).bits))) = y3 from Option.some.inj hy32]
      exact zyd
     refine zv [7] 1 [0,5,13,14,15,24,25,28,30,36] [] [(0, vi p1), (5, .one (.sl 0 1 0 l1.length)), (13, vl eValue p2), (14, vi (p2.length : Int)), (15, vi x1), (24, .ag [ci r1.1, ci r1.2.1, ci r1.2.2]), (25, vi (1 : Int)), (28, .one (.sl 0 1 0 l1.length)), (30, vi (IntKind.i64.wrap (r1.2.1.tdiv (8 : Int)))), (36, vk .u8 (IntKind.u8.wrap (BitVec.ofInt (IntKind.u8).bits e3 ||| BitVec.ofInt (IntKind.u8).bits y3).toNat))] [.arr 1 ((eK .u8).els (l1.set (IntKind.i64.wrap (r1.1.tdiv (8 : Int))).toNat y2)), .box [ci e1.kind, ci e1.n, ci e1.scale, cst e1.s, cl eValue e1.items]] ?_
     rw [show (IntKind.u8.wrap (BitVec.ofInt (IntKind.u8).bits e3 ||| BitVec.ofInt (IntKind.u8).bits y3).toNat) = y4 from Option.some.inj hy33]
     refine zp [7] 2 [0,5,13,14,15,24,25] [[.s (.int .u8 e3)]] [(0, vi p1), (5, .one (.sl 0 1 0 l1.length)), (13, vl eValue p2), (14, vi (p2.length : Int)), (15, vi x1), (24, .ag [ci r1.1, ci r1.2.1, ci r1.2.2]), (25, vi (1 : Int))] [.arr 1 (((eK .u8).els (l1.set (IntKind.i64.wrap (r1.1.tdiv (8 : Int))).toNat y2)).set (0 + (IntKind.i64.wrap (r1.2.1.tdiv (8 : Int))).toNat) [.s (.int .u8 y4)]), .box [ci e1.kind, ci e1.n, ci e1.scale, cst e1.s, cl eValue e1.items]] [0 ≤ (IntKind.i64.wrap (r1.2.1.tdiv (8 : Int))) ∧ (IntKind.i64.wrap (r1.2.1.tdiv (8 : Int))) < ((l1.length : Nat) : Int), ((eK .u8).els (l1.set (IntKind.i64.wrap (r1.1.tdiv (8 : Int))).toNat y2))[(0 + (IntKind.i64.wrap (r1.2.1.tdiv (8 : Int))).toNat)]? = some [.s (.int .u8 e3)]] (⟨(by have := Enc.inb' a30; simpa using this), ((eK .u8).get0 a30), trivial⟩) ?_
     rw [show ((eK .u8).els (l1.set (IntKind.i64.wrap (r1.1.tdiv (8 : Int))).toNat y2)).set (0 + (IntKind.i64.wrap (r1.2.1.tdiv (8 : Int))).toNat) [.s (.int .u8 y4)] = (eK .u8).els ((l1.set (IntKind.i64.wrap (r1.1.tdiv (8 : Int))).toNat y2).set (IntKind.i64.wrap (r1.2.1.tdiv (8 : Int))).toNat y4) from (eK .u8).set0 _ _ y4]
     refine zd (hK28 _ _ (zr (zv [7] 2 [0,5,13,14,15,24,25] [] [(0, vi p1), (5, .one (.sl 0 1 0 l1.length)), (13, vl eValue p2), (14, vi (p2.length : Int)), (15, vi x1), (24, .ag (qa1567 r1)), (25, vi (2 : Int))] [.arr 1 ((eK .u8).els ((l1.set (IntKind.i64.wrap (r1.1.tdiv (8 : Int))).toNat y2).set (IntKind.i64.wrap (r1.2.1.tdiv (8 : Int))).toNat y4)), .box (qa1566 e1)] (zd (XR.one (zq fun K34 hK34 => zr ?_))))))
     refine zg [7] 1 [0,5,13,14,15,24,25,26] (zd (hK34 _ _ (zq fun K35 hK35 => zc true (fun _ => ?_) (fun hx => by cases hx))))
     refine zs (hK35 _ _ (zq fun K36 hK36 => zb 3 (zq fun K37 hK37 => zr (zo [7] 2 [0,5,9,13,14,15,24,25] [] [0 ≤ (2 : Int) ∧ (2 : Int) < 3] (⟨by decide, trivial⟩) (zd ?_)))))
     refine hK37 _ _ ?_
     obtain ⟨e4, a38, h⟩ := zB h
     obtain ⟨g39, h⟩ := zG h
     obtain ⟨y5, hy40, h⟩ := zB h
     obtain ⟨y6, hy41, h⟩ := zB h
     refine zw 8 [(35, vk .u8 y5), (34, vi (r1.2.2.tmod (8 : Int))), (33, vi r1.2.2), (32, vk .u8 e4), (31, .one (.pt 0 1 (0 + (IntKind.i64.wrap (r1.2.2.tdiv (8 : Int))).toNat) 0)), (30, vi (IntKind.i64.wrap (r1.2.2.tdiv (8 : Int)))), (29, vi r1.2.2), (28, .one (.sl 0 1 0 l1.length)), (0, vi p1), (5, .one (.sl 0 1 0 l1.length)), (9, vi r1.2.2), (13, vl eValue p2), (14, vi (p2.length : Int)), (15, vi x1), (24, .ag (qa1567 r1)), (25, vi (2 : Int))] ?_ ?_
     ·refine zyp 8 [[.s (.int .u8 e4)]] [(35, vk .u8 (IntKind.u8.wrap ((1 : Int) * 2 ^ (min (r1.2.2.tmod (8 : Int)).toNat (IntKind.u8).bits)))), (34, vi (r1.2.2.tmod (8 : Int))), (33, vi r1.2.2), (32, vk .u8 e4), (31, .one (.pt 0 1 (0 + (IntKind.i64.wrap (r1.2.2.tdiv (8 : Int))).toNat) 0)), (30, vi (IntKind.i64.wrap (r1.2.2.tdiv (8 : Int)))), (29, vi r1.2.2), (28, .one (.sl 0 1 0 l1.length)), (0, vi p1), (5, .one (.sl 0 1 0 l1.length)), (9, vi r1.2.2), (13, vl eValue p2), (14, vi (p2.length : Int)), (15, vi x1), (24, .ag [ci r1.1, ci r1.2.1, ci r1.2.2]), (25, vi (2 : Int))] [(8 : Int) ≠ 0, 0 ≤ (IntKind.i64.wrap (r1.2.2.tdiv (8 : Int))) ∧ (IntKind.i64.wrap (r1.2.2.tdiv (8 : Int))) < ((l1.length : Nat) : Int), ((eK .u8).els ((l1.set (IntKind.i64.wrap (r1.1.tdiv (8 : Int))).toNat y2).set (IntKind.i64.wrap (r1.2.1.tdiv (8 : Int))).toNat y4))[(0 + (IntKind.i64.wrap (r1.2.2.tdiv (8 : Int))).toNat)]? = some [.s (.int .u8 e4)], (8 : Int) ≠ 0, 0 ≤ (r1.2.2.tmod (8 : Int))] (⟨by decide, (by have := Enc.inb' a38; simpa using this), ((eK .u8).get0 a38), by decide, g39, trivial⟩) ?_
      rw [show (IntKind.u8.wrap ((1 : Int) * 2 ^ (min (r1.2.2.tmod (8 : Int)).toNat (IntKind.u8).bits))) = y5 from Option.some.inj hy40]
      exact zyd
     refine zv [7] 1 [0,5,13,14,15,24,25,28,30,36] [] [(0, vi p1), (5, .one (.sl 0 1 0 l1.length)), (13, vl eValue p2), (14, vi (p2.length : Int)), (15, vi x1), (24, .ag [ci r1.1, ci r1.2.1, ci r1.2.2]), (25, vi (2 : Int)), (28, .one (.sl 0 1 0 l1.length)), (30, vi (IntKind.i64.wrap (r1.2.2.tdiv (8 : Int)))), (36, vk .u8 (IntKind.u8.wrap (BitVec.ofInt (IntKind.u8).bits e4 ||| BitVec.ofInt (IntKind.u8).bits y5).toNat))] [.arr 1 ((eK .u8).els ((l1.set (IntKind.i64.wrap (r1.1.tdiv (8 : Int))).toNat y2).set (IntKind.i64.wrap (r1.2.1.tdiv (8 : Int))).toNat y4)), .box [ci e1.kind, ci e1.n, ci e1.scale, cst e1.s, cl eValue e1.items]] ?_
     rw [show (IntKind.u8.wrap (BitVec.ofInt (IntKind.u8).bits e4 ||| BitVec.ofInt (IntKind.u8).bits y5).toNat) = y6 from Option.some.inj hy41]
     refine zp [7] 2 [0,5,13,14,15,24,25] [[.s (.int .u8 e4)]] [(0, vi p1), (5, .one (.sl 0 1 0 l1.length)), (13, vl eValue p2), (14, vi (p2.length : Int)), (15, vi x1), (24, .ag [ci r1.1, ci r1.2.1, ci r1.2.2]), (25, vi (2 : Int))] [.arr 1 (((eK .u8).els ((l1.set (IntKind.i64.wrap (r1.1.tdiv (8 : Int))).toNat y2).set (IntKind.i64.wrap (r1.2.1.tdiv (8 : Int))).toNat y4)).set (0 + (IntKind.i64.wrap (r1.2.2.tdiv (8 : Int))).toNat) [.s (.int .u8 y6)]), .box [ci e1.kind, ci e1.n, ci e1.scale, cst e1.s, cl eValue e1.items]] [0 ≤ (IntKind.i64.wrap (r1.2.2.tdiv (8 : Int))) ∧ (IntKind.i64.wrap (r1.2.2.tdiv (8 : Int))) < ((l1.length : Nat) : Int), ((eK .u8).els ((l1.set (IntKind.i64.wrap (r1.1.tdiv (8 : Int))).toNat y2).set (IntKind.i64.wrap (r1.2.1.tdiv (8 : Int))).toNat y4))[(0 + (IntKind.i64.wrap (r1.2.2.tdiv (8 : Int))).toNat)]? = some [.s (.int .u8 e4)]] (⟨(by have := Enc.inb' a38; simpa using this), ((eK .u8).get0 a38), trivial⟩) ?_
     rw [show ((eK .u8).els ((l1.set (IntKind.i64.wrap (r1.1.tdiv (8 : Int))).toNat y2).set (IntKind.i64.wrap (r1.2.1.tdiv (8 : Int))).toNat y4)).set (0 + (IntKind.i64.wrap (r1.2.2.tdiv (8 : Int))).toNat) [.s (.int .u8 y6)] = (eK .u8).els (((l1.set (IntKind.i64.wrap (r1.1.tdiv (8 : Int))).toNat y2).set (IntKind.i64.wrap (r1.2.1.tdiv (8 : Int))).toNat y4).set (IntKind.i64.wrap (r1.2.2.tdiv (8 : Int))).toNat y6) from (eK .u8).set0 _ _ y6]
     refine zd (hK36 _ _ (zr (zv [7] 2 [0,5,13,14,15,24,25] [] [(0, vi p1), (5, .one (.sl 0 1 0 l1.length)), (13, vl eValue p2), (14, vi (p2.length : Int)), (15, vi x1), (24, .ag (qa1567 r1)), (25, vi (3 : Int))] [.arr 1 ((eK .u8).els (((l1.set (IntKind.i64.wrap (r1.1.tdiv (8 : Int))).toNat y2).set (IntKind.i64.wrap (r1.2.1.tdiv (8 : Int))).toNat y4).set (IntKind.i64.wrap (r1.2.2.tdiv (8 : Int))).toNat y6)), .box (qa1566 e1)] (zd (XR.one (zq fun K42 hK42 => zr ?_))))))
     refine zg [7] 1 [0,5,13,14,15,24,25,26] (zd (hK42 _ _ (zq fun K43 hK43 => zc false (fun hx => by cases hx) (fun _ => ?_))))
     refine zx 2 (hQ2 _ _ _ ?_)
     exact hJ1 (((l1.set (IntKind.i64.wrap (r1.1.tdiv (8 : Int))).toNat y2).set (IntKind.i64.wrap (r1.2.1.tdiv (8 : Int))).toNat y4).set (IntKind.i64.wrap (r1.2.2.tdiv (8 : Int))).toNat y6) h _ _ (Sub.trans (Sub.trans (Sub.pick (fr' := [(0, vi p1), (5, .one (.sl 0 1 0 l1.length)), (13, vl eValue p2), (14, vi (p2.length : Int)), (15, vi x1)]) [0,5,13,14,15] (by kernel_rfl)) (Sub.take (fr' := [(0, vi p1), (5, .one (.sl 0 1 0 l1.length)), (13, vl eValue p2), (14, vi (p2.length : Int)), (15, vi x1)]) 1 (Nat.zero_le _) (by kernel_rfl) (by kernel_rfl))) (Sub.frame (fr' := [(0, vi p1), (5, .one (.sl 0 1 0 (((l1.set (IntKind.i64.wrap (r1.1.tdiv (8 : Int))).toNat y2).set (IntKind.i64.wrap (r1.2.1.tdiv (8 : Int))).toNat y4).set (IntKind.i64.wrap (r1.2.2.tdiv (8 : Int))).toNat y6).length)), (13, vl eValue p2), (14, vi (p2.length : Int)), (15, vi x1)]) ⟨.rfl _, ALe.of_eq (show (.one (.sl 0 1 0 l1.length) : AV) = .one (.sl 0 1 0 (((l1.set (IntKind.i64.wrap (r1.1.tdiv (8 : Int))).toNat y2).set (IntKind.i64.wrap (r1.2.1.tdiv (8 : Int))).toNat y4).set (IntKind.i64.wrap (r1.2.2.tdiv (8 : Int))).toNat y6).length) from by simp), .rfl _, .rfl _, .rfl _, trivial⟩))
   ·exact zx 0 (hQ1 _ _ _ (hJ2 l1 h _ _ (zk [5])))
 exact XR.sub (Sub.trans (Sub.pick (fr' := [(0, vi p1), (5, .one (.sl 0 1 0 ((IntKind.i64.wrap (p1.tdiv (8 : Int))).toNat))), (13, vl eValue p2), (14, vi (p2.length : Int)), (15, vi (0 : Int))]) [0,5,13,14,15] (by kernel_rfl)) (Sub.frame (fr' := [(0, vi p1), (5, .one (.sl 0 1 0 (List.replicate (IntKind.i64.wrap (p1.tdiv (8 : Int))).toNat (0 : Int)).length)), (13, vl eValue p2), (14, vi (p2.length : Int)), (15, vi (0 : Int))]) ⟨.rfl _, ALe.of_eq (show (.one (.sl 0 1 0 ((IntKind.i64.wrap (p1.tdiv (8 : Int))).toNat)) : AV) = .one (.sl 0 1 0 (List.replicate (IntKind.i64.wrap (p1.tdiv (8 : Int))).toNat (0 : Int)).length) from by simp), .rfl _, .rfl _, .rfl _, trivial⟩)) (hL1 BIG (List.replicate (IntKind.i64.wrap (p1.tdiv (8 : Int))).toNat (0 : Int)) (0 : Int) h)

def ref2_Bloom_j1 (p1 : Int) (p2 : (List GValue)) : Option ((List Int) × Int) :=
    bnd (ref2_bloom p1 p2) fun r3 =>
    some (r3, (0 : Int))

def ref2_Bloom_l1 (p1 : Int) (p2 : (List GValue)) : Nat → Int → Option ((List Int) × Int)
  | 0, _ => none
  | k1 + 1, x1 =>
    ift (decide (x1 < (p2.length : Int)))
      (bnd (at? p2 x1) fun e1 =>
       bnd (ref1_Sound e1) fun r2 =>
       ift (!r2)
         (some ([], (1 : Int)))
         ((ref2_Bloom_l1 p1 p2 k1) (IntKind.i64.wrap (x1 + (1 : Int)))))
      (ref2_Bloom_j1 p1 p2)

def ref2_Bloom (p1 : Int) (p2 : (List GValue)) : Option ((List Int) × Int) :=
    bnd (ref2_rightBits p1) fun r1 =>
    ift (!r1)
      (some ([], (3 : Int)))
      (ref2_Bloom_l1 p1 p2 BIG (0 : Int))

abbrev qa1584 (e1 : GValue) : List CV := [ci e1.kind, ci e1.n, ci e1.scale, cst e1.s, cl eValue e1.items]
abbrev qa1586 (p1 : Int) (p2 : (List GValue)) (x1 : Int) : Fr := [(0, vi p1), (1, vl eValue p2), (11, vl eValue p2), (12, vi (p2.length : Int)), (13, vi (IntKind.i64.wrap (x1 + (1 : Int))))]

theorem c_ref2_Bloom (p1 : Int) (p2 : (List GValue)) (r : ((List Int) × Int)) (h : ref2_Bloom p1 p2 = some r) : PC Tryd.prog 15 [vi p1, vl eValue p2] (.tp [vl (eK .u8) r.1, vi r.2]) := by
 unfold ref2_Bloom at h
 refine zF 24 Tryd.f15 (zq fun K1 hK1 => zr (zg [7] 2 [0,1] (zd (hK1 _ _ (zq fun K2 hK2 => zq fun K3 hK3 => ?_)))))
 obtain ⟨r1, c4, h⟩ := zB h
 refine zr (zg [7] 1 [0,1,8] (zl 41 [vi p1] (vb r1) [(9, vb r1), (0, vi p1), (1, vl eValue p2), (8, vi p1)] (c_ref2_rightBits _ _ c4) (zg [7] 1 [0,1,10] (zd (hK3 _ _ (zC h (fun b5 h => ?_) (fun b5 h => ?_)))))))
 ·refine zq fun K6 hK6 => zr (zg [7] 2 [4,5] (zd (hK6 _ _ (ze ?_))))
  obtain rfl := Option.some.inj h
  exact zf [.one (.pv (.s (.slice none 0 0))), vi (3 : Int)] (.tpc (.one (.nl)) (.tpc (.one (.rfl _ rfl)) (.tp0)))
 ·refine zs (hK2 _ _ (zq fun K7 hK7 => ?_))
  have hJ1 : ∀ (_ : Unit), ref2_Bloom_j1 p1 p2 = some r → ∀ fr1 st1, Sub 24 0 [] fr1 st1 [(0, vi p1), (1, vl eValue p2)] [] → K7 fr1 st1 := by
   intro _ h fr1 st1 hS
   unfold ref2_Bloom_j1 at h
   refine hK7 _ _ (XW.sub hS ?_)
   refine zq fun K19 hK19 => ?_
   obtain ⟨r3, c20, h⟩ := zB h
   refine zr (zg [7] 2 [21,22] (za (c_ref2_bloom _ _ _ c20) (zv [7] 2 [4,5] [] [(4, vl (eK .u8) r3), (5, vi (0 : Int))] [] (zd (hK19 _ _ (ze ?_))))))
   obtain rfl := Option.some.inj h
   exact zf [vl (eK .u8) r3, vi (0 : Int)] (.tpc (.one (.rfl _ rfl)) (.tpc (.one (.rfl _ rfl)) (.tp0)))
  refine zq fun K8 hK8 => zr (zv [7] 2 [0,1,11,12] [] [(0, vi p1), (1, vl eValue p2), (11, vl eValue p2), (12, vi ((eValue.els p2).length : Int))] [] ?_)
  rw [eValue.len p2]
  refine zg [7] 1 [0,1,11,12,13] (zd (hK8 _ _ (zb 0 (XW.rounds' BIG (x := cd Tryd.f15 [1,1,0,1,0,0]) (by kernel_rfl) fun Q1 hQ1 => ?_))))
  have hL1 : ∀ (k1 : Nat) (x1 : Int), ref2_Bloom_l1 p1 p2 k1 x1 = some r → XR Tryd.prog 24 0 [] (cd Tryd.f15 [1,1,0,1,0,0]) Q1 k1 [(0, vi p1), (1, vl eValue p2), (11, vl eValue p2), (12, vi (p2.length : Int)), (13, vi x1)] [] := by
   intro k1
   induction k1 with
   | zero => intro x1 h; rw [ref2_Bloom_l1.eq_1] at h; cases h
   | succ k1 ih1 =>
    intro x1 h
    rw [ref2_Bloom_l1.eq_2] at h
    refine zq fun K9 hK9 => zr (zg [7] 1 [0,1,11,12,13,14] (zd (hK9 _ _ (zq fun K10 hK10 => zC h (fun b11 h => ?_) (fun b11 h => ?_)))))
    ·refine zs (hK10 _ _ (zq fun K12 hK12 => zb 1 (zq fun K13 hK13 => ?_)))
     obtain ⟨e1, a14, h⟩ := zB h
     refine zr (zo [7] 4 [0,1,7,11,12,13] [[pi e1.kind, pi e1.n, pi e1.scale, .s (.string e1.s), .ro (eValue.els e1.items)]] [0 ≤ x1 ∧ x1 < ((eValue.els p2).length : Int) ∧ elemsOk 5 (eValue.els p2), (eValue.els p2)[x1.toNat]? = some [pi e1.kind, pi e1.n, pi e1.scale, .s (.string e1.s), .ro (eValue.els e1.items)]] (⟨eValue.inb a14, ((eValue.get a14).trans (by cases e1; rfl)), trivial⟩) (zd (hK13 _ _ (zq fun K15 hK15 => ?_))))
     obtain ⟨r2, c16, h⟩ := zB h
     refine zr (zv [7] 1 [0,1,11,12,13,17] [] [(0, vi p1), (1, vl eValue p2), (11, vl eValue p2), (12, vi (p2.length : Int)), (13, vi x1), (17, .ag (qa1584 e1))] [.box (qa1584 e1)] (za (c_ref1_Sound _ _ c16) (zg [7] 1 [0,1,11,12,13,19] (zd (hK15 _ _ (zC h (fun b17 h => ?_) (fun b17 h => ?_)))))))
     ·refine zq fun K18 hK18 => zr (zv [7] 2 [4,5] [] [(4, .one (.pv (.s (.slice none 0 0)))), (5, vi (1 : Int))] [.box (qa1584 e1)] (zd (hK18 _ _ (ze (hQ1 _ _ _ ?_)))))
      obtain rfl := Option.some.inj h
      exact zf [.one (.pv (.s (.slice none 0 0))), vi (1 : Int)] (.tpc (.one (.nl)) (.tpc (.one (.rfl _ rfl)) (.tp0)))
     ·exact zs (hK12 _ _ (zr (zg [7] 2 [0,1,11,12,13] (zd (XR.sub (Sub.trans (Sub.pick (fr' := (qa1586 p1 p2 x1)) [0,1,11,12,13] (by kernel_rfl)) (Sub.take (fr' := (qa1586 p1 p2 x1)) 0 (Nat.zero_le _) (by kernel_rfl) (by kernel_rfl))) (ih1 (IntKind.i64.wrap (x1 + (1 : Int))) h))))))
    ·exact zx 0 (hQ1 _ _ _ (hJ1 () h _ _ (zk [0,1])))
  exact XR.sub (zk [0,1,11,12,13]) (hL1 BIG (0 : Int) h)

def bytes_Equal (p1 : (List Int)) (p2 : (List Int)) : Option Bool :=
    some ((strOfNums p1).toList == (strOfNums p2).toList)


theorem c_bytes_Equal (p1 : (List Int)) (p2 : (List Int)) (r : Bool) (h : bytes_Equal p1 p2 = some r) : PC Tryd.prog 16 [vl (eK .u8) p1, vl (eK .u8) p2] (vb r) := by
 unfold bytes_Equal at h
 refine zF 10 Tryd.f16 (zq fun K1 hK1 => zr (zg [] 1 [0,1] (zd (hK1 _ _ (zq fun K2 hK2 => zr ?_)))))
 refine zp [] 2 [1,6] [] [(1, vl (eK .u8) p2), (6, vs (strOfEls ((eK .u8).els p1)))] [] [bytesOk ((eK .u8).els p1)] (⟨bytesOk_eK _, trivial⟩) ?_
 rw [strOf_eK p1]
 refine zp [] 2 [6,8] [] [(6, vs (strOfNums p1)), (8, vs (strOfEls ((eK .u8).els p2)))] [] [bytesOk ((eK .u8).els p2)] (⟨bytesOk_eK _, trivial⟩) ?_
 rw [strOf_eK p2]
 refine zg [] 2 [4] (zd (hK2 _ _ (ze ?_)))
 obtain rfl := Option.some.inj h
 exact zf [vb ((strOfNums p1).toList == (strOfNums p2).toList)] (.one (.rfl _ rfl))

def column_Maybe (p1 : (List Int)) (p2 : GValue) : Option Bool :=
    ift ((p1.length : Int) == (0 : Int))
      (some true)
      (bnd (value_Sound p2) fun r1 =>
       ift (!r1)
         (some false)
         (ift (p2.kind == (0 : Int))
            (some true)
            (bnd (column_places (IntKind.i64.wrap ((8 : Int) * (p1.length : Int))) p2) fun r2 =>
             bnd (at? p1 (IntKind.i64.wrap (r2.1.tdiv (8 : Int)))) fun e1 =>
             grd (0 ≤ (r2.1.tmod (8 : Int))) <|
             bnd (some (IntKind.u8.wrap (BitVec.ofInt (IntKind.u8).bits (e1.fdiv (2 ^ (min (r2.1.tmod (8 : Int)).toNat (IntKind.u8).bits))) &&& BitVec.ofInt (IntKind.u8).bits (1 : Int)).toNat)) fun y1 =>
             ift (y1 == (0 : Int))
               (some false)
               (bnd (at? p1 (IntKind.i64.wrap (r2.2.1.tdiv (8 : Int)))) fun e2 =>
                grd (0 ≤ (r2.2.1.tmod (8 : Int))) <|
                bnd (some (IntKind.u8.wrap (BitVec.ofInt (IntKind.u8).bits (e2.fdiv (2 ^ (min (r2.2.1.tmod (8 : Int)).toNat (IntKind.u8).bits))) &&& BitVec.ofInt (IntKind.u8).bits (1 : Int)).toNat)) fun y2 =>
                ift (y2 == (0 : Int))
                  (some false)
                  (bnd (at? p1 (IntKind.i64.wrap (r2.2.2.tdiv (8 : Int)))) fun e3 =>
                   grd (0 ≤ (r2.2.2.tmod (8 : Int))) <|
                   bnd (some (IntKind.u8.wrap (BitVec.ofInt (IntKind.u8).bits (e3.fdiv (2 ^ (min (r2.2.2.tmod (8 : Int)).toNat (IntKind.u8).bits))) &&& BitVec.ofInt (IntKind.u8).bits (1 : Int)).toNat)) fun y3 =>
                   ift (y3 == (0 : Int))
                     (some false)
                     (some true))))))

abbrev qa1590 (p2 : GValue) : List PV := [pi p2.kind, pi p2.n, pi p2.scale, .s (.string p2.s), .ro (eValue.els p2.items)]

theorem c_column_Maybe (p1 : (List Int)) (p2 : GValue) (r : Bool) (h : column_Maybe p1 p2 = some r) : PC Tryd.prog 17 [vl (eK .u8) p1, .ag [ci p2.kind, ci p2.n, ci p2.scale, cst p2.s, cl eValue p2.items]] (vb r) := by
 unfold column_Maybe at h
 refine zF 38 Tryd.f17 (zq fun K1 hK1 => zr (zg [] 2 [0,3] (zd (hK1 _ _ (zq fun K2 hK2 => zb 0 ?_)))))
 refine zq fun K3 hK3 => zr (zv [] 2 [0,3,9] [] [(0, vl (eK .u8) p1), (3, .one (.pv (.rp [[pi p2.kind, pi p2.n, pi p2.scale, .s (.string p2.s), .ro (eValue.els p2.items)]] 0 0))), (9, vi (((eK .u8).els p1).length : Int))] [] ?_)
 rw [(eK .u8).len p1]
 refine zg [] 2 [0,3,7] (zd (hK3 _ _ (zC h (fun b4 h => ?_) (fun b4 h => ?_))))
 ·refine zq fun K5 hK5 => zr (zg [] 1 [4] (zd (hK5 _ _ (ze ?_))))
  obtain rfl := Option.some.inj h
  exact zf [vb true] (.one (.rfl _ rfl))
 ·refine zq fun K6 hK6 => ?_
  obtain ⟨r1, c7, h⟩ := zB h
  refine zr (zv [] 1 [0,3,12] [(qa1590 p2)] [(0, vl (eK .u8) p1), (3, .one (.pv (.rp [(qa1590 p2)] 0 0))), (12, .ag [ci p2.kind, ci p2.n, ci p2.scale, cst p2.s, cl eValue p2.items])] [] (za (c_value_Sound _ _ c7) (zg [] 2 [0,3,11] (zd (hK6 _ _ (zC h (fun b8 h => ?_) (fun b8 h => ?_)))))))
  ·refine zq fun K9 hK9 => zr (zv [] 1 [4] [] [(4, vb false)] [] (zd (hK9 _ _ (ze ?_))))
   obtain rfl := Option.some.inj h
   exact zf [vb false] (.one (.rfl _ rfl))
  ·refine zq fun K10 hK10 => zr (zu [] 4 [0,3,15] [(qa1590 p2)] (zd (hK10 _ _ (zC h (fun b11 h => ?_) (fun b11 h => ?_)))))
   ·refine zq fun K12 hK12 => zr (zg [] 1 [4] (zd (hK12 _ _ (ze ?_))))
    obtain rfl := Option.some.inj h
    exact zf [vb true] (.one (.rfl _ rfl))
   ·refine zs (hK2 _ _ (zq fun K13 hK13 => zq fun K14 hK14 => ?_))
    obtain ⟨r2, c15, h⟩ := zB h
    refine zr (zv [] 2 [0,3,20] [] [(0, vl (eK .u8) p1), (3, .one (.pv (.rp [[pi p2.kind, pi p2.n, pi p2.scale, .s (.string p2.s), .ro (eValue.els p2.items)]] 0 0))), (20, vi (((eK .u8).els p1).length : Int))] [] ?_)
    rw [(eK .u8).len p1]
    refine zu [] 2 [0,21,22] [(qa1590 p2)] (za (c_column_places _ _ _ c15) (zv [] 1 [0,23,24] [] [(0, vl (eK .u8) p1), (23, .ag [ci r2.1, ci r2.2.1, ci r2.2.2]), (24, vi (0 : Int))] [] (zd (hK14 _ _ (zb 1 (XW.rounds' 4 (x := cd Tryd.f17 [1,1,0,1,0,0]) (by kernel_rfl) fun Q1 hQ1 => XR.one ?_))))))
    refine zq fun K16 hK16 => zr (zg [] 1 [0,23,24,25] (zd (hK16 _ _ (zq fun K17 hK17 => zc true (fun _ => ?_) (fun hx => by cases hx)))))
    refine zs (hK17 _ _ (zq fun K18 hK18 => zb 2 (zq fun K19 hK19 => zr (zo [] 2 [0,6,23,24] [] [0 ≤ (0 : Int) ∧ (0 : Int) < 3] (⟨by decide, trivial⟩) (zd ?_)))))
    refine hK19 _ _ (zq fun K20 hK20 => ?_)
    obtain ⟨e1, a21, h⟩ := zB h
    obtain ⟨g22, h⟩ := zG h
    obtain ⟨y1, hy23, h⟩ := zB h
    refine zr ?_
    refine zp [] 9 [0,23,24,35] [[.s (.int .u8 e1)]] [(0, vl (eK .u8) p1), (23, .ag [ci r2.1, ci r2.2.1, ci r2.2.2]), (24, vi (0 : Int)), (35, vk .u8 (IntKind.u8.wrap (BitVec.ofInt (IntKind.u8).bits (e1.fdiv (2 ^ (min (r2.1.tmod (8 : Int)).toNat (IntKind.u8).bits))) &&& BitVec.ofInt (IntKind.u8).bits (1 : Int)).toNat))] [] [(8 : Int) ≠ 0, 0 ≤ (IntKind.i64.wrap (r2.1.tdiv (8 : Int))) ∧ (IntKind.i64.wrap (r2.1.tdiv (8 : Int))) < (((eK .u8).els p1).length : Int) ∧ elemsOk 1 ((eK .u8).els p1), ((eK .u8).els p1)[(IntKind.i64.wrap (r2.1.tdiv (8 : Int))).toNat]? = some [.s (.int .u8 e1)], (8 : Int) ≠ 0, 0 ≤ (r2.1.tmod (8 : Int))] (⟨by decide, (eK .u8).inb a21, ((eK .u8).get a21), by decide, g22, trivial⟩) ?_
    rw [show (IntKind.u8.wrap (BitVec.ofInt (IntKind.u8).bits (e1.fdiv (2 ^ (min (r2.1.tmod (8 : Int)).toNat (IntKind.u8).bits))) &&& BitVec.ofInt (IntKind.u8).bits (1 : Int)).toNat) = y1 from Option.some.inj hy23]
    refine zg [] 1 [0,23,24,36] (zd (hK20 _ _ (zC h (fun b24 h => ?_) (fun b24 h => ?_))))
    ·refine zq fun K25 hK25 => zr (zg [] 1 [4] (zd (hK25 _ _ (ze (hQ1 _ _ _ ?_)))))
     obtain rfl := Option.some.inj h
     exact zf [vb false] (.one (.rfl _ rfl))
    ·refine zs (hK18 _ _ (zr (zv [] 2 [0,23,24] [] [(0, vl (eK .u8) p1), (23, .ag [ci r2.1, ci r2.2.1, ci r2.2.2]), (24, vi (1 : Int))] [] (zd (XR.one (zq fun K26 hK26 => zr ?_))))))
     refine zg [] 1 [0,23,24,25] (zd (hK26 _ _ (zq fun K27 hK27 => zc true (fun _ => ?_) (fun hx => by cases hx))))
     refine zs (hK27 _ _ (zq fun K28 hK28 => zb 2 (zq fun K29 hK29 => zr (zo [] 2 [0,6,23,24] [] [0 ≤ (1 : Int) ∧ (1 : Int) < 3] (⟨by decide, trivial⟩) (zd ?_)))))
     refine hK29 _ _ (zq fun K30 hK30 => ?_)
     obtain ⟨e2, a31, h⟩ := zB h
     obtain ⟨g32, h⟩ := zG h
     obtain ⟨y2, hy33, h⟩ := zB h
     refine zr ?_
     refine zp [] 9 [0,23,24,35] [[.s (.int .u8 e2)]] [(0, vl (eK .u8) p1), (23, .ag [ci r2.1, ci r2.2.1, ci r2.2.2]), (24, vi (1 : Int)), (35, vk .u8 (IntKind.u8.wrap (BitVec.ofInt (IntKind.u8).bits (e2.fdiv (2 ^ (min (r2.2.1.tmod (8 : Int)).toNat (IntKind.u8).bits))) &&& BitVec.ofInt (IntKind.u8).bits (1 : Int)).toNat))] [] [(8 : Int) ≠ 0, 0 ≤ (IntKind.i64.wrap (r2.2.1.tdiv (8 : Int))) ∧ (IntKind.i64.wrap (r2.2.1.tdiv (8 : Int))) < (((eK .u8).els p1).length : Int) ∧ elemsOk 1 ((eK .u8).els p1), ((eK .u8).els p1)[(IntKind.i64.wrap (r2.2.1.tdiv (8 : Int))).toNat]? = some [.s (.int .u8 e2)], (8 : Int) ≠ 0, 0 ≤ (r2.2.1.tmod (8 : Int))] (⟨by decide, (eK .u8).inb a31, ((eK .u8).get a31), by decide, g32, trivial⟩) ?_
     rw [show (IntKind.u8.wrap (BitVec.ofInt (IntKind.u8).bits (e2.fdiv (2 ^ (min (r2.2.1.tmod (8 : Int)).toNat (IntKind.u8).bits))) &&& BitVec.ofInt (IntKind.u8).bits (1 : Int)).toNat) = y2 from Option.some.inj hy33]
     refine zg [] 1 [0,23,24,36] (zd (hK30 _ _ (zC h (fun b34 h => ?_) (fun b34 h => ?_))))
     ·refine zq fun K35 hK35 => zr (zg [] 1 [4] (zd (hK35 _ _ (ze (hQ1 _ _ _ ?_)))))
      obtain rfl := Option.some.inj h
      exact zf [vb false] (.one (.rfl _ rfl))
     ·refine zs (hK28 _ _ (zr (zv [] 2 [0,23,24] [] [(0, vl (eK .u8) p1), (23, .ag [ci r2.1, ci r2.2.1, ci r2.2.2]), (24, vi (2 : Int))] [] (zd (XR.one (zq fun K36 hK36 => zr ?_))))))
      refine zg [] 1 [0,23,24,25] (zd (hK36 _ _ (zq fun K37 hK37 => zc true (fun _ => ?_) (fun hx => by cases hx))))
      refine zs (hK37 _ _ (zq fun K38 hK38 => zb 2 (zq fun K39 hK39 => zr (zo [] 2 [0,6,23,24] [] [0 ≤ (2 : Int) ∧ (2 : Int) < 3] (⟨by decide, trivial⟩) (zd ?_)))))
      refine hK39 _ _ (zq fun K40 hK40 => ?_)
      obtain ⟨e3, a41, h⟩ := zB h
      obtain ⟨g42, h⟩ := zG h
      obtain ⟨y3, hy43, h⟩ := zB h
      refine zr ?_
      refine zp [] 9 [0,23,24,35] [[.s (.int .u8 e3)]] [(0, vl (eK .u8) p1), (23, .ag [ci r2.1, ci r2.2.1, ci r2.2.2]), (24, vi (2 : Int)), (35, vk .u8 (IntKind.u8.wrap (BitVec.ofInt (IntKind.u8).bits (e3.fdiv (2 ^ (min (r2.2.2.tmod (8 : Int)).toNat (IntKind.u8).bits))) &&& BitVec.ofInt (IntKind.u8).bits (1 : Int)).toNat))] [] [(8 : Int) ≠ 0, 0 ≤ (IntKind.i64.wrap (r2.2.2.tdiv (8 : Int))) ∧ (IntKind.i64.wrap (r2.2.2.tdiv (8 : Int))) < (((eK .u8).els p1).length : Int) ∧ elemsOk 1 ((eK .u8).els p1), ((eK .u8).els p1)[(IntKind.i64.wrap (r2.2.2.tdiv (8 : Int))).toNat]? = some [.s (.int .u8 e3)], (8 : Int) ≠ 0, 0 ≤ (r2.2.2.tmod (8 : Int))] (⟨by decide, (eK .u8).inb a41, ((eK .u8).get a41), by decide, g42, trivial⟩) ?_
      rw [show (IntKind.u8.wrap (BitVec.ofInt (IntKind.u8).bits (e3.fdiv (2 ^ (min (r2.2.2.tmod (8 : Int)).toNat (IntKind.u8).bits))) &&& BitVec.ofInt (IntKind.u8).bits (1 : Int)).toNat) = y3 from Option.some.inj hy43]
      refine zg [] 1 [0,23,24,36] (zd (hK40 _ _ (zC h (fun b44 h => ?_) (fun b44 h => ?_))))
      ·refine zq fun K45 hK45 => zr (zg [] 1 [4] (zd (hK45 _ _ (ze (hQ1 _ _ _ ?_)))))
       obtain rfl := Option.some.inj h
       exact zf [vb false] (.one (.rfl _ rfl))
      ·refine zs (hK38 _ _ (zr (zv [] 2 [0,23,24] [] [(0, vl (eK .u8) p1), (23, .ag [ci r2.1, ci r2.2.1, ci r2.2.2]), (24, vi (3 : Int))] [] (zd (XR.one (zq fun K46 hK46 => zr ?_))))))
       refine zg [] 1 [0,23,24,25] (zd (hK46 _ _ (zq fun K47 hK47 => zc false (fun hx => by cases hx) (fun _ => ?_))))
       refine zx 1 (hQ1 _ _ _ (hK13 _ _ (zq fun K48 hK48 => zr (zg [] 1 [4] (zd (hK48 _ _ ?_))))))
       refine ze ?_
       obtain rfl := Option.some.inj h
       exact zf [vb true] (.one (.rfl _ rfl))

def ref2_Maybe_j1 (p1 : (List Int)) (p2 : GValue) (x1 : Bool) : Option Bool :=
    ift x1
      (some true)
      (bnd (ref1_Sound p2) fun r2 =>
       ift (!r2)
         (some false)
         (bnd (ref2_spots (IntKind.i64.wrap ((8 : Int) * (p1.length : Int))) p2) fun r3 =>
          bnd (at? p1 (IntKind.i64.wrap (r3.1.tdiv (8 : Int)))) fun e1 =>
          grd (0 ≤ (r3.1.tmod (8 : Int))) <|
          bnd (some ((e1.fdiv (2 ^ (min (r3.1.tmod (8 : Int)).toNat (IntKind.u8).bits))).tmod (2 : Int))) fun y1 =>
          ift (y1 == (0 : Int))
            (some false)
            (bnd (at? p1 (IntKind.i64.wrap (r3.2.1.tdiv (8 : Int)))) fun e2 =>
             grd (0 ≤ (r3.2.1.tmod (8 : Int))) <|
             bnd (some ((e2.fdiv (2 ^ (min (r3.2.1.tmod (8 : Int)).toNat (IntKind.u8).bits))).tmod (2 : Int))) fun y2 =>
             ift (y2 == (0 : Int))
               (some false)
               (bnd (at? p1 (IntKind.i64.wrap (r3.2.2.tdiv (8 : Int)))) fun e3 =>
                grd (0 ≤ (r3.2.2.tmod (8 : Int))) <|
                bnd (some ((e3.fdiv (2 ^ (min (r3.2.2.tmod (8 : Int)).toNat (IntKind.u8).bits))).tmod (2 : Int))) fun y3 =>
                ift (y3 == (0 : Int))
                  (some false)
                  (some true)))))

def ref2_Maybe (p1 : (List Int)) (p2 : GValue) : Option Bool :=
    ift ((p1.length : Int) == (0 : Int))
      (ref2_Maybe_j1 p1 p2 true)
      (ift (p2.kind == (0 : Int))
         (bnd (ref1_Sound p2) fun r1 =>
          ref2_Maybe_j1 p1 p2 r1)
         (ref2_Maybe_j1 p1 p2 false))

abbrev qa1598 (p2 : GValue) : List CV := [ci p2.kind, ci p2.n, ci p2.scale, cst p2.s, cl eValue p2.items]
abbrev qa1599 (p2 : GValue) : List PV := [pi p2.kind, pi p2.n, pi p2.scale, .s (.string p2.s), .ro (eValue.els p2.items)]

theorem c_ref2_Maybe (p1 : (List Int)) (p2 : GValue) (r : Bool) (h : ref2_Maybe p1 p2 = some r) : PC Tryd.prog 18 [vl (eK .u8) p1, .ag (qa1598 p2)] (vb r) := by
 unfold ref2_Maybe at h
 refine zF 41 Tryd.f18 (zq fun K1 hK1 => zr (zg [] 2 [0,3] (zd (hK1 _ _ (zq fun K2 hK2 => zq fun K3 hK3 => ?_)))))
 have hJ1 : ∀ (x1 : Bool), ref2_Maybe_j1 p1 p2 x1 = some r → ∀ fr1 st1, Sub 41 0 [] fr1 st1 [(0, vl (eK .u8) p1), (3, .one (.pv (.rp [(qa1599 p2)] 0 0))), (18, vb x1)] [] → K3 fr1 st1 := by
  intro x1 h fr1 st1 hS
  unfold ref2_Maybe_j1 at h
  refine hK3 _ _ (XW.sub hS ?_)
  refine zC h (fun b7 h => ?_) (fun b7 h => ?_)
  ·refine zq fun K8 hK8 => zr (zg [] 1 [4] (zd (hK8 _ _ (ze ?_))))
   obtain rfl := Option.some.inj h
   exact zf [vb true] (.one (.rfl _ rfl))
  ·refine zs (hK2 _ _ (zq fun K9 hK9 => zq fun K10 hK10 => ?_))
   obtain ⟨r2, c11, h⟩ := zB h
   refine zr (zu [] 1 [0,3,19] [(qa1599 p2)] (zl 24 [.ag (qa1598 p2)] (vb r2) [(20, vb r2), (0, vl (eK .u8) p1), (3, .one (.pv (.rp [(qa1599 p2)] 0 0))), (19, .ag (qa1598 p2))] (c_ref1_Sound _ _ c11) (zg [] 1 [0,3,21] (zd (hK10 _ _ (zC h (fun b12 h => ?_) (fun b12 h => ?_)))))))
   ·refine zq fun K13 hK13 => zr (zg [] 1 [4] (zd (hK13 _ _ (ze ?_))))
    obtain rfl := Option.some.inj h
    exact zf [vb false] (.one (.rfl _ rfl))
   ·refine zs (hK9 _ _ (zq fun K14 hK14 => zq fun K15 hK15 => ?_))
    obtain ⟨r3, c16, h⟩ := zB h
    refine zr (zv [] 2 [0,3,23] [] [(0, vl (eK .u8) p1), (3, .one (.pv (.rp [[pi p2.kind, pi p2.n, pi p2.scale, .s (.string p2.s), .ro (eValue.els p2.items)]] 0 0))), (23, vi (((eK .u8).els p1).length : Int))] [] ?_)
    rw [(eK .u8).len p1]
    refine zu [] 2 [0,24,25] [(qa1599 p2)] (za (c_ref2_spots _ _ _ c16) (zv [] 1 [0,26,27] [] [(0, vl (eK .u8) p1), (26, .ag [ci r3.1, ci r3.2.1, ci r3.2.2]), (27, vi (0 : Int))] [] (zd (hK15 _ _ (zb 0 (XW.rounds' 4 (x := cd Tryd.f18 [1,1,1,0,1,0,0]) (by kernel_rfl) fun Q1 hQ1 => XR.one ?_))))))
    refine zq fun K17 hK17 => zr (zg [] 1 [0,26,27,28] (zd (hK17 _ _ (zq fun K18 hK18 => zc true (fun _ => ?_) (fun hx => by cases hx)))))
    refine zs (hK18 _ _ (zq fun K19 hK19 => zb 1 (zq fun K20 hK20 => zr (zo [] 2 [0,6,26,27] [] [0 ≤ (0 : Int) ∧ (0 : Int) < 3] (⟨by decide, trivial⟩) (zd ?_)))))
    refine hK20 _ _ (zq fun K21 hK21 => ?_)
    obtain ⟨e1, a22, h⟩ := zB h
    obtain ⟨g23, h⟩ := zG h
    obtain ⟨y1, hy24, h⟩ := zB h
    refine zr ?_
    refine zp [] 9 [0,26,27,38] [[.s (.int .u8 e1)]] [(0, vl (eK .u8) p1), (26, .ag [ci r3.1, ci r3.2.1, ci r3.2.2]), (27, vi (0 : Int)), (38, vk .u8 ((e1.fdiv (2 ^ (min (r3.1.tmod (8 : Int)).toNat (IntKind.u8).bits))).tmod (2 : Int)))] [] [(8 : Int) ≠ 0, 0 ≤ (IntKind.i64.wrap (r3.1.tdiv (8 : Int))) ∧ (IntKind.i64.wrap (r3.1.tdiv (8 : Int))) < (((eK .u8).els p1).length : Int) ∧ elemsOk 1 ((eK .u8).els p1), ((eK .u8).els p1)[(IntKind.i64.wrap (r3.1.tdiv (8 : Int))).toNat]? = some [.s (.int .u8 e1)], (8 : Int) ≠ 0, 0 ≤ (r3.1.tmod (8 : Int)), (2 : Int) ≠ 0] (⟨by decide, (eK .u8).inb a22, ((eK .u8).get a22), by decide, g23, by decide, trivial⟩) ?_
    rw [show ((e1.fdiv (2 ^ (min (r3.1.tmod (8 : Int)).toNat (IntKind.u8).bits))).tmod (2 : Int)) = y1 from Option.some.inj hy24]
    refine zg [] 1 [0,26,27,39] (zd (hK21 _ _ (zC h (fun b25 h => ?_) (fun b25 h => ?_))))
    ·refine zq fun K26 hK26 => zr (zg [] 1 [4] (zd (hK26 _ _ (ze (hQ1 _ _ _ ?_)))))
     obtain rfl := Option.some.inj h
     exact zf [vb false] (.one (.rfl _ rfl))
    ·refine zs (hK19 _ _ (zr (zv [] 2 [0,26,27] [] [(0, vl (eK .u8) p1), (26, .ag [ci r3.1, ci r3.2.1, ci r3.2.2]), (27, vi (1 : Int))] [] (zd (XR.one (zq fun K27 hK27 => zr ?_))))))
     refine zg [] 1 [0,26,27,28] (zd (hK27 _ _ (zq fun K28 hK28 => zc true (fun _ => ?_) (fun hx => by cases hx))))
     refine zs (hK28 _ _ (zq fun K29 hK29 => zb 1 (zq fun K30 hK30 => zr (zo [] 2 [0,6,26,27] [] [0 ≤ (1 : Int) ∧ (1 : Int) < 3] (⟨by decide, trivial⟩) (zd ?_)))))
     refine hK30 _ _ (zq fun K31 hK31 => ?_)
     obtain ⟨e2, a32, h⟩ := zB h
     obtain ⟨g33, h⟩ := zG h
     obtain ⟨y2, hy34, h⟩ := zB h
     refine zr ?_
     refine zp [] 9 [0,26,27,38] [[.s (.int .u8 e2)]] [(0, vl (eK .u8) p1), (26, .ag [ci r3.1, ci r3.2.1, ci r3.2.2]), (27, vi (1 : Int)), (38, vk .u8 ((e2.fdiv (2 ^ (min (r3.2.1.tmod (8 : Int)).toNat (IntKind.u8).bits))).tmod (2 : Int)))] [] [(8 : Int) ≠ 0, 0 ≤ (IntKind.i64.wrap (r3.2.1.tdiv (8 : Int))) ∧ (IntKind.i64.wrap (r3.2.1.tdiv (8 : Int))) < (((eK .u8).els p1).length : Int) ∧ elemsOk 1 ((eK .u8).els p1), ((eK .u8).els p1)[(IntKind.i64.wrap (r3.2.1.tdiv (8 : Int))).toNat]? = some [.s (.int .u8 e2)], (8 : Int) ≠ 0, 0 ≤ (r3.2.1.tmod (8 : Int)), (2 : Int) ≠ 0] (⟨by decide, (eK .u8).inb a32, ((eK .u8).get a32), by decide, g33, by decide, trivial⟩) ?_
     rw [show ((e2.fdiv (2 ^ (min (r3.2.1.tmod (8 : Int)).toNat (IntKind.u8).bits))).tmod (2 : Int)) = y2 from Option.some.inj hy34]
     refine zg [] 1 [0,26,27,39] (zd (hK31 _ _ (zC h (fun b35 h => ?_) (fun b35 h => ?_))))
     ·refine zq fun K36 hK36 => zr (zg [] 1 [4] (zd (hK36 _ _ (ze (hQ1 _ _ _ ?_)))))
      obtain rfl := Option.some.inj h
      exact zf [vb false] (.one (.rfl _ rfl))
     ·refine zs (hK29 _ _ (zr (zv [] 2 [0,26,27] [] [(0, vl (eK .u8) p1), (26, .ag [ci r3.1, ci r3.2.1, ci r3.2.2]), (27, vi (2 : Int))] [] (zd (XR.one (zq fun K37 hK37 => zr ?_))))))
      refine zg [] 1 [0,26,27,28] (zd (hK37 _ _ (zq fun K38 hK38 => zc true (fun _ => ?_) (fun hx => by cases hx))))
      refine zs (hK38 _ _ (zq fun K39 hK39 => zb 1 (zq fun K40 hK40 => zr (zo [] 2 [0,6,26,27] [] [0 ≤ (2 : Int) ∧ (2 : Int) < 3] (⟨by decide, trivial⟩) (zd ?_)))))
      refine hK40 _ _ (zq fun K41 hK41 => ?_)
      obtain ⟨e3, a42, h⟩ := zB h
      obtain ⟨g43, h⟩ := zG h
      obtain ⟨y3, hy44, h⟩ := zB h
      refine zr ?_
      refine zp [] 9 [0,26,27,38] [[.s (.int .u8 e3)]] [(0, vl (eK .u8) p1), (26, .ag [ci r3.1, ci r3.2.1, ci r3.2.2]), (27, vi (2 : Int)), (38, vk .u8 ((e3.fdiv (2 ^ (min (r3.2.2.tmod (8 : Int)).toNat (IntKind.u8).bits))).tmod (2 : Int)))] [] [(8 : Int) ≠ 0, 0 ≤ (IntKind.i64.wrap (r3.2.2.tdiv (8 : Int))) ∧ (IntKind.i64.wrap (r3.2.2.tdiv (8 : Int))) < (((eK .u8).els p1).length : Int) ∧ elemsOk 1 ((eK .u8).els p1), ((eK .u8).els p1)[(IntKind.i64.wrap (r3.2.2.tdiv (8 : Int))).toNat]? = some [.s (.int .u8 e3)], (8 : Int) ≠ 0, 0 ≤ (r3.2.2.tmod (8 : Int)), (2 : Int) ≠ 0] (⟨by decide, (eK .u8).inb a42, ((eK .u8).get a42), by decide, g43, by decide, trivial⟩) ?_
      rw [show ((e3.fdiv (2 ^ (min (r3.2.2.tmod (8 : Int)).toNat (IntKind.u8).bits))).tmod (2 : Int)) = y3 from Option.some.inj hy44]
      refine zg [] 1 [0,26,27,39] (zd (hK41 _ _ (zC h (fun b45 h => ?_) (fun b45 h => ?_))))
      ·refine zq fun K46 hK46 => zr (zg [] 1 [4] (zd (hK46 _ _ (ze (hQ1 _ _ _ ?_)))))
       obtain rfl := Option.some.inj h
       exact zf [vb false] (.one (.rfl _ rfl))
      ·refine zs (hK39 _ _ (zr (zv [] 2 [0,26,27] [] [(0, vl (eK .u8) p1), (26, .ag [ci r3.1, ci r3.2.1, ci r3.2.2]), (27, vi (3 : Int))] [] (zd (XR.one (zq fun K47 hK47 => zr ?_))))))
       refine zg [] 1 [0,26,27,28] (zd (hK47 _ _ (zq fun K48 hK48 => zc false (fun hx => by cases hx) (fun _ => ?_))))
       refine zx 0 (hQ1 _ _ _ (hK14 _ _ (zq fun K49 hK49 => zr (zg [] 1 [4] (zd (hK49 _ _ ?_))))))
       refine ze ?_
       obtain rfl := Option.some.inj h
       exact zf [vb true] (.one (.rfl _ rfl))
 rcases zW h with ⟨b4, h⟩ | ⟨b4, h⟩
 ·refine zr (zv [] 2 [0,3,8] [] [(0, vl (eK .u8) p1), (3, .one (.pv (.rp [[pi p2.kind, pi p2.n, pi p2.scale, .s (.string p2.s), .ro (eValue.els p2.items)]] 0 0))), (8, vi (((eK .u8).els p1).length : Int))] [] ?_)
  rw [(eK .u8).len p1]
  exact zg [] 2 [0,3,10] (zt 10 b4 (zg [] 8 [0,3,18] (zd (hJ1 true h _ _ (zk [0,3,18])))))
 ·rcases zW h with ⟨b5, h⟩ | ⟨b5, h⟩
  ·obtain ⟨r1, c6, h⟩ := zB h
   refine zr (zv [] 2 [0,3,8] [] [(0, vl (eK .u8) p1), (3, .one (.pv (.rp [[pi p2.kind, pi p2.n, pi p2.scale, .s (.string p2.s), .ro (eValue.els p2.items)]] 0 0))), (8, vi (((eK .u8).els p1).length : Int))] [] ?_)
   rw [(eK .u8).len p1]
   refine zg [] 2 [0,3,10] (zt 10 b4 (zu [] 4 [0,3,10,14] [(qa1599 p2)] (zt 14 b5 (zv [] 1 [0,3,10,14,15] [(qa1599 p2)] [(0, vl (eK .u8) p1), (3, .one (.pv (.rp [(qa1599 p2)] 0 0))), (10, vb false), (14, vb true), (15, .ag (qa1598 p2))] [] (za (c_ref1_Sound _ _ c6) (zg [] 2 [0,3,18] (zd ?_)))))))
   exact hJ1 r1 h _ _ (zk [0,3,18])
  ·refine zr (zv [] 2 [0,3,8] [] [(0, vl (eK .u8) p1), (3, .one (.pv (.rp [[pi p2.kind, pi p2.n, pi p2.scale, .s (.string p2.s), .ro (eValue.els p2.items)]] 0 0))), (8, vi (((eK .u8).els p1).length : Int))] [] ?_)
   rw [(eK .u8).len p1]
   exact zg [] 2 [0,3,10] (zt 10 b4 (zu [] 4 [0,3,10,14] [(qa1599 p2)] (zt 14 b5 (zv [] 4 [0,3,18] [] [(0, vl (eK .u8) p1), (3, .one (.pv (.rp [(qa1599 p2)] 0 0))), (18, vb false)] [] (zd (hJ1 false h _ _ (zk [0,3,18])))))))

def law2_number (p1 : Int) : Option GValue :=
    some (GValue.mk (2 : Int) p1 (0 : Int) ByteArray.empty [])


theorem c_law2_number (p1 : Int) (r : GValue) (h : law2_number p1 = some r) : PC Tryd.prog 19 [vi p1] (.ag [ci r.kind, ci r.n, ci r.scale, cst r.s, cl eValue r.items]) := by
 unfold law2_number at h
 refine zF 5 Tryd.f19 (zq fun K1 hK1 => zr (zg [2] 1 [0,2] (zd (hK1 _ _ (zq fun K2 hK2 => zr ?_)))))
 refine zg [2] 3 [2] (zd (hK2 _ _ (ze ?_)))
 obtain rfl := Option.some.inj h
 exact zf [.ag [ci (2 : Int), ci p1, ci (0 : Int), cst ByteArray.empty, .pv (.s (.slice none 0 0))]] (.ag (.cons (.rfl _ rfl) (.cons (.rfl _ rfl) (.cons (.rfl _ rfl) (.cons (.rfl _ rfl) (.cons (.nl) .nil))))))


end Go.Proofs.YtdbfodeghijdlaaDoor
namespace Go.Proofs.YtdbfodeghijdlaaDoor
open Go.SX Go
set_option linter.unusedVariables false
set_option linter.unusedSimpArgs false
set_option maxRecDepth 100000
set_option maxHeartbeats 8000000

def law2_ColumnBloomMatchesSpec_j2 (rec1 : Int → Option Bool) (x2 : Int) (x3 : Bool) : Option Bool :=
    ift x3
      (some false)
      (rec1 (IntKind.i64.wrap (x2 + (1 : Int))))

def law2_ColumnBloomMatchesSpec_j3 : Option Bool :=
    some true

def law2_ColumnBloomMatchesSpec_l1 (p2 : (List GValue)) (r1 : ((List Int) × Int)) : Nat → Int → Option Bool
  | 0, _ => none
  | k1 + 1, x2 =>
    ift (decide (x2 < (p2.length : Int)))
      (bnd (at? p2 x2) fun e1 =>
       ift (r1.2 == (0 : Int))
         (bnd (column_Maybe r1.1 e1) fun r8 =>
          law2_ColumnBloomMatchesSpec_j2 (law2_ColumnBloomMatchesSpec_l1 p2 r1 k1) x2 (!r8))
         (law2_ColumnBloomMatchesSpec_j2 (law2_ColumnBloomMatchesSpec_l1 p2 r1 k1) x2 false))
      (law2_ColumnBloomMatchesSpec_j3)

def law2_ColumnBloomMatchesSpec_j1 (p2 : (List GValue)) (r1 : ((List Int) × Int)) (x1 : Bool) : Option Bool :=
    ift x1
      (some false)
      (law2_ColumnBloomMatchesSpec_l1 p2 r1 BIG (0 : Int))

def law2_ColumnBloomMatchesSpec (p1 : Int) (p2 : (List GValue)) (p3 : (List Int)) (p4 : GValue) : Option Bool :=
    bnd (column_Bloom p1 p2) fun r1 =>
    bnd (ref2_Bloom p1 p2) fun r2 =>
    ift (r1.2 != r2.2)
      (law2_ColumnBloomMatchesSpec_j1 p2 r1 true)
      (bnd (bytes_Equal r1.1 r2.1) fun r3 =>
       ift (!r3)
         (law2_ColumnBloomMatchesSpec_j1 p2 r1 true)
         (bnd (column_Maybe p3 p4) fun r4 =>
          bnd (ref2_Maybe p3 p4) fun r5 =>
          ift (!(r4 == r5))
            (law2_ColumnBloomMatchesSpec_j1 p2 r1 true)
            (bnd (law2_number (1 : Int)) fun r6 =>
             bnd (column_Maybe [] r6) fun r7 =>
             law2_ColumnBloomMatchesSpec_j1 p2 r1 (!r7))))

abbrev qa1611 (p4 : GValue) : List CV := [ci p4.kind, ci p4.n, ci p4.scale, cst p4.s, cl eValue p4.items]
abbrev qa1612 (p4 : GValue) : List PV := [pi p4.kind, pi p4.n, pi p4.scale, .s (.string p4.s), .ro (eValue.els p4.items)]
abbrev qa1617 (e1 : GValue) : List CV := [ci e1.kind, ci e1.n, ci e1.scale, cst e1.s, cl eValue e1.items]
abbrev qa1622 (r6 : GValue) : List CV := [ci r6.kind, ci r6.n, ci r6.scale, cst r6.s, cl eValue r6.items]
abbrev qa1628 (p2 : (List GValue)) (p3 : (List Int)) (p4 : GValue) (r1 : ((List Int) × Int)) (r2 : ((List Int) × Int)) (r3 : Bool) (r4 : Bool) : Fr := [(41, .ag (qa1611 p4)), (40, vl (eK .u8) p3), (39, vb r4), (38, .ag (qa1611 p4)), (37, vl (eK .u8) p3), (36, vb false), (35, vb (!r3)), (34, vb (!r3)), (33, vb r3), (32, vl (eK .u8) r2.1), (31, vl (eK .u8) r1.1), (30, vb false), (29, vb (r1.2 != r2.2)), (28, vi r2.2), (27, vi r1.2), (1, vl eValue p2), (2, vl (eK .u8) p3), (7, .one (.pv (.rp [(qa1612 p4)] 0 0))), (9, vl (eK .u8) r1.1), (10, vi r1.2), (11, vl (eK .u8) r2.1), (12, vi r2.2)]

theorem c_law2_ColumnBloomMatchesSpec (p1 : Int) (p2 : (List GValue)) (p3 : (List Int)) (p4 : GValue) (r : Bool) (h : law2_ColumnBloomMatchesSpec p1 p2 p3 p4 = some r) : PC Tryd.prog 5 [vi p1, vl eValue p2, vl (eK .u8) p3, .ag (qa1611 p4)] (vb r) := by
 unfold law2_ColumnBloomMatchesSpec at h
 refine zF 65 Tryd.f5 (zq fun K1 hK1 => zr (zg [14] 2 [0,1,2,7] (zd (hK1 _ _ (zq fun K2 hK2 => ?_)))))
 obtain ⟨r1, c3, h⟩ := zB h
 refine zr (zg [14] 2 [0,1,2,7,16,17] (zl 14 [vi p1, vl eValue p2] (.tp [vl (eK .u8) r1.1, vi r1.2]) [(18, .tp [vl (eK .u8) r1.1, vi r1.2]), (0, vi p1), (1, vl eValue p2), (2, vl (eK .u8) p3), (7, .one (.pv (.rp [(qa1612 p4)] 0 0))), (16, vi p1), (17, vl eValue p2)] (c_column_Bloom _ _ _ c3) (zg [14] 5 [0,1,2,7,9,10] (zd (hK2 _ _ (zq fun K4 hK4 => ?_))))))
 obtain ⟨r2, c5, h⟩ := zB h
 refine zr (zg [14] 2 [1,2,7,9,10,22,23] (zl 15 [vi p1, vl eValue p2] (.tp [vl (eK .u8) r2.1, vi r2.2]) [(24, .tp [vl (eK .u8) r2.1, vi r2.2]), (1, vl eValue p2), (2, vl (eK .u8) p3), (7, .one (.pv (.rp [(qa1612 p4)] 0 0))), (9, vl (eK .u8) r1.1), (10, vi r1.2), (22, vi p1), (23, vl eValue p2)] (c_ref2_Bloom _ _ _ c5) (zg [14] 5 [1,2,7,9,10,11,12] (zd (hK4 _ _ (zq fun K6 hK6 => zq fun K7 hK7 => ?_))))))
 have hJ1 : ∀ (x1 : Bool), law2_ColumnBloomMatchesSpec_j1 p2 r1 x1 = some r → ∀ fr1 st1, Sub 65 0 [] fr1 st1 [(1, vl eValue p2), (9, vl (eK .u8) r1.1), (10, vi r1.2), (49, vb x1)] [] → K7 fr1 st1 := by
  intro x1 h fr1 st1 hS
  unfold law2_ColumnBloomMatchesSpec_j1 at h
  refine hK7 _ _ (XW.sub hS ?_)
  refine zC h (fun b16 h => ?_) (fun b16 h => ?_)
  ·refine zq fun K17 hK17 => zr (zg [14] 1 [8] (zd (hK17 _ _ (ze ?_))))
   obtain rfl := Option.some.inj h
   exact zf [vb false] (.one (.rfl _ rfl))
  ·refine zs (hK6 _ _ (zq fun K18 hK18 => ?_))
   have hJ3 : ∀ (_ : Unit), law2_ColumnBloomMatchesSpec_j3 = some r → ∀ fr1 st1, Sub 65 0 [] fr1 st1 [] [] → K18 fr1 st1 := by
    intro _ h fr1 st1 hS
    unfold law2_ColumnBloomMatchesSpec_j3 at h
    refine hK18 _ _ (XW.sub hS ?_)
    refine zq fun K31 hK31 => zr (zg [14] 1 [8] (zd (hK31 _ _ (ze ?_))))
    obtain rfl := Option.some.inj h
    exact zf [vb true] (.one (.rfl _ rfl))
   refine zq fun K19 hK19 => zr (zv [14] 2 [9,10,50,51] [] [(9, vl (eK .u8) r1.1), (10, vi r1.2), (50, vl eValue p2), (51, vi ((eValue.els p2).length : Int))] [] ?_)
   rw [eValue.len p2]
   refine zg [14] 1 [9,10,50,51,52] (zd (hK19 _ _ (zb 0 (XW.rounds' BIG (x := cd Tryd.f5 [1,1,1,1,0,1,0,0]) (by kernel_rfl) fun Q1 hQ1 => ?_))))
   have hL1 : ∀ (k1 : Nat) (x2 : Int), law2_ColumnBloomMatchesSpec_l1 p2 r1 k1 x2 = some r → XR Tryd.prog 65 0 [] (cd Tryd.f5 [1,1,1,1,0,1,0,0]) Q1 k1 [(9, vl (eK .u8) r1.1), (10, vi r1.2), (50, vl eValue p2), (51, vi (p2.length : Int)), (52, vi x2)] [] := by
    intro k1
    induction k1 with
    | zero => intro x2 h; rw [law2_ColumnBloomMatchesSpec_l1.eq_1] at h; cases h
    | succ k1 ih1 =>
     intro x2 h
     rw [law2_ColumnBloomMatchesSpec_l1.eq_2] at h
     refine zq fun K20 hK20 => zr (zg [14] 1 [9,10,50,51,52,53] (zd (hK20 _ _ (zq fun K21 hK21 => zC h (fun b22 h => ?_) (fun b22 h => ?_)))))
     ·refine zs (hK21 _ _ (zq fun K23 hK23 => zb 1 (zq fun K24 hK24 => ?_)))
      obtain ⟨e1, a25, h⟩ := zB h
      refine zr (zo [14] 4 [9,10,14,50,51,52] [[pi e1.kind, pi e1.n, pi e1.scale, .s (.string e1.s), .ro (eValue.els e1.items)]] [0 ≤ x2 ∧ x2 < ((eValue.els p2).length : Int) ∧ elemsOk 5 (eValue.els p2), (eValue.els p2)[x2.toNat]? = some [pi e1.kind, pi e1.n, pi e1.scale, .s (.string e1.s), .ro (eValue.els e1.items)]] (⟨eValue.inb a25, ((eValue.get a25).trans (by cases e1; rfl)), trivial⟩) (zd (hK24 _ _ (zq fun K26 hK26 => ?_))))
      have hJ2 : ∀ (x3 : Bool), law2_ColumnBloomMatchesSpec_j2 (law2_ColumnBloomMatchesSpec_l1 p2 r1 k1) x2 x3 = some r → ∀ fr1 st1, Sub 65 0 [] fr1 st1 [(9, vl (eK .u8) r1.1), (10, vi r1.2), (50, vl eValue p2), (51, vi (p2.length : Int)), (52, vi x2), (63, vb x3)] [.box (qa1617 e1)] → K26 fr1 st1 := by
       intro x3 h fr1 st1 hS
       unfold law2_ColumnBloomMatchesSpec_j2 at h
       refine hK26 _ _ (XW.sub hS ?_)
       refine zC h (fun b29 h => ?_) (fun b29 h => ?_)
       ·refine zq fun K30 hK30 => zr (zg [14] 1 [8] (zd (hK30 _ _ (ze (hQ1 _ _ _ ?_)))))
        obtain rfl := Option.some.inj h
        exact zf [vb false] (.one (.rfl _ rfl))
       ·exact zs (hK23 _ _ (zr (zg [14] 2 [9,10,50,51,52] (zd (XR.sub (Sub.trans (Sub.pick (fr' := [(9, vl (eK .u8) r1.1), (10, vi r1.2), (50, vl eValue p2), (51, vi (p2.length : Int)), (52, vi (IntKind.i64.wrap (x2 + (1 : Int))))]) [9,10,50,51,52] (by kernel_rfl)) (Sub.take (fr' := [(9, vl (eK .u8) r1.1), (10, vi r1.2), (50, vl eValue p2), (51, vi (p2.length : Int)), (52, vi (IntKind.i64.wrap (x2 + (1 : Int))))]) 0 (Nat.zero_le _) (by kernel_rfl) (by kernel_rfl))) (ih1 (IntKind.i64.wrap (x2 + (1 : Int))) h))))))
      rcases zW h with ⟨b27, h⟩ | ⟨b27, h⟩
      ·obtain ⟨r8, c28, h⟩ := zB h
       refine zr (zv [14] 3 [9,10,14,50,51,52,58] [] [(9, vl (eK .u8) r1.1), (10, vi r1.2), (14, .one (.pt 0 0 0 0)), (50, vl eValue p2), (51, vi (p2.length : Int)), (52, vi x2), (58, vb (r1.2 == (0 : Int)))] [.box (qa1617 e1)] (zt 58 b27 (zg [14] 2 [9,10,50,51,52,58,59,60] (za (c_column_Maybe _ _ _ c28) (zv [14] 2 [9,10,50,51,52,63] [] [(9, vl (eK .u8) r1.1), (10, vi r1.2), (50, vl eValue p2), (51, vi (p2.length : Int)), (52, vi x2), (63, vb (!r8))] [.box (qa1617 e1)] (zd ?_))))))
       exact hJ2 (!r8) h _ _ (zk [9,10,50,51,52,63])
      ·exact zr (zg [14] 3 [9,10,14,50,51,52,58] (zt 58 b27 (zg [14] 5 [9,10,50,51,52,63] (zd (hJ2 false h _ _ (zk [9,10,50,51,52,63]))))))
     ·exact zx 0 (hQ1 _ _ _ (hJ3 () h _ _ (zk [])))
   exact XR.sub (zk [9,10,50,51,52]) (hL1 BIG (0 : Int) h)
 rcases zW h with ⟨b8, h⟩ | ⟨b8, h⟩
 ·refine zw 15 [(41, .tp []), (40, .tp []), (39, .tp []), (38, .tp []), (37, .tp []), (36, vb true), (35, vb true), (34, .tp []), (33, .tp []), (32, .tp []), (31, .tp []), (30, vb true), (29, vb (r1.2 != r2.2)), (28, vi r2.2), (27, vi r1.2), (1, vl eValue p2), (2, vl (eK .u8) p3), (7, .one (.pv (.rp [(qa1612 p4)] 0 0))), (9, vl (eK .u8) r1.1), (10, vi r1.2), (11, vl (eK .u8) r2.1), (12, vi r2.2)] ?_ ?_
  ·refine zyv 4 [] [(30, vb (r1.2 != r2.2)), (29, vb (r1.2 != r2.2)), (28, vi r2.2), (27, vi r1.2), (1, vl eValue p2), (2, vl (eK .u8) p3), (7, .one (.pv (.rp [[pi p4.kind, pi p4.n, pi p4.scale, .s (.string p4.s), .ro (eValue.els p4.items)]] 0 0))), (9, vl (eK .u8) r1.1), (10, vi r1.2), (11, vl (eK .u8) r2.1), (12, vi r2.2)] ?_
   exact DX.eq (fr1 := [(30, vb true), (29, vb (r1.2 != r2.2)), (28, vi r2.2), (27, vi r1.2), (1, vl eValue p2), (2, vl (eK .u8) p3), (7, .one (.pv (.rp [[pi p4.kind, pi p4.n, pi p4.scale, .s (.string p4.s), .ro (eValue.els p4.items)]] 0 0))), (9, vl (eK .u8) r1.1), (10, vi r1.2), (11, vl (eK .u8) r2.1), (12, vi r2.2)]) (by rw [b8]) (zyg 11 zyd)
  exact zg [14] 8 [1,9,10,49] (zd (hJ1 true h _ _ (zk [1,9,10,49])))
 ·obtain ⟨r3, c9, h⟩ := zB h
  rcases zW h with ⟨b10, h⟩ | ⟨b10, h⟩
  ·refine zw 15 [(41, .tp []), (40, .tp []), (39, .tp []), (38, .tp []), (37, .tp []), (36, vb true), (35, vb (!r3)), (34, vb (!r3)), (33, vb r3), (32, vl (eK .u8) r2.1), (31, vl (eK .u8) r1.1), (30, vb false), (29, vb (r1.2 != r2.2)), (28, vi r2.2), (27, vi r1.2), (1, vl eValue p2), (2, vl (eK .u8) p3), (7, .one (.pv (.rp [(qa1612 p4)] 0 0))), (9, vl (eK .u8) r1.1), (10, vi r1.2), (11, vl (eK .u8) r2.1), (12, vi r2.2)] ?_ ?_
   ·refine zyv 4 [] [(30, vb (r1.2 != r2.2)), (29, vb (r1.2 != r2.2)), (28, vi r2.2), (27, vi r1.2), (1, vl eValue p2), (2, vl (eK .u8) p3), (7, .one (.pv (.rp [[pi p4.kind, pi p4.n, pi p4.scale, .s (.string p4.s), .ro (eValue.els p4.items)]] 0 0))), (9, vl (eK .u8) r1.1), (10, vi r1.2), (11, vl (eK .u8) r2.1), (12, vi r2.2)] ?_
    refine DX.eq (fr1 := [(30, vb false), (29, vb (r1.2 != r2.2)), (28, vi r2.2), (27, vi r1.2), (1, vl eValue p2), (2, vl (eK .u8) p3), (7, .one (.pv (.rp [[pi p4.kind, pi p4.n, pi p4.scale, .s (.string p4.s), .ro (eValue.els p4.items)]] 0 0))), (9, vl (eK .u8) r1.1), (10, vi r1.2), (11, vl (eK .u8) r2.1), (12, vi r2.2)]) (by rw [b8]) (zyg 2 (zya (c_bytes_Equal _ _ _ c9) ?_))
    refine zyv 3 [] [(36, vb (!r3)), (35, vb (!r3)), (34, vb (!r3)), (33, vb r3), (32, vl (eK .u8) r2.1), (31, vl (eK .u8) r1.1), (30, vb false), (29, vb (r1.2 != r2.2)), (28, vi r2.2), (27, vi r1.2), (1, vl eValue p2), (2, vl (eK .u8) p3), (7, .one (.pv (.rp [[pi p4.kind, pi p4.n, pi p4.scale, .s (.string p4.s), .ro (eValue.els p4.items)]] 0 0))), (9, vl (eK .u8) r1.1), (10, vi r1.2), (11, vl (eK .u8) r2.1), (12, vi r2.2)] ?_
    exact DX.eq (fr1 := [(36, vb true), (35, vb (!r3)), (34, vb (!r3)), (33, vb r3), (32, vl (eK .u8) r2.1), (31, vl (eK .u8) r1.1), (30, vb false), (29, vb (r1.2 != r2.2)), (28, vi r2.2), (27, vi r1.2), (1, vl eValue p2), (2, vl (eK .u8) p3), (7, .one (.pv (.rp [[pi p4.kind, pi p4.n, pi p4.scale, .s (.string p4.s), .ro (eValue.els p4.items)]] 0 0))), (9, vl (eK .u8) r1.1), (10, vi r1.2), (11, vl (eK .u8) r2.1), (12, vi r2.2)]) (by rw [b10]) (zyg 5 zyd)
   exact zv [14] 8 [1,9,10,49] [] [(1, vl eValue p2), (9, vl (eK .u8) r1.1), (10, vi r1.2), (49, vb true)] [] (zd (hJ1 true h _ _ (zk [1,9,10,49])))
  ·obtain ⟨r4, c11, h⟩ := zB h
   obtain ⟨r5, c12, h⟩ := zB h
   rcases zW h with ⟨b13, h⟩ | ⟨b13, h⟩
   ·refine zw 15 (qa1628 p2 p3 p4 r1 r2 r3 r4) ?_ ?_
    ·refine zyv 4 [] [(30, vb (r1.2 != r2.2)), (29, vb (r1.2 != r2.2)), (28, vi r2.2), (27, vi r1.2), (1, vl eValue p2), (2, vl (eK .u8) p3), (7, .one (.pv (.rp [[pi p4.kind, pi p4.n, pi p4.scale, .s (.string p4.s), .ro (eValue.els p4.items)]] 0 0))), (9, vl (eK .u8) r1.1), (10, vi r1.2), (11, vl (eK .u8) r2.1), (12, vi r2.2)] ?_
     refine DX.eq (fr1 := [(30, vb false), (29, vb (r1.2 != r2.2)), (28, vi r2.2), (27, vi r1.2), (1, vl eValue p2), (2, vl (eK .u8) p3), (7, .one (.pv (.rp [[pi p4.kind, pi p4.n, pi p4.scale, .s (.string p4.s), .ro (eValue.els p4.items)]] 0 0))), (9, vl (eK .u8) r1.1), (10, vi r1.2), (11, vl (eK .u8) r2.1), (12, vi r2.2)]) (by rw [b8]) (zyg 2 (zya (c_bytes_Equal _ _ _ c9) ?_))
     refine zyv 3 [] [(36, vb (!r3)), (35, vb (!r3)), (34, vb (!r3)), (33, vb r3), (32, vl (eK .u8) r2.1), (31, vl (eK .u8) r1.1), (30, vb false), (29, vb (r1.2 != r2.2)), (28, vi r2.2), (27, vi r1.2), (1, vl eValue p2), (2, vl (eK .u8) p3), (7, .one (.pv (.rp [[pi p4.kind, pi p4.n, pi p4.scale, .s (.string p4.s), .ro (eValue.els p4.items)]] 0 0))), (9, vl (eK .u8) r1.1), (10, vi r1.2), (11, vl (eK .u8) r2.1), (12, vi r2.2)] ?_
     refine DX.eq (fr1 := [(36, vb false), (35, vb (!r3)), (34, vb (!r3)), (33, vb r3), (32, vl (eK .u8) r2.1), (31, vl (eK .u8) r1.1), (30, vb false), (29, vb (r1.2 != r2.2)), (28, vi r2.2), (27, vi r1.2), (1, vl eValue p2), (2, vl (eK .u8) p3), (7, .one (.pv (.rp [[pi p4.kind, pi p4.n, pi p4.scale, .s (.string p4.s), .ro (eValue.els p4.items)]] 0 0))), (9, vl (eK .u8) r1.1), (10, vi r1.2), (11, vl (eK .u8) r2.1), (12, vi r2.2)]) (by rw [b10]) (zyu 2 [[pi p4.kind, pi p4.n, pi p4.scale, .s (.string p4.s), .ro (eValue.els p4.items)]] (zya (c_column_Maybe _ _ _ c11) ?_))
     refine zyv 2 [(qa1612 p4)] (qa1628 p2 p3 p4 r1 r2 r3 r4) ?_
     exact zyd
    exact za (c_ref2_Maybe _ _ _ c12) (zg [14] 3 [1,9,10,45] (zt 45 b13 (zv [14] 4 [1,9,10,49] [] [(1, vl eValue p2), (9, vl (eK .u8) r1.1), (10, vi r1.2), (49, vb true)] [] (zd (hJ1 true h _ _ (zk [1,9,10,49]))))))
   ·obtain ⟨r6, c14, h⟩ := zB h
    obtain ⟨r7, c15, h⟩ := zB h
    refine zw 15 (qa1628 p2 p3 p4 r1 r2 r3 r4) ?_ ?_
    ·refine zyv 4 [] [(30, vb (r1.2 != r2.2)), (29, vb (r1.2 != r2.2)), (28, vi r2.2), (27, vi r1.2), (1, vl eValue p2), (2, vl (eK .u8) p3), (7, .one (.pv (.rp [[pi p4.kind, pi p4.n, pi p4.scale, .s (.string p4.s), .ro (eValue.els p4.items)]] 0 0))), (9, vl (eK .u8) r1.1), (10, vi r1.2), (11, vl (eK .u8) r2.1), (12, vi r2.2)] ?_
     refine DX.eq (fr1 := [(30, vb false), (29, vb (r1.2 != r2.2)), (28, vi r2.2), (27, vi r1.2), (1, vl eValue p2), (2, vl (eK .u8) p3), (7, .one (.pv (.rp [[pi p4.kind, pi p4.n, pi p4.scale, .s (.string p4.s), .ro (eValue.els p4.items)]] 0 0))), (9, vl (eK .u8) r1.1), (10, vi r1.2), (11, vl (eK .u8) r2.1), (12, vi r2.2)]) (by rw [b8]) (zyg 2 (zya (c_bytes_Equal _ _ _ c9) ?_))
     refine zyv 3 [] [(36, vb (!r3)), (35, vb (!r3)), (34, vb (!r3)), (33, vb r3), (32, vl (eK .u8) r2.1), (31, vl (eK .u8) r1.1), (30, vb false), (29, vb (r1.2 != r2.2)), (28, vi r2.2), (27, vi r1.2), (1, vl eValue p2), (2, vl (eK .u8) p3), (7, .one (.pv (.rp [[pi p4.kind, pi p4.n, pi p4.scale, .s (.string p4.s), .ro (eValue.els p4.items)]] 0 0))), (9, vl (eK .u8) r1.1), (10, vi r1.2), (11, vl (eK .u8) r2.1), (12, vi r2.2)] ?_
     refine DX.eq (fr1 := [(36, vb false), (35, vb (!r3)), (34, vb (!r3)), (33, vb r3), (32, vl (eK .u8) r2.1), (31, vl (eK .u8) r1.1), (30, vb false), (29, vb (r1.2 != r2.2)), (28, vi r2.2), (27, vi r1.2), (1, vl eValue p2), (2, vl (eK .u8) p3), (7, .one (.pv (.rp [[pi p4.kind, pi p4.n, pi p4.scale, .s (.string p4.s), .ro (eValue.els p4.items)]] 0 0))), (9, vl (eK .u8) r1.1), (10, vi r1.2), (11, vl (eK .u8) r2.1), (12, vi r2.2)]) (by rw [b10]) (zyu 2 [[pi p4.kind, pi p4.n, pi p4.scale, .s (.string p4.s), .ro (eValue.els p4.items)]] (zya (c_column_Maybe _ _ _ c11) ?_))
     refine zyv 2 [(qa1612 p4)] (qa1628 p2 p3 p4 r1 r2 r3 r4) ?_
     exact zyd
    refine za (c_ref2_Maybe _ _ _ c12) (zg [14] 3 [1,9,10,45] (zt 45 b13 (zl 19 [vi (1 : Int)] (.ag (qa1622 r6)) [(46, .ag (qa1622 r6)), (45, vb false), (1, vl eValue p2), (9, vl (eK .u8) r1.1), (10, vi r1.2), (45, vb (!(r4 == r5)))] (c_law2_number _ _ c14) ?_)))
    exact zl 17 [.one (.pv (.s (.slice none 0 0))), .ag (qa1622 r6)] (vb r7) [(47, vb r7), (46, .ag (qa1622 r6)), (45, vb false), (1, vl eValue p2), (9, vl (eK .u8) r1.1), (10, vi r1.2), (45, vb (!(r4 == r5)))] (PC.le (c_column_Maybe _ _ _ c15) ⟨.one .nl, .rfl _, trivial⟩) (zg [14] 2 [1,9,10,49] (zd (hJ1 (!r7) h _ _ (zk [1,9,10,49]))))


end Go.Proofs.YtdbfodeghijdlaaDoor
