/- Printed by a program: what the functions compute, and the proofs of their contracts. -/
import Derived.Test.YtmaemlebpjnmoaaGreatDoorGeA
namespace Go.Proofs.YtmaemlebpjnmoaaGreatDoor
open Go.SX Go
open Go.IntKind (i64 u64 u8 i32 u32)
set_option linter.unusedVariables false
set_option linter.unusedSimpArgs false
set_option maxRecDepth 100000
set_option maxHeartbeats 8000000
def value_Key_1 (p1 : GValue) : Option Bool :=
    bnd (value_Sound p1) fun r1 =>
    some (!r1)
abbrev qa1794 (p1 : GValue) : List CV := [ci p1.kind, ci p1.n, ci p1.scale, cst p1.s, cl eValue p1.items]
theorem c_value_Key_1 (p1 : GValue) (r : Bool) (h : value_Key_1 p1 = some r) : PC Tryz.prog 118 [.ag (qa1794 p1)] (vb r) := by
 unfold value_Key_1 at h
 refine zF 6 Tryz.f118 (zq fun K1 m1 => zr (zg [] 2 [1] (zd (m1 _ _ (zq fun K2 m2 => ?_)))))
 obtain ⟨r1, c3, h⟩ := zB h
 refine zr (zu [] 1 [3] [[pi p1.kind, pi p1.n, pi p1.scale, .s (.string p1.s), .ro (eValue.els p1.items)]] (zl 27 [.ag (qa1794 p1)] (vb r1) [(4, vb r1), (3, .ag (qa1794 p1))] (c_value_Sound _ _ c3) (zg [] 2 [2] (zd (m2 _ _ (ze ?_))))))
 obtain rfl := zj h
 exact zf [vb (!r1)] (.one (.rfl _ rfl))
def slices_IndexFunc_api_Value_api_Value_of_value_Key_1_j1 : Option Int :=
    some (-1 : Int)
def slices_IndexFunc_api_Value_api_Value_of_value_Key_1_l1 (p1 : (List GValue)) : Nat → Int → Option Int
  | 0, _ => none
  | k1 + 1, x1 =>
    ift (decide (x1 < (p1.length : Int)))
      (bnd (at? p1 x1) fun e1 =>
       bnd (value_Key_1 e1) fun r1 =>
       ift r1
         (some x1)
         ((slices_IndexFunc_api_Value_api_Value_of_value_Key_1_l1 p1 k1) (i64.wrap (x1 + (1 : Int)))))
      (slices_IndexFunc_api_Value_api_Value_of_value_Key_1_j1)
def slices_IndexFunc_api_Value_api_Value_of_value_Key_1 (p1 : (List GValue)) : Option Int :=
    slices_IndexFunc_api_Value_api_Value_of_value_Key_1_l1 p1 BIG (0 : Int)
theorem c_slices_IndexFunc_api_Value_api_Value_of_value_Key_1 (p1 : (List GValue)) (r : Int) (h : slices_IndexFunc_api_Value_api_Value_of_value_Key_1 p1 = some r) : PC Tryz.prog 156 [vl eValue p1, .one (.pv (.fn 118 []))] (vi r) := by
 unfold slices_IndexFunc_api_Value_api_Value_of_value_Key_1 at h
 refine zF 19 Tryz.f156 (zq fun K1 m1 => zr (zg [] 1 [0,1] (zd (m1 _ _ (zq fun K2 m2 => ?_)))))
 have j1 : ∀ (_ : Unit), slices_IndexFunc_api_Value_api_Value_of_value_Key_1_j1 = some r → ∀ w0 w1, Sub 19 0 [] w0 w1 [] [] → K2 w0 w1 := by
  intro _ h w0 w1 hS
  unfold slices_IndexFunc_api_Value_api_Value_of_value_Key_1_j1 at h
  refine m2 _ _ (XW.sub hS ?_)
  refine zq fun K14 m14 => zr (zg [] 1 [4] (zd (m14 _ _ (ze ?_))))
  obtain rfl := zj h
  exact zf [vi (-1)] (.one (.rfl _ rfl))
 refine zq fun K3 m3 => zr (zv [] 2 [0,1,7] [] [(0, vl eValue p1), (1, .one (.pv (.fn 118 []))), (7, vi ((eValue.els p1).length : Int))] [] ?_)
 rw [eValue.len p1]
 refine zg [] 1 [0,1,7,8] (zd (m3 _ _ (zb 0 (XW.rounds' BIG (x := cd Tryz.f156 [1,0,1,0,0]) (by kernel_rfl) fun Q1 hQ1 => ?_))))
 have hL1 : ∀ (k1 : Nat) (x1 : Int), slices_IndexFunc_api_Value_api_Value_of_value_Key_1_l1 p1 k1 x1 = some r → XR Tryz.prog 19 0 [] (cd Tryz.f156 [1,0,1,0,0]) Q1 k1 [(0, vl eValue p1), (1, .one (.pv (.fn 118 []))), (7, vi (p1.length : Int)), (8, vi x1)] [] := by
  intro k1
  induction k1 with
  | zero => intro x1 h; rw [slices_IndexFunc_api_Value_api_Value_of_value_Key_1_l1.eq_1] at h; cases h
  | succ k1 ih1 =>
   intro x1 h
   rw [slices_IndexFunc_api_Value_api_Value_of_value_Key_1_l1.eq_2] at h
   refine zq fun K4 m4 => zr (zg [] 1 [0,1,7,8,9] (zd (m4 _ _ (zq fun K5 m5 => zC h (fun b6 h => ?_) (fun b6 h => ?_)))))
   ·refine zs (m5 _ _ (zq fun K7 m7 => zb 1 (zq fun K8 m8 => zr (zg [] 2 [0,1,5,7,8] (zd ?_)))))
    refine m8 _ _ (zq fun K9 m9 => ?_)
    obtain ⟨e1, a10, h⟩ := zB h
    obtain ⟨r1, c11, h⟩ := zB h
    refine zr (zp [] 5 [0,1,5,7,8,11,15] [[pi e1.kind, pi e1.n, pi e1.scale, .s (.string e1.s), .ro (eValue.els e1.items)]] [(0, vl eValue p1), (1, .one (.pv (.fn 118 []))), (5, vi x1), (7, vi (p1.length : Int)), (8, vi x1), (11, .one (.pv (.fn 118 []))), (15, .ag [ci e1.kind, ci e1.n, ci e1.scale, cst e1.s, cl eValue e1.items])] [] [0 ≤ x1 ∧ x1 < ((eValue.els p1).length : Int) ∧ elemsOk 5 (eValue.els p1), (eValue.els p1)[x1.toNat]? = some [pi e1.kind, pi e1.n, pi e1.scale, .s (.string e1.s), .ro (eValue.els e1.items)]] (⟨eValue.inb a10, ((eValue.get a10).trans (by cases e1; rfl)), trivial⟩) ?_)
    refine za (c_value_Key_1 _ _ c11) (zd (m9 _ _ (zC h (fun b12 h => ?_) (fun b12 h => ?_))))
    ·refine zq fun K13 m13 => zr (zg [] 2 [4] (zd (m13 _ _ (ze (hQ1 _ _ _ ?_)))))
     obtain rfl := zj h
     exact zf [vi x1] (.one (.rfl _ rfl))
    ·exact zs (m7 _ _ (zr (zv [] 2 [0,1,7,8] [] [(0, vl eValue p1), (1, .one (.pv (.fn 118 []))), (7, vi (p1.length : Int)), (8, vi (i64.wrap (x1 + (1 : Int))))] [] (zd (XR.sub (zk [0,1,7,8]) (ih1 (i64.wrap (x1 + (1 : Int))) h))))))
   ·exact zx 0 (hQ1 _ _ _ (j1 () h _ _ (zk [])))
 exact XR.sub (zk [0,1,7,8]) (hL1 BIG (0 : Int) h)
def slices_ContainsFunc_api_Value_api_Value_of_value_Key_1 (p1 : (List GValue)) : Option Bool :=
    bnd (slices_IndexFunc_api_Value_api_Value_of_value_Key_1 p1) fun r1 =>
    some (decide ((0 : Int) ≤ r1))
theorem c_slices_ContainsFunc_api_Value_api_Value_of_value_Key_1 (p1 : (List GValue)) (r : Bool) (h : slices_ContainsFunc_api_Value_api_Value_of_value_Key_1 p1 = some r) : PC Tryz.prog 111 [vl eValue p1, .one (.pv (.fn 118 []))] (vb r) := by
 unfold slices_ContainsFunc_api_Value_api_Value_of_value_Key_1 at h
 refine zF 9 Tryz.f111 (zq fun K1 m1 => zr (zg [] 1 [0,1] (zd (m1 _ _ (zq fun K2 m2 => ?_)))))
 obtain ⟨r1, c3, h⟩ := zB h
 refine zr (zg [] 2 [5,6] (zl 156 [vl eValue p1, .one (.pv (.fn 118 []))] (vi r1) [(7, vi r1), (5, vl eValue p1), (6, .one (.pv (.fn 118 [])))] (c_slices_IndexFunc_api_Value_api_Value_of_value_Key_1 _ _ c3) (zg [] 2 [4] (zd (m2 _ _ (ze ?_))))))
 obtain rfl := zj h
 exact zf [vb (decide ((0 : Int) ≤ r1))] (.one (.rfl _ rfl))
def value_word_s (p1 : Int) (p2 : (List Int)) : Option (Unit × (List Int)) :=
    bnd (some (u8.wrap (p1.fdiv (2 ^ (min (56 : Int).toNat u64.bits))))) fun y1 =>
    grd (p2.length + 1 ≤ 4294967296) <|
    bnd (some (u8.wrap (p1.fdiv (2 ^ (min (48 : Int).toNat u64.bits))))) fun y2 =>
    grd ((p2 ++ [y1]).length + 1 ≤ 4294967296) <|
    bnd (some (u8.wrap (p1.fdiv (2 ^ (min (40 : Int).toNat u64.bits))))) fun y3 =>
    grd (((p2 ++ [y1]) ++ [y2]).length + 1 ≤ 4294967296) <|
    bnd (some (u8.wrap (p1.fdiv (2 ^ (min (32 : Int).toNat u64.bits))))) fun y4 =>
    grd ((((p2 ++ [y1]) ++ [y2]) ++ [y3]).length + 1 ≤ 4294967296) <|
    bnd (some (u8.wrap (p1.fdiv (2 ^ (min (24 : Int).toNat u64.bits))))) fun y5 =>
    grd (((((p2 ++ [y1]) ++ [y2]) ++ [y3]) ++ [y4]).length + 1 ≤ 4294967296) <|
    bnd (some (u8.wrap (p1.fdiv (2 ^ (min (16 : Int).toNat u64.bits))))) fun y6 =>
    grd ((((((p2 ++ [y1]) ++ [y2]) ++ [y3]) ++ [y4]) ++ [y5]).length + 1 ≤ 4294967296) <|
    bnd (some (u8.wrap (p1.fdiv (2 ^ (min (8 : Int).toNat u64.bits))))) fun y7 =>
    grd (((((((p2 ++ [y1]) ++ [y2]) ++ [y3]) ++ [y4]) ++ [y5]) ++ [y6]).length + 1 ≤ 4294967296) <|
    bnd (some (u8.wrap (p1.fdiv (2 ^ (min (0 : Int).toNat u64.bits))))) fun y8 =>
    grd ((((((((p2 ++ [y1]) ++ [y2]) ++ [y3]) ++ [y4]) ++ [y5]) ++ [y6]) ++ [y7]).length + 1 ≤ 4294967296) <|
    some ((), ((((((((p2 ++ [y1]) ++ [y2]) ++ [y3]) ++ [y4]) ++ [y5]) ++ [y6]) ++ [y7]) ++ [y8]))
theorem c_value_word_s (p1 : Int) (p2 : (List Int)) (r : (Unit × (List Int))) (h : value_word_s p1 p2 = some r) : MX Tryz.prog 161 [.one (.sl 0 1 0 p2.length), vk .u64 p1] [.arr 1 ((eK .u8).els p2)] [0] (.one (.sl 0 1 0 r.2.length)) [.arr 1 ((eK .u8).els r.2)] := by
 unfold value_word_s at h
 refine MX.of 1 1 rfl (n := 18) (fn := Tryz.f161) (c := cd Tryz.f161 []) (by kernel_rfl) (by kernel_rfl) (by kernel_rfl) (Nat.le_of_ble_eq_true rfl) rfl (zq fun K1 m1 => zr (zg [] 1 [0,1] (zd (m1 _ _ (zq fun K2 m2 => zq fun K3 m3 => ?_)))))
 refine zr (zg [] 1 [0,1,5] (zd (m3 _ _ (zb 0 (XW.rounds' 9 (x := cd Tryz.f161 [1,0,1,0,0]) (by kernel_rfl) fun Q1 hQ1 => XR.one (zq fun K4 m4 => ?_))))))
 refine zq fun K5 m5 => zr (zv [] 2 [0,1,5,7] [] [(0, .one (.sl 0 1 0 p2.length)), (1, vk .u64 p1), (5, vi 56), (7, vb true)] [.arr 1 ((eK .u8).els p2)] (zd (m5 _ _ (zc true (fun _ => ?_) (fun hx => by cases hx)))))
 refine zs (m4 _ _ (zq fun K6 m6 => zb 1 ?_))
 obtain ⟨y1, hy7, h⟩ := zB h
 obtain ⟨g8, h⟩ := zG h
 refine zr (zp [] 5 [1,5,10,14] [] [(1, vk .u64 p1), (5, vi 56), (10, .one (.sl 0 1 0 p2.length)), (14, vk .u8 (u8.wrap (p1.fdiv (2 ^ (min (56 : Int).toNat u64.bits)))))] [.arr 1 ((eK .u8).els p2)] [0 ≤ (56 : Int)] (⟨by decide, trivial⟩) ?_)
 rw [show (u8.wrap (p1.fdiv (2 ^ (min (56 : Int).toNat u64.bits)))) = y1 from zj hy7]
 refine zp [] 2 [1,5,16] [] [(1, vk .u64 p1), (5, vi 56), (16, .one (.sl 0 1 0 (p2.length + ((eK .u8).els [y1]).length)))] [.arr 1 ((eK .u8).els p2 ++ (eK .u8).els [y1])] [elemsOk 1 ((eK .u8).els [y1]), p2.length = ((eK .u8).els p2).length, p2.length + ((eK .u8).els [y1]).length ≤ 4294967296] (⟨(eK .u8).ok _, ((eK .u8).len p2).symm, g8, trivial⟩) ?_
 rw [show p2.length + ((eK .u8).els [y1]).length = (p2 ++ [y1]).length from (eK .u8).lapp _ _]
 rw [show (eK .u8).els p2 ++ (eK .u8).els [y1] = (eK .u8).els (p2 ++ [y1]) from (eK .u8).app2 _ _]
 refine zg [] 1 [0,1,5] (zd (m6 _ _ (zr (zv [] 3 [0,1,5] [] [(0, .one (.sl 0 1 0 ((p2 ++ [y1]).length))), (1, vk .u64 p1), (5, vi 48)] [.arr 1 ((eK .u8).els (p2 ++ [y1]))] (zd (XR.one (zq fun K9 m9 => ?_)))))))
 refine zq fun K10 m10 => zr (zg [] 2 [0,1,5,7] (zd (m10 _ _ (zc true (fun _ => ?_) (fun hx => by cases hx)))))
 refine zs (m9 _ _ (zq fun K11 m11 => zb 1 ?_))
 obtain ⟨y2, hy12, h⟩ := zB h
 obtain ⟨g13, h⟩ := zG h
 refine zr (zp [] 5 [1,5,10,14] [] [(1, vk .u64 p1), (5, vi 48), (10, .one (.sl 0 1 0 ((p2 ++ [y1]).length))), (14, vk .u8 (u8.wrap (p1.fdiv (2 ^ (min (48 : Int).toNat u64.bits)))))] [.arr 1 ((eK .u8).els (p2 ++ [y1]))] [0 ≤ (48 : Int)] (⟨by decide, trivial⟩) ?_)
 rw [show (u8.wrap (p1.fdiv (2 ^ (min (48 : Int).toNat u64.bits)))) = y2 from zj hy12]
 refine zp [] 2 [1,5,16] [] [(1, vk .u64 p1), (5, vi 48), (16, .one (.sl 0 1 0 ((p2 ++ [y1]).length + ((eK .u8).els [y2]).length)))] [.arr 1 ((eK .u8).els (p2 ++ [y1]) ++ (eK .u8).els [y2])] [elemsOk 1 ((eK .u8).els [y2]), (p2 ++ [y1]).length = ((eK .u8).els (p2 ++ [y1])).length, (p2 ++ [y1]).length + ((eK .u8).els [y2]).length ≤ 4294967296] (⟨(eK .u8).ok _, ((eK .u8).len (p2 ++ [y1])).symm, g13, trivial⟩) ?_
 rw [show (p2 ++ [y1]).length + ((eK .u8).els [y2]).length = ((p2 ++ [y1]) ++ [y2]).length from (eK .u8).lapp _ _]
 rw [show (eK .u8).els (p2 ++ [y1]) ++ (eK .u8).els [y2] = (eK .u8).els ((p2 ++ [y1]) ++ [y2]) from (eK .u8).app2 _ _]
 refine zg [] 1 [0,1,5] (zd (m11 _ _ (zr (zv [] 3 [0,1,5] [] [(0, .one (.sl 0 1 0 (((p2 ++ [y1]) ++ [y2]).length))), (1, vk .u64 p1), (5, vi 40)] [.arr 1 ((eK .u8).els ((p2 ++ [y1]) ++ [y2]))] (zd (XR.one (zq fun K14 m14 => ?_)))))))
 refine zq fun K15 m15 => zr (zg [] 2 [0,1,5,7] (zd (m15 _ _ (zc true (fun _ => ?_) (fun hx => by cases hx)))))
 refine zs (m14 _ _ (zq fun K16 m16 => zb 1 ?_))
 obtain ⟨y3, hy17, h⟩ := zB h
 obtain ⟨g18, h⟩ := zG h
 refine zr (zp [] 5 [1,5,10,14] [] [(1, vk .u64 p1), (5, vi 40), (10, .one (.sl 0 1 0 (((p2 ++ [y1]) ++ [y2]).length))), (14, vk .u8 (u8.wrap (p1.fdiv (2 ^ (min (40 : Int).toNat u64.bits)))))] [.arr 1 ((eK .u8).els ((p2 ++ [y1]) ++ [y2]))] [0 ≤ (40 : Int)] (⟨by decide, trivial⟩) ?_)
 rw [show (u8.wrap (p1.fdiv (2 ^ (min (40 : Int).toNat u64.bits)))) = y3 from zj hy17]
 refine zp [] 2 [1,5,16] [] [(1, vk .u64 p1), (5, vi 40), (16, .one (.sl 0 1 0 (((p2 ++ [y1]) ++ [y2]).length + ((eK .u8).els [y3]).length)))] [.arr 1 ((eK .u8).els ((p2 ++ [y1]) ++ [y2]) ++ (eK .u8).els [y3])] [elemsOk 1 ((eK .u8).els [y3]), ((p2 ++ [y1]) ++ [y2]).length = ((eK .u8).els ((p2 ++ [y1]) ++ [y2])).length, ((p2 ++ [y1]) ++ [y2]).length + ((eK .u8).els [y3]).length ≤ 4294967296] (⟨(eK .u8).ok _, ((eK .u8).len ((p2 ++ [y1]) ++ [y2])).symm, g18, trivial⟩) ?_
 rw [show ((p2 ++ [y1]) ++ [y2]).length + ((eK .u8).els [y3]).length = (((p2 ++ [y1]) ++ [y2]) ++ [y3]).length from (eK .u8).lapp _ _]
 rw [show (eK .u8).els ((p2 ++ [y1]) ++ [y2]) ++ (eK .u8).els [y3] = (eK .u8).els (((p2 ++ [y1]) ++ [y2]) ++ [y3]) from (eK .u8).app2 _ _]
 refine zg [] 1 [0,1,5] (zd (m16 _ _ (zr (zv [] 3 [0,1,5] [] [(0, .one (.sl 0 1 0 ((((p2 ++ [y1]) ++ [y2]) ++ [y3]).length))), (1, vk .u64 p1), (5, vi 32)] [.arr 1 ((eK .u8).els (((p2 ++ [y1]) ++ [y2]) ++ [y3]))] (zd (XR.one (zq fun K19 m19 => ?_)))))))
 refine zq fun K20 m20 => zr (zg [] 2 [0,1,5,7] (zd (m20 _ _ (zc true (fun _ => ?_) (fun hx => by cases hx)))))
 refine zs (m19 _ _ (zq fun K21 m21 => zb 1 ?_))
 obtain ⟨y4, hy22, h⟩ := zB h
 obtain ⟨g23, h⟩ := zG h
 refine zr (zp [] 5 [1,5,10,14] [] [(1, vk .u64 p1), (5, vi 32), (10, .one (.sl 0 1 0 ((((p2 ++ [y1]) ++ [y2]) ++ [y3]).length))), (14, vk .u8 (u8.wrap (p1.fdiv (2 ^ (min (32 : Int).toNat u64.bits)))))] [.arr 1 ((eK .u8).els (((p2 ++ [y1]) ++ [y2]) ++ [y3]))] [0 ≤ (32 : Int)] (⟨by decide, trivial⟩) ?_)
 rw [show (u8.wrap (p1.fdiv (2 ^ (min (32 : Int).toNat u64.bits)))) = y4 from zj hy22]
 refine zp [] 2 [1,5,16] [] [(1, vk .u64 p1), (5, vi 32), (16, .one (.sl 0 1 0 ((((p2 ++ [y1]) ++ [y2]) ++ [y3]).length + ((eK .u8).els [y4]).length)))] [.arr 1 ((eK .u8).els (((p2 ++ [y1]) ++ [y2]) ++ [y3]) ++ (eK .u8).els [y4])] [elemsOk 1 ((eK .u8).els [y4]), (((p2 ++ [y1]) ++ [y2]) ++ [y3]).length = ((eK .u8).els (((p2 ++ [y1]) ++ [y2]) ++ [y3])).length, (((p2 ++ [y1]) ++ [y2]) ++ [y3]).length + ((eK .u8).els [y4]).length ≤ 4294967296] (⟨(eK .u8).ok _, ((eK .u8).len (((p2 ++ [y1]) ++ [y2]) ++ [y3])).symm, g23, trivial⟩) ?_
 rw [show (((p2 ++ [y1]) ++ [y2]) ++ [y3]).length + ((eK .u8).els [y4]).length = ((((p2 ++ [y1]) ++ [y2]) ++ [y3]) ++ [y4]).length from (eK .u8).lapp _ _]
 rw [show (eK .u8).els (((p2 ++ [y1]) ++ [y2]) ++ [y3]) ++ (eK .u8).els [y4] = (eK .u8).els ((((p2 ++ [y1]) ++ [y2]) ++ [y3]) ++ [y4]) from (eK .u8).app2 _ _]
 refine zg [] 1 [0,1,5] (zd (m21 _ _ (zr (zv [] 3 [0,1,5] [] [(0, .one (.sl 0 1 0 (((((p2 ++ [y1]) ++ [y2]) ++ [y3]) ++ [y4]).length))), (1, vk .u64 p1), (5, vi 24)] [.arr 1 ((eK .u8).els ((((p2 ++ [y1]) ++ [y2]) ++ [y3]) ++ [y4]))] (zd (XR.one (zq fun K24 m24 => ?_)))))))
 refine zq fun K25 m25 => zr (zg [] 2 [0,1,5,7] (zd (m25 _ _ (zc true (fun _ => ?_) (fun hx => by cases hx)))))
 refine zs (m24 _ _ (zq fun K26 m26 => zb 1 ?_))
 obtain ⟨y5, hy27, h⟩ := zB h
 obtain ⟨g28, h⟩ := zG h
 refine zr (zp [] 5 [1,5,10,14] [] [(1, vk .u64 p1), (5, vi 24), (10, .one (.sl 0 1 0 (((((p2 ++ [y1]) ++ [y2]) ++ [y3]) ++ [y4]).length))), (14, vk .u8 (u8.wrap (p1.fdiv (2 ^ (min (24 : Int).toNat u64.bits)))))] [.arr 1 ((eK .u8).els ((((p2 ++ [y1]) ++ [y2]) ++ [y3]) ++ [y4]))] [0 ≤ (24 : Int)] (⟨by decide, trivial⟩) ?_)
 rw [show (u8.wrap (p1.fdiv (2 ^ (min (24 : Int).toNat u64.bits)))) = y5 from zj hy27]
 refine zp [] 2 [1,5,16] [] [(1, vk .u64 p1), (5, vi 24), (16, .one (.sl 0 1 0 (((((p2 ++ [y1]) ++ [y2]) ++ [y3]) ++ [y4]).length + ((eK .u8).els [y5]).length)))] [.arr 1 ((eK .u8).els ((((p2 ++ [y1]) ++ [y2]) ++ [y3]) ++ [y4]) ++ (eK .u8).els [y5])] [elemsOk 1 ((eK .u8).els [y5]), ((((p2 ++ [y1]) ++ [y2]) ++ [y3]) ++ [y4]).length = ((eK .u8).els ((((p2 ++ [y1]) ++ [y2]) ++ [y3]) ++ [y4])).length, ((((p2 ++ [y1]) ++ [y2]) ++ [y3]) ++ [y4]).length + ((eK .u8).els [y5]).length ≤ 4294967296] (⟨(eK .u8).ok _, ((eK .u8).len ((((p2 ++ [y1]) ++ [y2]) ++ [y3]) ++ [y4])).symm, g28, trivial⟩) ?_
 rw [show ((((p2 ++ [y1]) ++ [y2]) ++ [y3]) ++ [y4]).length + ((eK .u8).els [y5]).length = (((((p2 ++ [y1]) ++ [y2]) ++ [y3]) ++ [y4]) ++ [y5]).length from (eK .u8).lapp _ _]
 rw [show (eK .u8).els ((((p2 ++ [y1]) ++ [y2]) ++ [y3]) ++ [y4]) ++ (eK .u8).els [y5] = (eK .u8).els (((((p2 ++ [y1]) ++ [y2]) ++ [y3]) ++ [y4]) ++ [y5]) from (eK .u8).app2 _ _]
 refine zg [] 1 [0,1,5] (zd (m26 _ _ (zr (zv [] 3 [0,1,5] [] [(0, .one (.sl 0 1 0 ((((((p2 ++ [y1]) ++ [y2]) ++ [y3]) ++ [y4]) ++ [y5]).length))), (1, vk .u64 p1), (5, vi 16)] [.arr 1 ((eK .u8).els (((((p2 ++ [y1]) ++ [y2]) ++ [y3]) ++ [y4]) ++ [y5]))] (zd (XR.one (zq fun K29 m29 => ?_)))))))
 refine zq fun K30 m30 => zr (zg [] 2 [0,1,5,7] (zd (m30 _ _ (zc true (fun _ => ?_) (fun hx => by cases hx)))))
 refine zs (m29 _ _ (zq fun K31 m31 => zb 1 ?_))
 obtain ⟨y6, hy32, h⟩ := zB h
 obtain ⟨g33, h⟩ := zG h
 refine zr (zp [] 5 [1,5,10,14] [] [(1, vk .u64 p1), (5, vi 16), (10, .one (.sl 0 1 0 ((((((p2 ++ [y1]) ++ [y2]) ++ [y3]) ++ [y4]) ++ [y5]).length))), (14, vk .u8 (u8.wrap (p1.fdiv (2 ^ (min (16 : Int).toNat u64.bits)))))] [.arr 1 ((eK .u8).els (((((p2 ++ [y1]) ++ [y2]) ++ [y3]) ++ [y4]) ++ [y5]))] [0 ≤ (16 : Int)] (⟨by decide, trivial⟩) ?_)
 rw [show (u8.wrap (p1.fdiv (2 ^ (min (16 : Int).toNat u64.bits)))) = y6 from zj hy32]
 refine zp [] 2 [1,5,16] [] [(1, vk .u64 p1), (5, vi 16), (16, .one (.sl 0 1 0 ((((((p2 ++ [y1]) ++ [y2]) ++ [y3]) ++ [y4]) ++ [y5]).length + ((eK .u8).els [y6]).length)))] [.arr 1 ((eK .u8).els (((((p2 ++ [y1]) ++ [y2]) ++ [y3]) ++ [y4]) ++ [y5]) ++ (eK .u8).els [y6])] [elemsOk 1 ((eK .u8).els [y6]), (((((p2 ++ [y1]) ++ [y2]) ++ [y3]) ++ [y4]) ++ [y5]).length = ((eK .u8).els (((((p2 ++ [y1]) ++ [y2]) ++ [y3]) ++ [y4]) ++ [y5])).length, (((((p2 ++ [y1]) ++ [y2]) ++ [y3]) ++ [y4]) ++ [y5]).length + ((eK .u8).els [y6]).length ≤ 4294967296] (⟨(eK .u8).ok _, ((eK .u8).len (((((p2 ++ [y1]) ++ [y2]) ++ [y3]) ++ [y4]) ++ [y5])).symm, g33, trivial⟩) ?_
 rw [show (((((p2 ++ [y1]) ++ [y2]) ++ [y3]) ++ [y4]) ++ [y5]).length + ((eK .u8).els [y6]).length = ((((((p2 ++ [y1]) ++ [y2]) ++ [y3]) ++ [y4]) ++ [y5]) ++ [y6]).length from (eK .u8).lapp _ _]
 rw [show (eK .u8).els (((((p2 ++ [y1]) ++ [y2]) ++ [y3]) ++ [y4]) ++ [y5]) ++ (eK .u8).els [y6] = (eK .u8).els ((((((p2 ++ [y1]) ++ [y2]) ++ [y3]) ++ [y4]) ++ [y5]) ++ [y6]) from (eK .u8).app2 _ _]
 refine zg [] 1 [0,1,5] (zd (m31 _ _ (zr (zv [] 3 [0,1,5] [] [(0, .one (.sl 0 1 0 (((((((p2 ++ [y1]) ++ [y2]) ++ [y3]) ++ [y4]) ++ [y5]) ++ [y6]).length))), (1, vk .u64 p1), (5, vi 8)] [.arr 1 ((eK .u8).els ((((((p2 ++ [y1]) ++ [y2]) ++ [y3]) ++ [y4]) ++ [y5]) ++ [y6]))] (zd (XR.one (zq fun K34 m34 => ?_)))))))
 refine zq fun K35 m35 => zr (zg [] 2 [0,1,5,7] (zd (m35 _ _ (zc true (fun _ => ?_) (fun hx => by cases hx)))))
 refine zs (m34 _ _ (zq fun K36 m36 => zb 1 ?_))
 obtain ⟨y7, hy37, h⟩ := zB h
 obtain ⟨g38, h⟩ := zG h
 refine zr (zp [] 5 [1,5,10,14] [] [(1, vk .u64 p1), (5, vi 8), (10, .one (.sl 0 1 0 (((((((p2 ++ [y1]) ++ [y2]) ++ [y3]) ++ [y4]) ++ [y5]) ++ [y6]).length))), (14, vk .u8 (u8.wrap (p1.fdiv (2 ^ (min (8 : Int).toNat u64.bits)))))] [.arr 1 ((eK .u8).els ((((((p2 ++ [y1]) ++ [y2]) ++ [y3]) ++ [y4]) ++ [y5]) ++ [y6]))] [0 ≤ (8 : Int)] (⟨by decide, trivial⟩) ?_)
 rw [show (u8.wrap (p1.fdiv (2 ^ (min (8 : Int).toNat u64.bits)))) = y7 from zj hy37]
 refine zp [] 2 [1,5,16] [] [(1, vk .u64 p1), (5, vi 8), (16, .one (.sl 0 1 0 (((((((p2 ++ [y1]) ++ [y2]) ++ [y3]) ++ [y4]) ++ [y5]) ++ [y6]).length + ((eK .u8).els [y7]).length)))] [.arr 1 ((eK .u8).els ((((((p2 ++ [y1]) ++ [y2]) ++ [y3]) ++ [y4]) ++ [y5]) ++ [y6]) ++ (eK .u8).els [y7])] [elemsOk 1 ((eK .u8).els [y7]), ((((((p2 ++ [y1]) ++ [y2]) ++ [y3]) ++ [y4]) ++ [y5]) ++ [y6]).length = ((eK .u8).els ((((((p2 ++ [y1]) ++ [y2]) ++ [y3]) ++ [y4]) ++ [y5]) ++ [y6])).length, ((((((p2 ++ [y1]) ++ [y2]) ++ [y3]) ++ [y4]) ++ [y5]) ++ [y6]).length + ((eK .u8).els [y7]).length ≤ 4294967296] (⟨(eK .u8).ok _, ((eK .u8).len ((((((p2 ++ [y1]) ++ [y2]) ++ [y3]) ++ [y4]) ++ [y5]) ++ [y6])).symm, g38, trivial⟩) ?_
 rw [show ((((((p2 ++ [y1]) ++ [y2]) ++ [y3]) ++ [y4]) ++ [y5]) ++ [y6]).length + ((eK .u8).els [y7]).length = (((((((p2 ++ [y1]) ++ [y2]) ++ [y3]) ++ [y4]) ++ [y5]) ++ [y6]) ++ [y7]).length from (eK .u8).lapp _ _]
 rw [show (eK .u8).els ((((((p2 ++ [y1]) ++ [y2]) ++ [y3]) ++ [y4]) ++ [y5]) ++ [y6]) ++ (eK .u8).els [y7] = (eK .u8).els (((((((p2 ++ [y1]) ++ [y2]) ++ [y3]) ++ [y4]) ++ [y5]) ++ [y6]) ++ [y7]) from (eK .u8).app2 _ _]
 refine zg [] 1 [0,1,5] (zd (m36 _ _ (zr (zv [] 3 [0,1,5] [] [(0, .one (.sl 0 1 0 ((((((((p2 ++ [y1]) ++ [y2]) ++ [y3]) ++ [y4]) ++ [y5]) ++ [y6]) ++ [y7]).length))), (1, vk .u64 p1), (5, vi 0)] [.arr 1 ((eK .u8).els (((((((p2 ++ [y1]) ++ [y2]) ++ [y3]) ++ [y4]) ++ [y5]) ++ [y6]) ++ [y7]))] (zd (XR.one (zq fun K39 m39 => ?_)))))))
 refine zq fun K40 m40 => zr (zg [] 2 [0,1,5,7] (zd (m40 _ _ (zc true (fun _ => ?_) (fun hx => by cases hx)))))
 refine zs (m39 _ _ (zq fun K41 m41 => zb 1 ?_))
 obtain ⟨y8, hy42, h⟩ := zB h
 obtain ⟨g43, h⟩ := zG h
 refine zr (zp [] 5 [1,5,10,14] [] [(1, vk .u64 p1), (5, vi 0), (10, .one (.sl 0 1 0 ((((((((p2 ++ [y1]) ++ [y2]) ++ [y3]) ++ [y4]) ++ [y5]) ++ [y6]) ++ [y7]).length))), (14, vk .u8 (u8.wrap (p1.fdiv (2 ^ (min (0 : Int).toNat u64.bits)))))] [.arr 1 ((eK .u8).els (((((((p2 ++ [y1]) ++ [y2]) ++ [y3]) ++ [y4]) ++ [y5]) ++ [y6]) ++ [y7]))] [0 ≤ (0 : Int)] (⟨by decide, trivial⟩) ?_)
 rw [show (u8.wrap (p1.fdiv (2 ^ (min (0 : Int).toNat u64.bits)))) = y8 from zj hy42]
 refine zp [] 2 [1,5,16] [] [(1, vk .u64 p1), (5, vi 0), (16, .one (.sl 0 1 0 ((((((((p2 ++ [y1]) ++ [y2]) ++ [y3]) ++ [y4]) ++ [y5]) ++ [y6]) ++ [y7]).length + ((eK .u8).els [y8]).length)))] [.arr 1 ((eK .u8).els (((((((p2 ++ [y1]) ++ [y2]) ++ [y3]) ++ [y4]) ++ [y5]) ++ [y6]) ++ [y7]) ++ (eK .u8).els [y8])] [elemsOk 1 ((eK .u8).els [y8]), (((((((p2 ++ [y1]) ++ [y2]) ++ [y3]) ++ [y4]) ++ [y5]) ++ [y6]) ++ [y7]).length = ((eK .u8).els (((((((p2 ++ [y1]) ++ [y2]) ++ [y3]) ++ [y4]) ++ [y5]) ++ [y6]) ++ [y7])).length, (((((((p2 ++ [y1]) ++ [y2]) ++ [y3]) ++ [y4]) ++ [y5]) ++ [y6]) ++ [y7]).length + ((eK .u8).els [y8]).length ≤ 4294967296] (⟨(eK .u8).ok _, ((eK .u8).len (((((((p2 ++ [y1]) ++ [y2]) ++ [y3]) ++ [y4]) ++ [y5]) ++ [y6]) ++ [y7])).symm, g43, trivial⟩) ?_
 rw [show (((((((p2 ++ [y1]) ++ [y2]) ++ [y3]) ++ [y4]) ++ [y5]) ++ [y6]) ++ [y7]).length + ((eK .u8).els [y8]).length = ((((((((p2 ++ [y1]) ++ [y2]) ++ [y3]) ++ [y4]) ++ [y5]) ++ [y6]) ++ [y7]) ++ [y8]).length from (eK .u8).lapp _ _]
 rw [show (eK .u8).els (((((((p2 ++ [y1]) ++ [y2]) ++ [y3]) ++ [y4]) ++ [y5]) ++ [y6]) ++ [y7]) ++ (eK .u8).els [y8] = (eK .u8).els ((((((((p2 ++ [y1]) ++ [y2]) ++ [y3]) ++ [y4]) ++ [y5]) ++ [y6]) ++ [y7]) ++ [y8]) from (eK .u8).app2 _ _]
 refine zg [] 1 [0,1,5] (zd (m41 _ _ (zr (zv [] 3 [0,1,5] [] [(0, .one (.sl 0 1 0 (((((((((p2 ++ [y1]) ++ [y2]) ++ [y3]) ++ [y4]) ++ [y5]) ++ [y6]) ++ [y7]) ++ [y8]).length))), (1, vk .u64 p1), (5, vi (-8))] [.arr 1 ((eK .u8).els ((((((((p2 ++ [y1]) ++ [y2]) ++ [y3]) ++ [y4]) ++ [y5]) ++ [y6]) ++ [y7]) ++ [y8]))] (zd (XR.one (zq fun K44 m44 => ?_)))))))
 refine zq fun K45 m45 => zr (zg [] 2 [0,1,5,7] (zd (m45 _ _ (zc false (fun hx => by cases hx) (fun _ => ?_)))))
 refine zx 0 (hQ1 _ _ _ (m2 _ _ (zq fun K46 m46 => zr (zv [] 2 [4] [] [(4, .one (.sl 0 1 0 (((((((((p2 ++ [y1]) ++ [y2]) ++ [y3]) ++ [y4]) ++ [y5]) ++ [y6]) ++ [y7]) ++ [y8]).length)))] [.arr 1 ((eK .u8).els ((((((((p2 ++ [y1]) ++ [y2]) ++ [y3]) ++ [y4]) ++ [y5]) ++ [y6]) ++ [y7]) ++ [y8]))] (zd (m46 _ _ ?_))))))
 refine ze ?_
 obtain rfl := zj h
 exact FinM.fin (.inr rfl) [] [.one (.sl 0 1 0 (((((((((p2 ++ [y1]) ++ [y2]) ++ [y3]) ++ [y4]) ++ [y5]) ++ [y6]) ++ [y7]) ++ [y8]).length))] [] (by kernel_rfl) trivial (by kernel_rfl) (by kernel_rfl) (.one (.rfl _ rfl))
def value_whole (p1 : Int) : Option GWide :=
    ift (decide (p1 < (0 : Int)))
      (some (GWide.mk true ((u64.wrap (0 - (u64.wrap p1))), (0 : Int), (0 : Int), (0 : Int))))
      (some (GWide.mk false ((u64.wrap p1), (0 : Int), (0 : Int), (0 : Int))))
abbrev qa1825 (p1 : Int) : List CV := [cb true, ck .u64 (u64.wrap (0 - (u64.wrap p1))), ck .u64 0, ck .u64 0, ck .u64 0]
theorem c_value_whole (p1 : Int) (r : GWide) (h : value_whole p1 = some r) : PC Tryz.prog 171 [vi p1] (.ag [cb r.neg, ck .u64 r.size.1, ck .u64 r.size.2.1, ck .u64 r.size.2.2.1, ck .u64 r.size.2.2.2]) := by
 unfold value_whole at h
 refine zF 14 Tryz.f171 (zq fun K1 m1 => zr (zg [2] 1 [0,2] (zd (m1 _ _ (zq fun K2 m2 => zq fun K3 m3 => ?_)))))
 refine zr (zg [2] 2 [0,2,4] (zd (m3 _ _ (zC h (fun b4 h => ?_) (fun b4 h => ?_)))))
 ·refine zq fun K5 m5 => zr (zv [2] 6 [2] [] [(2, vq 0)] [.box (qa1825 p1)] (zd (m5 _ _ (ze ?_))))
  obtain rfl := zj h
  exact zf [.ag (qa1825 p1)] (.ag (.cons (.rfl _ rfl) (.cons (.rfl _ rfl) (.cons (.rfl _ rfl) (.cons (.rfl _ rfl) (.cons (.rfl _ rfl) .nil))))))
 ·refine zs (m2 _ _ (zq fun K6 m6 => zr (zg [2] 5 [2] (zd (m6 _ _ (ze ?_))))))
  obtain rfl := zj h
  exact zf [.ag [cb false, ck .u64 (u64.wrap p1), ck .u64 0, ck .u64 0, ck .u64 0]] (.ag (.cons (.rfl _ rfl) (.cons (.rfl _ rfl) (.cons (.rfl _ rfl) (.cons (.rfl _ rfl) (.cons (.rfl _ rfl) .nil))))))
def math_bits_Mul64 (p1 : Int) (p2 : Int) : Option (Int × Int) :=
    bnd (some (u64.wrap (BitVec.ofInt u64.bits p1 &&& BitVec.ofInt u64.bits (4294967295 : Int)).toNat)) fun y1 =>
    bnd (some (u64.wrap (BitVec.ofInt u64.bits p2 &&& BitVec.ofInt u64.bits (4294967295 : Int)).toNat)) fun y2 =>
    bnd (some (u64.wrap ((p1.fdiv (2 ^ (min (32 : Int).toNat u64.bits))) * y2))) fun y3 =>
    bnd (some ((u64.wrap (y1 * y2)).fdiv (2 ^ (min (32 : Int).toNat u64.bits)))) fun y4 =>
    bnd (some (u64.wrap (BitVec.ofInt u64.bits (u64.wrap (y3 + y4)) &&& BitVec.ofInt u64.bits (4294967295 : Int)).toNat)) fun y5 =>
    bnd (some ((u64.wrap (y3 + y4)).fdiv (2 ^ (min (32 : Int).toNat u64.bits)))) fun y6 =>
    bnd (some (u64.wrap (y1 * (p2.fdiv (2 ^ (min (32 : Int).toNat u64.bits)))))) fun y7 =>
    bnd (some (u64.wrap ((p1.fdiv (2 ^ (min (32 : Int).toNat u64.bits))) * (p2.fdiv (2 ^ (min (32 : Int).toNat u64.bits)))))) fun y8 =>
    bnd (some ((u64.wrap (y5 + y7)).fdiv (2 ^ (min (32 : Int).toNat u64.bits)))) fun y9 =>
    some ((u64.wrap ((u64.wrap (y8 + y6)) + y9)), (u64.wrap (p1 * p2)))
theorem c_math_bits_Mul64 (p1 : Int) (p2 : Int) (r : (Int × Int)) (h : math_bits_Mul64 p1 p2 = some r) : PC Tryz.prog 195 [vk .u64 p1, vk .u64 p2] (.tp [vk .u64 r.1, vk .u64 r.2]) := by
 unfold math_bits_Mul64 at h
 refine zF 51 Tryz.f195 (zq fun K1 m1 => zr (zg [] 2 [0,1] (zd (m1 _ _ (zq fun K2 m2 => ?_)))))
 obtain ⟨y1, hy3, h⟩ := zB h
 refine zr (zv [] 2 [0,1,15] [] [(0, vk .u64 p1), (1, vk .u64 p2), (15, vk .u64 (u64.wrap (BitVec.ofInt u64.bits p1 &&& BitVec.ofInt u64.bits (4294967295 : Int)).toNat))] [] ?_)
 rw [show (u64.wrap (BitVec.ofInt u64.bits p1 &&& BitVec.ofInt u64.bits (4294967295 : Int)).toNat) = y1 from zj hy3]
 refine zg [] 1 [0,1,6] (zd (m2 _ _ (zq fun K4 m4 => zr (zo [] 3 [0,1,6,7] [] [0 ≤ (32 : Int)] (⟨by decide, trivial⟩) (zd (m4 _ _ ?_))))))
 refine zq fun K5 m5 => ?_
 obtain ⟨y2, hy6, h⟩ := zB h
 refine zr (zv [] 2 [0,1,6,7,19] [] [(0, vk .u64 p1), (1, vk .u64 p2), (6, vk .u64 y1), (7, vk .u64 (p1.fdiv (2 ^ (min (32 : Int).toNat u64.bits)))), (19, vk .u64 (u64.wrap (BitVec.ofInt u64.bits p2 &&& BitVec.ofInt u64.bits (4294967295 : Int)).toNat))] [] ?_)
 rw [show (u64.wrap (BitVec.ofInt u64.bits p2 &&& BitVec.ofInt u64.bits (4294967295 : Int)).toNat) = y2 from zj hy6]
 refine zg [] 1 [0,1,6,7,8] (zd (m5 _ _ (zq fun K7 m7 => zr (zo [] 3 [0,1,6,7,8,9] [] [0 ≤ (32 : Int)] (⟨by decide, trivial⟩) (zd (m7 _ _ ?_))))))
 refine zq fun K8 m8 => zr (zv [] 4 [0,1,6,7,8,9,10] [] [(0, vk .u64 p1), (1, vk .u64 p2), (6, vk .u64 y1), (7, vk .u64 (p1.fdiv (2 ^ (min (32 : Int).toNat u64.bits)))), (8, vk .u64 y2), (9, vk .u64 (p2.fdiv (2 ^ (min (32 : Int).toNat u64.bits)))), (10, vk .u64 (u64.wrap (y1 * y2)))] [] (zd (m8 _ _ (zq fun K9 m9 => ?_))))
 obtain ⟨y3, hy10, h⟩ := zB h
 obtain ⟨y4, hy11, h⟩ := zB h
 refine zr (zv [] 3 [0,1,6,7,9,10,27] [] [(0, vk .u64 p1), (1, vk .u64 p2), (6, vk .u64 y1), (7, vk .u64 (p1.fdiv (2 ^ (min (32 : Int).toNat u64.bits)))), (9, vk .u64 (p2.fdiv (2 ^ (min (32 : Int).toNat u64.bits)))), (10, vk .u64 (u64.wrap (y1 * y2))), (27, vk .u64 (u64.wrap ((p1.fdiv (2 ^ (min (32 : Int).toNat u64.bits))) * y2)))] [] ?_)
 rw [show (u64.wrap ((p1.fdiv (2 ^ (min (32 : Int).toNat u64.bits))) * y2)) = y3 from zj hy10]
 refine zp [] 2 [0,1,6,7,9,27,29] [] [(0, vk .u64 p1), (1, vk .u64 p2), (6, vk .u64 y1), (7, vk .u64 (p1.fdiv (2 ^ (min (32 : Int).toNat u64.bits)))), (9, vk .u64 (p2.fdiv (2 ^ (min (32 : Int).toNat u64.bits)))), (27, vk .u64 y3), (29, vk .u64 ((u64.wrap (y1 * y2)).fdiv (2 ^ (min (32 : Int).toNat u64.bits))))] [] [0 ≤ (32 : Int)] (⟨by decide, trivial⟩) ?_
 rw [show ((u64.wrap (y1 * y2)).fdiv (2 ^ (min (32 : Int).toNat u64.bits))) = y4 from zj hy11]
 refine zg [] 2 [0,1,6,7,9,11] (zd (m9 _ _ (zq fun K12 m12 => ?_)))
 obtain ⟨y5, hy13, h⟩ := zB h
 refine zr (zv [] 2 [0,1,6,7,9,11,32] [] [(0, vk .u64 p1), (1, vk .u64 p2), (6, vk .u64 y1), (7, vk .u64 (p1.fdiv (2 ^ (min (32 : Int).toNat u64.bits)))), (9, vk .u64 (p2.fdiv (2 ^ (min (32 : Int).toNat u64.bits)))), (11, vk .u64 (u64.wrap (y3 + y4))), (32, vk .u64 (u64.wrap (BitVec.ofInt u64.bits (u64.wrap (y3 + y4)) &&& BitVec.ofInt u64.bits (4294967295 : Int)).toNat))] [] ?_)
 rw [show (u64.wrap (BitVec.ofInt u64.bits (u64.wrap (y3 + y4)) &&& BitVec.ofInt u64.bits (4294967295 : Int)).toNat) = y5 from zj hy13]
 refine zg [] 1 [0,1,6,7,9,11,12] (zd (m12 _ _ (zq fun K14 m14 => ?_)))
 obtain ⟨y6, hy15, h⟩ := zB h
 refine zr (zp [] 2 [0,1,6,7,9,12,34] [] [(0, vk .u64 p1), (1, vk .u64 p2), (6, vk .u64 y1), (7, vk .u64 (p1.fdiv (2 ^ (min (32 : Int).toNat u64.bits)))), (9, vk .u64 (p2.fdiv (2 ^ (min (32 : Int).toNat u64.bits)))), (12, vk .u64 y5), (34, vk .u64 ((u64.wrap (y3 + y4)).fdiv (2 ^ (min (32 : Int).toNat u64.bits))))] [] [0 ≤ (32 : Int)] (⟨by decide, trivial⟩) ?_)
 rw [show ((u64.wrap (y3 + y4)).fdiv (2 ^ (min (32 : Int).toNat u64.bits))) = y6 from zj hy15]
 refine zg [] 1 [0,1,6,7,9,12,13] (zd (m14 _ _ (zq fun K16 m16 => ?_)))
 obtain ⟨y7, hy17, h⟩ := zB h
 refine zr (zv [] 4 [0,1,7,9,13,35,38] [] [(0, vk .u64 p1), (1, vk .u64 p2), (7, vk .u64 (p1.fdiv (2 ^ (min (32 : Int).toNat u64.bits)))), (9, vk .u64 (p2.fdiv (2 ^ (min (32 : Int).toNat u64.bits)))), (13, vk .u64 y6), (35, vk .u64 y5), (38, vk .u64 (u64.wrap (y1 * (p2.fdiv (2 ^ (min (32 : Int).toNat u64.bits))))))] [] ?_)
 rw [show (u64.wrap (y1 * (p2.fdiv (2 ^ (min (32 : Int).toNat u64.bits))))) = y7 from zj hy17]
 refine zg [] 2 [0,1,7,9,12,13] (zd (m16 _ _ (zq fun K18 m18 => ?_)))
 obtain ⟨y8, hy19, h⟩ := zB h
 obtain ⟨y9, hy20, h⟩ := zB h
 refine zr (zv [] 3 [0,1,12,13,42] [] [(0, vk .u64 p1), (1, vk .u64 p2), (12, vk .u64 (u64.wrap (y5 + y7))), (13, vk .u64 y6), (42, vk .u64 (u64.wrap ((p1.fdiv (2 ^ (min (32 : Int).toNat u64.bits))) * (p2.fdiv (2 ^ (min (32 : Int).toNat u64.bits))))))] [] ?_)
 rw [show (u64.wrap ((p1.fdiv (2 ^ (min (32 : Int).toNat u64.bits))) * (p2.fdiv (2 ^ (min (32 : Int).toNat u64.bits))))) = y8 from zj hy19]
 refine zp [] 4 [0,1,44,46] [] [(0, vk .u64 p1), (1, vk .u64 p2), (44, vk .u64 (u64.wrap (y8 + y6))), (46, vk .u64 ((u64.wrap (y5 + y7)).fdiv (2 ^ (min (32 : Int).toNat u64.bits))))] [] [0 ≤ (32 : Int)] (⟨by decide, trivial⟩) ?_
 rw [show ((u64.wrap (y5 + y7)).fdiv (2 ^ (min (32 : Int).toNat u64.bits))) = y9 from zj hy20]
 refine zg [] 2 [0,1,4] (zd (m18 _ _ (zq fun K21 m21 => zr (zg [] 4 [4,5] (zd (m21 _ _ ?_))))))
 refine ze ?_
 obtain rfl := zj h
 exact zf [vk .u64 (u64.wrap ((u64.wrap (y8 + y6)) + y9)), vk .u64 (u64.wrap (p1 * p2))] (.tpc (.one (.rfl _ rfl)) (.tpc (.one (.rfl _ rfl)) (.tp0)))
def value_wide_times (p1 : GWide) (p2 : Int) : Option GWide :=
    bnd (math_bits_Mul64 p1.size.1 p2) fun r1 =>
    grd (0 ≤ r1.2 ∧ 0 ≤ (0 : Int) ∧ 0 ≤ (0 : Int) ∧ (0 : Int) ≤ 1) <|
    bnd (some (u64.wrap (r1.1 + ((r1.2 + (0 : Int) + (0 : Int)) / 18446744073709551616)))) fun y1 =>
    bnd (math_bits_Mul64 p1.size.2.1 p2) fun r2 =>
    grd (0 ≤ r2.2 ∧ 0 ≤ y1 ∧ 0 ≤ (0 : Int) ∧ (0 : Int) ≤ 1) <|
    bnd (some (u64.wrap (r2.1 + ((r2.2 + y1 + (0 : Int)) / 18446744073709551616)))) fun y2 =>
    bnd (math_bits_Mul64 p1.size.2.2.1 p2) fun r3 =>
    grd (0 ≤ r3.2 ∧ 0 ≤ y2 ∧ 0 ≤ (0 : Int) ∧ (0 : Int) ≤ 1) <|
    bnd (some (u64.wrap (r3.1 + ((r3.2 + y2 + (0 : Int)) / 18446744073709551616)))) fun y3 =>
    bnd (math_bits_Mul64 p1.size.2.2.2 p2) fun r4 =>
    grd (0 ≤ r4.2 ∧ 0 ≤ y3 ∧ 0 ≤ (0 : Int) ∧ (0 : Int) ≤ 1) <|
    bnd (some (u64.wrap (r4.1 + ((r4.2 + y3 + (0 : Int)) / 18446744073709551616)))) fun y4 =>
    some (GWide.mk p1.neg (((r1.2 + (0 : Int) + (0 : Int)) % 18446744073709551616), ((r2.2 + y1 + (0 : Int)) % 18446744073709551616), ((r3.2 + y2 + (0 : Int)) % 18446744073709551616), ((r4.2 + y3 + (0 : Int)) % 18446744073709551616)))
abbrev qa1829 (p1 : GWide) : List CV := [cb p1.neg, ck .u64 p1.size.1, ck .u64 p1.size.2.1, ck .u64 p1.size.2.2.1, ck .u64 p1.size.2.2.2]
abbrev qa1831 (p1 : GWide) : List CV := [ck .u64 p1.size.1, ck .u64 p1.size.2.1, ck .u64 p1.size.2.2.1, ck .u64 p1.size.2.2.2]
abbrev qa1832 : List CV := [cb false, ck .u64 0, ck .u64 0, ck .u64 0, ck .u64 0]
abbrev qa1833 (p1 : GWide) (r1 : (Int × Int)) : List CV := [cb p1.neg, ck .u64 ((r1.2 + (0 : Int) + (0 : Int)) % 18446744073709551616), ck .u64 p1.size.2.1, ck .u64 p1.size.2.2.1, ck .u64 p1.size.2.2.2]
abbrev qa1834 (p1 : GWide) (r1 : (Int × Int)) (y1 : Int) (r2 : (Int × Int)) : List CV := [cb p1.neg, ck .u64 ((r1.2 + (0 : Int) + (0 : Int)) % 18446744073709551616), ck .u64 ((r2.2 + y1 + (0 : Int)) % 18446744073709551616), ck .u64 p1.size.2.2.1, ck .u64 p1.size.2.2.2]
abbrev qa1835 (p1 : GWide) (r1 : (Int × Int)) (y1 : Int) (r2 : (Int × Int)) (y2 : Int) (r3 : (Int × Int)) : List CV := [cb p1.neg, ck .u64 ((r1.2 + (0 : Int) + (0 : Int)) % 18446744073709551616), ck .u64 ((r2.2 + y1 + (0 : Int)) % 18446744073709551616), ck .u64 ((r3.2 + y2 + (0 : Int)) % 18446744073709551616), ck .u64 p1.size.2.2.2]
abbrev qa1836 (p1 : GWide) (r1 : (Int × Int)) (y1 : Int) (r2 : (Int × Int)) (y2 : Int) (r3 : (Int × Int)) (y3 : Int) (r4 : (Int × Int)) : List CV := [cb p1.neg, ck .u64 ((r1.2 + (0 : Int) + (0 : Int)) % 18446744073709551616), ck .u64 ((r2.2 + y1 + (0 : Int)) % 18446744073709551616), ck .u64 ((r3.2 + y2 + (0 : Int)) % 18446744073709551616), ck .u64 ((r4.2 + y3 + (0 : Int)) % 18446744073709551616)]
theorem c_value_wide_times (p1 : GWide) (p2 : Int) (r : GWide) (h : value_wide_times p1 p2 = some r) : PC Tryz.prog 182 [.ag (qa1829 p1), vk .u64 p2] (.ag [cb r.neg, ck .u64 r.size.1, ck .u64 r.size.2.1, ck .u64 r.size.2.2.1, ck .u64 r.size.2.2.2]) := by
 unfold value_wide_times at h
 refine zF 37 Tryz.f182 (zq fun K1 m1 => zr (zg [2, 4] 2 [1,2,4] (zd (m1 _ _ (zq fun K2 m2 => zr ?_)))))
 refine zg [2, 4] 1 [1,2,4,5] (zd (m2 _ _ (zq fun K3 m3 => zq fun K4 m4 => zr (zv [2, 4] 3 [1,2,4,5,12,13] [] [(1, vk .u64 p2), (2, vq 0), (4, vq 1), (5, vk .u64 0), (12, .ag (qa1831 p1)), (13, vi 0)] [.box (qa1829 p1), .box qa1832] (zd ?_)))))
 refine m4 _ _ (zb 0 (XW.rounds' 5 (x := cd Tryz.f182 [1,1,0,1,0,0]) (by kernel_rfl) fun Q1 hQ1 => XR.one (zq fun K5 m5 => zr (zg [2, 4] 1 [1,2,4,5,12,13,14] (zd ?_)))))
 refine m5 _ _ (zq fun K6 m6 => zc true (fun _ => ?_) (fun hx => by cases hx))
 refine zs (m6 _ _ (zq fun K7 m7 => zb 1 (zq fun K8 m8 => zr (zo [2, 4] 4 [1,2,4,5,6,7,12,13] [] [0 ≤ (0 : Int) ∧ (0 : Int) < 4] (⟨by decide, trivial⟩) (zd ?_)))))
 refine m8 _ _ (zq fun K9 m9 => ?_)
 obtain ⟨r1, c10, h⟩ := zB h
 refine zr (zv [2, 4] 2 [1,2,4,5,6,12,13,18,19] [] [(1, vk .u64 p2), (2, vq 0), (4, vq 1), (5, vk .u64 0), (6, vi 0), (12, .ag (qa1831 p1)), (13, vi 0), (18, vk .u64 p1.size.1), (19, vk .u64 p2)] [.box (qa1829 p1), .box qa1832] (za (c_math_bits_Mul64 _ _ _ c10) (zg [2, 4] 5 [1,2,4,5,6,8,9,12,13] (zd ?_))))
 refine m9 _ _ (zq fun K11 m11 => zr (zv [2, 4] 1 [1,2,4,5,6,8,9,12,13] [] [(1, vk .u64 p2), (2, vq 0), (4, vq 1), (5, vk .u64 0), (6, vi 0), (8, vk .u64 r1.1), (9, vk .u64 r1.2), (12, .ag (qa1831 p1)), (13, vi 0)] [.box (qa1829 p1), .box qa1832] (zd (m11 _ _ (zq fun K12 m12 => ?_)))))
 obtain ⟨g13, h⟩ := zG h
 refine zr (zv [2, 4] 3 [1,2,4,8,12,13,24,25,26] [] [(1, vk .u64 p2), (2, vq 0), (4, vq 1), (8, vk .u64 r1.1), (12, .ag (qa1831 p1)), (13, vi 0), (24, vi 0), (25, vk .u64 r1.2), (26, vk .u64 0)] [.box (qa1829 p1), .box qa1832] ?_)
 refine XO.ext 196 [.int .u64 r1.2, .int .u64 (0 : Int), .int .u64 (0 : Int)] [.int .u64 ((r1.2 + (0 : Int) + (0 : Int)) % 18446744073709551616), .int .u64 ((r1.2 + (0 : Int) + (0 : Int)) / 18446744073709551616)] [(27, .tp [vk .u64 ((r1.2 + (0 : Int) + (0 : Int)) % 18446744073709551616), vk .u64 ((r1.2 + (0 : Int) + (0 : Int)) / 18446744073709551616)]), (1, vk .u64 p2), (2, vq 0), (4, vq 1), (8, vk .u64 r1.1), (12, .ag (qa1831 p1)), (13, vi 0), (24, vi 0), (25, vk .u64 r1.2), (26, vk .u64 0)] (by kernel_rfl) (ext_Add64 (fn := Tryz.f196) (by kernel_rfl) (by kernel_rfl) (by kernel_rfl) (by kernel_rfl) (by kernel_rfl) g13.1 g13.2.1 g13.2.2.1 g13.2.2.2) rfl (by kernel_rfl) ?_
 refine zo [2, 4] 7 [1,2,4,8,10,12,13] [] [0 ≤ (0 : Int) ∧ (0 : Int) < 4] (⟨by decide, trivial⟩) (zd (m12 _ _ ?_))
 obtain ⟨y1, hy14, h⟩ := zB h
 refine zr (zv [2, 4] 3 [1,2,4,12,13,34] [] [(1, vk .u64 p2), (2, vq 0), (4, vq 1), (12, .ag [ck .u64 p1.size.1, ck .u64 p1.size.2.1, ck .u64 p1.size.2.2.1, ck .u64 p1.size.2.2.2]), (13, vi 0), (34, vk .u64 (u64.wrap (r1.1 + ((r1.2 + (0 : Int) + (0 : Int)) / 18446744073709551616))))] [.box [cb p1.neg, ck .u64 ((r1.2 + (0 : Int) + (0 : Int)) % 18446744073709551616), ck .u64 p1.size.2.1, ck .u64 p1.size.2.2.1, ck .u64 p1.size.2.2.2], .box [cb false, ck .u64 0, ck .u64 0, ck .u64 0, ck .u64 0]] ?_)
 rw [show (u64.wrap (r1.1 + ((r1.2 + (0 : Int) + (0 : Int)) / 18446744073709551616))) = y1 from zj hy14]
 refine zg [2, 4] 1 [1,2,4,5,12,13] (zd (m7 _ _ (zr (zv [2, 4] 2 [1,2,4,5,12,13] [] [(1, vk .u64 p2), (2, vq 0), (4, vq 1), (5, vk .u64 y1), (12, .ag (qa1831 p1)), (13, vi 1)] [.box (qa1833 p1 r1), .box qa1832] (zd (XR.one (zq fun K15 m15 => ?_)))))))
 refine zr (zg [2, 4] 1 [1,2,4,5,12,13,14] (zd (m15 _ _ (zq fun K16 m16 => zc true (fun _ => ?_) (fun hx => by cases hx)))))
 refine zs (m16 _ _ (zq fun K17 m17 => zb 1 (zq fun K18 m18 => zr (zo [2, 4] 4 [1,2,4,5,6,7,12,13] [] [0 ≤ (1 : Int) ∧ (1 : Int) < 4] (⟨by decide, trivial⟩) (zd ?_)))))
 refine m18 _ _ (zq fun K19 m19 => ?_)
 obtain ⟨r2, c20, h⟩ := zB h
 refine zr (zv [2, 4] 2 [1,2,4,5,6,12,13,18,19] [] [(1, vk .u64 p2), (2, vq 0), (4, vq 1), (5, vk .u64 y1), (6, vi 1), (12, .ag (qa1831 p1)), (13, vi 1), (18, vk .u64 p1.size.2.1), (19, vk .u64 p2)] [.box (qa1833 p1 r1), .box qa1832] (za (c_math_bits_Mul64 _ _ _ c20) ?_))
 refine zg [2, 4] 5 [1,2,4,5,6,8,9,12,13] (zd (m19 _ _ (zq fun K21 m21 => zr ?_)))
 refine zv [2, 4] 1 [1,2,4,5,6,8,9,12,13] [] [(1, vk .u64 p2), (2, vq 0), (4, vq 1), (5, vk .u64 y1), (6, vi 1), (8, vk .u64 r2.1), (9, vk .u64 r2.2), (12, .ag (qa1831 p1)), (13, vi 1)] [.box (qa1833 p1 r1), .box qa1832] (zd (m21 _ _ (zq fun K22 m22 => ?_)))
 obtain ⟨g23, h⟩ := zG h
 refine zr (zv [2, 4] 3 [1,2,4,8,12,13,24,25,26] [] [(1, vk .u64 p2), (2, vq 0), (4, vq 1), (8, vk .u64 r2.1), (12, .ag (qa1831 p1)), (13, vi 1), (24, vi 1), (25, vk .u64 r2.2), (26, vk .u64 y1)] [.box (qa1833 p1 r1), .box qa1832] ?_)
 refine XO.ext 196 [.int .u64 r2.2, .int .u64 y1, .int .u64 (0 : Int)] [.int .u64 ((r2.2 + y1 + (0 : Int)) % 18446744073709551616), .int .u64 ((r2.2 + y1 + (0 : Int)) / 18446744073709551616)] [(27, .tp [vk .u64 ((r2.2 + y1 + (0 : Int)) % 18446744073709551616), vk .u64 ((r2.2 + y1 + (0 : Int)) / 18446744073709551616)]), (1, vk .u64 p2), (2, vq 0), (4, vq 1), (8, vk .u64 r2.1), (12, .ag (qa1831 p1)), (13, vi 1), (24, vi 1), (25, vk .u64 r2.2), (26, vk .u64 y1)] (by kernel_rfl) (ext_Add64 (fn := Tryz.f196) (by kernel_rfl) (by kernel_rfl) (by kernel_rfl) (by kernel_rfl) (by kernel_rfl) g23.1 g23.2.1 g23.2.2.1 g23.2.2.2) rfl (by kernel_rfl) ?_
 refine zo [2, 4] 7 [1,2,4,8,10,12,13] [] [0 ≤ (1 : Int) ∧ (1 : Int) < 4] (⟨by decide, trivial⟩) (zd (m22 _ _ ?_))
 obtain ⟨y2, hy24, h⟩ := zB h
 refine zr ?_
 refine zv [2, 4] 3 [1,2,4,12,13,34] [] [(1, vk .u64 p2), (2, vq 0), (4, vq 1), (12, .ag [ck .u64 p1.size.1, ck .u64 p1.size.2.1, ck .u64 p1.size.2.2.1, ck .u64 p1.size.2.2.2]), (13, vi 1), (34, vk .u64 (u64.wrap (r2.1 + ((r2.2 + y1 + (0 : Int)) / 18446744073709551616))))] [.box [cb p1.neg, ck .u64 ((r1.2 + (0 : Int) + (0 : Int)) % 18446744073709551616), ck .u64 ((r2.2 + y1 + (0 : Int)) % 18446744073709551616), ck .u64 p1.size.2.2.1, ck .u64 p1.size.2.2.2], .box [cb false, ck .u64 0, ck .u64 0, ck .u64 0, ck .u64 0]] ?_
 rw [show (u64.wrap (r2.1 + ((r2.2 + y1 + (0 : Int)) / 18446744073709551616))) = y2 from zj hy24]
 refine zg [2, 4] 1 [1,2,4,5,12,13] (zd (m17 _ _ (zr (zv [2, 4] 2 [1,2,4,5,12,13] [] [(1, vk .u64 p2), (2, vq 0), (4, vq 1), (5, vk .u64 y2), (12, .ag (qa1831 p1)), (13, vi 2)] [.box (qa1834 p1 r1 y1 r2), .box qa1832] (zd (XR.one ?_))))))
 refine zq fun K25 m25 => zr (zg [2, 4] 1 [1,2,4,5,12,13,14] (zd (m25 _ _ (zq fun K26 m26 => zc true (fun _ => ?_) (fun hx => by cases hx)))))
 refine zs (m26 _ _ (zq fun K27 m27 => zb 1 (zq fun K28 m28 => zr (zo [2, 4] 4 [1,2,4,5,6,7,12,13] [] [0 ≤ (2 : Int) ∧ (2 : Int) < 4] (⟨by decide, trivial⟩) (zd ?_)))))
 refine m28 _ _ (zq fun K29 m29 => ?_)
 obtain ⟨r3, c30, h⟩ := zB h
 refine zr ?_
 refine zv [2, 4] 2 [1,2,4,5,6,12,13,18,19] [] [(1, vk .u64 p2), (2, vq 0), (4, vq 1), (5, vk .u64 y2), (6, vi 2), (12, .ag (qa1831 p1)), (13, vi 2), (18, vk .u64 p1.size.2.2.1), (19, vk .u64 p2)] [.box (qa1834 p1 r1 y1 r2), .box qa1832] ?_
 refine za (c_math_bits_Mul64 _ _ _ c30) (zg [2, 4] 5 [1,2,4,5,6,8,9,12,13] (zd (m29 _ _ (zq fun K31 m31 => zr ?_))))
 refine zv [2, 4] 1 [1,2,4,5,6,8,9,12,13] [] [(1, vk .u64 p2), (2, vq 0), (4, vq 1), (5, vk .u64 y2), (6, vi 2), (8, vk .u64 r3.1), (9, vk .u64 r3.2), (12, .ag (qa1831 p1)), (13, vi 2)] [.box (qa1834 p1 r1 y1 r2), .box qa1832] (zd ?_)
 refine m31 _ _ (zq fun K32 m32 => ?_)
 obtain ⟨g33, h⟩ := zG h
 refine zr (zv [2, 4] 3 [1,2,4,8,12,13,24,25,26] [] [(1, vk .u64 p2), (2, vq 0), (4, vq 1), (8, vk .u64 r3.1), (12, .ag (qa1831 p1)), (13, vi 2), (24, vi 2), (25, vk .u64 r3.2), (26, vk .u64 y2)] [.box (qa1834 p1 r1 y1 r2), .box qa1832] ?_)
 refine XO.ext 196 [.int .u64 r3.2, .int .u64 y2, .int .u64 (0 : Int)] [.int .u64 ((r3.2 + y2 + (0 : Int)) % 18446744073709551616), .int .u64 ((r3.2 + y2 + (0 : Int)) / 18446744073709551616)] [(27, .tp [vk .u64 ((r3.2 + y2 + (0 : Int)) % 18446744073709551616), vk .u64 ((r3.2 + y2 + (0 : Int)) / 18446744073709551616)]), (1, vk .u64 p2), (2, vq 0), (4, vq 1), (8, vk .u64 r3.1), (12, .ag (qa1831 p1)), (13, vi 2), (24, vi 2), (25, vk .u64 r3.2), (26, vk .u64 y2)] (by kernel_rfl) (ext_Add64 (fn := Tryz.f196) (by kernel_rfl) (by kernel_rfl) (by kernel_rfl) (by kernel_rfl) (by kernel_rfl) g33.1 g33.2.1 g33.2.2.1 g33.2.2.2) rfl (by kernel_rfl) ?_
 refine zo [2, 4] 7 [1,2,4,8,10,12,13] [] [0 ≤ (2 : Int) ∧ (2 : Int) < 4] (⟨by decide, trivial⟩) (zd (m32 _ _ ?_))
 obtain ⟨y3, hy34, h⟩ := zB h
 refine zr ?_
 refine zv [2, 4] 3 [1,2,4,12,13,34] [] [(1, vk .u64 p2), (2, vq 0), (4, vq 1), (12, .ag [ck .u64 p1.size.1, ck .u64 p1.size.2.1, ck .u64 p1.size.2.2.1, ck .u64 p1.size.2.2.2]), (13, vi 2), (34, vk .u64 (u64.wrap (r3.1 + ((r3.2 + y2 + (0 : Int)) / 18446744073709551616))))] [.box [cb p1.neg, ck .u64 ((r1.2 + (0 : Int) + (0 : Int)) % 18446744073709551616), ck .u64 ((r2.2 + y1 + (0 : Int)) % 18446744073709551616), ck .u64 ((r3.2 + y2 + (0 : Int)) % 18446744073709551616), ck .u64 p1.size.2.2.2], .box [cb false, ck .u64 0, ck .u64 0, ck .u64 0, ck .u64 0]] ?_
 rw [show (u64.wrap (r3.1 + ((r3.2 + y2 + (0 : Int)) / 18446744073709551616))) = y3 from zj hy34]
 refine zg [2, 4] 1 [1,2,4,5,12,13] (zd (m27 _ _ (zr ?_)))
 refine zv [2, 4] 2 [1,2,4,5,12,13] [] [(1, vk .u64 p2), (2, vq 0), (4, vq 1), (5, vk .u64 y3), (12, .ag (qa1831 p1)), (13, vi 3)] [.box (qa1835 p1 r1 y1 r2 y2 r3), .box qa1832] (zd (XR.one (zq fun K35 m35 => zr ?_)))
 refine zg [2, 4] 1 [1,2,4,5,12,13,14] (zd (m35 _ _ (zq fun K36 m36 => zc true (fun _ => ?_) (fun hx => by cases hx))))
 refine zs (m36 _ _ (zq fun K37 m37 => zb 1 (zq fun K38 m38 => zr (zo [2, 4] 4 [1,2,4,5,6,7,12,13] [] [0 ≤ (3 : Int) ∧ (3 : Int) < 4] (⟨by decide, trivial⟩) (zd ?_)))))
 refine m38 _ _ (zq fun K39 m39 => ?_)
 obtain ⟨r4, c40, h⟩ := zB h
 refine zr ?_
 refine zv [2, 4] 2 [1,2,4,5,6,12,13,18,19] [] [(1, vk .u64 p2), (2, vq 0), (4, vq 1), (5, vk .u64 y3), (6, vi 3), (12, .ag (qa1831 p1)), (13, vi 3), (18, vk .u64 p1.size.2.2.2), (19, vk .u64 p2)] [.box (qa1835 p1 r1 y1 r2 y2 r3), .box qa1832] ?_
 refine za (c_math_bits_Mul64 _ _ _ c40) (zg [2, 4] 5 [1,2,4,5,6,8,9,12,13] (zd (m39 _ _ (zq fun K41 m41 => zr ?_))))
 refine zv [2, 4] 1 [1,2,4,5,6,8,9,12,13] [] [(1, vk .u64 p2), (2, vq 0), (4, vq 1), (5, vk .u64 y3), (6, vi 3), (8, vk .u64 r4.1), (9, vk .u64 r4.2), (12, .ag (qa1831 p1)), (13, vi 3)] [.box (qa1835 p1 r1 y1 r2 y2 r3), .box qa1832] ?_
 refine zd (m41 _ _ (zq fun K42 m42 => ?_))
 obtain ⟨g43, h⟩ := zG h
 refine zr ?_
 refine zv [2, 4] 3 [1,2,4,8,12,13,24,25,26] [] [(1, vk .u64 p2), (2, vq 0), (4, vq 1), (8, vk .u64 r4.1), (12, .ag (qa1831 p1)), (13, vi 3), (24, vi 3), (25, vk .u64 r4.2), (26, vk .u64 y3)] [.box (qa1835 p1 r1 y1 r2 y2 r3), .box qa1832] ?_
 refine XO.ext 196 [.int .u64 r4.2, .int .u64 y3, .int .u64 (0 : Int)] [.int .u64 ((r4.2 + y3 + (0 : Int)) % 18446744073709551616), .int .u64 ((r4.2 + y3 + (0 : Int)) / 18446744073709551616)] [(27, .tp [vk .u64 ((r4.2 + y3 + (0 : Int)) % 18446744073709551616), vk .u64 ((r4.2 + y3 + (0 : Int)) / 18446744073709551616)]), (1, vk .u64 p2), (2, vq 0), (4, vq 1), (8, vk .u64 r4.1), (12, .ag (qa1831 p1)), (13, vi 3), (24, vi 3), (25, vk .u64 r4.2), (26, vk .u64 y3)] (by kernel_rfl) (ext_Add64 (fn := Tryz.f196) (by kernel_rfl) (by kernel_rfl) (by kernel_rfl) (by kernel_rfl) (by kernel_rfl) g43.1 g43.2.1 g43.2.2.1 g43.2.2.2) rfl (by kernel_rfl) ?_
 refine zo [2, 4] 7 [1,2,4,8,10,12,13] [] [0 ≤ (3 : Int) ∧ (3 : Int) < 4] (⟨by decide, trivial⟩) (zd (m42 _ _ ?_))
 obtain ⟨y4, hy44, h⟩ := zB h
 refine zr ?_
 refine zv [2, 4] 3 [1,2,4,12,13,34] [] [(1, vk .u64 p2), (2, vq 0), (4, vq 1), (12, .ag [ck .u64 p1.size.1, ck .u64 p1.size.2.1, ck .u64 p1.size.2.2.1, ck .u64 p1.size.2.2.2]), (13, vi 3), (34, vk .u64 (u64.wrap (r4.1 + ((r4.2 + y3 + (0 : Int)) / 18446744073709551616))))] [.box [cb p1.neg, ck .u64 ((r1.2 + (0 : Int) + (0 : Int)) % 18446744073709551616), ck .u64 ((r2.2 + y1 + (0 : Int)) % 18446744073709551616), ck .u64 ((r3.2 + y2 + (0 : Int)) % 18446744073709551616), ck .u64 ((r4.2 + y3 + (0 : Int)) % 18446744073709551616)], .box [cb false, ck .u64 0, ck .u64 0, ck .u64 0, ck .u64 0]] ?_
 rw [show (u64.wrap (r4.1 + ((r4.2 + y3 + (0 : Int)) / 18446744073709551616))) = y4 from zj hy44]
 refine zg [2, 4] 1 [1,2,4,5,12,13] (zd (m37 _ _ (zr ?_)))
 refine zv [2, 4] 2 [1,2,4,5,12,13] [] [(1, vk .u64 p2), (2, vq 0), (4, vq 1), (5, vk .u64 y4), (12, .ag (qa1831 p1)), (13, vi 4)] [.box (qa1836 p1 r1 y1 r2 y2 r3 y3 r4), .box qa1832] (zd ?_)
 refine XR.one (zq fun K45 m45 => zr (zg [2, 4] 1 [1,2,4,5,12,13,14] (zd (m45 _ _ (zq fun K46 m46 => zc false (fun hx => by cases hx) (fun _ => ?_))))))
 refine zx 0 (hQ1 _ _ _ (m3 _ _ (zq fun K47 m47 => zr (zg [2, 4] 2 [4] (zd (m47 _ _ ?_))))))
 refine ze ?_
 obtain rfl := zj h
 exact zf [.ag (qa1836 p1 r1 y1 r2 y2 r3 y3 r4)] (.ag (.cons (.rfl _ rfl) (.cons (.rfl _ rfl) (.cons (.rfl _ rfl) (.cons (.rfl _ rfl) (.cons (.rfl _ rfl) .nil))))))
def value_wide_shifted_j1 (z6 : Bool) (z7 : Int) (z8 : Int) (z9 : Int) (z10 : Int) : Option GWide :=
    some (GWide.mk z6 (z7, z8, z9, z10))
def value_wide_shifted_l1 (p2 : Int) : Nat → Bool → Int → Int → Int → Int → Int → Option GWide
  | 0, _, _, _, _, _, _ => none
  | k1 + 1, z1, z2, z3, z4, z5, x1 =>
    ift (decide (x1 < p2))
      (bnd (value_wide_times (GWide.mk z1 (z2, z3, z4, z5)) (10 : Int)) fun r1 =>
       (value_wide_shifted_l1 p2 k1) r1.neg r1.size.1 r1.size.2.1 r1.size.2.2.1 r1.size.2.2.2 (i64.wrap (x1 + (1 : Int))))
      (value_wide_shifted_j1 z1 z2 z3 z4 z5)
def value_wide_shifted (p1 : GWide) (p2 : Int) : Option GWide :=
    value_wide_shifted_l1 p2 BIG p1.neg p1.size.1 p1.size.2.1 p1.size.2.2.1 p1.size.2.2.2 (0 : Int)
abbrev qa1867 : List CV := [cb false, ck .u64 0, ck .u64 0, ck .u64 0, ck .u64 0]
abbrev qa1870 (r1 : GWide) : List CV := [cb r1.neg, ck .u64 r1.size.1, ck .u64 r1.size.2.1, ck .u64 r1.size.2.2.1, ck .u64 r1.size.2.2.2]
theorem c_value_wide_shifted (p1 : GWide) (p2 : Int) (r : GWide) (h : value_wide_shifted p1 p2 = some r) : PC Tryz.prog 172 [.ag [cb p1.neg, ck .u64 p1.size.1, ck .u64 p1.size.2.1, ck .u64 p1.size.2.2.1, ck .u64 p1.size.2.2.2], vi p2] (.ag [cb r.neg, ck .u64 r.size.1, ck .u64 r.size.2.1, ck .u64 r.size.2.2.1, ck .u64 r.size.2.2.2]) := by
 unfold value_wide_shifted at h
 refine zF 12 Tryz.f172 (zq fun K1 m1 => zr (zg [2, 4] 2 [1,2,4] (zd (m1 _ _ (zq fun K2 m2 => ?_)))))
 have j1 : ∀ (z6 : Bool) (z7 : Int) (z8 : Int) (z9 : Int) (z10 : Int), value_wide_shifted_j1 z6 z7 z8 z9 z10 = some r → ∀ w0 w1, Sub 12 0 [] w0 w1 [(2, vq 0), (4, vq 1)] [.box [cb z6, ck .u64 z7, ck .u64 z8, ck .u64 z9, ck .u64 z10], .box qa1867] → K2 w0 w1 := by
  intro z6 z7 z8 z9 z10 h w0 w1 hS
  unfold value_wide_shifted_j1 at h
  refine m2 _ _ (XW.sub hS ?_)
  refine zq fun K9 m9 => zr (zg [2, 4] 2 [4] (zd (m9 _ _ (ze ?_))))
  obtain rfl := zj h
  exact zf [.ag [cb z6, ck .u64 z7, ck .u64 z8, ck .u64 z9, ck .u64 z10]] (.ag (.cons (.rfl _ rfl) (.cons (.rfl _ rfl) (.cons (.rfl _ rfl) (.cons (.rfl _ rfl) (.cons (.rfl _ rfl) .nil))))))
 refine zq fun K3 m3 => zr (zg [2, 4] 2 [2,4,5,6] (zd (m3 _ _ (zb 0 (XW.rounds' BIG (x := cd Tryz.f172 [1,0,1,0,0]) (by kernel_rfl) fun Q1 hQ1 => ?_)))))
 have hL1 : ∀ (k1 : Nat) (z1 : Bool) (z2 : Int) (z3 : Int) (z4 : Int) (z5 : Int) (x1 : Int), value_wide_shifted_l1 p2 k1 z1 z2 z3 z4 z5 x1 = some r → XR Tryz.prog 12 0 [] (cd Tryz.f172 [1,0,1,0,0]) Q1 k1 [(2, vq 0), (4, vq 1), (5, vi p2), (6, vi x1)] [.box [cb z1, ck .u64 z2, ck .u64 z3, ck .u64 z4, ck .u64 z5], .box qa1867] := by
  intro k1
  induction k1 with
  | zero => intro z1 z2 z3 z4 z5 x1 h; rw [value_wide_shifted_l1.eq_1] at h; cases h
  | succ k1 ih1 =>
   intro z1 z2 z3 z4 z5 x1 h
   rw [value_wide_shifted_l1.eq_2] at h
   refine zq fun K4 m4 => zr (zg [2, 4] 1 [2,4,5,6,7] (zd (m4 _ _ (zq fun K5 m5 => zC h (fun b6 h => ?_) (fun b6 h => ?_)))))
   ·refine zs (m5 _ _ (zq fun K7 m7 => zb 1 ?_))
    obtain ⟨r1, c8, h⟩ := zB h
    refine zr (zg [2, 4] 1 [2,4,5,6,8] (zl 182 [.ag [cb z1, ck .u64 z2, ck .u64 z3, ck .u64 z4, ck .u64 z5], vk .u64 10] (.ag (qa1870 r1)) [(9, .ag (qa1870 r1)), (2, vq 0), (4, vq 1), (5, vi p2), (6, vi x1), (8, .ag [cb z1, ck .u64 z2, ck .u64 z3, ck .u64 z4, ck .u64 z5])] (c_value_wide_times _ _ _ c8) (zg [2, 4] 1 [2,4,5,6] (zd (m7 _ _ (zr (zg [2, 4] 2 [2,4,5,6] ?_)))))))
    exact zd (XR.sub (zk [2,4,5,6]) (ih1 r1.neg r1.size.1 r1.size.2.1 r1.size.2.2.1 r1.size.2.2.2 (i64.wrap (x1 + (1 : Int))) h))
   ·exact zx 0 (hQ1 _ _ _ (j1 z1 z2 z3 z4 z5 h _ _ (zk [2,4])))
 exact XR.sub (zk [2,4,5,6]) (hL1 BIG p1.neg p1.size.1 p1.size.2.1 p1.size.2.2.1 p1.size.2.2.2 (0 : Int) h)
def value_scaled (p1 : Int) (p2 : Int) : Option GWide :=
    bnd (value_whole p1) fun r1 =>
    bnd (value_wide_shifted (GWide.mk r1.neg (r1.size.1, r1.size.2.1, r1.size.2.2.1, r1.size.2.2.2)) p2) fun r2 =>
    some (GWide.mk r2.neg (r2.size.1, r2.size.2.1, r2.size.2.2.1, r2.size.2.2.2))
abbrev qa1875 (r1 : GWide) : List CV := [cb r1.neg, ck .u64 r1.size.1, ck .u64 r1.size.2.1, ck .u64 r1.size.2.2.1, ck .u64 r1.size.2.2.2]
abbrev qa1877 (r2 : GWide) : List CV := [cb r2.neg, ck .u64 r2.size.1, ck .u64 r2.size.2.1, ck .u64 r2.size.2.2.1, ck .u64 r2.size.2.2.2]
theorem c_value_scaled (p1 : Int) (p2 : Int) (r : GWide) (h : value_scaled p1 p2 = some r) : PC Tryz.prog 138 [vi p1, vi p2] (.ag [cb r.neg, ck .u64 r.size.1, ck .u64 r.size.2.1, ck .u64 r.size.2.2.1, ck .u64 r.size.2.2.2]) := by
 unfold value_scaled at h
 refine zF 9 Tryz.f138 (zq fun K1 m1 => zr (zg [4] 1 [0,1,4] (zd (m1 _ _ (zq fun K2 m2 => ?_)))))
 obtain ⟨r1, c3, h⟩ := zB h
 obtain ⟨r2, c4, h⟩ := zB h
 refine zr (zg [4] 1 [1,4,5] (zl 171 [vi p1] (.ag (qa1875 r1)) [(6, .ag (qa1875 r1)), (1, vi p2), (4, vq 0), (5, vi p1)] (c_value_whole _ _ c3) (zg [4] 1 [4,6,7] (za (c_value_wide_shifted _ _ _ c4) (zv [4] 1 [4] [] [(4, vq 0)] [.box (qa1877 r2)] (zd (m2 _ _ ?_)))))))
 refine ze ?_
 obtain rfl := zj h
 exact zf [.ag (qa1877 r2)] (.ag (.cons (.rfl _ rfl) (.cons (.rfl _ rfl) (.cons (.rfl _ rfl) (.cons (.rfl _ rfl) (.cons (.rfl _ rfl) .nil))))))
def value_wide_negated (p1 : GWide) : Option GWide :=
    some (GWide.mk (!p1.neg) (p1.size.1, p1.size.2.1, p1.size.2.2.1, p1.size.2.2.2))
abbrev qa1883 (p1 : GWide) : List CV := [cb (!p1.neg), ck .u64 p1.size.1, ck .u64 p1.size.2.1, ck .u64 p1.size.2.2.1, ck .u64 p1.size.2.2.2]
theorem c_value_wide_negated (p1 : GWide) (r : GWide) (h : value_wide_negated p1 = some r) : PC Tryz.prog 188 [.ag [cb p1.neg, ck .u64 p1.size.1, ck .u64 p1.size.2.1, ck .u64 p1.size.2.2.1, ck .u64 p1.size.2.2.2]] (.ag [cb r.neg, ck .u64 r.size.1, ck .u64 r.size.2.1, ck .u64 r.size.2.2.1, ck .u64 r.size.2.2.2]) := by
 unfold value_wide_negated at h
 refine zF 8 Tryz.f188 (zq fun K1 m1 => zr (zg [1, 2] 2 [1,2] (zd (m1 _ _ (zq fun K2 m2 => zr ?_)))))
 refine zg [1, 2] 5 [1,2] (zd (m2 _ _ (zq fun K3 m3 => zr (zv [1, 2] 2 [2] [] [(2, vq 1)] [.box (qa1883 p1), .box (qa1883 p1)] (zd (m3 _ _ ?_))))))
 refine ze ?_
 obtain rfl := zj h
 exact zf [.ag (qa1883 p1)] (.ag (.cons (.rfl _ rfl) (.cons (.rfl _ rfl) (.cons (.rfl _ rfl) (.cons (.rfl _ rfl) (.cons (.rfl _ rfl) .nil))))))
def value_compareSize (p1 : GWide) (p2 : GWide) : Option Int :=
    ift (decide (p1.size.2.2.2 < p2.size.2.2.2))
      (some (-1 : Int))
      (ift (decide (p2.size.2.2.2 < p1.size.2.2.2))
         (some (1 : Int))
         (ift (decide (p1.size.2.2.1 < p2.size.2.2.1))
            (some (-1 : Int))
            (ift (decide (p2.size.2.2.1 < p1.size.2.2.1))
               (some (1 : Int))
               (ift (decide (p1.size.2.1 < p2.size.2.1))
                  (some (-1 : Int))
                  (ift (decide (p2.size.2.1 < p1.size.2.1))
                     (some (1 : Int))
                     (ift (decide (p1.size.1 < p2.size.1))
                        (some (-1 : Int))
                        (ift (decide (p2.size.1 < p1.size.1))
                           (some (1 : Int))
                           (some (0 : Int)))))))))
abbrev qa1887 (p1 : GWide) : List PV := [.s (.bool p1.neg), .s (.int .u64 p1.size.1), .s (.int .u64 p1.size.2.1), .s (.int .u64 p1.size.2.2.1), .s (.int .u64 p1.size.2.2.2)]
abbrev qa1888 (p2 : GWide) : List PV := [.s (.bool p2.neg), .s (.int .u64 p2.size.1), .s (.int .u64 p2.size.2.1), .s (.int .u64 p2.size.2.2.1), .s (.int .u64 p2.size.2.2.2)]
abbrev qa1892 (p1 : GWide) (p2 : GWide) : Fr := [(28, vk .u64 p2.size.2.2.2), (27, .one (.pv (.rp [(qa1888 p2)] 0 4))), (26, .one (.pv (.rp [(qa1888 p2)] 0 1))), (25, vi 3), (24, vk .u64 p1.size.2.2.2), (23, .one (.pv (.rp [(qa1887 p1)] 0 4))), (22, .one (.pv (.rp [(qa1887 p1)] 0 1))), (21, vi 3), (2, vR (qa1887 p1)), (3, vR (qa1888 p2)), (5, vi 3), (10, vb (decide (p1.size.2.2.2 < p2.size.2.2.2)))]
theorem c_value_compareSize (p1 : GWide) (p2 : GWide) (r : Int) (h : value_compareSize p1 p2 = some r) : PC Tryz.prog 189 [.ag [cb p1.neg, ck .u64 p1.size.1, ck .u64 p1.size.2.1, ck .u64 p1.size.2.2.1, ck .u64 p1.size.2.2.2], .ag [cb p2.neg, ck .u64 p2.size.1, ck .u64 p2.size.2.1, ck .u64 p2.size.2.2.1, ck .u64 p2.size.2.2.2]] (vi r) := by
 unfold value_compareSize at h
 refine zF 30 Tryz.f189 (zq fun K1 m1 => zr (zg [] 3 [2,3] (zd (m1 _ _ (zq fun K2 m2 => zq fun K3 m3 => ?_)))))
 refine zr (zg [] 1 [2,3,5] (zd (m3 _ _ (zb 0 (XW.rounds' 5 (x := cd Tryz.f189 [1,0,1,0,0]) (by kernel_rfl) fun Q1 hQ1 => XR.one (zq fun K4 m4 => ?_))))))
 refine zq fun K5 m5 => zr (zv [] 2 [2,3,5,7] [] [(2, vR (qa1887 p1)), (3, vR (qa1888 p2)), (5, vi 3), (7, vb true)] [] (zd (m5 _ _ (zc true (fun _ => ?_) (fun hx => by cases hx)))))
 refine zs (m4 _ _ (zq fun K6 m6 => zb 1 (zb 2 (zq fun K7 m7 => ?_))))
 refine zw 8 [(18, vk .u64 p2.size.2.2.2), (17, .one (.pv (.rp [(qa1888 p2)] 0 4))), (16, .one (.pv (.rp [(qa1888 p2)] 0 1))), (15, vi 3), (14, vk .u64 p1.size.2.2.2), (13, .one (.pv (.rp [(qa1887 p1)] 0 4))), (12, .one (.pv (.rp [(qa1887 p1)] 0 1))), (11, vi 3), (2, vR (qa1887 p1)), (3, vR (qa1888 p2)), (5, vi 3), (7, vb true)] ?_ ?_
 ·refine zyo 8 [(qa1887 p1), (qa1888 p2)] [0 ≤ (3 : Int) ∧ (3 : Int) < 4, ([(qa1887 p1)] : List (List PV))[0]? = some (qa1887 p1), 0 ≤ (3 : Int) ∧ (3 : Int) < 4, ([(qa1888 p2)] : List (List PV))[0]? = some (qa1888 p2)] (⟨by decide, rfl, by decide, rfl, trivial⟩) ?_
  exact zyd
 refine zg [] 2 [2,3,5,10] (zd (m7 _ _ (zC h (fun b8 h => ?_) (fun b8 h => ?_))))
 ·refine zq fun K9 m9 => zr (zg [] 1 [4] (zd (m9 _ _ (ze (hQ1 _ _ _ ?_)))))
  obtain rfl := zj h
  exact zf [vi (-1)] (.one (.rfl _ rfl))
 ·refine zq fun K10 m10 => ?_
  refine zw 8 (qa1892 p1 p2) ?_ ?_
  ·refine zyp 8 [(qa1887 p1), (qa1888 p2)] (qa1892 p1 p2) [0 ≤ (3 : Int) ∧ (3 : Int) < 4, ([(qa1887 p1)] : List (List PV))[0]? = some (qa1887 p1), 0 ≤ (3 : Int) ∧ (3 : Int) < 4, ([(qa1888 p2)] : List (List PV))[0]? = some (qa1888 p2)] (⟨by decide, rfl, by decide, rfl, trivial⟩) ?_
   exact zyd
  refine zv [] 2 [2,3,5,20] [] [(2, vR (qa1887 p1)), (3, vR (qa1888 p2)), (5, vi 3), (20, vb (decide (p2.size.2.2.2 < p1.size.2.2.2)))] [] (zd (m10 _ _ (zC h (fun b11 h => ?_) (fun b11 h => ?_))))
  ·refine zq fun K12 m12 => zr (zg [] 1 [4] (zd (m12 _ _ (ze (hQ1 _ _ _ ?_)))))
   obtain rfl := zj h
   exact zf [vi 1] (.one (.rfl _ rfl))
  ·refine zs (m6 _ _ (zr (zv [] 3 [2,3,5] [] [(2, vR (qa1887 p1)), (3, vR (qa1888 p2)), (5, vi 2)] [] (zd (XR.one (zq fun K13 m13 => zq fun K14 m14 => ?_))))))
   refine zr (zg [] 2 [2,3,5,7] (zd (m14 _ _ (zc true (fun _ => ?_) (fun hx => by cases hx)))))
   refine zs (m13 _ _ (zq fun K15 m15 => zb 1 (zb 2 (zq fun K16 m16 => ?_))))
   refine zw 8 [(18, vk .u64 p2.size.2.2.1), (17, .one (.pv (.rp [(qa1888 p2)] 0 3))), (16, .one (.pv (.rp [(qa1888 p2)] 0 1))), (15, vi 2), (14, vk .u64 p1.size.2.2.1), (13, .one (.pv (.rp [(qa1887 p1)] 0 3))), (12, .one (.pv (.rp [(qa1887 p1)] 0 1))), (11, vi 2), (2, vR (qa1887 p1)), (3, vR (qa1888 p2)), (5, vi 2), (7, vb true)] ?_ ?_
   ·refine zyo 8 [(qa1887 p1), (qa1888 p2)] [0 ≤ (2 : Int) ∧ (2 : Int) < 4, ([(qa1887 p1)] : List (List PV))[0]? = some (qa1887 p1), 0 ≤ (2 : Int) ∧ (2 : Int) < 4, ([(qa1888 p2)] : List (List PV))[0]? = some (qa1888 p2)] (⟨by decide, rfl, by decide, rfl, trivial⟩) ?_
    exact zyd
   refine zg [] 2 [2,3,5,10] (zd (m16 _ _ (zC h (fun b17 h => ?_) (fun b17 h => ?_))))
   ·refine zq fun K18 m18 => zr (zv [] 1 [4] [] [(4, vi (-1))] [] (zd (m18 _ _ (ze (hQ1 _ _ _ ?_)))))
    obtain rfl := zj h
    exact zf [vi (-1)] (.one (.rfl _ rfl))
   ·refine zq fun K19 m19 => ?_
    refine zw 8 [(28, vk .u64 p2.size.2.2.1), (27, .one (.pv (.rp [(qa1888 p2)] 0 3))), (26, .one (.pv (.rp [(qa1888 p2)] 0 1))), (25, vi 2), (24, vk .u64 p1.size.2.2.1), (23, .one (.pv (.rp [(qa1887 p1)] 0 3))), (22, .one (.pv (.rp [(qa1887 p1)] 0 1))), (21, vi 2), (2, vR (qa1887 p1)), (3, vR (qa1888 p2)), (5, vi 2), (10, vb (decide (p1.size.2.2.1 < p2.size.2.2.1)))] ?_ ?_
    ·refine zyo 8 [(qa1887 p1), (qa1888 p2)] [0 ≤ (2 : Int) ∧ (2 : Int) < 4, ([(qa1887 p1)] : List (List PV))[0]? = some (qa1887 p1), 0 ≤ (2 : Int) ∧ (2 : Int) < 4, ([(qa1888 p2)] : List (List PV))[0]? = some (qa1888 p2)] (⟨by decide, rfl, by decide, rfl, trivial⟩) ?_
     exact zyd
    refine zg [] 2 [2,3,5,20] (zd (m19 _ _ (zC h (fun b20 h => ?_) (fun b20 h => ?_))))
    ·refine zq fun K21 m21 => zr (zg [] 1 [4] (zd (m21 _ _ (ze (hQ1 _ _ _ ?_)))))
     obtain rfl := zj h
     exact zf [vi 1] (.one (.rfl _ rfl))
    ·refine zs (m15 _ _ (zr (zv [] 3 [2,3,5] [] [(2, vR (qa1887 p1)), (3, vR (qa1888 p2)), (5, vi 1)] [] (zd (XR.one (zq fun K22 m22 => zq fun K23 m23 => ?_))))))
     refine zr (zg [] 2 [2,3,5,7] (zd (m23 _ _ (zc true (fun _ => ?_) (fun hx => by cases hx)))))
     refine zs (m22 _ _ (zq fun K24 m24 => zb 1 (zb 2 (zq fun K25 m25 => ?_))))
     refine zw 8 [(18, vk .u64 p2.size.2.1), (17, .one (.pv (.rp [(qa1888 p2)] 0 2))), (16, .one (.pv (.rp [(qa1888 p2)] 0 1))), (15, vi 1), (14, vk .u64 p1.size.2.1), (13, .one (.pv (.rp [(qa1887 p1)] 0 2))), (12, .one (.pv (.rp [(qa1887 p1)] 0 1))), (11, vi 1), (2, vR (qa1887 p1)), (3, vR (qa1888 p2)), (5, vi 1), (7, vb true)] ?_ ?_
     ·refine zyo 8 [(qa1887 p1), (qa1888 p2)] [0 ≤ (1 : Int) ∧ (1 : Int) < 4, ([(qa1887 p1)] : List (List PV))[0]? = some (qa1887 p1), 0 ≤ (1 : Int) ∧ (1 : Int) < 4, ([(qa1888 p2)] : List (List PV))[0]? = some (qa1888 p2)] (⟨by decide, rfl, by decide, rfl, trivial⟩) ?_
      exact zyd
     refine zg [] 2 [2,3,5,10] (zd (m25 _ _ (zC h (fun b26 h => ?_) (fun b26 h => ?_))))
     ·refine zq fun K27 m27 => zr (zv [] 1 [4] [] [(4, vi (-1))] [] (zd (m27 _ _ (ze (hQ1 _ _ _ ?_)))))
      obtain rfl := zj h
      exact zf [vi (-1)] (.one (.rfl _ rfl))
     ·refine zq fun K28 m28 => ?_
      refine zw 8 [(28, vk .u64 p2.size.2.1), (27, .one (.pv (.rp [(qa1888 p2)] 0 2))), (26, .one (.pv (.rp [(qa1888 p2)] 0 1))), (25, vi 1), (24, vk .u64 p1.size.2.1), (23, .one (.pv (.rp [(qa1887 p1)] 0 2))), (22, .one (.pv (.rp [(qa1887 p1)] 0 1))), (21, vi 1), (2, vR (qa1887 p1)), (3, vR (qa1888 p2)), (5, vi 1), (10, vb (decide (p1.size.2.1 < p2.size.2.1)))] ?_ ?_
      ·refine zyo 8 [(qa1887 p1), (qa1888 p2)] [0 ≤ (1 : Int) ∧ (1 : Int) < 4, ([(qa1887 p1)] : List (List PV))[0]? = some (qa1887 p1), 0 ≤ (1 : Int) ∧ (1 : Int) < 4, ([(qa1888 p2)] : List (List PV))[0]? = some (qa1888 p2)] (⟨by decide, rfl, by decide, rfl, trivial⟩) ?_
       exact zyd
      refine zg [] 2 [2,3,5,20] (zd (m28 _ _ (zC h (fun b29 h => ?_) (fun b29 h => ?_))))
      ·refine zq fun K30 m30 => zr (zg [] 1 [4] (zd (m30 _ _ (ze (hQ1 _ _ _ ?_)))))
       obtain rfl := zj h
       exact zf [vi 1] (.one (.rfl _ rfl))
      ·refine zs (m24 _ _ (zr (zv [] 3 [2,3,5] [] [(2, vR (qa1887 p1)), (3, vR (qa1888 p2)), (5, vi 0)] [] (zd (XR.one (zq fun K31 m31 => zq fun K32 m32 => ?_))))))
       refine zr (zg [] 2 [2,3,5,7] (zd (m32 _ _ (zc true (fun _ => ?_) (fun hx => by cases hx)))))
       refine zs (m31 _ _ (zq fun K33 m33 => zb 1 (zb 2 (zq fun K34 m34 => ?_))))
       refine zw 8 [(18, vk .u64 p2.size.1), (17, .one (.pv (.rp [(qa1888 p2)] 0 1))), (16, .one (.pv (.rp [(qa1888 p2)] 0 1))), (15, vi 0), (14, vk .u64 p1.size.1), (13, .one (.pv (.rp [(qa1887 p1)] 0 1))), (12, .one (.pv (.rp [(qa1887 p1)] 0 1))), (11, vi 0), (2, vR (qa1887 p1)), (3, vR (qa1888 p2)), (5, vi 0), (7, vb true)] ?_ ?_
       ·refine zyo 8 [(qa1887 p1), (qa1888 p2)] [0 ≤ (0 : Int) ∧ (0 : Int) < 4, ([(qa1887 p1)] : List (List PV))[0]? = some (qa1887 p1), 0 ≤ (0 : Int) ∧ (0 : Int) < 4, ([(qa1888 p2)] : List (List PV))[0]? = some (qa1888 p2)] (⟨by decide, rfl, by decide, rfl, trivial⟩) ?_
        exact zyd
       refine zg [] 2 [2,3,5,10] (zd (m34 _ _ (zC h (fun b35 h => ?_) (fun b35 h => ?_))))
       ·refine zq fun K36 m36 => zr (zv [] 1 [4] [] [(4, vi (-1))] [] (zd (m36 _ _ (ze (hQ1 _ _ _ ?_)))))
        obtain rfl := zj h
        exact zf [vi (-1)] (.one (.rfl _ rfl))
       ·refine zq fun K37 m37 => ?_
        refine zw 8 [(28, vk .u64 p2.size.1), (27, .one (.pv (.rp [(qa1888 p2)] 0 1))), (26, .one (.pv (.rp [(qa1888 p2)] 0 1))), (25, vi 0), (24, vk .u64 p1.size.1), (23, .one (.pv (.rp [(qa1887 p1)] 0 1))), (22, .one (.pv (.rp [(qa1887 p1)] 0 1))), (21, vi 0), (2, vR (qa1887 p1)), (3, vR (qa1888 p2)), (5, vi 0), (10, vb (decide (p1.size.1 < p2.size.1)))] ?_ ?_
        ·refine zyo 8 [(qa1887 p1), (qa1888 p2)] [0 ≤ (0 : Int) ∧ (0 : Int) < 4, ([(qa1887 p1)] : List (List PV))[0]? = some (qa1887 p1), 0 ≤ (0 : Int) ∧ (0 : Int) < 4, ([(qa1888 p2)] : List (List PV))[0]? = some (qa1888 p2)] (⟨by decide, rfl, by decide, rfl, trivial⟩) ?_
         exact zyd
        refine zg [] 2 [2,3,5,20] (zd (m37 _ _ (zC h (fun b38 h => ?_) (fun b38 h => ?_))))
        ·refine zq fun K39 m39 => zr (zg [] 1 [4] (zd (m39 _ _ (ze (hQ1 _ _ _ ?_)))))
         obtain rfl := zj h
         exact zf [vi 1] (.one (.rfl _ rfl))
        ·refine zs (m33 _ _ (zr (zv [] 3 [2,3,5] [] [(2, vR (qa1887 p1)), (3, vR (qa1888 p2)), (5, vi (-1))] [] (zd (XR.one (zq fun K40 m40 => zq fun K41 m41 => ?_))))))
         refine zr (zg [] 2 [2,3,5,7] (zd (m41 _ _ (zc false (fun hx => by cases hx) (fun _ => ?_)))))
         refine zx 0 (hQ1 _ _ _ (m2 _ _ (zq fun K42 m42 => zr (zg [] 1 [4] (zd (m42 _ _ ?_))))))
         refine ze ?_
         obtain rfl := zj h
         exact zf [vi 0] (.one (.rfl _ rfl))
def value_wide_minus_j1 (z1 : Bool) (z2 : Int) (z3 : Int) (z4 : Int) (z5 : Int) (z6 : Bool) (z7 : Int) (z8 : Int) (z9 : Int) (z10 : Int) : Option GWide :=
    grd (0 ≤ z2 ∧ 0 ≤ z7 ∧ z7 < 18446744073709551616 ∧ 0 ≤ (0 : Int) ∧ (0 : Int) ≤ 1) <|
    grd (0 ≤ z3 ∧ 0 ≤ z8 ∧ z8 < 18446744073709551616 ∧ 0 ≤ (if z2 < z7 + (0 : Int) then (1 : Int) else (0 : Int)) ∧ (if z2 < z7 + (0 : Int) then (1 : Int) else (0 : Int)) ≤ 1) <|
    bnd (some ((z3 - z8 - (if z2 < z7 + (0 : Int) then (1 : Int) else (0 : Int))) % 18446744073709551616)) fun y1 =>
    bnd (some (if z3 < z8 + (if z2 < z7 + (0 : Int) then (1 : Int) else (0 : Int)) then (1 : Int) else (0 : Int))) fun y2 =>
    grd (0 ≤ z4 ∧ 0 ≤ z9 ∧ z9 < 18446744073709551616 ∧ 0 ≤ y2 ∧ y2 ≤ 1) <|
    grd (0 ≤ z5 ∧ 0 ≤ z10 ∧ z10 < 18446744073709551616 ∧ 0 ≤ (if z4 < z9 + y2 then (1 : Int) else (0 : Int)) ∧ (if z4 < z9 + y2 then (1 : Int) else (0 : Int)) ≤ 1) <|
    bnd (some ((z5 - z10 - (if z4 < z9 + y2 then (1 : Int) else (0 : Int))) % 18446744073709551616)) fun y3 =>
    bnd (some (if z5 < z10 + (if z4 < z9 + y2 then (1 : Int) else (0 : Int)) then (1 : Int) else (0 : Int))) fun y4 =>
    some (GWide.mk z1 (((z2 - z7 - (0 : Int)) % 18446744073709551616), y1, ((z4 - z9 - y2) % 18446744073709551616), y3))
mutual
def value_wide_minus : Nat → GWide → GWide → Option GWide
  | 0, _, _ => none
  | k0 + 1, p1, p2 =>
    ift (!(p1.neg == p2.neg))
      (bnd (value_wide_negated (GWide.mk p2.neg (p2.size.1, p2.size.2.1, p2.size.2.2.1, p2.size.2.2.2))) fun r1 =>
       bnd ((value_wide_plus k0) (GWide.mk p1.neg (p1.size.1, p1.size.2.1, p1.size.2.2.1, p1.size.2.2.2)) (GWide.mk r1.neg (r1.size.1, r1.size.2.1, r1.size.2.2.1, r1.size.2.2.2))) fun r2 =>
       some (GWide.mk r2.neg (r2.size.1, r2.size.2.1, r2.size.2.2.1, r2.size.2.2.2)))
      (bnd (value_compareSize (GWide.mk p1.neg (p1.size.1, p1.size.2.1, p1.size.2.2.1, p1.size.2.2.2)) (GWide.mk p2.neg (p2.size.1, p2.size.2.1, p2.size.2.2.1, p2.size.2.2.2))) fun r3 =>
       ift (decide (r3 < (0 : Int)))
         (bnd (value_wide_negated (GWide.mk p2.neg (p2.size.1, p2.size.2.1, p2.size.2.2.1, p2.size.2.2.2))) fun r4 =>
          value_wide_minus_j1 r4.neg r4.size.1 r4.size.2.1 r4.size.2.2.1 r4.size.2.2.2 p1.neg p1.size.1 p1.size.2.1 p1.size.2.2.1 p1.size.2.2.2)
         (value_wide_minus_j1 p1.neg p1.size.1 p1.size.2.1 p1.size.2.2.1 p1.size.2.2.2 p2.neg p2.size.1 p2.size.2.1 p2.size.2.2.1 p2.size.2.2.2))
def value_wide_plus : Nat → GWide → GWide → Option GWide
  | 0, _, _ => none
  | k0 + 1, p1, p2 =>
    ift (!(p1.neg == p2.neg))
      (bnd (value_wide_negated (GWide.mk p2.neg (p2.size.1, p2.size.2.1, p2.size.2.2.1, p2.size.2.2.2))) fun r1 =>
       bnd ((value_wide_minus k0) (GWide.mk p1.neg (p1.size.1, p1.size.2.1, p1.size.2.2.1, p1.size.2.2.2)) (GWide.mk r1.neg (r1.size.1, r1.size.2.1, r1.size.2.2.1, r1.size.2.2.2))) fun r2 =>
       some (GWide.mk r2.neg (r2.size.1, r2.size.2.1, r2.size.2.2.1, r2.size.2.2.2)))
      (grd (0 ≤ p1.size.1 ∧ 0 ≤ p2.size.1 ∧ 0 ≤ (0 : Int) ∧ (0 : Int) ≤ 1) <|
       grd (0 ≤ p1.size.2.1 ∧ 0 ≤ p2.size.2.1 ∧ 0 ≤ ((p1.size.1 + p2.size.1 + (0 : Int)) / 18446744073709551616) ∧ ((p1.size.1 + p2.size.1 + (0 : Int)) / 18446744073709551616) ≤ 1) <|
       bnd (some ((p1.size.2.1 + p2.size.2.1 + ((p1.size.1 + p2.size.1 + (0 : Int)) / 18446744073709551616)) % 18446744073709551616)) fun y1 =>
       bnd (some ((p1.size.2.1 + p2.size.2.1 + ((p1.size.1 + p2.size.1 + (0 : Int)) / 18446744073709551616)) / 18446744073709551616)) fun y2 =>
       grd (0 ≤ p1.size.2.2.1 ∧ 0 ≤ p2.size.2.2.1 ∧ 0 ≤ y2 ∧ y2 ≤ 1) <|
       grd (0 ≤ p1.size.2.2.2 ∧ 0 ≤ p2.size.2.2.2 ∧ 0 ≤ ((p1.size.2.2.1 + p2.size.2.2.1 + y2) / 18446744073709551616) ∧ ((p1.size.2.2.1 + p2.size.2.2.1 + y2) / 18446744073709551616) ≤ 1) <|
       bnd (some ((p1.size.2.2.2 + p2.size.2.2.2 + ((p1.size.2.2.1 + p2.size.2.2.1 + y2) / 18446744073709551616)) % 18446744073709551616)) fun y3 =>
       bnd (some ((p1.size.2.2.2 + p2.size.2.2.2 + ((p1.size.2.2.1 + p2.size.2.2.1 + y2) / 18446744073709551616)) / 18446744073709551616)) fun y4 =>
       some (GWide.mk p1.neg (((p1.size.1 + p2.size.1 + (0 : Int)) % 18446744073709551616), y1, ((p1.size.2.2.1 + p2.size.2.2.1 + y2) % 18446744073709551616), y3)))
end
abbrev qa1904 (p1 : GWide) : List CV := [cb p1.neg, ck .u64 p1.size.1, ck .u64 p1.size.2.1, ck .u64 p1.size.2.2.1, ck .u64 p1.size.2.2.2]
abbrev qa1905 (p2 : GWide) : List CV := [cb p2.neg, ck .u64 p2.size.1, ck .u64 p2.size.2.1, ck .u64 p2.size.2.2.1, ck .u64 p2.size.2.2.2]
abbrev qa1907 (r1 : GWide) : List CV := [cb r1.neg, ck .u64 r1.size.1, ck .u64 r1.size.2.1, ck .u64 r1.size.2.2.1, ck .u64 r1.size.2.2.2]
abbrev qa1908 (r2 : GWide) : List CV := [cb r2.neg, ck .u64 r2.size.1, ck .u64 r2.size.2.1, ck .u64 r2.size.2.2.1, ck .u64 r2.size.2.2.2]
abbrev qa1911 (z6 : Bool) (z7 : Int) (z8 : Int) (z9 : Int) (z10 : Int) : List CV := [cb z6, ck .u64 z7, ck .u64 z8, ck .u64 z9, ck .u64 z10]
abbrev qa1912 : List CV := [cb false, ck .u64 0, ck .u64 0, ck .u64 0, ck .u64 0]
abbrev qa1915 (z2 : Int) (z7 : Int) : Fr := [(41, .one (.pt 0 0 0 1)), (40, .one (.pt 0 0 0 1)), (39, vk .u64 (if z2 < z7 + (0 : Int) then (1 : Int) else (0 : Int))), (38, vk .u64 ((z2 - z7 - (0 : Int)) % 18446744073709551616)), (26, .tp [vk .u64 ((z2 - z7 - (0 : Int)) % 18446744073709551616), vk .u64 (if z2 < z7 + (0 : Int) then (1 : Int) else (0 : Int))]), (37, .tp [vk .u64 ((z2 - z7 - (0 : Int)) % 18446744073709551616), vk .u64 (if z2 < z7 + (0 : Int) then (1 : Int) else (0 : Int))]), (36, vk .u64 0), (35, vk .u64 z7), (34, .one (.pt 1 0 0 1)), (33, .one (.pt 1 0 0 1)), (32, vi 0), (31, vk .u64 z2), (30, .one (.pt 0 0 0 1)), (29, .one (.pt 0 0 0 1)), (28, vi 0), (27, vi 0), (2, vq 0), (3, vq 1), (4, vq 2), (5, vk .u64 0), (6, vi 0), (23, vi 0)]
abbrev qa1916 (z1 : Bool) (z2 : Int) (z3 : Int) (z4 : Int) (z5 : Int) (z7 : Int) : List CV := [cb z1, ck .u64 ((z2 - z7 - (0 : Int)) % 18446744073709551616), ck .u64 z3, ck .u64 z4, ck .u64 z5]
abbrev qa1921 (z2 : Int) (z3 : Int) (z7 : Int) (z8 : Int) (y1 : Int) (y2 : Int) : Fr := [(41, .one (.pt 0 0 0 2)), (40, .one (.pt 0 0 0 1)), (39, vk .u64 y2), (38, vk .u64 y1), (26, .tp [vk .u64 y1, vk .u64 y2]), (37, .tp [vk .u64 y1, vk .u64 y2]), (36, vk .u64 (if z2 < z7 + (0 : Int) then (1 : Int) else (0 : Int))), (35, vk .u64 z8), (34, .one (.pt 1 0 0 2)), (33, .one (.pt 1 0 0 1)), (32, vi 1), (31, vk .u64 z3), (30, .one (.pt 0 0 0 2)), (29, .one (.pt 0 0 0 1)), (28, vi 1), (27, vi 1), (2, vq 0), (3, vq 1), (4, vq 2), (5, vk .u64 (if z2 < z7 + (0 : Int) then (1 : Int) else (0 : Int))), (6, vi 1), (23, vi 1)]
abbrev qa1922 (z1 : Bool) (z2 : Int) (z4 : Int) (z5 : Int) (z7 : Int) (y1 : Int) : List CV := [cb z1, ck .u64 ((z2 - z7 - (0 : Int)) % 18446744073709551616), ck .u64 y1, ck .u64 z4, ck .u64 z5]
abbrev qa1927 (z4 : Int) (z9 : Int) (y2 : Int) : Fr := [(41, .one (.pt 0 0 0 3)), (40, .one (.pt 0 0 0 1)), (39, vk .u64 (if z4 < z9 + y2 then (1 : Int) else (0 : Int))), (38, vk .u64 ((z4 - z9 - y2) % 18446744073709551616)), (26, .tp [vk .u64 ((z4 - z9 - y2) % 18446744073709551616), vk .u64 (if z4 < z9 + y2 then (1 : Int) else (0 : Int))]), (37, .tp [vk .u64 ((z4 - z9 - y2) % 18446744073709551616), vk .u64 (if z4 < z9 + y2 then (1 : Int) else (0 : Int))]), (36, vk .u64 y2), (35, vk .u64 z9), (34, .one (.pt 1 0 0 3)), (33, .one (.pt 1 0 0 1)), (32, vi 2), (31, vk .u64 z4), (30, .one (.pt 0 0 0 3)), (29, .one (.pt 0 0 0 1)), (28, vi 2), (27, vi 2), (2, vq 0), (3, vq 1), (4, vq 2), (5, vk .u64 y2), (6, vi 2), (23, vi 2)]
abbrev qa1928 (z1 : Bool) (z2 : Int) (z4 : Int) (z5 : Int) (z7 : Int) (z9 : Int) (y1 : Int) (y2 : Int) : List CV := [cb z1, ck .u64 ((z2 - z7 - (0 : Int)) % 18446744073709551616), ck .u64 y1, ck .u64 ((z4 - z9 - y2) % 18446744073709551616), ck .u64 z5]
abbrev qa1933 (z4 : Int) (z5 : Int) (z9 : Int) (z10 : Int) (y2 : Int) (y3 : Int) (y4 : Int) : Fr := [(41, .one (.pt 0 0 0 4)), (40, .one (.pt 0 0 0 1)), (39, vk .u64 y4), (38, vk .u64 y3), (26, .tp [vk .u64 y3, vk .u64 y4]), (37, .tp [vk .u64 y3, vk .u64 y4]), (36, vk .u64 (if z4 < z9 + y2 then (1 : Int) else (0 : Int))), (35, vk .u64 z10), (34, .one (.pt 1 0 0 4)), (33, .one (.pt 1 0 0 1)), (32, vi 3), (31, vk .u64 z5), (30, .one (.pt 0 0 0 4)), (29, .one (.pt 0 0 0 1)), (28, vi 3), (27, vi 3), (2, vq 0), (3, vq 1), (4, vq 2), (5, vk .u64 (if z4 < z9 + y2 then (1 : Int) else (0 : Int))), (6, vi 3), (23, vi 3)]
abbrev qa1934 (z1 : Bool) (z2 : Int) (z4 : Int) (z7 : Int) (z9 : Int) (y1 : Int) (y2 : Int) (y3 : Int) : List CV := [cb z1, ck .u64 ((z2 - z7 - (0 : Int)) % 18446744073709551616), ck .u64 y1, ck .u64 ((z4 - z9 - y2) % 18446744073709551616), ck .u64 y3]
abbrev qa1938 (r4 : GWide) : List CV := [cb r4.neg, ck .u64 r4.size.1, ck .u64 r4.size.2.1, ck .u64 r4.size.2.2.1, ck .u64 r4.size.2.2.2]
abbrev qa1950 (p1 : GWide) : List CV := [cb p1.neg, ck .u64 p1.size.1, ck .u64 p1.size.2.1, ck .u64 p1.size.2.2.1, ck .u64 p1.size.2.2.2]
abbrev qa1951 (p2 : GWide) : List CV := [cb p2.neg, ck .u64 p2.size.1, ck .u64 p2.size.2.1, ck .u64 p2.size.2.2.1, ck .u64 p2.size.2.2.2]
abbrev qa1953 (p2 : GWide) : List PV := [.s (.bool p2.neg), .s (.int .u64 p2.size.1), .s (.int .u64 p2.size.2.1), .s (.int .u64 p2.size.2.2.1), .s (.int .u64 p2.size.2.2.2)]
abbrev qa1954 (r1 : GWide) : List CV := [cb r1.neg, ck .u64 r1.size.1, ck .u64 r1.size.2.1, ck .u64 r1.size.2.2.1, ck .u64 r1.size.2.2.2]
abbrev qa1955 (r2 : GWide) : List CV := [cb r2.neg, ck .u64 r2.size.1, ck .u64 r2.size.2.1, ck .u64 r2.size.2.2.1, ck .u64 r2.size.2.2.2]
abbrev qa1956 : List CV := [cb false, ck .u64 0, ck .u64 0, ck .u64 0, ck .u64 0]
abbrev qa1957 (p1 : GWide) (p2 : GWide) : List CV := [cb p1.neg, ck .u64 ((p1.size.1 + p2.size.1 + (0 : Int)) % 18446744073709551616), ck .u64 p1.size.2.1, ck .u64 p1.size.2.2.1, ck .u64 p1.size.2.2.2]
abbrev qa1958 (p1 : GWide) (p2 : GWide) (y1 : Int) : List CV := [cb p1.neg, ck .u64 ((p1.size.1 + p2.size.1 + (0 : Int)) % 18446744073709551616), ck .u64 y1, ck .u64 p1.size.2.2.1, ck .u64 p1.size.2.2.2]
abbrev qa1959 (p1 : GWide) (p2 : GWide) (y1 : Int) (y2 : Int) : List CV := [cb p1.neg, ck .u64 ((p1.size.1 + p2.size.1 + (0 : Int)) % 18446744073709551616), ck .u64 y1, ck .u64 ((p1.size.2.2.1 + p2.size.2.2.1 + y2) % 18446744073709551616), ck .u64 p1.size.2.2.2]
abbrev qa1960 (p1 : GWide) (p2 : GWide) (y1 : Int) (y2 : Int) (y3 : Int) : List CV := [cb p1.neg, ck .u64 ((p1.size.1 + p2.size.1 + (0 : Int)) % 18446744073709551616), ck .u64 y1, ck .u64 ((p1.size.2.2.1 + p2.size.2.2.1 + y2) % 18446744073709551616), ck .u64 y3]
abbrev qa1967 (p1 : GWide) (p2 : GWide) : Fr := [(34, .one (.pt 0 0 0 1)), (33, .one (.pt 0 0 0 1)), (32, vk .u64 ((p1.size.1 + p2.size.1 + (0 : Int)) / 18446744073709551616)), (31, vk .u64 ((p1.size.1 + p2.size.1 + (0 : Int)) % 18446744073709551616)), (19, .tp [vk .u64 ((p1.size.1 + p2.size.1 + (0 : Int)) % 18446744073709551616), vk .u64 ((p1.size.1 + p2.size.1 + (0 : Int)) / 18446744073709551616)]), (30, .tp [vk .u64 ((p1.size.1 + p2.size.1 + (0 : Int)) % 18446744073709551616), vk .u64 ((p1.size.1 + p2.size.1 + (0 : Int)) / 18446744073709551616)]), (29, vk .u64 0), (28, vk .u64 p2.size.1), (27, .one (.pv (.rp [(qa1953 p2)] 0 1))), (26, .one (.pv (.rp [(qa1953 p2)] 0 1))), (25, vi 0), (24, vk .u64 p1.size.1), (23, .one (.pt 0 0 0 1)), (22, .one (.pt 0 0 0 1)), (21, vi 0), (20, vi 0), (2, vq 0), (3, vR (qa1953 p2)), (4, vq 1), (5, vk .u64 0), (6, vi 0), (16, vi 0)]
abbrev qa1973 (p1 : GWide) (p2 : GWide) (y1 : Int) (y2 : Int) : Fr := [(34, .one (.pt 0 0 0 2)), (33, .one (.pt 0 0 0 1)), (32, vk .u64 y2), (31, vk .u64 y1), (19, .tp [vk .u64 y1, vk .u64 y2]), (30, .tp [vk .u64 y1, vk .u64 y2]), (29, vk .u64 ((p1.size.1 + p2.size.1 + (0 : Int)) / 18446744073709551616)), (28, vk .u64 p2.size.2.1), (27, .one (.pv (.rp [(qa1953 p2)] 0 2))), (26, .one (.pv (.rp [(qa1953 p2)] 0 1))), (25, vi 1), (24, vk .u64 p1.size.2.1), (23, .one (.pt 0 0 0 2)), (22, .one (.pt 0 0 0 1)), (21, vi 1), (20, vi 1), (2, vq 0), (3, vR (qa1953 p2)), (4, vq 1), (5, vk .u64 ((p1.size.1 + p2.size.1 + (0 : Int)) / 18446744073709551616)), (6, vi 1), (16, vi 1)]
abbrev qa1979 (p1 : GWide) (p2 : GWide) (y2 : Int) : Fr := [(34, .one (.pt 0 0 0 3)), (33, .one (.pt 0 0 0 1)), (32, vk .u64 ((p1.size.2.2.1 + p2.size.2.2.1 + y2) / 18446744073709551616)), (31, vk .u64 ((p1.size.2.2.1 + p2.size.2.2.1 + y2) % 18446744073709551616)), (19, .tp [vk .u64 ((p1.size.2.2.1 + p2.size.2.2.1 + y2) % 18446744073709551616), vk .u64 ((p1.size.2.2.1 + p2.size.2.2.1 + y2) / 18446744073709551616)]), (30, .tp [vk .u64 ((p1.size.2.2.1 + p2.size.2.2.1 + y2) % 18446744073709551616), vk .u64 ((p1.size.2.2.1 + p2.size.2.2.1 + y2) / 18446744073709551616)]), (29, vk .u64 y2), (28, vk .u64 p2.size.2.2.1), (27, .one (.pv (.rp [(qa1953 p2)] 0 3))), (26, .one (.pv (.rp [(qa1953 p2)] 0 1))), (25, vi 2), (24, vk .u64 p1.size.2.2.1), (23, .one (.pt 0 0 0 3)), (22, .one (.pt 0 0 0 1)), (21, vi 2), (20, vi 2), (2, vq 0), (3, vR (qa1953 p2)), (4, vq 1), (5, vk .u64 y2), (6, vi 2), (16, vi 2)]
abbrev qa1985 (p1 : GWide) (p2 : GWide) (y2 : Int) (y3 : Int) (y4 : Int) : Fr := [(34, .one (.pt 0 0 0 4)), (33, .one (.pt 0 0 0 1)), (32, vk .u64 y4), (31, vk .u64 y3), (19, .tp [vk .u64 y3, vk .u64 y4]), (30, .tp [vk .u64 y3, vk .u64 y4]), (29, vk .u64 ((p1.size.2.2.1 + p2.size.2.2.1 + y2) / 18446744073709551616)), (28, vk .u64 p2.size.2.2.2), (27, .one (.pv (.rp [(qa1953 p2)] 0 4))), (26, .one (.pv (.rp [(qa1953 p2)] 0 1))), (25, vi 3), (24, vk .u64 p1.size.2.2.2), (23, .one (.pt 0 0 0 4)), (22, .one (.pt 0 0 0 1)), (21, vi 3), (20, vi 3), (2, vq 0), (3, vR (qa1953 p2)), (4, vq 1), (5, vk .u64 ((p1.size.2.2.1 + p2.size.2.2.1 + y2) / 18446744073709551616)), (6, vi 3), (16, vi 3)]
mutual
theorem c_value_wide_minus : ∀ (k0 : Nat) (p1 : GWide) (p2 : GWide) (r : GWide), value_wide_minus k0 p1 p2 = some r → PC Tryz.prog 173 [.ag (qa1904 p1), .ag (qa1905 p2)] (.ag [cb r.neg, ck .u64 r.size.1, ck .u64 r.size.2.1, ck .u64 r.size.2.2.1, ck .u64 r.size.2.2.2])
 | 0, _, _, r, h => by rw [value_wide_minus.eq_1] at h; cases h
 | k0 + 1, p1, p2, r, h => by
  rw [value_wide_minus.eq_2] at h
  refine zF 44 Tryz.f173 (zq fun K1 m1 => zr (zg [2, 3, 4] 3 [2,3,4] (zd (m1 _ _ (zq fun K2 m2 => zq fun K3 m3 => ?_)))))
  refine zr (zg [2, 3, 4] 5 [2,3,4,11] (zd (m3 _ _ (zC h (fun b4 h => ?_) (fun b4 h => ?_)))))
  ·refine zq fun K5 m5 => ?_
   obtain ⟨r1, c6, h⟩ := zB h
   obtain ⟨r2, c7, h⟩ := zB h
   refine zw 3 [(14, .ag (qa1907 r1)), (13, .ag (qa1905 p2)), (12, .ag (qa1904 p1)), (2, vq 0), (3, vq 1), (4, vq 2), (11, vb (!(p1.neg == p2.neg)))] ?_ ?_
   ·exact zyv 2 [] [(13, .ag (qa1905 p2)), (12, .ag (qa1904 p1)), (2, vq 0), (3, vq 1), (4, vq 2), (11, vb (!(p1.neg == p2.neg)))] (zya (c_value_wide_negated _ _ c6) zyd)
   refine zl 183 [.ag (qa1904 p1), .ag (qa1907 r1)] (.ag (qa1908 r2)) [(15, .ag (qa1908 r2)), (14, .ag (qa1907 r1)), (13, .ag (qa1905 p2)), (12, .ag (qa1904 p1)), (2, vq 0), (3, vq 1), (4, vq 2), (11, vb (!(p1.neg == p2.neg)))] (c_value_wide_plus k0 _ _ _ c7) ?_
   refine zg [2, 3, 4] 1 [4] (zd (m5 _ _ (ze ?_)))
   obtain rfl := zj h
   exact zf [.ag (qa1908 r2)] (.ag (.cons (.rfl _ rfl) (.cons (.rfl _ rfl) (.cons (.rfl _ rfl) (.cons (.rfl _ rfl) (.cons (.rfl _ rfl) .nil))))))
  ·refine zs (m2 _ _ (zq fun K8 m8 => ?_))
   have j1 : ∀ (z1 : Bool) (z2 : Int) (z3 : Int) (z4 : Int) (z5 : Int) (z6 : Bool) (z7 : Int) (z8 : Int) (z9 : Int) (z10 : Int), value_wide_minus_j1 z1 z2 z3 z4 z5 z6 z7 z8 z9 z10 = some r → ∀ w0 w1, Sub 44 0 [] w0 w1 [(2, vq 0), (3, vq 1), (4, vq 2)] [.box [cb z1, ck .u64 z2, ck .u64 z3, ck .u64 z4, ck .u64 z5], .box (qa1911 z6 z7 z8 z9 z10), .box qa1912] → K8 w0 w1 := by
    intro z1 z2 z3 z4 z5 z6 z7 z8 z9 z10 h w0 w1 hS
    unfold value_wide_minus_j1 at h
    refine m8 _ _ (XW.sub hS ?_)
    refine zq fun K13 m13 => zr (zg [2, 3, 4] 1 [2,3,4,5] (zd (m13 _ _ (zq fun K14 m14 => zq fun K15 m15 => zr ?_))))
    refine zg [2, 3, 4] 1 [2,3,4,5,23] (zd (m15 _ _ (zb 0 (XW.rounds' 5 (x := cd Tryz.f173 [1,1,1,1,0,1,0,0]) (by kernel_rfl) fun Q1 hQ1 => XR.one (zq fun K16 m16 => zr ?_)))))
    refine zv [2, 3, 4] 1 [2,3,4,5,23,24] [] [(2, vq 0), (3, vq 1), (4, vq 2), (5, vk .u64 0), (23, vi 0), (24, vb true)] [.box [cb z1, ck .u64 z2, ck .u64 z3, ck .u64 z4, ck .u64 z5], .box (qa1911 z6 z7 z8 z9 z10), .box qa1912] (zd (m16 _ _ (zq fun K17 m17 => zc true (fun _ => ?_) (fun hx => by cases hx))))
    refine zs (m17 _ _ (zq fun K18 m18 => zb 1 (zq fun K19 m19 => zr (zv [2, 3, 4] 2 [2,3,4,5,6,23] [] [(2, vq 0), (3, vq 1), (4, vq 2), (5, vk .u64 0), (6, vi 0), (23, vi 0)] [.box [cb z1, ck .u64 z2, ck .u64 z3, ck .u64 z4, ck .u64 z5], .box (qa1911 z6 z7 z8 z9 z10), .box qa1912] (zd ?_)))))
    refine m19 _ _ ?_
    obtain ⟨g20, h⟩ := zG h
    refine XW.drwG 17 [3] [([], []), ([], []), ([0], []), ([0], []), ([0], []), ([], []), ([1], []), ([1], []), ([1], []), ([], []), ([], []), ([], []), ([], []), ([], []), ([0], []), ([0], []), ([0], [0])] (qa1915 z2 z7) [.box (qa1916 z1 z2 z3 z4 z5 z7), .box (qa1911 z6 z7 z8 z9 z10), .box qa1912] (by kernel_rfl) (by kernel_rfl) ?_ ?_
    ·refine GY.go 10 [] [(36, vk .u64 0), (35, vk .u64 z7), (34, .one (.pt 1 0 0 1)), (33, .one (.pt 1 0 0 1)), (32, vi 0), (31, vk .u64 z2), (30, .one (.pt 0 0 0 1)), (29, .one (.pt 0 0 0 1)), (28, vi 0), (27, vi 0), (2, vq 0), (3, vq 1), (4, vq 2), (5, vk .u64 0), (6, vi 0), (23, vi 0)] [0 ≤ (0 : Int) ∧ (0 : Int) < 4, 0 ≤ (0 : Int) ∧ (0 : Int) < 4] (by kernel_rfl) (⟨by decide, by decide, trivial⟩) ?_
     refine GY.ext 190 [.int .u64 z2, .int .u64 z7, .int .u64 (0 : Int)] [.int .u64 ((z2 - z7 - (0 : Int)) % 18446744073709551616), .int .u64 (if z2 < z7 + (0 : Int) then (1 : Int) else (0 : Int))] [(37, .tp [vk .u64 ((z2 - z7 - (0 : Int)) % 18446744073709551616), vk .u64 (if z2 < z7 + (0 : Int) then (1 : Int) else (0 : Int))]), (36, vk .u64 0), (35, vk .u64 z7), (34, .one (.pt 1 0 0 1)), (33, .one (.pt 1 0 0 1)), (32, vi 0), (31, vk .u64 z2), (30, .one (.pt 0 0 0 1)), (29, .one (.pt 0 0 0 1)), (28, vi 0), (27, vi 0), (2, vq 0), (3, vq 1), (4, vq 2), (5, vk .u64 0), (6, vi 0), (23, vi 0)] [] (by kernel_rfl) (by kernel_rfl) (ext_Sub64 (fn := Tryz.f190) (by kernel_rfl) (by kernel_rfl) (by kernel_rfl) (by kernel_rfl) (by kernel_rfl) g20.1 g20.2.1 g20.2.2.1 g20.2.2.2.1 g20.2.2.2.2) rfl (by kernel_rfl) (by kernel_rfl) (by kernel_rfl) ?_
     refine GY.go 5 [] (qa1915 z2 z7) [0 ≤ (0 : Int) ∧ (0 : Int) < 4] (by kernel_rfl) (⟨by decide, trivial⟩) ?_
     refine GY.wr [] (qa1915 z2 z7) [0] [.box (qa1916 z1 z2 z3 z4 z5 z7), .box (qa1911 z6 z7 z8 z9 z10), .box qa1912] [] (by kernel_rfl) (by kernel_rfl) trivial ?_
     exact GY.done (by kernel_rfl) (by kernel_rfl)
    refine zg [2, 3, 4] 1 [2,3,4,5,23] (zd (m18 _ _ (zr (zv [2, 3, 4] 2 [2,3,4,5,23] [] [(2, vq 0), (3, vq 1), (4, vq 2), (5, vk .u64 (if z2 < z7 + (0 : Int) then (1 : Int) else (0 : Int))), (23, vi 1)] [.box (qa1916 z1 z2 z3 z4 z5 z7), .box (qa1911 z6 z7 z8 z9 z10), .box qa1912] (zd (XR.one (zq fun K21 m21 => ?_)))))))
    refine zr (zg [2, 3, 4] 1 [2,3,4,5,23,24] (zd (m21 _ _ (zq fun K22 m22 => zc true (fun _ => ?_) (fun hx => by cases hx)))))
    refine zs (m22 _ _ (zq fun K23 m23 => zb 1 (zq fun K24 m24 => zr (zv [2, 3, 4] 2 [2,3,4,5,6,23] [] [(2, vq 0), (3, vq 1), (4, vq 2), (5, vk .u64 (if z2 < z7 + (0 : Int) then (1 : Int) else (0 : Int))), (6, vi 1), (23, vi 1)] [.box (qa1916 z1 z2 z3 z4 z5 z7), .box (qa1911 z6 z7 z8 z9 z10), .box qa1912] (zd ?_)))))
    refine m24 _ _ ?_
    obtain ⟨g25, h⟩ := zG h
    obtain ⟨y1, hy26, h⟩ := zB h
    obtain ⟨y2, hy27, h⟩ := zB h
    refine XW.drwG 17 [3] [([], []), ([], []), ([0], []), ([0], []), ([0], []), ([], []), ([1], []), ([1], []), ([1], []), ([], []), ([], []), ([], []), ([], []), ([], []), ([0], []), ([0], []), ([0], [0])] (qa1921 z2 z3 z7 z8 y1 y2) [.box (qa1922 z1 z2 z4 z5 z7 y1), .box (qa1911 z6 z7 z8 z9 z10), .box qa1912] (by kernel_rfl) (by kernel_rfl) ?_ ?_
    ·refine GY.go 10 [] [(36, vk .u64 (if z2 < z7 + (0 : Int) then (1 : Int) else (0 : Int))), (35, vk .u64 z8), (34, .one (.pt 1 0 0 2)), (33, .one (.pt 1 0 0 1)), (32, vi 1), (31, vk .u64 z3), (30, .one (.pt 0 0 0 2)), (29, .one (.pt 0 0 0 1)), (28, vi 1), (27, vi 1), (2, vq 0), (3, vq 1), (4, vq 2), (5, vk .u64 (if z2 < z7 + (0 : Int) then (1 : Int) else (0 : Int))), (6, vi 1), (23, vi 1)] [0 ≤ (1 : Int) ∧ (1 : Int) < 4, 0 ≤ (1 : Int) ∧ (1 : Int) < 4] (by kernel_rfl) (⟨by decide, by decide, trivial⟩) ?_
     refine GY.ext 190 [.int .u64 z3, .int .u64 z8, .int .u64 (if z2 < z7 + (0 : Int) then (1 : Int) else (0 : Int))] [.int .u64 ((z3 - z8 - (if z2 < z7 + (0 : Int) then (1 : Int) else (0 : Int))) % 18446744073709551616), .int .u64 (if z3 < z8 + (if z2 < z7 + (0 : Int) then (1 : Int) else (0 : Int)) then (1 : Int) else (0 : Int))] [(37, .tp [vk .u64 ((z3 - z8 - (if z2 < z7 + (0 : Int) then (1 : Int) else (0 : Int))) % 18446744073709551616), vk .u64 (if z3 < z8 + (if z2 < z7 + (0 : Int) then (1 : Int) else (0 : Int)) then (1 : Int) else (0 : Int))]), (36, vk .u64 (if z2 < z7 + (0 : Int) then (1 : Int) else (0 : Int))), (35, vk .u64 z8), (34, .one (.pt 1 0 0 2)), (33, .one (.pt 1 0 0 1)), (32, vi 1), (31, vk .u64 z3), (30, .one (.pt 0 0 0 2)), (29, .one (.pt 0 0 0 1)), (28, vi 1), (27, vi 1), (2, vq 0), (3, vq 1), (4, vq 2), (5, vk .u64 (if z2 < z7 + (0 : Int) then (1 : Int) else (0 : Int))), (6, vi 1), (23, vi 1)] [] (by kernel_rfl) (by kernel_rfl) (ext_Sub64 (fn := Tryz.f190) (by kernel_rfl) (by kernel_rfl) (by kernel_rfl) (by kernel_rfl) (by kernel_rfl) g25.1 g25.2.1 g25.2.2.1 g25.2.2.2.1 g25.2.2.2.2) rfl (by kernel_rfl) (by kernel_rfl) (by kernel_rfl) ?_
     refine zgv 2 [] [(38, vk .u64 ((z3 - z8 - (if z2 < z7 + (0 : Int) then (1 : Int) else (0 : Int))) % 18446744073709551616)), (26, .tp [vk .u64 ((z3 - z8 - (if z2 < z7 + (0 : Int) then (1 : Int) else (0 : Int))) % 18446744073709551616), vk .u64 (if z3 < z8 + (if z2 < z7 + (0 : Int) then (1 : Int) else (0 : Int)) then (1 : Int) else (0 : Int))]), (37, .tp [vk .u64 ((z3 - z8 - (if z2 < z7 + (0 : Int) then (1 : Int) else (0 : Int))) % 18446744073709551616), vk .u64 (if z3 < z8 + (if z2 < z7 + (0 : Int) then (1 : Int) else (0 : Int)) then (1 : Int) else (0 : Int))]), (36, vk .u64 (if z2 < z7 + (0 : Int) then (1 : Int) else (0 : Int))), (35, vk .u64 z8), (34, .one (.pt 1 0 0 2)), (33, .one (.pt 1 0 0 1)), (32, vi 1), (31, vk .u64 z3), (30, .one (.pt 0 0 0 2)), (29, .one (.pt 0 0 0 1)), (28, vi 1), (27, vi 1), (2, vq 0), (3, vq 1), (4, vq 2), (5, vk .u64 (if z2 < z7 + (0 : Int) then (1 : Int) else (0 : Int))), (6, vi 1), (23, vi 1)] ?_
     rw [show ((z3 - z8 - (if z2 < z7 + (0 : Int) then (1 : Int) else (0 : Int))) % 18446744073709551616) = y1 from zj hy26]
     refine zgv 1 [] [(39, vk .u64 (if z3 < z8 + (if z2 < z7 + (0 : Int) then (1 : Int) else (0 : Int)) then (1 : Int) else (0 : Int))), (38, vk .u64 y1), (26, .tp [vk .u64 y1, vk .u64 (if z3 < z8 + (if z2 < z7 + (0 : Int) then (1 : Int) else (0 : Int)) then (1 : Int) else (0 : Int))]), (37, .tp [vk .u64 y1, vk .u64 (if z3 < z8 + (if z2 < z7 + (0 : Int) then (1 : Int) else (0 : Int)) then (1 : Int) else (0 : Int))]), (36, vk .u64 (if z2 < z7 + (0 : Int) then (1 : Int) else (0 : Int))), (35, vk .u64 z8), (34, .one (.pt 1 0 0 2)), (33, .one (.pt 1 0 0 1)), (32, vi 1), (31, vk .u64 z3), (30, .one (.pt 0 0 0 2)), (29, .one (.pt 0 0 0 1)), (28, vi 1), (27, vi 1), (2, vq 0), (3, vq 1), (4, vq 2), (5, vk .u64 (if z2 < z7 + (0 : Int) then (1 : Int) else (0 : Int))), (6, vi 1), (23, vi 1)] ?_
     rw [show (if z3 < z8 + (if z2 < z7 + (0 : Int) then (1 : Int) else (0 : Int)) then (1 : Int) else (0 : Int)) = y2 from zj hy27]
     refine GY.go 2 [] (qa1921 z2 z3 z7 z8 y1 y2) [0 ≤ (1 : Int) ∧ (1 : Int) < 4] (by kernel_rfl) (⟨by decide, trivial⟩) ?_
     refine GY.wr [] (qa1921 z2 z3 z7 z8 y1 y2) [0] [.box (qa1922 z1 z2 z4 z5 z7 y1), .box (qa1911 z6 z7 z8 z9 z10), .box qa1912] [] (by kernel_rfl) (by kernel_rfl) trivial ?_
     exact GY.done (by kernel_rfl) (by kernel_rfl)
    refine zg [2, 3, 4] 1 [2,3,4,5,23] (zd (m23 _ _ (zr (zv [2, 3, 4] 2 [2,3,4,5,23] [] [(2, vq 0), (3, vq 1), (4, vq 2), (5, vk .u64 y2), (23, vi 2)] [.box (qa1922 z1 z2 z4 z5 z7 y1), .box (qa1911 z6 z7 z8 z9 z10), .box qa1912] (zd (XR.one (zq fun K28 m28 => ?_)))))))
    refine zr (zg [2, 3, 4] 1 [2,3,4,5,23,24] (zd (m28 _ _ (zq fun K29 m29 => zc true (fun _ => ?_) (fun hx => by cases hx)))))
    refine zs (m29 _ _ (zq fun K30 m30 => zb 1 (zq fun K31 m31 => zr (zv [2, 3, 4] 2 [2,3,4,5,6,23] [] [(2, vq 0), (3, vq 1), (4, vq 2), (5, vk .u64 y2), (6, vi 2), (23, vi 2)] [.box (qa1922 z1 z2 z4 z5 z7 y1), .box (qa1911 z6 z7 z8 z9 z10), .box qa1912] (zd ?_)))))
    refine m31 _ _ ?_
    obtain ⟨g32, h⟩ := zG h
    refine XW.drwG 17 [3] [([], []), ([], []), ([0], []), ([0], []), ([0], []), ([], []), ([1], []), ([1], []), ([1], []), ([], []), ([], []), ([], []), ([], []), ([], []), ([0], []), ([0], []), ([0], [0])] (qa1927 z4 z9 y2) [.box (qa1928 z1 z2 z4 z5 z7 z9 y1 y2), .box (qa1911 z6 z7 z8 z9 z10), .box qa1912] (by kernel_rfl) (by kernel_rfl) ?_ ?_
    ·refine GY.go 10 [] [(36, vk .u64 y2), (35, vk .u64 z9), (34, .one (.pt 1 0 0 3)), (33, .one (.pt 1 0 0 1)), (32, vi 2), (31, vk .u64 z4), (30, .one (.pt 0 0 0 3)), (29, .one (.pt 0 0 0 1)), (28, vi 2), (27, vi 2), (2, vq 0), (3, vq 1), (4, vq 2), (5, vk .u64 y2), (6, vi 2), (23, vi 2)] [0 ≤ (2 : Int) ∧ (2 : Int) < 4, 0 ≤ (2 : Int) ∧ (2 : Int) < 4] (by kernel_rfl) (⟨by decide, by decide, trivial⟩) ?_
     refine GY.ext 190 [.int .u64 z4, .int .u64 z9, .int .u64 y2] [.int .u64 ((z4 - z9 - y2) % 18446744073709551616), .int .u64 (if z4 < z9 + y2 then (1 : Int) else (0 : Int))] [(37, .tp [vk .u64 ((z4 - z9 - y2) % 18446744073709551616), vk .u64 (if z4 < z9 + y2 then (1 : Int) else (0 : Int))]), (36, vk .u64 y2), (35, vk .u64 z9), (34, .one (.pt 1 0 0 3)), (33, .one (.pt 1 0 0 1)), (32, vi 2), (31, vk .u64 z4), (30, .one (.pt 0 0 0 3)), (29, .one (.pt 0 0 0 1)), (28, vi 2), (27, vi 2), (2, vq 0), (3, vq 1), (4, vq 2), (5, vk .u64 y2), (6, vi 2), (23, vi 2)] [] (by kernel_rfl) (by kernel_rfl) (ext_Sub64 (fn := Tryz.f190) (by kernel_rfl) (by kernel_rfl) (by kernel_rfl) (by kernel_rfl) (by kernel_rfl) g32.1 g32.2.1 g32.2.2.1 g32.2.2.2.1 g32.2.2.2.2) rfl (by kernel_rfl) (by kernel_rfl) (by kernel_rfl) ?_
     refine GY.go 5 [] (qa1927 z4 z9 y2) [0 ≤ (2 : Int) ∧ (2 : Int) < 4] (by kernel_rfl) (⟨by decide, trivial⟩) ?_
     refine GY.wr [] (qa1927 z4 z9 y2) [0] [.box (qa1928 z1 z2 z4 z5 z7 z9 y1 y2), .box (qa1911 z6 z7 z8 z9 z10), .box qa1912] [] (by kernel_rfl) (by kernel_rfl) trivial ?_
     exact GY.done (by kernel_rfl) (by kernel_rfl)
    refine zg [2, 3, 4] 1 [2,3,4,5,23] (zd (m30 _ _ (zr (zv [2, 3, 4] 2 [2,3,4,5,23] [] [(2, vq 0), (3, vq 1), (4, vq 2), (5, vk .u64 (if z4 < z9 + y2 then (1 : Int) else (0 : Int))), (23, vi 3)] [.box (qa1928 z1 z2 z4 z5 z7 z9 y1 y2), .box (qa1911 z6 z7 z8 z9 z10), .box qa1912] (zd (XR.one (zq fun K33 m33 => ?_)))))))
    refine zr (zg [2, 3, 4] 1 [2,3,4,5,23,24] (zd (m33 _ _ (zq fun K34 m34 => zc true (fun _ => ?_) (fun hx => by cases hx)))))
    refine zs (m34 _ _ (zq fun K35 m35 => zb 1 (zq fun K36 m36 => zr (zv [2, 3, 4] 2 [2,3,4,5,6,23] [] [(2, vq 0), (3, vq 1), (4, vq 2), (5, vk .u64 (if z4 < z9 + y2 then (1 : Int) else (0 : Int))), (6, vi 3), (23, vi 3)] [.box (qa1928 z1 z2 z4 z5 z7 z9 y1 y2), .box (qa1911 z6 z7 z8 z9 z10), .box qa1912] (zd ?_)))))
    refine m36 _ _ ?_
    obtain ⟨g37, h⟩ := zG h
    obtain ⟨y3, hy38, h⟩ := zB h
    obtain ⟨y4, hy39, h⟩ := zB h
    refine XW.drwG 17 [3] [([], []), ([], []), ([0], []), ([0], []), ([0], []), ([], []), ([1], []), ([1], []), ([1], []), ([], []), ([], []), ([], []), ([], []), ([], []), ([0], []), ([0], []), ([0], [0])] (qa1933 z4 z5 z9 z10 y2 y3 y4) [.box (qa1934 z1 z2 z4 z7 z9 y1 y2 y3), .box (qa1911 z6 z7 z8 z9 z10), .box qa1912] (by kernel_rfl) (by kernel_rfl) ?_ ?_
    ·refine GY.go 10 [] [(36, vk .u64 (if z4 < z9 + y2 then (1 : Int) else (0 : Int))), (35, vk .u64 z10), (34, .one (.pt 1 0 0 4)), (33, .one (.pt 1 0 0 1)), (32, vi 3), (31, vk .u64 z5), (30, .one (.pt 0 0 0 4)), (29, .one (.pt 0 0 0 1)), (28, vi 3), (27, vi 3), (2, vq 0), (3, vq 1), (4, vq 2), (5, vk .u64 (if z4 < z9 + y2 then (1 : Int) else (0 : Int))), (6, vi 3), (23, vi 3)] [0 ≤ (3 : Int) ∧ (3 : Int) < 4, 0 ≤ (3 : Int) ∧ (3 : Int) < 4] (by kernel_rfl) (⟨by decide, by decide, trivial⟩) ?_
     refine GY.ext 190 [.int .u64 z5, .int .u64 z10, .int .u64 (if z4 < z9 + y2 then (1 : Int) else (0 : Int))] [.int .u64 ((z5 - z10 - (if z4 < z9 + y2 then (1 : Int) else (0 : Int))) % 18446744073709551616), .int .u64 (if z5 < z10 + (if z4 < z9 + y2 then (1 : Int) else (0 : Int)) then (1 : Int) else (0 : Int))] [(37, .tp [vk .u64 ((z5 - z10 - (if z4 < z9 + y2 then (1 : Int) else (0 : Int))) % 18446744073709551616), vk .u64 (if z5 < z10 + (if z4 < z9 + y2 then (1 : Int) else (0 : Int)) then (1 : Int) else (0 : Int))]), (36, vk .u64 (if z4 < z9 + y2 then (1 : Int) else (0 : Int))), (35, vk .u64 z10), (34, .one (.pt 1 0 0 4)), (33, .one (.pt 1 0 0 1)), (32, vi 3), (31, vk .u64 z5), (30, .one (.pt 0 0 0 4)), (29, .one (.pt 0 0 0 1)), (28, vi 3), (27, vi 3), (2, vq 0), (3, vq 1), (4, vq 2), (5, vk .u64 (if z4 < z9 + y2 then (1 : Int) else (0 : Int))), (6, vi 3), (23, vi 3)] [] (by kernel_rfl) (by kernel_rfl) (ext_Sub64 (fn := Tryz.f190) (by kernel_rfl) (by kernel_rfl) (by kernel_rfl) (by kernel_rfl) (by kernel_rfl) g37.1 g37.2.1 g37.2.2.1 g37.2.2.2.1 g37.2.2.2.2) rfl (by kernel_rfl) (by kernel_rfl) (by kernel_rfl) ?_
     refine zgv 2 [] [(38, vk .u64 ((z5 - z10 - (if z4 < z9 + y2 then (1 : Int) else (0 : Int))) % 18446744073709551616)), (26, .tp [vk .u64 ((z5 - z10 - (if z4 < z9 + y2 then (1 : Int) else (0 : Int))) % 18446744073709551616), vk .u64 (if z5 < z10 + (if z4 < z9 + y2 then (1 : Int) else (0 : Int)) then (1 : Int) else (0 : Int))]), (37, .tp [vk .u64 ((z5 - z10 - (if z4 < z9 + y2 then (1 : Int) else (0 : Int))) % 18446744073709551616), vk .u64 (if z5 < z10 + (if z4 < z9 + y2 then (1 : Int) else (0 : Int)) then (1 : Int) else (0 : Int))]), (36, vk .u64 (if z4 < z9 + y2 then (1 : Int) else (0 : Int))), (35, vk .u64 z10), (34, .one (.pt 1 0 0 4)), (33, .one (.pt 1 0 0 1)), (32, vi 3), (31, vk .u64 z5), (30, .one (.pt 0 0 0 4)), (29, .one (.pt 0 0 0 1)), (28, vi 3), (27, vi 3), (2, vq 0), (3, vq 1), (4, vq 2), (5, vk .u64 (if z4 < z9 + y2 then (1 : Int) else (0 : Int))), (6, vi 3), (23, vi 3)] ?_
     rw [show ((z5 - z10 - (if z4 < z9 + y2 then (1 : Int) else (0 : Int))) % 18446744073709551616) = y3 from zj hy38]
     refine zgv 1 [] [(39, vk .u64 (if z5 < z10 + (if z4 < z9 + y2 then (1 : Int) else (0 : Int)) then (1 : Int) else (0 : Int))), (38, vk .u64 y3), (26, .tp [vk .u64 y3, vk .u64 (if z5 < z10 + (if z4 < z9 + y2 then (1 : Int) else (0 : Int)) then (1 : Int) else (0 : Int))]), (37, .tp [vk .u64 y3, vk .u64 (if z5 < z10 + (if z4 < z9 + y2 then (1 : Int) else (0 : Int)) then (1 : Int) else (0 : Int))]), (36, vk .u64 (if z4 < z9 + y2 then (1 : Int) else (0 : Int))), (35, vk .u64 z10), (34, .one (.pt 1 0 0 4)), (33, .one (.pt 1 0 0 1)), (32, vi 3), (31, vk .u64 z5), (30, .one (.pt 0 0 0 4)), (29, .one (.pt 0 0 0 1)), (28, vi 3), (27, vi 3), (2, vq 0), (3, vq 1), (4, vq 2), (5, vk .u64 (if z4 < z9 + y2 then (1 : Int) else (0 : Int))), (6, vi 3), (23, vi 3)] ?_
     rw [show (if z5 < z10 + (if z4 < z9 + y2 then (1 : Int) else (0 : Int)) then (1 : Int) else (0 : Int)) = y4 from zj hy39]
     refine GY.go 2 [] (qa1933 z4 z5 z9 z10 y2 y3 y4) [0 ≤ (3 : Int) ∧ (3 : Int) < 4] (by kernel_rfl) (⟨by decide, trivial⟩) ?_
     refine GY.wr [] (qa1933 z4 z5 z9 z10 y2 y3 y4) [0] [.box (qa1934 z1 z2 z4 z7 z9 y1 y2 y3), .box (qa1911 z6 z7 z8 z9 z10), .box qa1912] [] (by kernel_rfl) (by kernel_rfl) trivial ?_
     exact GY.done (by kernel_rfl) (by kernel_rfl)
    refine zg [2, 3, 4] 1 [2,3,4,5,23] (zd (m35 _ _ (zr (zv [2, 3, 4] 2 [2,3,4,5,23] [] [(2, vq 0), (3, vq 1), (4, vq 2), (5, vk .u64 y4), (23, vi 4)] [.box (qa1934 z1 z2 z4 z7 z9 y1 y2 y3), .box (qa1911 z6 z7 z8 z9 z10), .box qa1912] (zd (XR.one (zq fun K40 m40 => ?_)))))))
    refine zr (zg [2, 3, 4] 1 [2,3,4,5,23,24] (zd (m40 _ _ (zq fun K41 m41 => zc false (fun hx => by cases hx) (fun _ => ?_)))))
    refine zx 0 (hQ1 _ _ _ (m14 _ _ (zq fun K42 m42 => zr (zg [2, 3, 4] 2 [4] (zd (m42 _ _ ?_))))))
    refine ze ?_
    obtain rfl := zj h
    exact zf [.ag (qa1934 z1 z2 z4 z7 z9 y1 y2 y3)] (.ag (.cons (.rfl _ rfl) (.cons (.rfl _ rfl) (.cons (.rfl _ rfl) (.cons (.rfl _ rfl) (.cons (.rfl _ rfl) .nil))))))
   refine zq fun K9 m9 => ?_
   obtain ⟨r3, c10, h⟩ := zB h
   refine zr (zg [2, 3, 4] 2 [2,3,4,16,17] ?_)
   refine zl 189 [.ag (qa1904 p1), .ag (qa1905 p2)] (vi r3) [(18, vi r3), (2, vq 0), (3, vq 1), (4, vq 2), (16, .ag (qa1904 p1)), (17, .ag (qa1905 p2))] (c_value_compareSize _ _ _ c10) (zg [2, 3, 4] 1 [2,3,4,19] ?_)
   refine zd (m9 _ _ (zC h (fun b11 h => ?_) (fun b11 h => ?_)))
   ·obtain ⟨r4, c12, h⟩ := zB h
    refine zw 3 [(22, .ag (qa1904 p1)), (21, .ag (qa1938 r4)), (20, .ag (qa1905 p2)), (2, vq 0), (3, vq 1), (4, vq 2), (19, vb (decide (r3 < (0 : Int))))] ?_ ?_
    ·refine zyg 1 ?_
     refine DX.cal 188 [.ag (qa1905 p2)] (.ag (qa1938 r4)) [(21, .ag (qa1938 r4)), (20, .ag (qa1905 p2)), (2, vq 0), (3, vq 1), (4, vq 2), (19, vb (decide (r3 < (0 : Int))))] (by kernel_rfl) (c_value_wide_negated _ _ c12) rfl rfl (by kernel_rfl) ?_
     exact zyg 1 zyd
    exact zg [2, 3, 4] 2 [2,3,4] (zd (j1 r4.neg r4.size.1 r4.size.2.1 r4.size.2.2.1 r4.size.2.2.2 p1.neg p1.size.1 p1.size.2.1 p1.size.2.2.1 p1.size.2.2.2 h _ _ (zk [2,3,4])))
   ·exact zs (j1 p1.neg p1.size.1 p1.size.2.1 p1.size.2.2.1 p1.size.2.2.2 p2.neg p2.size.1 p2.size.2.1 p2.size.2.2.1 p2.size.2.2.2 h _ _ (zk [2,3,4]))
theorem c_value_wide_plus : ∀ (k0 : Nat) (p1 : GWide) (p2 : GWide) (r : GWide), value_wide_plus k0 p1 p2 = some r → PC Tryz.prog 183 [.ag (qa1950 p1), .ag (qa1951 p2)] (.ag [cb r.neg, ck .u64 r.size.1, ck .u64 r.size.2.1, ck .u64 r.size.2.2.1, ck .u64 r.size.2.2.2])
 | 0, _, _, r, h => by rw [value_wide_plus.eq_1] at h; cases h
 | k0 + 1, p1, p2, r, h => by
  rw [value_wide_plus.eq_2] at h
  refine zF 37 Tryz.f183 (zq fun K1 m1 => zr (zg [2, 4] 3 [2,3,4] (zd (m1 _ _ (zq fun K2 m2 => zq fun K3 m3 => ?_)))))
  refine zr (zu [2, 4] 5 [2,3,4,11] [(qa1953 p2)] (zd (m3 _ _ (zC h (fun b4 h => ?_) (fun b4 h => ?_)))))
  ·refine zq fun K5 m5 => ?_
   obtain ⟨r1, c6, h⟩ := zB h
   obtain ⟨r2, c7, h⟩ := zB h
   refine zw 3 [(14, .ag (qa1954 r1)), (13, .ag (qa1951 p2)), (12, .ag (qa1950 p1)), (2, vq 0), (3, vR (qa1953 p2)), (4, vq 1), (11, vb (!(p1.neg == p2.neg)))] ?_ ?_
   ·refine zyv 2 [(qa1953 p2)] [(13, .ag (qa1951 p2)), (12, .ag (qa1950 p1)), (2, vq 0), (3, vR (qa1953 p2)), (4, vq 1), (11, vb (!(p1.neg == p2.neg)))] ?_
    exact zya (c_value_wide_negated _ _ c6) zyd
   refine zl 173 [.ag (qa1950 p1), .ag (qa1954 r1)] (.ag (qa1955 r2)) [(15, .ag (qa1955 r2)), (14, .ag (qa1954 r1)), (13, .ag (qa1951 p2)), (12, .ag (qa1950 p1)), (2, vq 0), (3, vR (qa1953 p2)), (4, vq 1), (11, vb (!(p1.neg == p2.neg)))] (c_value_wide_minus k0 _ _ _ c7) ?_
   refine zg [2, 4] 1 [4] (zd (m5 _ _ (ze ?_)))
   obtain rfl := zj h
   exact zf [.ag (qa1955 r2)] (.ag (.cons (.rfl _ rfl) (.cons (.rfl _ rfl) (.cons (.rfl _ rfl) (.cons (.rfl _ rfl) (.cons (.rfl _ rfl) .nil))))))
  ·refine zs (m2 _ _ (zq fun K8 m8 => zr (zg [2, 4] 1 [2,3,4,5] (zd (m8 _ _ (zq fun K9 m9 => ?_))))))
   refine zq fun K10 m10 => zr (zv [2, 4] 1 [2,3,4,5,16] [] [(2, vq 0), (3, vR (qa1953 p2)), (4, vq 1), (5, vk .u64 0), (16, vi 0)] [.box (qa1950 p1), .box qa1956] (zd (m10 _ _ (zb 0 ?_))))
   refine XW.rounds' 5 (x := cd Tryz.f183 [1,1,1,0,1,0,0]) (by kernel_rfl) fun Q1 hQ1 => XR.one (zq fun K11 m11 => zr (zg [2, 4] 1 [2,3,4,5,16,17] (zd (m11 _ _ (zq fun K12 m12 => ?_)))))
   refine zc true (fun _ => ?_) (fun hx => by cases hx)
   refine zs (m12 _ _ (zq fun K13 m13 => zb 1 (zq fun K14 m14 => zr (zv [2, 4] 2 [2,3,4,5,6,16] [] [(2, vq 0), (3, vR (qa1953 p2)), (4, vq 1), (5, vk .u64 0), (6, vi 0), (16, vi 0)] [.box (qa1950 p1), .box qa1956] (zd ?_)))))
   refine m14 _ _ ?_
   obtain ⟨g15, h⟩ := zG h
   refine XW.drwG 17 [2] [([], []), ([], []), ([0], []), ([0], []), ([0], []), ([], []), ([], []), ([], []), ([], []), ([], []), ([], []), ([], []), ([], []), ([], []), ([0], []), ([0], []), ([0], [0])] (qa1967 p1 p2) [.box (qa1957 p1 p2), .box qa1956] (by kernel_rfl) (by kernel_rfl) ?_ ?_
   ·refine GY.go 10 [(qa1953 p2)] [(29, vk .u64 0), (28, vk .u64 p2.size.1), (27, .one (.pv (.rp [(qa1953 p2)] 0 1))), (26, .one (.pv (.rp [(qa1953 p2)] 0 1))), (25, vi 0), (24, vk .u64 p1.size.1), (23, .one (.pt 0 0 0 1)), (22, .one (.pt 0 0 0 1)), (21, vi 0), (20, vi 0), (2, vq 0), (3, vR (qa1953 p2)), (4, vq 1), (5, vk .u64 0), (6, vi 0), (16, vi 0)] [0 ≤ (0 : Int) ∧ (0 : Int) < 4, 0 ≤ (0 : Int) ∧ (0 : Int) < 4, ([(qa1953 p2)] : List (List PV))[0]? = some (qa1953 p2)] (by kernel_rfl) (⟨by decide, by decide, rfl, trivial⟩) ?_
    refine GY.ext 196 [.int .u64 p1.size.1, .int .u64 p2.size.1, .int .u64 (0 : Int)] [.int .u64 ((p1.size.1 + p2.size.1 + (0 : Int)) % 18446744073709551616), .int .u64 ((p1.size.1 + p2.size.1 + (0 : Int)) / 18446744073709551616)] [(30, .tp [vk .u64 ((p1.size.1 + p2.size.1 + (0 : Int)) % 18446744073709551616), vk .u64 ((p1.size.1 + p2.size.1 + (0 : Int)) / 18446744073709551616)]), (29, vk .u64 0), (28, vk .u64 p2.size.1), (27, .one (.pv (.rp [(qa1953 p2)] 0 1))), (26, .one (.pv (.rp [(qa1953 p2)] 0 1))), (25, vi 0), (24, vk .u64 p1.size.1), (23, .one (.pt 0 0 0 1)), (22, .one (.pt 0 0 0 1)), (21, vi 0), (20, vi 0), (2, vq 0), (3, vR (qa1953 p2)), (4, vq 1), (5, vk .u64 0), (6, vi 0), (16, vi 0)] [] (by kernel_rfl) (by kernel_rfl) (ext_Add64 (fn := Tryz.f196) (by kernel_rfl) (by kernel_rfl) (by kernel_rfl) (by kernel_rfl) (by kernel_rfl) g15.1 g15.2.1 g15.2.2.1 g15.2.2.2) rfl (by kernel_rfl) (by kernel_rfl) (by kernel_rfl) ?_
    refine GY.go 5 [] (qa1967 p1 p2) [0 ≤ (0 : Int) ∧ (0 : Int) < 4] (by kernel_rfl) (⟨by decide, trivial⟩) ?_
    refine GY.wr [] (qa1967 p1 p2) [0] [.box (qa1957 p1 p2), .box qa1956] [] (by kernel_rfl) (by kernel_rfl) trivial ?_
    exact GY.done (by kernel_rfl) (by kernel_rfl)
   refine zg [2, 4] 1 [2,3,4,5,16] (zd (m13 _ _ (zr ?_)))
   refine zv [2, 4] 2 [2,3,4,5,16] [] [(2, vq 0), (3, vR (qa1953 p2)), (4, vq 1), (5, vk .u64 ((p1.size.1 + p2.size.1 + (0 : Int)) / 18446744073709551616)), (16, vi 1)] [.box (qa1957 p1 p2), .box qa1956] ?_
   refine zd (XR.one (zq fun K16 m16 => zr (zg [2, 4] 1 [2,3,4,5,16,17] (zd (m16 _ _ (zq fun K17 m17 => ?_))))))
   refine zc true (fun _ => ?_) (fun hx => by cases hx)
   refine zs (m17 _ _ (zq fun K18 m18 => zb 1 (zq fun K19 m19 => zr ?_)))
   refine zv [2, 4] 2 [2,3,4,5,6,16] [] [(2, vq 0), (3, vR (qa1953 p2)), (4, vq 1), (5, vk .u64 ((p1.size.1 + p2.size.1 + (0 : Int)) / 18446744073709551616)), (6, vi 1), (16, vi 1)] [.box (qa1957 p1 p2), .box qa1956] ?_
   refine zd (m19 _ _ ?_)
   obtain ⟨g20, h⟩ := zG h
   obtain ⟨y1, hy21, h⟩ := zB h
   obtain ⟨y2, hy22, h⟩ := zB h
   refine XW.drwG 17 [2] [([], []), ([], []), ([0], []), ([0], []), ([0], []), ([], []), ([], []), ([], []), ([], []), ([], []), ([], []), ([], []), ([], []), ([], []), ([0], []), ([0], []), ([0], [0])] (qa1973 p1 p2 y1 y2) [.box (qa1958 p1 p2 y1), .box qa1956] (by kernel_rfl) (by kernel_rfl) ?_ ?_
   ·refine GY.go 10 [(qa1953 p2)] [(29, vk .u64 ((p1.size.1 + p2.size.1 + (0 : Int)) / 18446744073709551616)), (28, vk .u64 p2.size.2.1), (27, .one (.pv (.rp [(qa1953 p2)] 0 2))), (26, .one (.pv (.rp [(qa1953 p2)] 0 1))), (25, vi 1), (24, vk .u64 p1.size.2.1), (23, .one (.pt 0 0 0 2)), (22, .one (.pt 0 0 0 1)), (21, vi 1), (20, vi 1), (2, vq 0), (3, vR (qa1953 p2)), (4, vq 1), (5, vk .u64 ((p1.size.1 + p2.size.1 + (0 : Int)) / 18446744073709551616)), (6, vi 1), (16, vi 1)] [0 ≤ (1 : Int) ∧ (1 : Int) < 4, 0 ≤ (1 : Int) ∧ (1 : Int) < 4, ([(qa1953 p2)] : List (List PV))[0]? = some (qa1953 p2)] (by kernel_rfl) (⟨by decide, by decide, rfl, trivial⟩) ?_
    refine GY.ext 196 [.int .u64 p1.size.2.1, .int .u64 p2.size.2.1, .int .u64 ((p1.size.1 + p2.size.1 + (0 : Int)) / 18446744073709551616)] [.int .u64 ((p1.size.2.1 + p2.size.2.1 + ((p1.size.1 + p2.size.1 + (0 : Int)) / 18446744073709551616)) % 18446744073709551616), .int .u64 ((p1.size.2.1 + p2.size.2.1 + ((p1.size.1 + p2.size.1 + (0 : Int)) / 18446744073709551616)) / 18446744073709551616)] [(30, .tp [vk .u64 ((p1.size.2.1 + p2.size.2.1 + ((p1.size.1 + p2.size.1 + (0 : Int)) / 18446744073709551616)) % 18446744073709551616), vk .u64 ((p1.size.2.1 + p2.size.2.1 + ((p1.size.1 + p2.size.1 + (0 : Int)) / 18446744073709551616)) / 18446744073709551616)]), (29, vk .u64 ((p1.size.1 + p2.size.1 + (0 : Int)) / 18446744073709551616)), (28, vk .u64 p2.size.2.1), (27, .one (.pv (.rp [(qa1953 p2)] 0 2))), (26, .one (.pv (.rp [(qa1953 p2)] 0 1))), (25, vi 1), (24, vk .u64 p1.size.2.1), (23, .one (.pt 0 0 0 2)), (22, .one (.pt 0 0 0 1)), (21, vi 1), (20, vi 1), (2, vq 0), (3, vR (qa1953 p2)), (4, vq 1), (5, vk .u64 ((p1.size.1 + p2.size.1 + (0 : Int)) / 18446744073709551616)), (6, vi 1), (16, vi 1)] [] (by kernel_rfl) (by kernel_rfl) (ext_Add64 (fn := Tryz.f196) (by kernel_rfl) (by kernel_rfl) (by kernel_rfl) (by kernel_rfl) (by kernel_rfl) g20.1 g20.2.1 g20.2.2.1 g20.2.2.2) rfl (by kernel_rfl) (by kernel_rfl) (by kernel_rfl) ?_
    refine zgv 2 [] [(31, vk .u64 ((p1.size.2.1 + p2.size.2.1 + ((p1.size.1 + p2.size.1 + (0 : Int)) / 18446744073709551616)) % 18446744073709551616)), (19, .tp [vk .u64 ((p1.size.2.1 + p2.size.2.1 + ((p1.size.1 + p2.size.1 + (0 : Int)) / 18446744073709551616)) % 18446744073709551616), vk .u64 ((p1.size.2.1 + p2.size.2.1 + ((p1.size.1 + p2.size.1 + (0 : Int)) / 18446744073709551616)) / 18446744073709551616)]), (30, .tp [vk .u64 ((p1.size.2.1 + p2.size.2.1 + ((p1.size.1 + p2.size.1 + (0 : Int)) / 18446744073709551616)) % 18446744073709551616), vk .u64 ((p1.size.2.1 + p2.size.2.1 + ((p1.size.1 + p2.size.1 + (0 : Int)) / 18446744073709551616)) / 18446744073709551616)]), (29, vk .u64 ((p1.size.1 + p2.size.1 + (0 : Int)) / 18446744073709551616)), (28, vk .u64 p2.size.2.1), (27, .one (.pv (.rp [[.s (.bool p2.neg), .s (.int .u64 p2.size.1), .s (.int .u64 p2.size.2.1), .s (.int .u64 p2.size.2.2.1), .s (.int .u64 p2.size.2.2.2)]] 0 2))), (26, .one (.pv (.rp [[.s (.bool p2.neg), .s (.int .u64 p2.size.1), .s (.int .u64 p2.size.2.1), .s (.int .u64 p2.size.2.2.1), .s (.int .u64 p2.size.2.2.2)]] 0 1))), (25, vi 1), (24, vk .u64 p1.size.2.1), (23, .one (.pt 0 0 0 2)), (22, .one (.pt 0 0 0 1)), (21, vi 1), (20, vi 1), (2, vq 0), (3, vR [.s (.bool p2.neg), .s (.int .u64 p2.size.1), .s (.int .u64 p2.size.2.1), .s (.int .u64 p2.size.2.2.1), .s (.int .u64 p2.size.2.2.2)]), (4, vq 1), (5, vk .u64 ((p1.size.1 + p2.size.1 + (0 : Int)) / 18446744073709551616)), (6, vi 1), (16, vi 1)] ?_
    rw [show ((p1.size.2.1 + p2.size.2.1 + ((p1.size.1 + p2.size.1 + (0 : Int)) / 18446744073709551616)) % 18446744073709551616) = y1 from zj hy21]
    refine zgv 1 [] [(32, vk .u64 ((p1.size.2.1 + p2.size.2.1 + ((p1.size.1 + p2.size.1 + (0 : Int)) / 18446744073709551616)) / 18446744073709551616)), (31, vk .u64 y1), (19, .tp [vk .u64 y1, vk .u64 ((p1.size.2.1 + p2.size.2.1 + ((p1.size.1 + p2.size.1 + (0 : Int)) / 18446744073709551616)) / 18446744073709551616)]), (30, .tp [vk .u64 y1, vk .u64 ((p1.size.2.1 + p2.size.2.1 + ((p1.size.1 + p2.size.1 + (0 : Int)) / 18446744073709551616)) / 18446744073709551616)]), (29, vk .u64 ((p1.size.1 + p2.size.1 + (0 : Int)) / 18446744073709551616)), (28, vk .u64 p2.size.2.1), (27, .one (.pv (.rp [[.s (.bool p2.neg), .s (.int .u64 p2.size.1), .s (.int .u64 p2.size.2.1), .s (.int .u64 p2.size.2.2.1), .s (.int .u64 p2.size.2.2.2)]] 0 2))), (26, .one (.pv (.rp [[.s (.bool p2.neg), .s (.int .u64 p2.size.1), .s (.int .u64 p2.size.2.1), .s (.int .u64 p2.size.2.2.1), .s (.int .u64 p2.size.2.2.2)]] 0 1))), (25, vi 1), (24, vk .u64 p1.size.2.1), (23, .one (.pt 0 0 0 2)), (22, .one (.pt 0 0 0 1)), (21, vi 1), (20, vi 1), (2, vq 0), (3, vR [.s (.bool p2.neg), .s (.int .u64 p2.size.1), .s (.int .u64 p2.size.2.1), .s (.int .u64 p2.size.2.2.1), .s (.int .u64 p2.size.2.2.2)]), (4, vq 1), (5, vk .u64 ((p1.size.1 + p2.size.1 + (0 : Int)) / 18446744073709551616)), (6, vi 1), (16, vi 1)] ?_
    rw [show ((p1.size.2.1 + p2.size.2.1 + ((p1.size.1 + p2.size.1 + (0 : Int)) / 18446744073709551616)) / 18446744073709551616) = y2 from zj hy22]
    refine GY.go 2 [] (qa1973 p1 p2 y1 y2) [0 ≤ (1 : Int) ∧ (1 : Int) < 4] (by kernel_rfl) (⟨by decide, trivial⟩) ?_
    refine GY.wr [] (qa1973 p1 p2 y1 y2) [0] [.box (qa1958 p1 p2 y1), .box qa1956] [] (by kernel_rfl) (by kernel_rfl) trivial ?_
    exact GY.done (by kernel_rfl) (by kernel_rfl)
   refine zg [2, 4] 1 [2,3,4,5,16] (zd (m18 _ _ (zr (zv [2, 4] 2 [2,3,4,5,16] [] [(2, vq 0), (3, vR (qa1953 p2)), (4, vq 1), (5, vk .u64 y2), (16, vi 2)] [.box (qa1958 p1 p2 y1), .box qa1956] (zd (XR.one ?_))))))
   refine zq fun K23 m23 => zr (zg [2, 4] 1 [2,3,4,5,16,17] (zd (m23 _ _ (zq fun K24 m24 => zc true (fun _ => ?_) (fun hx => by cases hx)))))
   refine zs (m24 _ _ (zq fun K25 m25 => zb 1 (zq fun K26 m26 => zr ?_)))
   refine zv [2, 4] 2 [2,3,4,5,6,16] [] [(2, vq 0), (3, vR (qa1953 p2)), (4, vq 1), (5, vk .u64 y2), (6, vi 2), (16, vi 2)] [.box (qa1958 p1 p2 y1), .box qa1956] (zd (m26 _ _ ?_))
   obtain ⟨g27, h⟩ := zG h
   refine XW.drwG 17 [2] [([], []), ([], []), ([0], []), ([0], []), ([0], []), ([], []), ([], []), ([], []), ([], []), ([], []), ([], []), ([], []), ([], []), ([], []), ([0], []), ([0], []), ([0], [0])] (qa1979 p1 p2 y2) [.box (qa1959 p1 p2 y1 y2), .box qa1956] (by kernel_rfl) (by kernel_rfl) ?_ ?_
   ·refine GY.go 10 [(qa1953 p2)] [(29, vk .u64 y2), (28, vk .u64 p2.size.2.2.1), (27, .one (.pv (.rp [(qa1953 p2)] 0 3))), (26, .one (.pv (.rp [(qa1953 p2)] 0 1))), (25, vi 2), (24, vk .u64 p1.size.2.2.1), (23, .one (.pt 0 0 0 3)), (22, .one (.pt 0 0 0 1)), (21, vi 2), (20, vi 2), (2, vq 0), (3, vR (qa1953 p2)), (4, vq 1), (5, vk .u64 y2), (6, vi 2), (16, vi 2)] [0 ≤ (2 : Int) ∧ (2 : Int) < 4, 0 ≤ (2 : Int) ∧ (2 : Int) < 4, ([(qa1953 p2)] : List (List PV))[0]? = some (qa1953 p2)] (by kernel_rfl) (⟨by decide, by decide, rfl, trivial⟩) ?_
    refine GY.ext 196 [.int .u64 p1.size.2.2.1, .int .u64 p2.size.2.2.1, .int .u64 y2] [.int .u64 ((p1.size.2.2.1 + p2.size.2.2.1 + y2) % 18446744073709551616), .int .u64 ((p1.size.2.2.1 + p2.size.2.2.1 + y2) / 18446744073709551616)] [(30, .tp [vk .u64 ((p1.size.2.2.1 + p2.size.2.2.1 + y2) % 18446744073709551616), vk .u64 ((p1.size.2.2.1 + p2.size.2.2.1 + y2) / 18446744073709551616)]), (29, vk .u64 y2), (28, vk .u64 p2.size.2.2.1), (27, .one (.pv (.rp [(qa1953 p2)] 0 3))), (26, .one (.pv (.rp [(qa1953 p2)] 0 1))), (25, vi 2), (24, vk .u64 p1.size.2.2.1), (23, .one (.pt 0 0 0 3)), (22, .one (.pt 0 0 0 1)), (21, vi 2), (20, vi 2), (2, vq 0), (3, vR (qa1953 p2)), (4, vq 1), (5, vk .u64 y2), (6, vi 2), (16, vi 2)] [] (by kernel_rfl) (by kernel_rfl) (ext_Add64 (fn := Tryz.f196) (by kernel_rfl) (by kernel_rfl) (by kernel_rfl) (by kernel_rfl) (by kernel_rfl) g27.1 g27.2.1 g27.2.2.1 g27.2.2.2) rfl (by kernel_rfl) (by kernel_rfl) (by kernel_rfl) ?_
    refine GY.go 5 [] (qa1979 p1 p2 y2) [0 ≤ (2 : Int) ∧ (2 : Int) < 4] (by kernel_rfl) (⟨by decide, trivial⟩) ?_
    refine GY.wr [] (qa1979 p1 p2 y2) [0] [.box (qa1959 p1 p2 y1 y2), .box qa1956] [] (by kernel_rfl) (by kernel_rfl) trivial ?_
    exact GY.done (by kernel_rfl) (by kernel_rfl)
   refine zg [2, 4] 1 [2,3,4,5,16] (zd (m25 _ _ (zr ?_)))
   refine zv [2, 4] 2 [2,3,4,5,16] [] [(2, vq 0), (3, vR (qa1953 p2)), (4, vq 1), (5, vk .u64 ((p1.size.2.2.1 + p2.size.2.2.1 + y2) / 18446744073709551616)), (16, vi 3)] [.box (qa1959 p1 p2 y1 y2), .box qa1956] ?_
   refine zd (XR.one (zq fun K28 m28 => zr (zg [2, 4] 1 [2,3,4,5,16,17] (zd (m28 _ _ (zq fun K29 m29 => ?_))))))
   refine zc true (fun _ => ?_) (fun hx => by cases hx)
   refine zs (m29 _ _ (zq fun K30 m30 => zb 1 (zq fun K31 m31 => zr ?_)))
   refine zv [2, 4] 2 [2,3,4,5,6,16] [] [(2, vq 0), (3, vR (qa1953 p2)), (4, vq 1), (5, vk .u64 ((p1.size.2.2.1 + p2.size.2.2.1 + y2) / 18446744073709551616)), (6, vi 3), (16, vi 3)] [.box (qa1959 p1 p2 y1 y2), .box qa1956] ?_
   refine zd (m31 _ _ ?_)
   obtain ⟨g32, h⟩ := zG h
   obtain ⟨y3, hy33, h⟩ := zB h
   obtain ⟨y4, hy34, h⟩ := zB h
   refine XW.drwG 17 [2] [([], []), ([], []), ([0], []), ([0], []), ([0], []), ([], []), ([], []), ([], []), ([], []), ([], []), ([], []), ([], []), ([], []), ([], []), ([0], []), ([0], []), ([0], [0])] (qa1985 p1 p2 y2 y3 y4) [.box (qa1960 p1 p2 y1 y2 y3), .box qa1956] (by kernel_rfl) (by kernel_rfl) ?_ ?_
   ·refine GY.go 10 [(qa1953 p2)] [(29, vk .u64 ((p1.size.2.2.1 + p2.size.2.2.1 + y2) / 18446744073709551616)), (28, vk .u64 p2.size.2.2.2), (27, .one (.pv (.rp [(qa1953 p2)] 0 4))), (26, .one (.pv (.rp [(qa1953 p2)] 0 1))), (25, vi 3), (24, vk .u64 p1.size.2.2.2), (23, .one (.pt 0 0 0 4)), (22, .one (.pt 0 0 0 1)), (21, vi 3), (20, vi 3), (2, vq 0), (3, vR (qa1953 p2)), (4, vq 1), (5, vk .u64 ((p1.size.2.2.1 + p2.size.2.2.1 + y2) / 18446744073709551616)), (6, vi 3), (16, vi 3)] [0 ≤ (3 : Int) ∧ (3 : Int) < 4, 0 ≤ (3 : Int) ∧ (3 : Int) < 4, ([(qa1953 p2)] : List (List PV))[0]? = some (qa1953 p2)] (by kernel_rfl) (⟨by decide, by decide, rfl, trivial⟩) ?_
    refine GY.ext 196 [.int .u64 p1.size.2.2.2, .int .u64 p2.size.2.2.2, .int .u64 ((p1.size.2.2.1 + p2.size.2.2.1 + y2) / 18446744073709551616)] [.int .u64 ((p1.size.2.2.2 + p2.size.2.2.2 + ((p1.size.2.2.1 + p2.size.2.2.1 + y2) / 18446744073709551616)) % 18446744073709551616), .int .u64 ((p1.size.2.2.2 + p2.size.2.2.2 + ((p1.size.2.2.1 + p2.size.2.2.1 + y2) / 18446744073709551616)) / 18446744073709551616)] [(30, .tp [vk .u64 ((p1.size.2.2.2 + p2.size.2.2.2 + ((p1.size.2.2.1 + p2.size.2.2.1 + y2) / 18446744073709551616)) % 18446744073709551616), vk .u64 ((p1.size.2.2.2 + p2.size.2.2.2 + ((p1.size.2.2.1 + p2.size.2.2.1 + y2) / 18446744073709551616)) / 18446744073709551616)]), (29, vk .u64 ((p1.size.2.2.1 + p2.size.2.2.1 + y2) / 18446744073709551616)), (28, vk .u64 p2.size.2.2.2), (27, .one (.pv (.rp [(qa1953 p2)] 0 4))), (26, .one (.pv (.rp [(qa1953 p2)] 0 1))), (25, vi 3), (24, vk .u64 p1.size.2.2.2), (23, .one (.pt 0 0 0 4)), (22, .one (.pt 0 0 0 1)), (21, vi 3), (20, vi 3), (2, vq 0), (3, vR (qa1953 p2)), (4, vq 1), (5, vk .u64 ((p1.size.2.2.1 + p2.size.2.2.1 + y2) / 18446744073709551616)), (6, vi 3), (16, vi 3)] [] (by kernel_rfl) (by kernel_rfl) (ext_Add64 (fn := Tryz.f196) (by kernel_rfl) (by kernel_rfl) (by kernel_rfl) (by kernel_rfl) (by kernel_rfl) g32.1 g32.2.1 g32.2.2.1 g32.2.2.2) rfl (by kernel_rfl) (by kernel_rfl) (by kernel_rfl) ?_
    refine zgv 2 [] [(31, vk .u64 ((p1.size.2.2.2 + p2.size.2.2.2 + ((p1.size.2.2.1 + p2.size.2.2.1 + y2) / 18446744073709551616)) % 18446744073709551616)), (19, .tp [vk .u64 ((p1.size.2.2.2 + p2.size.2.2.2 + ((p1.size.2.2.1 + p2.size.2.2.1 + y2) / 18446744073709551616)) % 18446744073709551616), vk .u64 ((p1.size.2.2.2 + p2.size.2.2.2 + ((p1.size.2.2.1 + p2.size.2.2.1 + y2) / 18446744073709551616)) / 18446744073709551616)]), (30, .tp [vk .u64 ((p1.size.2.2.2 + p2.size.2.2.2 + ((p1.size.2.2.1 + p2.size.2.2.1 + y2) / 18446744073709551616)) % 18446744073709551616), vk .u64 ((p1.size.2.2.2 + p2.size.2.2.2 + ((p1.size.2.2.1 + p2.size.2.2.1 + y2) / 18446744073709551616)) / 18446744073709551616)]), (29, vk .u64 ((p1.size.2.2.1 + p2.size.2.2.1 + y2) / 18446744073709551616)), (28, vk .u64 p2.size.2.2.2), (27, .one (.pv (.rp [[.s (.bool p2.neg), .s (.int .u64 p2.size.1), .s (.int .u64 p2.size.2.1), .s (.int .u64 p2.size.2.2.1), .s (.int .u64 p2.size.2.2.2)]] 0 4))), (26, .one (.pv (.rp [[.s (.bool p2.neg), .s (.int .u64 p2.size.1), .s (.int .u64 p2.size.2.1), .s (.int .u64 p2.size.2.2.1), .s (.int .u64 p2.size.2.2.2)]] 0 1))), (25, vi 3), (24, vk .u64 p1.size.2.2.2), (23, .one (.pt 0 0 0 4)), (22, .one (.pt 0 0 0 1)), (21, vi 3), (20, vi 3), (2, vq 0), (3, vR [.s (.bool p2.neg), .s (.int .u64 p2.size.1), .s (.int .u64 p2.size.2.1), .s (.int .u64 p2.size.2.2.1), .s (.int .u64 p2.size.2.2.2)]), (4, vq 1), (5, vk .u64 ((p1.size.2.2.1 + p2.size.2.2.1 + y2) / 18446744073709551616)), (6, vi 3), (16, vi 3)] ?_
    rw [show ((p1.size.2.2.2 + p2.size.2.2.2 + ((p1.size.2.2.1 + p2.size.2.2.1 + y2) / 18446744073709551616)) % 18446744073709551616) = y3 from zj hy33]
    refine zgv 1 [] [(32, vk .u64 ((p1.size.2.2.2 + p2.size.2.2.2 + ((p1.size.2.2.1 + p2.size.2.2.1 + y2) / 18446744073709551616)) / 18446744073709551616)), (31, vk .u64 y3), (19, .tp [vk .u64 y3, vk .u64 ((p1.size.2.2.2 + p2.size.2.2.2 + ((p1.size.2.2.1 + p2.size.2.2.1 + y2) / 18446744073709551616)) / 18446744073709551616)]), (30, .tp [vk .u64 y3, vk .u64 ((p1.size.2.2.2 + p2.size.2.2.2 + ((p1.size.2.2.1 + p2.size.2.2.1 + y2) / 18446744073709551616)) / 18446744073709551616)]), (29, vk .u64 ((p1.size.2.2.1 + p2.size.2.2.1 + y2) / 18446744073709551616)), (28, vk .u64 p2.size.2.2.2), (27, .one (.pv (.rp [[.s (.bool p2.neg), .s (.int .u64 p2.size.1), .s (.int .u64 p2.size.2.1), .s (.int .u64 p2.size.2.2.1), .s (.int .u64 p2.size.2.2.2)]] 0 4))), (26, .one (.pv (.rp [[.s (.bool p2.neg), .s (.int .u64 p2.size.1), .s (.int .u64 p2.size.2.1), .s (.int .u64 p2.size.2.2.1), .s (.int .u64 p2.size.2.2.2)]] 0 1))), (25, vi 3), (24, vk .u64 p1.size.2.2.2), (23, .one (.pt 0 0 0 4)), (22, .one (.pt 0 0 0 1)), (21, vi 3), (20, vi 3), (2, vq 0), (3, vR [.s (.bool p2.neg), .s (.int .u64 p2.size.1), .s (.int .u64 p2.size.2.1), .s (.int .u64 p2.size.2.2.1), .s (.int .u64 p2.size.2.2.2)]), (4, vq 1), (5, vk .u64 ((p1.size.2.2.1 + p2.size.2.2.1 + y2) / 18446744073709551616)), (6, vi 3), (16, vi 3)] ?_
    rw [show ((p1.size.2.2.2 + p2.size.2.2.2 + ((p1.size.2.2.1 + p2.size.2.2.1 + y2) / 18446744073709551616)) / 18446744073709551616) = y4 from zj hy34]
    refine GY.go 2 [] (qa1985 p1 p2 y2 y3 y4) [0 ≤ (3 : Int) ∧ (3 : Int) < 4] (by kernel_rfl) (⟨by decide, trivial⟩) ?_
    refine GY.wr [] (qa1985 p1 p2 y2 y3 y4) [0] [.box (qa1960 p1 p2 y1 y2 y3), .box qa1956] [] (by kernel_rfl) (by kernel_rfl) trivial ?_
    exact GY.done (by kernel_rfl) (by kernel_rfl)
   refine zg [2, 4] 1 [2,3,4,5,16] (zd (m30 _ _ (zr ?_)))
   refine zv [2, 4] 2 [2,3,4,5,16] [] [(2, vq 0), (3, vR (qa1953 p2)), (4, vq 1), (5, vk .u64 y4), (16, vi 4)] [.box (qa1960 p1 p2 y1 y2 y3), .box qa1956] (zd (XR.one (zq fun K35 m35 => ?_)))
   refine zr (zg [2, 4] 1 [2,3,4,5,16,17] (zd (m35 _ _ (zq fun K36 m36 => zc false (fun hx => by cases hx) (fun _ => ?_)))))
   refine zx 0 (hQ1 _ _ _ (m9 _ _ (zq fun K37 m37 => zr (zg [2, 4] 2 [4] (zd (m37 _ _ ?_))))))
   refine ze ?_
   obtain rfl := zj h
   exact zf [.ag (qa1960 p1 p2 y1 y2 y3)] (.ag (.cons (.rfl _ rfl) (.cons (.rfl _ rfl) (.cons (.rfl _ rfl) (.cons (.rfl _ rfl) (.cons (.rfl _ rfl) .nil))))))
end
def value_wide_bytes_s (p1 : GWide) (p2 : (List Int)) : Option (Unit × (List Int)) :=
    bnd (value_whole (1 : Int)) fun r1 =>
    bnd (value_wide_times (GWide.mk r1.neg (r1.size.1, r1.size.2.1, r1.size.2.2.1, r1.size.2.2.2)) (9223372036854775808 : Int)) fun r2 =>
    bnd (value_wide_times (GWide.mk r2.neg (r2.size.1, r2.size.2.1, r2.size.2.2.1, r2.size.2.2.2)) (9223372036854775808 : Int)) fun r3 =>
    bnd (value_wide_times (GWide.mk r3.neg (r3.size.1, r3.size.2.1, r3.size.2.2.1, r3.size.2.2.2)) (2 : Int)) fun r4 =>
    bnd (value_wide_plus BIG (GWide.mk r4.neg (r4.size.1, r4.size.2.1, r4.size.2.2.1, r4.size.2.2.2)) (GWide.mk p1.neg (p1.size.1, p1.size.2.1, p1.size.2.2.1, p1.size.2.2.2))) fun r5 =>
    bnd (value_word_s r5.size.2.1 p2) fun r6 =>
    bnd (value_word_s r5.size.1 r6.2) fun r7 =>
    some ((), r7.2)
abbrev qa1990 (p1 : GWide) : List CV := [cb p1.neg, ck .u64 p1.size.1, ck .u64 p1.size.2.1, ck .u64 p1.size.2.2.1, ck .u64 p1.size.2.2.2]
abbrev qa1993 (p1 : GWide) : List PV := [.s (.bool p1.neg), .s (.int .u64 p1.size.1), .s (.int .u64 p1.size.2.1), .s (.int .u64 p1.size.2.2.1), .s (.int .u64 p1.size.2.2.2)]
abbrev qa1994 (r5 : GWide) : List CV := [cb r5.neg, ck .u64 r5.size.1, ck .u64 r5.size.2.1, ck .u64 r5.size.2.2.1, ck .u64 r5.size.2.2.2]
abbrev qa1995 (r4 : GWide) : List CV := [cb r4.neg, ck .u64 r4.size.1, ck .u64 r4.size.2.1, ck .u64 r4.size.2.2.1, ck .u64 r4.size.2.2.2]
abbrev qa1996 (r3 : GWide) : List CV := [cb r3.neg, ck .u64 r3.size.1, ck .u64 r3.size.2.1, ck .u64 r3.size.2.2.1, ck .u64 r3.size.2.2.2]
abbrev qa1997 (r2 : GWide) : List CV := [cb r2.neg, ck .u64 r2.size.1, ck .u64 r2.size.2.1, ck .u64 r2.size.2.2.1, ck .u64 r2.size.2.2.2]
abbrev qa1998 (r1 : GWide) : List CV := [cb r1.neg, ck .u64 r1.size.1, ck .u64 r1.size.2.1, ck .u64 r1.size.2.2.1, ck .u64 r1.size.2.2.2]
abbrev qa1999 : List CV := [cb false, ck .u64 0, ck .u64 0, ck .u64 0, ck .u64 0]
abbrev qa2011 (p1 : GWide) (p2 : (List Int)) (r1 : GWide) (r2 : GWide) (r3 : GWide) (r4 : GWide) (r5 : GWide) : Fr := [(5, vq 1), (12, .ag (qa1994 r5)), (11, .ag (qa1990 p1)), (10, .ag (qa1995 r4)), (9, .ag (qa1996 r3)), (8, .ag (qa1997 r2)), (7, .ag (qa1998 r1)), (1, .one (.sl 0 1 0 p2.length)), (2, vR (qa1993 p1))]
theorem c_value_wide_bytes_s (p1 : GWide) (p2 : (List Int)) (r : (Unit × (List Int))) (h : value_wide_bytes_s p1 p2 = some r) : MX Tryz.prog 162 [.ag (qa1990 p1), .one (.sl 0 1 0 p2.length)] [.arr 1 ((eK .u8).els p2)] [0] (.one (.sl 0 1 0 r.2.length)) [.arr 1 ((eK .u8).els r.2)] := by
 unfold value_wide_bytes_s at h
 refine MX.of 1 1 rfl (n := 24) (fn := Tryz.f162) (c := cd Tryz.f162 []) (by kernel_rfl) (by kernel_rfl) (by kernel_rfl) (Nat.le_of_ble_eq_true rfl) rfl (zq fun K1 m1 => zr (zv [5] 2 [1,2] [] [(1, .one (.sl 0 1 0 p2.length)), (2, vR (qa1993 p1))] [.arr 1 ((eK .u8).els p2)] (zd (m1 _ _ (zq fun K2 m2 => ?_)))))
 obtain ⟨r1, c3, h⟩ := zB h
 obtain ⟨r2, c4, h⟩ := zB h
 obtain ⟨r3, c5, h⟩ := zB h
 obtain ⟨r4, c6, h⟩ := zB h
 obtain ⟨r5, c7, h⟩ := zB h
 refine XW.sub (Sub.dead 1) ?_
 refine XW.drwG 7 [1, 2] [([], []), ([], []), ([], []), ([], []), ([], []), ([], []), ([1], [1])] (qa2011 p1 p2 r1 r2 r3 r4 r5) [.arr 1 ((eK .u8).els p2), .box qa1999] (by kernel_rfl) (by kernel_rfl) ?_ ?_
 ·refine GY.cal 171 [vi 1] (.ag (qa1998 r1)) [(7, .ag (qa1998 r1)), (1, .one (.sl 0 1 0 p2.length)), (2, vR (qa1993 p1))] [] (by kernel_rfl) (by kernel_rfl) (c_value_whole _ _ c3) rfl rfl (by kernel_rfl) (by kernel_rfl) (by kernel_rfl) ?_
  refine GY.cal 182 [.ag (qa1998 r1), vk .u64 9223372036854775808] (.ag (qa1997 r2)) [(8, .ag (qa1997 r2)), (7, .ag (qa1998 r1)), (1, .one (.sl 0 1 0 p2.length)), (2, vR (qa1993 p1))] [] (by kernel_rfl) (by kernel_rfl) (c_value_wide_times _ _ _ c4) rfl rfl (by kernel_rfl) (by kernel_rfl) (by kernel_rfl) ?_
  refine GY.cal 182 [.ag (qa1997 r2), vk .u64 9223372036854775808] (.ag (qa1996 r3)) [(9, .ag (qa1996 r3)), (8, .ag (qa1997 r2)), (7, .ag (qa1998 r1)), (1, .one (.sl 0 1 0 p2.length)), (2, vR (qa1993 p1))] [] (by kernel_rfl) (by kernel_rfl) (c_value_wide_times _ _ _ c5) rfl rfl (by kernel_rfl) (by kernel_rfl) (by kernel_rfl) ?_
  refine GY.cal 182 [.ag (qa1996 r3), vk .u64 2] (.ag (qa1995 r4)) [(10, .ag (qa1995 r4)), (9, .ag (qa1996 r3)), (8, .ag (qa1997 r2)), (7, .ag (qa1998 r1)), (1, .one (.sl 0 1 0 p2.length)), (2, vR (qa1993 p1))] [] (by kernel_rfl) (by kernel_rfl) (c_value_wide_times _ _ _ c6) rfl rfl (by kernel_rfl) (by kernel_rfl) (by kernel_rfl) ?_
  refine zgv 1 [(qa1993 p1)] [(11, .ag (qa1990 p1)), (10, .ag (qa1995 r4)), (9, .ag (qa1996 r3)), (8, .ag (qa1997 r2)), (7, .ag (qa1998 r1)), (1, .one (.sl 0 1 0 p2.length)), (2, vR (qa1993 p1))] ?_
  refine GY.cal 183 [.ag (qa1995 r4), .ag (qa1990 p1)] (.ag (qa1994 r5)) [(12, .ag (qa1994 r5)), (11, .ag (qa1990 p1)), (10, .ag (qa1995 r4)), (9, .ag (qa1996 r3)), (8, .ag (qa1997 r2)), (7, .ag (qa1998 r1)), (1, .one (.sl 0 1 0 p2.length)), (2, vR (qa1993 p1))] [] (by kernel_rfl) (by kernel_rfl) (c_value_wide_plus BIG _ _ _ c7) rfl rfl (by kernel_rfl) (by kernel_rfl) (by kernel_rfl) ?_
  refine GY.new true 1 [] (qa2011 p1 p2 r1 r2 r3 r4 r5) [1] [.arr 1 ((eK .u8).els p2), .box qa1999] [] (by kernel_rfl) (by kernel_rfl) trivial ?_
  exact GY.done (by kernel_rfl) (by kernel_rfl)
 refine zg [5] 1 [1,5] (zd (m2 _ _ (zq fun K8 m8 => zq fun K9 m9 => zr (zg [5] 1 [1,5,6] (zd ?_)))))
 refine m9 _ _ (zb 0 (XW.rounds' 3 (x := cd Tryz.f162 [1,1,0,1,0,0]) (by kernel_rfl) fun Q1 hQ1 => XR.one (zq fun K10 m10 => zq fun K11 m11 => zr (zv [5] 2 [1,5,6,14] [] [(1, .one (.sl 0 1 0 p2.length)), (5, vq 1), (6, vi 1), (14, vb true)] [.arr 1 ((eK .u8).els p2), .box (qa1994 r5)] ?_))))
 refine zd (m11 _ _ (zc true (fun _ => ?_) (fun hx => by cases hx)))
 refine zs (m10 _ _ (zq fun K12 m12 => zb 1 ?_))
 obtain ⟨r6, c13, h⟩ := zB h
 refine zr (zp [5] 5 [5,6,17,21] [] [(5, vq 1), (6, vi 1), (17, .one (.sl 0 1 0 p2.length)), (21, vk .u64 r5.size.2.1)] [.arr 1 ((eK .u8).els p2), .box (qa1994 r5)] [0 ≤ (1 : Int) ∧ (1 : Int) < 4] (⟨by decide, trivial⟩) ?_)
 refine XO.calx 161 [.one (.sl 0 1 0 p2.length), vk .u64 r5.size.2.1] [.arr 1 ((eK .u8).els p2)] [.arr 1 ((eK .u8).els r6.2)] [0] (.one (.sl 0 1 0 r6.2.length)) [0] [0] [(22, .one (.sl 0 1 0 r6.2.length)), (5, vq 1), (6, vi 1), (17, .j), (21, vk .u64 r5.size.2.1)] [.arr 1 ((eK .u8).els r6.2), .box (qa1994 r5)] (by kernel_rfl) (c_value_word_s _ _ _ c13) (by kernel_rfl) (by kernel_rfl) (by kernel_rfl) (by kernel_rfl) (by kernel_rfl) (by kernel_rfl) (by kernel_rfl) (zg [5] 1 [1,5,6] (zd ?_))
 refine m12 _ _ (zr (zv [5] 3 [1,5,6] [] [(1, .one (.sl 0 1 0 r6.2.length)), (5, vq 1), (6, vi 0)] [.arr 1 ((eK .u8).els r6.2), .box (qa1994 r5)] (zd (XR.one (zq fun K14 m14 => zq fun K15 m15 => zr ?_)))))
 refine zg [5] 2 [1,5,6,14] (zd (m15 _ _ (zc true (fun _ => ?_) (fun hx => by cases hx))))
 refine zs (m14 _ _ (zq fun K16 m16 => zb 1 ?_))
 obtain ⟨r7, c17, h⟩ := zB h
 refine zr (zp [5] 5 [5,6,17,21] [] [(5, vq 1), (6, vi 0), (17, .one (.sl 0 1 0 r6.2.length)), (21, vk .u64 r5.size.1)] [.arr 1 ((eK .u8).els r6.2), .box (qa1994 r5)] [0 ≤ (0 : Int) ∧ (0 : Int) < 4] (⟨by decide, trivial⟩) ?_)
 refine XO.calx 161 [.one (.sl 0 1 0 r6.2.length), vk .u64 r5.size.1] [.arr 1 ((eK .u8).els r6.2)] [.arr 1 ((eK .u8).els r7.2)] [0] (.one (.sl 0 1 0 r7.2.length)) [0] [0] [(22, .one (.sl 0 1 0 r7.2.length)), (5, vq 1), (6, vi 0), (17, .j), (21, vk .u64 r5.size.1)] [.arr 1 ((eK .u8).els r7.2), .box (qa1994 r5)] (by kernel_rfl) (c_value_word_s _ _ _ c17) (by kernel_rfl) (by kernel_rfl) (by kernel_rfl) (by kernel_rfl) (by kernel_rfl) (by kernel_rfl) (by kernel_rfl) (zg [5] 1 [1,5,6] (zd ?_))
 refine m16 _ _ (zr (zv [5] 3 [1,5,6] [] [(1, .one (.sl 0 1 0 r7.2.length)), (5, vq 1), (6, vi (-1))] [.arr 1 ((eK .u8).els r7.2), .box (qa1994 r5)] (zd (XR.one (zq fun K18 m18 => zq fun K19 m19 => zr ?_)))))
 refine zg [5] 2 [1,5,6,14] (zd (m19 _ _ (zc false (fun hx => by cases hx) (fun _ => ?_))))
 refine zx 0 (hQ1 _ _ _ (m8 _ _ (zq fun K20 m20 => zr (zv [5] 2 [4] [] [(4, .one (.sl 0 1 0 r7.2.length))] [.arr 1 ((eK .u8).els r7.2), .box (qa1994 r5)] (zd (m20 _ _ ?_))))))
 refine ze ?_
 obtain rfl := zj h
 exact FinM.fin (.inr rfl) [] [.one (.sl 0 1 0 r7.2.length)] [] (by kernel_rfl) trivial (by kernel_rfl) (by kernel_rfl) (.one (.rfl _ rfl))
def value_key_s_j2 (l2 : List Int) : Option (Unit × (List Int)) :=
    grd (l2.length + 1 ≤ 4294967296) <|
    some ((), (l2 ++ [(0 : Int)]))
def value_key_s_l1 (q_value_key_s : GValue → (List Int) → Option (Unit × (List Int))) (p1 : GValue) : Nat → List Int → Int → Option (Unit × (List Int))
  | 0, _, _ => none
  | k1 + 1, l1, x2 =>
    ift (decide (x2 < (p1.items.length : Int)))
      (bnd (at? p1.items x2) fun e1 =>
       grd (l1.length + 1 ≤ 4294967296) <|
       bnd (q_value_key_s e1 (l1 ++ [(1 : Int)])) fun r4 =>
       (value_key_s_l1 q_value_key_s p1 k1) r4.2 (i64.wrap (x2 + (1 : Int))))
      (value_key_s_j2 l1)
def value_key_s_j1 (q_value_key_s : GValue → (List Int) → Option (Unit × (List Int))) (p1 : GValue) (p2 : (List Int)) (x1 : Bool) : Option (Unit × (List Int)) :=
    ift x1
      (bnd (some (u64.wrap ((u64.wrap p1.n) + (9223372036854775808 : Int)))) fun y1 =>
       bnd (value_word_s y1 (p2 ++ [(u8.wrap p1.kind)])) fun r1 =>
       some ((), r1.2))
      (ift (p1.kind == (3 : Int))
         (bnd (value_scaled p1.n (i64.wrap ((12 : Int) - p1.scale))) fun r2 =>
          bnd (value_wide_bytes_s (GWide.mk r2.neg (r2.size.1, r2.size.2.1, r2.size.2.2.1, r2.size.2.2.2)) (p2 ++ [(u8.wrap p1.kind)])) fun r3 =>
          grd (r3.2.length + 1 ≤ 4294967296) <|
          some ((), (r3.2 ++ [(u8.wrap p1.scale)])))
         (ift (p1.kind == (4 : Int))
            (grd ((p2 ++ [(u8.wrap p1.kind)]).length + (bytesL p1.s).length ≤ 4294967296) <|
             grd (((p2 ++ [(u8.wrap p1.kind)]) ++ (bytesL p1.s)).length + 1 ≤ 4294967296) <|
             some ((), (((p2 ++ [(u8.wrap p1.kind)]) ++ (bytesL p1.s)) ++ [(0 : Int)])))
            (value_key_s_l1 q_value_key_s p1 BIG (p2 ++ [(u8.wrap p1.kind)]) (0 : Int))))
def value_key_s : Nat → GValue → (List Int) → Option (Unit × (List Int))
  | 0, _, _ => none
  | k0 + 1, p1, p2 =>
    ift (p1.kind == (0 : Int))
      (grd (p2.length + 1 ≤ 4294967296) <|
       some ((), (p2 ++ [(8 : Int)])))
      (grd (p2.length + 1 ≤ 4294967296) <|
       ift (p1.kind == (1 : Int))
         (grd ((p2 ++ [(u8.wrap p1.kind)]).length + 1 ≤ 4294967296) <|
          some ((), ((p2 ++ [(u8.wrap p1.kind)]) ++ [(u8.wrap p1.n)])))
         (ift (p1.kind == (2 : Int))
            (value_key_s_j1 (value_key_s k0) p1 p2 (p1.kind == (2 : Int)))
            (value_key_s_j1 (value_key_s k0) p1 p2 (p1.kind == (5 : Int)))))
abbrev qa2025 (p1 : GValue) : List PV := [pi p1.kind, pi p1.n, pi p1.scale, .s (.string p1.s), .ro (eValue.els p1.items)]
abbrev qa2028 (p1 : GValue) (p2 : (List Int)) : St := [.arr 1 ((eK .u8).els (p2 ++ [(u8.wrap p1.kind)]))]
abbrev qa2034 (r2 : GWide) : List CV := [cb r2.neg, ck .u64 r2.size.1, ck .u64 r2.size.2.1, ck .u64 r2.size.2.2.1, ck .u64 r2.size.2.2.2]
abbrev qa2048 (e1 : GValue) : List CV := [ci e1.kind, ci e1.n, ci e1.scale, cst e1.s, cl eValue e1.items]
abbrev qa2052 (p1 : GValue) (x2 : Int) (r4 : (Unit × (List Int))) : Fr := [(0, .one (.sl 0 1 0 r4.2.length)), (62, vl eValue p1.items), (63, vi (p1.items.length : Int)), (64, vi (i64.wrap (x2 + (1 : Int))))]
abbrev qa2055 (p1 : GValue) (r2 : GWide) (r3 : (Unit × (List Int))) : Fr := [(51, vl (eK .u8) [(u8.wrap p1.scale)]), (50, vk .u8 (u8.wrap p1.scale)), (49, vi p1.scale), (48, .one (.pv (.rp [(qa2025 p1)] 0 2))), (47, .one (.sl 0 1 0 r3.2.length)), (46, .j), (45, .ag (qa2034 r2)), (44, vi (i64.wrap ((12 : Int) - p1.scale))), (43, vi p1.scale), (42, .one (.pv (.rp [(qa2025 p1)] 0 2))), (41, vi p1.n), (40, .one (.pv (.rp [(qa2025 p1)] 0 1))), (0, .j), (3, vR (qa2025 p1)), (20, vi p1.kind), (38, vb (p1.kind == (3 : Int)))]
abbrev qa2061 (p1 : GValue) (l1 : List Int) (x2 : Int) (e1 : GValue) : Fr := [(71, .ag (qa2048 e1)), (70, .one (.sl 0 1 0 ((l1 ++ [(1 : Int)]).length))), (69, vl (eK .u8) [(1 : Int)]), (68, .j), (0, .j), (6, vq 1), (62, vl eValue p1.items), (63, vi (p1.items.length : Int)), (64, vi x2)]
theorem c_value_key_s : ∀ (k0 : Nat) (p1 : GValue) (p2 : (List Int)) (r : (Unit × (List Int))), value_key_s k0 p1 p2 = some r → MX Tryz.prog 119 [.one (.sl 0 1 0 p2.length), .ag [ci p1.kind, ci p1.n, ci p1.scale, cst p1.s, cl eValue p1.items]] [.arr 1 ((eK .u8).els p2)] [0] (.one (.sl 0 1 0 r.2.length)) [.arr 1 ((eK .u8).els r.2)]
 | 0, _, _, r, h => by rw [value_key_s.eq_1] at h; cases h
 | k0 + 1, p1, p2, r, h => by
  rw [value_key_s.eq_2] at h
  refine MX.of 1 1 rfl (n := 77) (fn := Tryz.f119) (c := cd Tryz.f119 []) (by kernel_rfl) (by kernel_rfl) (by kernel_rfl) (Nat.le_of_ble_eq_true rfl) rfl (zq fun K1 m1 => zr (zg [6] 2 [0,3] (zd (m1 _ _ (zq fun K2 m2 => zq fun K3 m3 => ?_)))))
  refine zr (zu [6] 3 [0,3,9] [(qa2025 p1)] (zd (m3 _ _ (zC h (fun b4 h => ?_) (fun b4 h => ?_)))))
  ·refine zq fun K5 m5 => ?_
   obtain ⟨g6, h⟩ := zG h
   refine zr (zp [6] 3 [12] [] [(12, .one (.sl 0 1 0 (p2.length + ((eK .u8).els [(8 : Int)]).length)))] [.arr 1 ((eK .u8).els p2 ++ (eK .u8).els [(8 : Int)])] [elemsOk 1 ((eK .u8).els [(8 : Int)]), p2.length = ((eK .u8).els p2).length, p2.length + ((eK .u8).els [(8 : Int)]).length ≤ 4294967296] (⟨(eK .u8).ok _, ((eK .u8).len p2).symm, g6, trivial⟩) ?_)
   rw [show p2.length + ((eK .u8).els [(8 : Int)]).length = (p2 ++ [(8 : Int)]).length from (eK .u8).lapp _ _]
   rw [show (eK .u8).els p2 ++ (eK .u8).els [(8 : Int)] = (eK .u8).els (p2 ++ [(8 : Int)]) from (eK .u8).app2 _ _]
   refine zv [6] 1 [4] [] [(4, .one (.sl 0 1 0 ((p2 ++ [(8 : Int)]).length)))] [.arr 1 ((eK .u8).els (p2 ++ [(8 : Int)]))] (zd (m5 _ _ (ze ?_)))
   obtain rfl := zj h
   exact FinM.fin (.inr rfl) [] [.one (.sl 0 1 0 ((p2 ++ [(8 : Int)]).length))] [] (by kernel_rfl) trivial (by kernel_rfl) (by kernel_rfl) (.one (.rfl _ rfl))
  ·refine zs (m2 _ _ (zq fun K7 m7 => ?_))
   obtain ⟨g8, h⟩ := zG h
   refine zr ?_
   refine zp [6] 6 [3,18] [[pi p1.kind, pi p1.n, pi p1.scale, .s (.string p1.s), .ro (eValue.els p1.items)]] [(3, vR [pi p1.kind, pi p1.n, pi p1.scale, .s (.string p1.s), .ro (eValue.els p1.items)]), (18, .one (.sl 0 1 0 (p2.length + ((eK .u8).els [(u8.wrap p1.kind)]).length)))] [.arr 1 ((eK .u8).els p2 ++ (eK .u8).els [(u8.wrap p1.kind)])] [([[pi p1.kind, pi p1.n, pi p1.scale, .s (.string p1.s), .ro (eValue.els p1.items)]] : List (List PV))[0]? = some [pi p1.kind, pi p1.n, pi p1.scale, .s (.string p1.s), .ro (eValue.els p1.items)], elemsOk 1 ((eK .u8).els [(u8.wrap p1.kind)]), p2.length = ((eK .u8).els p2).length, p2.length + ((eK .u8).els [(u8.wrap p1.kind)]).length ≤ 4294967296] (⟨rfl, (eK .u8).ok _, ((eK .u8).len p2).symm, g8, trivial⟩) ?_
   rw [show p2.length + ((eK .u8).els [(u8.wrap p1.kind)]).length = (p2 ++ [(u8.wrap p1.kind)]).length from (eK .u8).lapp _ _]
   rw [show (eK .u8).els p2 ++ (eK .u8).els [(u8.wrap p1.kind)] = (eK .u8).els (p2 ++ [(u8.wrap p1.kind)]) from (eK .u8).app2 _ _]
   refine zg [6] 1 [0,3] (zd (m7 _ _ (zq fun K9 m9 => zq fun K10 m10 => zr (zu [6] 2 [0,3,20] [(qa2025 p1)] (zd ?_)))))
   refine m10 _ _ (zb 0 (zq fun K11 m11 => zr (zv [6] 2 [0,3,20,21] [] [(0, .one (.sl 0 1 0 ((p2 ++ [(u8.wrap p1.kind)]).length))), (3, vR (qa2025 p1)), (20, vi p1.kind), (21, vb (p1.kind == (1 : Int)))] (qa2028 p1 p2) (zd (m11 _ _ (zC h (fun b12 h => ?_) (fun b12 h => ?_)))))))
   ·refine zq fun K13 m13 => ?_
    obtain ⟨g14, h⟩ := zG h
    refine zr ?_
    refine zp [6] 6 [28] [[pi p1.kind, pi p1.n, pi p1.scale, .s (.string p1.s), .ro (eValue.els p1.items)]] [(28, .one (.sl 0 1 0 ((p2 ++ [(u8.wrap p1.kind)]).length + ((eK .u8).els [(u8.wrap p1.n)]).length)))] [.arr 1 ((eK .u8).els (p2 ++ [(u8.wrap p1.kind)]) ++ (eK .u8).els [(u8.wrap p1.n)])] [([[pi p1.kind, pi p1.n, pi p1.scale, .s (.string p1.s), .ro (eValue.els p1.items)]] : List (List PV))[0]? = some [pi p1.kind, pi p1.n, pi p1.scale, .s (.string p1.s), .ro (eValue.els p1.items)], elemsOk 1 ((eK .u8).els [(u8.wrap p1.n)]), (p2 ++ [(u8.wrap p1.kind)]).length = ((eK .u8).els (p2 ++ [(u8.wrap p1.kind)])).length, (p2 ++ [(u8.wrap p1.kind)]).length + ((eK .u8).els [(u8.wrap p1.n)]).length ≤ 4294967296] (⟨rfl, (eK .u8).ok _, ((eK .u8).len (p2 ++ [(u8.wrap p1.kind)])).symm, g14, trivial⟩) ?_
    rw [show (p2 ++ [(u8.wrap p1.kind)]).length + ((eK .u8).els [(u8.wrap p1.n)]).length = ((p2 ++ [(u8.wrap p1.kind)]) ++ [(u8.wrap p1.n)]).length from (eK .u8).lapp _ _]
    rw [show (eK .u8).els (p2 ++ [(u8.wrap p1.kind)]) ++ (eK .u8).els [(u8.wrap p1.n)] = (eK .u8).els ((p2 ++ [(u8.wrap p1.kind)]) ++ [(u8.wrap p1.n)]) from (eK .u8).app2 _ _]
    refine zv [6] 1 [4] [] [(4, .one (.sl 0 1 0 (((p2 ++ [(u8.wrap p1.kind)]) ++ [(u8.wrap p1.n)]).length)))] [.arr 1 ((eK .u8).els ((p2 ++ [(u8.wrap p1.kind)]) ++ [(u8.wrap p1.n)]))] (zd (m13 _ _ (ze ?_)))
    obtain rfl := zj h
    exact FinM.fin (.inr rfl) [] [.one (.sl 0 1 0 (((p2 ++ [(u8.wrap p1.kind)]) ++ [(u8.wrap p1.n)]).length))] [] (by kernel_rfl) trivial (by kernel_rfl) (by kernel_rfl) (.one (.rfl _ rfl))
   ·refine zq fun K15 m15 => ?_
    have j1 : ∀ (x1 : Bool), value_key_s_j1 (value_key_s k0) p1 p2 x1 = some r → ∀ w0 w1, Sub 77 1 [0] w0 w1 [(0, .one (.sl 0 1 0 ((p2 ++ [(u8.wrap p1.kind)]).length))), (3, vR (qa2025 p1)), (20, vi p1.kind), (29, vb x1)] (qa2028 p1 p2) → K15 w0 w1 := by
     intro x1 h w0 w1 hS
     unfold value_key_s_j1 at h
     refine m15 _ _ (XW.sub hS ?_)
     refine zC h (fun b18 h => ?_) (fun b18 h => ?_)
     ·refine zq fun K19 m19 => ?_
      obtain ⟨y1, hy20, h⟩ := zB h
      obtain ⟨r1, c21, h⟩ := zB h
      refine zr (zv [6] 5 [32,36] [[pi p1.kind, pi p1.n, pi p1.scale, .s (.string p1.s), .ro (eValue.els p1.items)]] [(32, .one (.sl 0 1 0 ((p2 ++ [(u8.wrap p1.kind)]).length))), (36, vk .u64 (u64.wrap ((u64.wrap p1.n) + (9223372036854775808 : Int))))] [.arr 1 ((eK .u8).els (p2 ++ [(u8.wrap p1.kind)]))] ?_)
      rw [show (u64.wrap ((u64.wrap p1.n) + (9223372036854775808 : Int))) = y1 from zj hy20]
      refine XO.calx 161 [.one (.sl 0 1 0 ((p2 ++ [(u8.wrap p1.kind)]).length)), vk .u64 y1] (qa2028 p1 p2) [.arr 1 ((eK .u8).els r1.2)] [0] (.one (.sl 0 1 0 r1.2.length)) [0] [0] [(37, .one (.sl 0 1 0 r1.2.length)), (32, .j), (36, vk .u64 y1)] [.arr 1 ((eK .u8).els r1.2)] (by kernel_rfl) (c_value_word_s _ _ _ c21) (by kernel_rfl) (by kernel_rfl) (by kernel_rfl) (by kernel_rfl) (by kernel_rfl) (by kernel_rfl) (by kernel_rfl) (zv [6] 1 [4] [] [(4, .one (.sl 0 1 0 r1.2.length))] [.arr 1 ((eK .u8).els r1.2)] (zd (m19 _ _ (ze ?_))))
      obtain rfl := zj h
      exact FinM.fin (.inr rfl) [] [.one (.sl 0 1 0 r1.2.length)] [] (by kernel_rfl) trivial (by kernel_rfl) (by kernel_rfl) (.one (.rfl _ rfl))
     ·refine zq fun K22 m22 => zr (zg [6] 2 [0,3,20,38] (zd (m22 _ _ (zC h (fun b23 h => ?_) (fun b23 h => ?_)))))
      ·refine zq fun K24 m24 => ?_
       obtain ⟨r2, c25, h⟩ := zB h
       obtain ⟨r3, c26, h⟩ := zB h
       obtain ⟨g27, h⟩ := zG h
       refine XW.drwG 12 [0, 1] [([], []), ([], []), ([], []), ([], []), ([], []), ([], []), ([0], []), ([0], [0]), ([], []), ([], []), ([], []), ([], [])] (qa2055 p1 r2 r3) [.arr 1 ((eK .u8).els r3.2)] (by kernel_rfl) (by kernel_rfl) ?_ ?_
       ·refine zgv 5 [(qa2025 p1), (qa2025 p1)] [(44, vi (i64.wrap ((12 : Int) - p1.scale))), (43, vi p1.scale), (42, .one (.pv (.rp [(qa2025 p1)] 0 2))), (41, vi p1.n), (40, .one (.pv (.rp [(qa2025 p1)] 0 1))), (0, .one (.sl 0 1 0 ((p2 ++ [(u8.wrap p1.kind)]).length))), (3, vR (qa2025 p1)), (20, vi p1.kind), (38, vb (p1.kind == (3 : Int)))] ?_
        refine GY.cal 138 [vi p1.n, vi (i64.wrap ((12 : Int) - p1.scale))] (.ag (qa2034 r2)) [(45, .ag (qa2034 r2)), (44, vi (i64.wrap ((12 : Int) - p1.scale))), (43, vi p1.scale), (42, .one (.pv (.rp [(qa2025 p1)] 0 2))), (41, vi p1.n), (40, .one (.pv (.rp [(qa2025 p1)] 0 1))), (0, .one (.sl 0 1 0 ((p2 ++ [(u8.wrap p1.kind)]).length))), (3, vR (qa2025 p1)), (20, vi p1.kind), (38, vb (p1.kind == (3 : Int)))] [] (by kernel_rfl) (by kernel_rfl) (c_value_scaled _ _ _ c25) rfl rfl (by kernel_rfl) (by kernel_rfl) (by kernel_rfl) ?_
        refine zgv 1 [] [(46, .one (.sl 0 1 0 ((p2 ++ [(u8.wrap p1.kind)]).length))), (45, .ag (qa2034 r2)), (44, vi (i64.wrap ((12 : Int) - p1.scale))), (43, vi p1.scale), (42, .one (.pv (.rp [(qa2025 p1)] 0 2))), (41, vi p1.n), (40, .one (.pv (.rp [(qa2025 p1)] 0 1))), (0, .one (.sl 0 1 0 ((p2 ++ [(u8.wrap p1.kind)]).length))), (3, vR (qa2025 p1)), (20, vi p1.kind), (38, vb (p1.kind == (3 : Int)))] ?_
        refine GY.calx 162 [.ag (qa2034 r2), .one (.sl 0 1 0 ((p2 ++ [(u8.wrap p1.kind)]).length))] (qa2028 p1 p2) [.arr 1 ((eK .u8).els r3.2)] [0] (.one (.sl 0 1 0 r3.2.length)) [0] [0] [(47, .one (.sl 0 1 0 r3.2.length)), (46, .j), (45, .ag (qa2034 r2)), (44, vi (i64.wrap ((12 : Int) - p1.scale))), (43, vi p1.scale), (42, .one (.pv (.rp [(qa2025 p1)] 0 2))), (41, vi p1.n), (40, .one (.pv (.rp [(qa2025 p1)] 0 1))), (0, .j), (3, vR (qa2025 p1)), (20, vi p1.kind), (38, vb (p1.kind == (3 : Int)))] [0] [.arr 1 ((eK .u8).els r3.2)] (by kernel_rfl) (by kernel_rfl) (c_value_wide_bytes_s _ _ _ c26) (by kernel_rfl) (by kernel_rfl) (by kernel_rfl) (by kernel_rfl) (by kernel_rfl) (by kernel_rfl) (by kernel_rfl) ?_
        refine zgv 4 [(qa2025 p1)] (qa2055 p1 r2 r3) ?_
        exact GY.done (by kernel_rfl) (by kernel_rfl)
       refine zp [6] 1 [52] [] [(52, .one (.sl 0 1 0 (r3.2.length + ((eK .u8).els [(u8.wrap p1.scale)]).length)))] [.arr 1 ((eK .u8).els r3.2 ++ (eK .u8).els [(u8.wrap p1.scale)])] [elemsOk 1 ((eK .u8).els [(u8.wrap p1.scale)]), r3.2.length = ((eK .u8).els r3.2).length, r3.2.length + ((eK .u8).els [(u8.wrap p1.scale)]).length ≤ 4294967296] (⟨(eK .u8).ok _, ((eK .u8).len r3.2).symm, g27, trivial⟩) ?_
       rw [show r3.2.length + ((eK .u8).els [(u8.wrap p1.scale)]).length = (r3.2 ++ [(u8.wrap p1.scale)]).length from (eK .u8).lapp _ _]
       rw [show (eK .u8).els r3.2 ++ (eK .u8).els [(u8.wrap p1.scale)] = (eK .u8).els (r3.2 ++ [(u8.wrap p1.scale)]) from (eK .u8).app2 _ _]
       refine zv [6] 1 [4] [] [(4, .one (.sl 0 1 0 ((r3.2 ++ [(u8.wrap p1.scale)]).length)))] [.arr 1 ((eK .u8).els (r3.2 ++ [(u8.wrap p1.scale)]))] (zd (m24 _ _ (ze ?_)))
       obtain rfl := zj h
       exact FinM.fin (.inr rfl) [] [.one (.sl 0 1 0 ((r3.2 ++ [(u8.wrap p1.scale)]).length))] [] (by kernel_rfl) trivial (by kernel_rfl) (by kernel_rfl) (.one (.rfl _ rfl))
      ·refine zq fun K28 m28 => zr (zg [6] 2 [0,3,53] (zd (m28 _ _ (zC h (fun b29 h => ?_) (fun b29 h => ?_)))))
       ·refine zq fun K30 m30 => ?_
        obtain ⟨g31, h⟩ := zG h
        obtain ⟨g32, h⟩ := zG h
        refine zr ?_
        refine zp [6] 4 [58] [[pi p1.kind, pi p1.n, pi p1.scale, .s (.string p1.s), .ro (eValue.els p1.items)]] [(58, .one (.sl 0 1 0 ((p2 ++ [(u8.wrap p1.kind)]).length + (byteEls p1.s).length)))] [.arr 1 ((eK .u8).els (p2 ++ [(u8.wrap p1.kind)]) ++ byteEls p1.s)] [([[pi p1.kind, pi p1.n, pi p1.scale, .s (.string p1.s), .ro (eValue.els p1.items)]] : List (List PV))[0]? = some [pi p1.kind, pi p1.n, pi p1.scale, .s (.string p1.s), .ro (eValue.els p1.items)], elemsOk 1 (byteEls p1.s), (p2 ++ [(u8.wrap p1.kind)]).length = ((eK .u8).els (p2 ++ [(u8.wrap p1.kind)])).length, (p2 ++ [(u8.wrap p1.kind)]).length + (byteEls p1.s).length ≤ 4294967296] (⟨rfl, byteEls_ok _, ((eK .u8).len (p2 ++ [(u8.wrap p1.kind)])).symm, (by rw [byteEls_len]; exact g31), trivial⟩) ?_
        rw [show (p2 ++ [(u8.wrap p1.kind)]).length + (byteEls p1.s).length = ((p2 ++ [(u8.wrap p1.kind)]) ++ (bytesL p1.s)).length from byteEls_lapp _ _]
        rw [show (eK .u8).els (p2 ++ [(u8.wrap p1.kind)]) ++ byteEls p1.s = (eK .u8).els ((p2 ++ [(u8.wrap p1.kind)]) ++ (bytesL p1.s)) from byteEls_app _ _]
        refine zp [6] 2 [60] [] [(60, .one (.sl 0 1 0 (((p2 ++ [(u8.wrap p1.kind)]) ++ (bytesL p1.s)).length + ((eK .u8).els [(0 : Int)]).length)))] [.arr 1 ((eK .u8).els ((p2 ++ [(u8.wrap p1.kind)]) ++ (bytesL p1.s)) ++ (eK .u8).els [(0 : Int)])] [elemsOk 1 ((eK .u8).els [(0 : Int)]), ((p2 ++ [(u8.wrap p1.kind)]) ++ (bytesL p1.s)).length = ((eK .u8).els ((p2 ++ [(u8.wrap p1.kind)]) ++ (bytesL p1.s))).length, ((p2 ++ [(u8.wrap p1.kind)]) ++ (bytesL p1.s)).length + ((eK .u8).els [(0 : Int)]).length ≤ 4294967296] (⟨(eK .u8).ok _, ((eK .u8).len ((p2 ++ [(u8.wrap p1.kind)]) ++ (bytesL p1.s))).symm, g32, trivial⟩) ?_
        rw [show ((p2 ++ [(u8.wrap p1.kind)]) ++ (bytesL p1.s)).length + ((eK .u8).els [(0 : Int)]).length = (((p2 ++ [(u8.wrap p1.kind)]) ++ (bytesL p1.s)) ++ [(0 : Int)]).length from (eK .u8).lapp _ _]
        rw [show (eK .u8).els ((p2 ++ [(u8.wrap p1.kind)]) ++ (bytesL p1.s)) ++ (eK .u8).els [(0 : Int)] = (eK .u8).els (((p2 ++ [(u8.wrap p1.kind)]) ++ (bytesL p1.s)) ++ [(0 : Int)]) from (eK .u8).app2 _ _]
        refine zv [6] 1 [4] [] [(4, .one (.sl 0 1 0 ((((p2 ++ [(u8.wrap p1.kind)]) ++ (bytesL p1.s)) ++ [(0 : Int)]).length)))] [.arr 1 ((eK .u8).els (((p2 ++ [(u8.wrap p1.kind)]) ++ (bytesL p1.s)) ++ [(0 : Int)]))] (zd (m30 _ _ (ze ?_)))
        obtain rfl := zj h
        exact FinM.fin (.inr rfl) [] [.one (.sl 0 1 0 ((((p2 ++ [(u8.wrap p1.kind)]) ++ (bytesL p1.s)) ++ [(0 : Int)]).length))] [] (by kernel_rfl) trivial (by kernel_rfl) (by kernel_rfl) (.one (.rfl _ rfl))
       ·refine zs (m9 _ _ (zq fun K33 m33 => ?_))
        have j2 : ∀ (l2 : List Int), value_key_s_j2 l2 = some r → ∀ w0 w1, Sub 77 1 [0] w0 w1 [(0, .one (.sl 0 1 0 l2.length))] [.arr 1 ((eK .u8).els l2)] → K33 w0 w1 := by
         intro l2 h w0 w1 hS
         unfold value_key_s_j2 at h
         refine m33 _ _ (XW.sub hS ?_)
         refine zq fun K43 m43 => ?_
         obtain ⟨g44, h⟩ := zG h
         refine zr (zp [6] 3 [76] [] [(76, .one (.sl 0 1 0 (l2.length + ((eK .u8).els [(0 : Int)]).length)))] [.arr 1 ((eK .u8).els l2 ++ (eK .u8).els [(0 : Int)])] [elemsOk 1 ((eK .u8).els [(0 : Int)]), l2.length = ((eK .u8).els l2).length, l2.length + ((eK .u8).els [(0 : Int)]).length ≤ 4294967296] (⟨(eK .u8).ok _, ((eK .u8).len l2).symm, g44, trivial⟩) ?_)
         rw [show l2.length + ((eK .u8).els [(0 : Int)]).length = (l2 ++ [(0 : Int)]).length from (eK .u8).lapp _ _]
         rw [show (eK .u8).els l2 ++ (eK .u8).els [(0 : Int)] = (eK .u8).els (l2 ++ [(0 : Int)]) from (eK .u8).app2 _ _]
         refine zv [6] 1 [4] [] [(4, .one (.sl 0 1 0 ((l2 ++ [(0 : Int)]).length)))] [.arr 1 ((eK .u8).els (l2 ++ [(0 : Int)]))] (zd (m43 _ _ (ze ?_)))
         obtain rfl := zj h
         exact FinM.fin (.inr rfl) [] [.one (.sl 0 1 0 ((l2 ++ [(0 : Int)]).length))] [] (by kernel_rfl) trivial (by kernel_rfl) (by kernel_rfl) (.one (.rfl _ rfl))
        refine zq fun K34 m34 => zr (zv [6] 3 [0,62,63] [[pi p1.kind, pi p1.n, pi p1.scale, .s (.string p1.s), .ro (eValue.els p1.items)]] [(0, .one (.sl 0 1 0 ((p2 ++ [(u8.wrap p1.kind)]).length))), (62, vl eValue p1.items), (63, vi ((eValue.els p1.items).length : Int))] [.arr 1 ((eK .u8).els (p2 ++ [(u8.wrap p1.kind)]))] ?_)
        rw [eValue.len p1.items]
        refine zg [6] 1 [0,62,63,64] (zd (m34 _ _ (zb 1 (XW.rounds' BIG (x := cd Tryz.f119 [1,1,1,1,0,1,0,0]) (by kernel_rfl) fun Q1 hQ1 => ?_))))
        have hL1 : ∀ (k1 : Nat) (l1 : List Int) (x2 : Int), value_key_s_l1 (value_key_s k0) p1 k1 l1 x2 = some r → XR Tryz.prog 77 1 [0] (cd Tryz.f119 [1,1,1,1,0,1,0,0]) Q1 k1 [(0, .one (.sl 0 1 0 l1.length)), (62, vl eValue p1.items), (63, vi (p1.items.length : Int)), (64, vi x2)] [.arr 1 ((eK .u8).els l1)] := by
         intro k1
         induction k1 with
         | zero => intro l1 x2 h; rw [value_key_s_l1.eq_1] at h; cases h
         | succ k1 ih1 =>
          intro l1 x2 h
          rw [value_key_s_l1.eq_2] at h
          refine zq fun K35 m35 => zr (zg [6] 1 [0,62,63,64,65] (zd (m35 _ _ (zq fun K36 m36 => zC h (fun b37 h => ?_) (fun b37 h => ?_)))))
          ·refine zs (m36 _ _ (zq fun K38 m38 => zb 2 (zq fun K39 m39 => ?_)))
           obtain ⟨e1, a40, h⟩ := zB h
           refine zr ?_
           refine zp [6] 4 [0,6,62,63,64] [[pi e1.kind, pi e1.n, pi e1.scale, .s (.string e1.s), .ro (eValue.els e1.items)]] [(0, .one (.sl 0 1 0 l1.length)), (6, vq 1), (62, vl eValue p1.items), (63, vi (p1.items.length : Int)), (64, vi x2)] [.arr 1 ((eK .u8).els l1), .box (qa2048 e1)] [0 ≤ x2 ∧ x2 < ((eValue.els p1.items).length : Int) ∧ elemsOk 5 (eValue.els p1.items), (eValue.els p1.items)[x2.toNat]? = some [pi e1.kind, pi e1.n, pi e1.scale, .s (.string e1.s), .ro (eValue.els e1.items)]] (⟨eValue.inb a40, ((eValue.get a40).trans (by cases e1; rfl)), trivial⟩) ?_
           refine zd (m39 _ _ ?_)
           obtain ⟨g41, h⟩ := zG h
           obtain ⟨r4, c42, h⟩ := zB h
           refine XW.drwG 4 [0, 2] [([0], []), ([], []), ([0], [0]), ([1], [])] (qa2061 p1 l1 x2 e1) [.arr 1 ((eK .u8).els (l1 ++ [(1 : Int)])), .box (qa2048 e1)] (by kernel_rfl) (by kernel_rfl) ?_ ?_
           ·refine zgv 2 [] [(69, vl (eK .u8) [(1 : Int)]), (68, .one (.sl 0 1 0 l1.length)), (0, .one (.sl 0 1 0 l1.length)), (6, vq 1), (62, vl eValue p1.items), (63, vi (p1.items.length : Int)), (64, vi x2)] ?_
            refine GY.wr [] [(70, .one (.sl 0 1 0 (l1.length + ((eK .u8).els [(1 : Int)]).length))), (69, vl (eK .u8) [(1 : Int)]), (68, .j), (0, .j), (6, vq 1), (62, vl eValue p1.items), (63, vi (p1.items.length : Int)), (64, vi x2)] [0] [.arr 1 ((eK .u8).els l1 ++ (eK .u8).els [(1 : Int)]), .box [ci e1.kind, ci e1.n, ci e1.scale, cst e1.s, cl eValue e1.items]] [elemsOk 1 ((eK .u8).els [(1 : Int)]), l1.length = ((eK .u8).els l1).length, l1.length + ((eK .u8).els [(1 : Int)]).length ≤ 4294967296] (by kernel_rfl) (by kernel_rfl) (⟨(eK .u8).ok _, ((eK .u8).len l1).symm, g41, trivial⟩) ?_
            rw [show l1.length + ((eK .u8).els [(1 : Int)]).length = (l1 ++ [(1 : Int)]).length from (eK .u8).lapp _ _]
            rw [show (eK .u8).els l1 ++ (eK .u8).els [(1 : Int)] = (eK .u8).els (l1 ++ [(1 : Int)]) from (eK .u8).app2 _ _]
            exact zgv 1 [] (qa2061 p1 l1 x2 e1) (GY.done (by kernel_rfl) (by kernel_rfl))
           refine XO.calx 119 [.one (.sl 0 1 0 ((l1 ++ [(1 : Int)]).length)), .ag (qa2048 e1)] [.arr 1 ((eK .u8).els (l1 ++ [(1 : Int)]))] [.arr 1 ((eK .u8).els r4.2)] [0] (.one (.sl 0 1 0 r4.2.length)) [0] [0] [(72, .one (.sl 0 1 0 r4.2.length)), (71, .ag (qa2048 e1)), (70, .j), (69, vl (eK .u8) [(1 : Int)]), (68, .j), (0, .j), (6, vq 1), (62, vl eValue p1.items), (63, vi (p1.items.length : Int)), (64, vi x2)] [.arr 1 ((eK .u8).els r4.2), .box (qa2048 e1)] (by kernel_rfl) (c_value_key_s k0 _ _ _ c42) (by kernel_rfl) (by kernel_rfl) (by kernel_rfl) (by kernel_rfl) (by kernel_rfl) (by kernel_rfl) (by kernel_rfl) ?_
           exact zg [6] 1 [0,62,63,64] (zd (m38 _ _ (zr (zg [6] 2 [0,62,63,64] (zd (XR.sub (Sub.trans (Sub.pick (fr' := (qa2052 p1 x2 r4)) [0,62,63,64] (by kernel_rfl)) (Sub.take (fr' := (qa2052 p1 x2 r4)) 1 (by decide) (by kernel_rfl) (by kernel_rfl))) (ih1 r4.2 (i64.wrap (x2 + (1 : Int))) h)))))))
          ·exact zx 1 (hQ1 _ _ _ (j2 l1 h _ _ (zk [0])))
        exact XR.sub (zk [0,62,63,64]) (hL1 BIG (p2 ++ [(u8.wrap p1.kind)]) (0 : Int) h)
    refine zq fun K16 m16 => zr (zg [6] 2 [0,3,20,29] (zd (m16 _ _ (zC h (fun b17 h => ?_) (fun b17 h => ?_)))))
    ·exact zs (j1 (p1.kind == (2 : Int)) h _ _ (zk [0,3,20,29]))
    ·exact zr (zg [6] 2 [0,3,20,29] (zd (j1 (p1.kind == (5 : Int)) h _ _ (zk [0,3,20,29]))))
def slices_Clip_byte_byte (p1 : (List Int)) : Option (List Int) :=
    grd (0 ≤ (0 : Int) ∧ (0 : Int) ≤ (p1.length : Int) ∧ (p1.length : Int) ≤ (p1.length : Int) ∧ (p1.length : Int) ≤ (p1.length : Int)) <|
    some ((p1.drop (0 : Int).toNat).take ((p1.length : Int).toNat - (0 : Int).toNat))
theorem c_slices_Clip_byte_byte (p1 : (List Int)) (r : (List Int)) (h : slices_Clip_byte_byte p1 = some r) : PC Tryz.prog 120 [vl (eK .u8) p1] (vl (eK .u8) r) := by
 unfold slices_Clip_byte_byte at h
 refine zF 9 Tryz.f120 (zq fun K1 m1 => zr (zg [] 1 [0] (zd (m1 _ _ (zq fun K2 m2 => ?_)))))
 obtain ⟨g3, h⟩ := zG h
 refine zr (zv [] 3 [0,3,5] [] [(0, vl (eK .u8) p1), (3, vl (eK .u8) p1), (5, vi (((eK .u8).els p1).length : Int))] [] ?_)
 rw [(eK .u8).len p1]
 refine zv [] 2 [3,5,7] [] [(3, vl (eK .u8) p1), (5, vi (p1.length : Int)), (7, vi (((eK .u8).els p1).length : Int))] [] ?_
 rw [(eK .u8).len p1]
 refine zp [] 1 [8] [] [(8, .one (.pv (.ro ((((eK .u8).els p1).drop (0 : Int).toNat).take ((p1.length : Int).toNat - (0 : Int).toNat)))))] [] [(0 ≤ (0 : Int) ∧ (0 : Int) ≤ (p1.length : Int) ∧ (p1.length : Int) ≤ (p1.length : Int) ∧ (p1.length : Int) ≤ (((eK .u8).els p1).length : Int)) ∧ elemsOk 1 ((eK .u8).els p1)] (⟨(eK .u8).cutMOk g3, trivial⟩) ?_
 rw [show (((eK .u8).els p1).drop (0 : Int).toNat).take ((p1.length : Int).toNat - (0 : Int).toNat) = (eK .u8).els ((p1.drop (0 : Int).toNat).take ((p1.length : Int).toNat - (0 : Int).toNat)) from (eK .u8).cut _ _ _]
 refine zg [] 1 [2] (zd (m2 _ _ (ze ?_)))
 obtain rfl := zj h
 exact zf [vl (eK .u8) ((p1.drop (0 : Int).toNat).take ((p1.length : Int).toNat - (0 : Int).toNat))] (.one (.rfl _ rfl))
def value_Key_j1 (l2 : List Int) : Option (List Int) :=
    bnd (slices_Clip_byte_byte l2) fun r3 =>
    some r3
def value_Key_l1 (p1 : (List GValue)) : Nat → List Int → Int → Option (List Int)
  | 0, _, _ => none
  | k1 + 1, l1, x1 =>
    ift (decide (x1 < (p1.length : Int)))
      (bnd (at? p1 x1) fun e1 =>
       bnd (value_key_s BIG e1 l1) fun r2 =>
       (value_Key_l1 p1 k1) r2.2 (i64.wrap (x1 + (1 : Int))))
      (value_Key_j1 l1)
def value_Key (p1 : (List GValue)) : Option (List Int) :=
    bnd (slices_ContainsFunc_api_Value_api_Value_of_value_Key_1 p1) fun r1 =>
    ift r1
      (some [])
      (value_Key_l1 p1 BIG [] (0 : Int))
abbrev qa2073 (e1 : GValue) : List CV := [ci e1.kind, ci e1.n, ci e1.scale, cst e1.s, cl eValue e1.items]
theorem c_value_Key (p1 : (List GValue)) (r : (List Int)) (h : value_Key p1 = some r) : PC Tryz.prog 72 [vl eValue p1] (vl (eK .u8) r) := by
 unfold value_Key at h
 refine zF 20 Tryz.f72 (zq fun K1 m1 => zr (zg [5] 1 [0] (zd (m1 _ _ (zq fun K2 m2 => zq fun K3 m3 => ?_)))))
 obtain ⟨r1, c4, h⟩ := zB h
 refine zr (zg [5] 1 [0,6] (zl 111 [vl eValue p1, .one (.pv (.fn 118 []))] (vb r1) [(7, vb r1), (0, vl eValue p1), (6, vl eValue p1)] (c_slices_ContainsFunc_api_Value_api_Value_of_value_Key_1 _ _ c4) (zd (m3 _ _ (zC h (fun b5 h => ?_) (fun b5 h => ?_))))))
 ·refine zq fun K6 m6 => zr (zg [5] 1 [2] (zd (m6 _ _ (ze ?_))))
  obtain rfl := zj h
  exact zf [.one (.pv (.s (.slice none 0 0)))] (.one (.nl))
 ·refine zs (m2 _ _ (zq fun K7 m7 => zr (zg [5] 1 [0,3] (zd (m7 _ _ (zq fun K8 m8 => ?_))))))
  have j1 : ∀ (l2 : List Int), value_Key_j1 l2 = some r → ∀ w0 w1, Sub 20 0 [] w0 w1 [(3, .one (.sl 0 1 0 l2.length))] [.arr 1 ((eK .u8).els l2)] → K8 w0 w1 := by
   intro l2 h w0 w1 hS
   unfold value_Key_j1 at h
   refine m8 _ _ (XW.sub hS ?_)
   refine zq fun K17 m17 => ?_
   obtain ⟨r3, c18, h⟩ := zB h
   refine zr (zv [5] 1 [18] [] [(18, .one (.sl 0 1 0 l2.length))] [.arr 1 ((eK .u8).els l2)] (XO.sub (Sub.kill (fr' := [(18, vl (eK .u8) l2)]) 0 (Nat.zero_le _) (by kernel_rfl) ⟨.one (cf_sl (eK .u8) l2 rfl rfl rfl), trivial⟩) (za (c_slices_Clip_byte_byte _ _ c18) (zg [5] 1 [2] (zd (m17 _ _ (ze ?_)))))))
   obtain rfl := zj h
   exact zf [vl (eK .u8) r3] (.one (.rfl _ rfl))
  refine zq fun K9 m9 => zr (zv [5] 2 [3,8,9] [] [(3, .one (.pv (.s (.slice none 0 0)))), (8, vl eValue p1), (9, vi ((eValue.els p1).length : Int))] [] ?_)
  rw [eValue.len p1]
  refine zv [5] 1 [3,8,9,10] [] [(3, .one (.pv (.s (.slice none 0 0)))), (8, vl eValue p1), (9, vi (p1.length : Int)), (10, vi 0)] [] (zd (m9 _ _ (zb 0 (XW.sub (Sub.list (t := 3) (sz := 1) rfl) (XW.rounds' BIG (x := cd Tryz.f72 [1,1,1,0,1,0,0]) (by kernel_rfl) fun Q1 hQ1 => ?_)))))
  have hL1 : ∀ (k1 : Nat) (l1 : List Int) (x1 : Int), value_Key_l1 p1 k1 l1 x1 = some r → XR Tryz.prog 20 0 [] (cd Tryz.f72 [1,1,1,0,1,0,0]) Q1 k1 [(3, .one (.sl 0 1 0 l1.length)), (8, vl eValue p1), (9, vi (p1.length : Int)), (10, vi x1)] [.arr 1 ((eK .u8).els l1)] := by
   intro k1
   induction k1 with
   | zero => intro l1 x1 h; rw [value_Key_l1.eq_1] at h; cases h
   | succ k1 ih1 =>
    intro l1 x1 h
    rw [value_Key_l1.eq_2] at h
    refine zq fun K10 m10 => zr (zg [5] 1 [3,8,9,10,11] (zd (m10 _ _ (zq fun K11 m11 => zC h (fun b12 h => ?_) (fun b12 h => ?_)))))
    ·refine zs (m11 _ _ (zq fun K13 m13 => zb 1 (zq fun K14 m14 => ?_)))
     obtain ⟨e1, a15, h⟩ := zB h
     refine zr (zo [5] 4 [3,5,8,9,10] [[pi e1.kind, pi e1.n, pi e1.scale, .s (.string e1.s), .ro (eValue.els e1.items)]] [0 ≤ x1 ∧ x1 < ((eValue.els p1).length : Int) ∧ elemsOk 5 (eValue.els p1), (eValue.els p1)[x1.toNat]? = some [pi e1.kind, pi e1.n, pi e1.scale, .s (.string e1.s), .ro (eValue.els e1.items)]] (⟨eValue.inb a15, ((eValue.get a15).trans (by cases e1; rfl)), trivial⟩) (zd (m14 _ _ ?_)))
     obtain ⟨r2, c16, h⟩ := zB h
     refine zr (zv [5] 2 [8,9,10,14,15] [] [(8, vl eValue p1), (9, vi (p1.length : Int)), (10, vi x1), (14, .one (.sl 0 1 0 l1.length)), (15, .ag (qa2073 e1))] [.arr 1 ((eK .u8).els l1), .box (qa2073 e1)] ?_)
     refine XO.calx 119 [.one (.sl 0 1 0 l1.length), .ag (qa2073 e1)] [.arr 1 ((eK .u8).els l1)] [.arr 1 ((eK .u8).els r2.2)] [0] (.one (.sl 0 1 0 r2.2.length)) [0] [0] [(16, .one (.sl 0 1 0 r2.2.length)), (8, vl eValue p1), (9, vi (p1.length : Int)), (10, vi x1), (14, .j), (15, .ag (qa2073 e1))] [.arr 1 ((eK .u8).els r2.2), .box (qa2073 e1)] (by kernel_rfl) (c_value_key_s BIG _ _ _ c16) (by kernel_rfl) (by kernel_rfl) (by kernel_rfl) (by kernel_rfl) (by kernel_rfl) (by kernel_rfl) (by kernel_rfl) ?_
     exact zg [5] 1 [3,8,9,10] (zd (m13 _ _ (zr (zg [5] 2 [3,8,9,10] (zd (XR.sub (Sub.trans (Sub.pick (fr' := [(3, .one (.sl 0 1 0 r2.2.length)), (8, vl eValue p1), (9, vi (p1.length : Int)), (10, vi (i64.wrap (x1 + (1 : Int))))]) [3,8,9,10] (by kernel_rfl)) (Sub.take (fr' := [(3, .one (.sl 0 1 0 r2.2.length)), (8, vl eValue p1), (9, vi (p1.length : Int)), (10, vi (i64.wrap (x1 + (1 : Int))))]) 1 (Nat.zero_le _) (by kernel_rfl) (by kernel_rfl))) (ih1 r2.2 (i64.wrap (x1 + (1 : Int))) h)))))))
    ·exact zx 0 (hQ1 _ _ _ (j1 l1 h _ _ (zk [3])))
  exact XR.sub (zk [3,8,9,10]) (hL1 BIG [] (0 : Int) h)
def value_HashBytes_j1 (x3 : Int) : Option Int :=
    some x3
def value_HashBytes_l1 (p1 : (List Int)) : Nat → Int → Int → Option Int
  | 0, _, _ => none
  | k1 + 1, x1, x2 =>
    ift (decide (x2 < (p1.length : Int)))
      (bnd (at? p1 x2) fun e1 =>
       bnd (some (u64.wrap (BitVec.ofInt u64.bits x1 ^^^ BitVec.ofInt u64.bits (u64.wrap e1)).toNat)) fun y1 =>
       (value_HashBytes_l1 p1 k1) (u64.wrap (y1 * (1099511628211 : Int))) (i64.wrap (x2 + (1 : Int))))
      (value_HashBytes_j1 x1)
def value_HashBytes (p1 : (List Int)) : Option Int :=
    value_HashBytes_l1 p1 BIG (14695981039346656037 : Int) (0 : Int)
theorem c_value_HashBytes (p1 : (List Int)) (r : Int) (h : value_HashBytes p1 = some r) : PC Tryz.prog 71 [vl (eK .u8) p1] (vk .u64 r) := by
 unfold value_HashBytes at h
 refine zF 19 Tryz.f71 (zq fun K1 m1 => zr (zg [] 1 [0] (zd (m1 _ _ (zq fun K2 m2 => zr ?_)))))
 refine zg [] 1 [0,3] (zd (m2 _ _ (zq fun K3 m3 => ?_)))
 have j1 : ∀ (x3 : Int), value_HashBytes_j1 x3 = some r → ∀ w0 w1, Sub 19 0 [] w0 w1 [(3, vk .u64 x3)] [] → K3 w0 w1 := by
  intro x3 h w0 w1 hS
  unfold value_HashBytes_j1 at h
  refine m3 _ _ (XW.sub hS ?_)
  refine zq fun K12 m12 => zr (zg [] 2 [2] (zd (m12 _ _ (ze ?_))))
  obtain rfl := zj h
  exact zf [vk .u64 x3] (.one (.rfl _ rfl))
 refine zq fun K4 m4 => zr (zv [] 2 [3,6,7] [] [(3, vk .u64 14695981039346656037), (6, vl (eK .u8) p1), (7, vi (((eK .u8).els p1).length : Int))] [] ?_)
 rw [(eK .u8).len p1]
 refine zg [] 1 [3,6,7,8] (zd (m4 _ _ (zb 0 (XW.rounds' BIG (x := cd Tryz.f71 [1,1,0,1,0,0]) (by kernel_rfl) fun Q1 hQ1 => ?_))))
 have hL1 : ∀ (k1 : Nat) (x1 : Int) (x2 : Int), value_HashBytes_l1 p1 k1 x1 x2 = some r → XR Tryz.prog 19 0 [] (cd Tryz.f71 [1,1,0,1,0,0]) Q1 k1 [(3, vk .u64 x1), (6, vl (eK .u8) p1), (7, vi (p1.length : Int)), (8, vi x2)] [] := by
  intro k1
  induction k1 with
  | zero => intro x1 x2 h; rw [value_HashBytes_l1.eq_1] at h; cases h
  | succ k1 ih1 =>
   intro x1 x2 h
   rw [value_HashBytes_l1.eq_2] at h
   refine zq fun K5 m5 => zr (zg [] 1 [3,6,7,8,9] (zd (m5 _ _ (zq fun K6 m6 => zC h (fun b7 h => ?_) (fun b7 h => ?_)))))
   ·refine zs (m6 _ _ (zq fun K8 m8 => zb 1 (zq fun K9 m9 => ?_)))
    obtain ⟨e1, a10, h⟩ := zB h
    refine zr (zo [] 3 [3,5,6,7,8] [[.s (.int .u8 e1)]] [0 ≤ x2 ∧ x2 < (((eK .u8).els p1).length : Int) ∧ elemsOk 1 ((eK .u8).els p1), ((eK .u8).els p1)[x2.toNat]? = some [.s (.int .u8 e1)]] (⟨(eK .u8).inb a10, ((eK .u8).get a10), trivial⟩) (zd (m9 _ _ ?_)))
    obtain ⟨y1, hy11, h⟩ := zB h
    refine zr (zv [] 4 [6,7,8,15] [] [(6, vl (eK .u8) p1), (7, vi (p1.length : Int)), (8, vi x2), (15, vk .u64 (u64.wrap (BitVec.ofInt u64.bits x1 ^^^ BitVec.ofInt u64.bits (u64.wrap e1)).toNat))] [] ?_)
    rw [show (u64.wrap (BitVec.ofInt u64.bits x1 ^^^ BitVec.ofInt u64.bits (u64.wrap e1)).toNat) = y1 from zj hy11]
    exact zg [] 2 [3,6,7,8] (zd (m8 _ _ (zr (zg [] 2 [3,6,7,8] (zd (XR.sub (zk [3,6,7,8]) (ih1 (u64.wrap (y1 * (1099511628211 : Int))) (i64.wrap (x2 + (1 : Int))) h)))))))
   ·exact zx 0 (hQ1 _ _ _ (j1 x1 h _ _ (zk [3])))
 exact XR.sub (zk [3,6,7,8]) (hL1 BIG (14695981039346656037 : Int) (0 : Int) h)
def value_Hash (p1 : GValue) : Option Int :=
    bnd (value_Key [p1]) fun r1 =>
    bnd (value_HashBytes r1) fun r2 =>
    some r2
theorem c_value_Hash (p1 : GValue) (r : Int) (h : value_Hash p1 = some r) : PC Tryz.prog 30 [.ag [ci p1.kind, ci p1.n, ci p1.scale, cst p1.s, cl eValue p1.items]] (vk .u64 r) := by
 unfold value_Hash at h
 refine zF 7 Tryz.f30 (zq fun K1 m1 => zr (zg [] 2 [1] (zd (m1 _ _ (zq fun K2 m2 => ?_)))))
 obtain ⟨r1, c3, h⟩ := zB h
 obtain ⟨r2, c4, h⟩ := zB h
 refine zr (zv [] 2 [4] [[pi p1.kind, pi p1.n, pi p1.scale, .s (.string p1.s), .ro (eValue.els p1.items)]] [(4, .one (.pv (.ro [[pi p1.kind, pi p1.n, pi p1.scale, .s (.string p1.s), .ro (eValue.els p1.items)]])))] [] ?_)
 rw [show ([[pi p1.kind, pi p1.n, pi p1.scale, .s (.string p1.s), .ro (eValue.els p1.items)]] : List (List PV)) = eValue.els [p1] from by cases p1; rfl]
 refine za (c_value_Key _ _ c3) (za (c_value_HashBytes _ _ c4) (zv [] 1 [2] [] [(2, vk .u64 r2)] [] (zd (m2 _ _ (ze ?_)))))
 obtain rfl := zj h
 exact zf [vk .u64 r2] (.one (.rfl _ rfl))
def table_number (p1 : Int) : Option GValue :=
    some (GValue.mk (2 : Int) p1 (0 : Int) ByteArray.empty [])
theorem c_table_number (p1 : Int) (r : GValue) (h : table_number p1 = some r) : PC Tryz.prog 29 [vi p1] (.ag [ci r.kind, ci r.n, ci r.scale, cst r.s, cl eValue r.items]) := by
 unfold table_number at h
 refine zF 5 Tryz.f29 (zq fun K1 m1 => zr (zg [2] 1 [0,2] (zd (m1 _ _ (zq fun K2 m2 => zr ?_)))))
 refine zg [2] 3 [2] (zd (m2 _ _ (ze ?_)))
 obtain rfl := zj h
 exact zf [.ag [ci 2, ci p1, ci 0, cst ByteArray.empty, .pv (.s (.slice none 0 0))]] (.ag (.cons (.rfl _ rfl) (.cons (.rfl _ rfl) (.cons (.rfl _ rfl) (.cons (.rfl _ rfl) (.cons (.nl) .nil))))))
def table_floor_j1 (x1 : Int) : Option Int :=
    some x1
def table_floor (p1 : Int) (p2 : Int) : Option Int :=
    grd (p2 ≠ 0) <|
    grd (p2 ≠ 0) <|
    ift (decide ((p1.tmod p2) < (0 : Int)))
      (table_floor_j1 (i64.wrap ((i64.wrap (p1.tdiv p2)) - (1 : Int))))
      (table_floor_j1 (i64.wrap (p1.tdiv p2)))
theorem c_table_floor (p1 : Int) (p2 : Int) (r : Int) (h : table_floor p1 p2 = some r) : PC Tryz.prog 32 [vi p1, vi p2] (vi r) := by
 unfold table_floor at h
 refine zF 16 Tryz.f32 (zq fun K1 m1 => zr (zg [] 1 [0,1] (zd (m1 _ _ (zq fun K2 m2 => ?_)))))
 obtain ⟨g3, h⟩ := zG h
 refine zr (zo [] 4 [0,1,5] [] [p2 ≠ 0] (⟨g3, trivial⟩) (zd (m2 _ _ (zq fun K4 m4 => ?_))))
 have j1 : ∀ (x1 : Int), table_floor_j1 x1 = some r → ∀ w0 w1, Sub 16 0 [] w0 w1 [(5, vi x1)] [] → K4 w0 w1 := by
  intro x1 h w0 w1 hS
  unfold table_floor_j1 at h
  refine m4 _ _ (XW.sub hS ?_)
  refine zq fun K8 m8 => zr (zg [] 2 [4] (zd (m8 _ _ (ze ?_))))
  obtain rfl := zj h
  exact zf [vi x1] (.one (.rfl _ rfl))
 refine zq fun K5 m5 => ?_
 obtain ⟨g6, h⟩ := zG h
 refine zr (zp [] 4 [5,12] [] [(5, vi (i64.wrap (p1.tdiv p2))), (12, vb (decide ((p1.tmod p2) < (0 : Int))))] [] [p2 ≠ 0] (⟨g6, trivial⟩) (zd (m5 _ _ (zC h (fun b7 h => ?_) (fun b7 h => ?_)))))
 ·exact zr (zg [] 3 [5] (zd (j1 (i64.wrap ((i64.wrap (p1.tdiv p2)) - (1 : Int))) h _ _ (zk [5]))))
 ·exact zs (j1 (i64.wrap (p1.tdiv p2)) h _ _ (zk [5]))
def table_truncated (p1 : GValue) (p2 : Int) : Option GValue :=
    ift (p1.kind == (4 : Int))
      (grd (p1.s.size ≤ 4294967296) <|
       bnd (some (if ((runesS p1.s).length : Int) < p2 then ((runesS p1.s).length : Int) else p2)) fun y1 =>
       grd (0 ≤ (0 : Int) ∧ (0 : Int) ≤ y1 ∧ y1 ≤ ((runesS p1.s).length : Int)) <|
       some (GValue.mk p1.kind p1.n p1.scale (runesBytes (((runesS p1.s).drop (0 : Int).toNat).take (y1.toNat - (0 : Int).toNat))) p1.items))
      (bnd (table_floor p1.n p2) fun r1 =>
       bnd (some (if (-999999999999999999 : Int) > (i64.wrap (r1 * p2)) then (-999999999999999999 : Int) else (i64.wrap (r1 * p2)))) fun y2 =>
       some (GValue.mk p1.kind y2 p1.scale p1.s p1.items))
theorem c_table_truncated (p1 : GValue) (p2 : Int) (r : GValue) (h : table_truncated p1 p2 = some r) : PC Tryz.prog 31 [.ag [ci p1.kind, ci p1.n, ci p1.scale, cst p1.s, cl eValue p1.items], vi p2] (.ag [ci r.kind, ci r.n, ci r.scale, cst r.s, cl eValue r.items]) := by
 unfold table_truncated at h
 refine zF 30 Tryz.f31 (zq fun K1 m1 => zr (zg [2, 4] 2 [1,2,4] (zd (m1 _ _ (zq fun K2 m2 => zq fun K3 m3 => ?_)))))
 refine zr (zg [2, 4] 3 [1,2,4,8] (zd (m3 _ _ (zC h (fun b4 h => ?_) (fun b4 h => ?_)))))
 ·refine zq fun K5 m5 => ?_
  obtain ⟨g6, h⟩ := zG h
  refine zr (zp [2, 4] 3 [1,2,4,11] [] [(1, vi p2), (2, vq 0), (4, vq 1), (11, .one (.pv (.ro (runeEls p1.s))))] [.box [ci p1.kind, ci p1.n, ci p1.scale, cst p1.s, cl eValue p1.items], .box [ci 0, ci 0, ci 0, cst ByteArray.empty, .pv (.s (.slice none 0 0))]] [p1.s.size ≤ 4294967296] (⟨g6, trivial⟩) ?_)
  rw [runeEls_eR p1.s]
  refine zg [2, 4] 1 [1,2,4,5] (zd (m5 _ _ (zq fun K7 m7 => ?_)))
  obtain ⟨y1, hy8, h⟩ := zB h
  obtain ⟨g9, h⟩ := zG h
  refine zr (zv [2, 4] 4 [2,4,12,13,15] [] [(2, vq 0), (4, vq 1), (12, vl (eK .i32) (runesS p1.s)), (13, vi p2), (15, vi (((eK .i32).els (runesS p1.s)).length : Int))] [.box [ci p1.kind, ci p1.n, ci p1.scale, cst p1.s, cl eValue p1.items], .box [ci 0, ci 0, ci 0, cst ByteArray.empty, .pv (.s (.slice none 0 0))]] ?_)
  rw [(eK .i32).len (runesS p1.s)]
  refine zv [2, 4] 1 [2,4,12,16] [] [(2, vq 0), (4, vq 1), (12, vl (eK .i32) (runesS p1.s)), (16, vi (if ((runesS p1.s).length : Int) < p2 then ((runesS p1.s).length : Int) else p2))] [.box [ci p1.kind, ci p1.n, ci p1.scale, cst p1.s, cl eValue p1.items], .box [ci 0, ci 0, ci 0, cst ByteArray.empty, .pv (.s (.slice none 0 0))]] ?_
  rw [show (if ((runesS p1.s).length : Int) < p2 then ((runesS p1.s).length : Int) else p2) = y1 from zj hy8]
  refine zp [2, 4] 1 [2,4,17] [] [(2, vq 0), (4, vq 1), (17, .one (.pv (.ro ((((eK .i32).els (runesS p1.s)).drop (0 : Int).toNat).take (y1.toNat - (0 : Int).toNat)))))] [.box [ci p1.kind, ci p1.n, ci p1.scale, cst p1.s, cl eValue p1.items], .box [ci 0, ci 0, ci 0, cst ByteArray.empty, .pv (.s (.slice none 0 0))]] [(0 ≤ (0 : Int) ∧ (0 : Int) ≤ y1 ∧ y1 ≤ (((eK .i32).els (runesS p1.s)).length : Int)) ∧ elemsOk 1 ((eK .i32).els (runesS p1.s))] (⟨(eK .i32).cutOk g9, trivial⟩) ?_
  rw [show (((eK .i32).els (runesS p1.s)).drop (0 : Int).toNat).take (y1.toNat - (0 : Int).toNat) = (eK .i32).els (((runesS p1.s).drop (0 : Int).toNat).take (y1.toNat - (0 : Int).toNat)) from (eK .i32).cut _ _ _]
  refine zp [2, 4] 1 [2,4,18] [] [(2, vq 0), (4, vq 1), (18, vs (strOfRunes ((eK .i32).els (((runesS p1.s).drop (0 : Int).toNat).take (y1.toNat - (0 : Int).toNat)))))] [.box [ci p1.kind, ci p1.n, ci p1.scale, cst p1.s, cl eValue p1.items], .box [ci 0, ci 0, ci 0, cst ByteArray.empty, .pv (.s (.slice none 0 0))]] [runesOk ((eK .i32).els (((runesS p1.s).drop (0 : Int).toNat).take (y1.toNat - (0 : Int).toNat)))] (⟨runesOk_eR _, trivial⟩) ?_
  rw [strOfRunes_eR (((runesS p1.s).drop (0 : Int).toNat).take (y1.toNat - (0 : Int).toNat))]
  refine zg [2, 4] 2 [2,4] (zd (m7 _ _ (zq fun K10 m10 => zr (zg [2, 4] 2 [4] (zd (m10 _ _ ?_))))))
  refine ze ?_
  obtain rfl := zj h
  exact zf [.ag [ci p1.kind, ci p1.n, ci p1.scale, cst (runesBytes (((runesS p1.s).drop (0 : Int).toNat).take (y1.toNat - (0 : Int).toNat))), cl eValue p1.items]] (.ag (.cons (.rfl _ rfl) (.cons (.rfl _ rfl) (.cons (.rfl _ rfl) (.cons (.rfl _ rfl) (.cons (.rfl _ rfl) .nil))))))
 ·refine zs (m2 _ _ (zq fun K11 m11 => ?_))
  obtain ⟨r1, c12, h⟩ := zB h
  obtain ⟨y2, hy13, h⟩ := zB h
  refine zr (zv [2, 4] 3 [1,2,4,22,23] [] [(1, vi p2), (2, vq 0), (4, vq 1), (22, vi p1.n), (23, vi p2)] [.box [ci p1.kind, ci p1.n, ci p1.scale, cst p1.s, cl eValue p1.items], .box [ci 0, ci 0, ci 0, cst ByteArray.empty, .pv (.s (.slice none 0 0))]] (za (c_table_floor _ _ _ c12) ?_))
  refine zv [2, 4] 3 [2,4,27] [] [(2, vq 0), (4, vq 1), (27, vi (if (-999999999999999999 : Int) > (i64.wrap (r1 * p2)) then (-999999999999999999 : Int) else (i64.wrap (r1 * p2))))] [.box [ci p1.kind, ci p1.n, ci p1.scale, cst p1.s, cl eValue p1.items], .box [ci 0, ci 0, ci 0, cst ByteArray.empty, .pv (.s (.slice none 0 0))]] ?_
  rw [show (if (-999999999999999999 : Int) > (i64.wrap (r1 * p2)) then (-999999999999999999 : Int) else (i64.wrap (r1 * p2))) = y2 from zj hy13]
  refine zg [2, 4] 2 [2,4] (zd (m11 _ _ (zq fun K14 m14 => zr (zg [2, 4] 2 [4] (zd (m14 _ _ ?_))))))
  refine ze ?_
  obtain rfl := zj h
  exact zf [.ag [ci p1.kind, ci y2, ci p1.scale, cst p1.s, cl eValue p1.items]] (.ag (.cons (.rfl _ rfl) (.cons (.rfl _ rfl) (.cons (.rfl _ rfl) (.cons (.rfl _ rfl) (.cons (.rfl _ rfl) .nil))))))
def table_Transform_j2 (p1 : GTransform) (p2 : GValue) (x2 : Int) (x3 : Int) : Option GValue :=
    ift (p1.kind == (1 : Int))
      (some p2)
      (ift (p1.kind == (2 : Int))
         (bnd (value_Hash p2) fun r5 =>
          grd ((u64.wrap p1.param) ≠ 0) <|
          bnd (table_number (i64.wrap (r5.tmod (u64.wrap p1.param)))) fun r6 =>
          some r6)
         (ift (p1.kind == (3 : Int))
            (bnd (table_truncated p2 p1.param) fun r7 =>
             some r7)
            (ift (p1.kind == (4 : Int))
               (bnd (table_number (i64.wrap (x2 - (1970 : Int)))) fun r8 =>
                some r8)
               (ift (p1.kind == (5 : Int))
                  (bnd (some (i64.wrap ((12 : Int) * (i64.wrap (x2 - (1970 : Int)))))) fun y1 =>
                   bnd (table_number (i64.wrap ((i64.wrap (y1 + x3)) - (1 : Int)))) fun r9 =>
                   some r9)
                  (ift (p1.kind == (6 : Int))
                     (bnd (table_floor p2.n (86400 : Int)) fun r10 =>
                      bnd (table_number r10) fun r11 =>
                      some r11)
                     (ift (p1.kind == (7 : Int))
                        (bnd (table_floor p2.n (3600 : Int)) fun r12 =>
                         bnd (table_number r12) fun r13 =>
                         some r13)
                        (some (GValue.mk (0 : Int) (0 : Int) (0 : Int) ByteArray.empty []))))))))
def table_Transform_j1 (p1 : GTransform) (p2 : GValue) (x1 : Bool) : Option GValue :=
    ift x1
      (some (GValue.mk (0 : Int) (0 : Int) (0 : Int) ByteArray.empty []))
      (ift (p2.kind == (5 : Int))
         (bnd (value_Part p2.n (1 : Int) (ByteArray.mk #[117, 116, 99])) fun r3 =>
          bnd (value_Part p2.n (2 : Int) (ByteArray.mk #[117, 116, 99])) fun r4 =>
          table_Transform_j2 p1 p2 r3.1 r4.1)
         (table_Transform_j2 p1 p2 (0 : Int) (0 : Int)))
def table_Transform (p1 : GTransform) (p2 : GValue) : Option GValue :=
    bnd (table_TransformType p1 (GType.mk p2.kind p2.scale [])) fun r1 =>
    ift (r1.2 != (0 : Int))
      (table_Transform_j1 p1 p2 true)
      (bnd (value_Sound p2) fun r2 =>
       table_Transform_j1 p1 p2 (!r2))
abbrev qa2097 (p2 : GValue) : List CV := [ci p2.kind, ci p2.n, ci p2.scale, cst p2.s, cl eValue p2.items]
abbrev qa2099 (p1 : GTransform) : List PV := [pi p1.kind, pi p1.param]
abbrev qa2100 (p2 : GValue) : List PV := [pi p2.kind, pi p2.n, pi p2.scale, .s (.string p2.s), .ro (eValue.els p2.items)]
abbrev qa2102 (r1 : (GType × Int)) : List CV := [ci r1.1.kind, ci r1.1.scale, cl eField r1.1.fields]
abbrev qa2103 : List CV := [ci 0, ci 0, ci 0, cst ByteArray.empty, .pv (.s (.slice none 0 0))]
abbrev qa2105 (r6 : GValue) : List CV := [ci r6.kind, ci r6.n, ci r6.scale, cst r6.s, cl eValue r6.items]
abbrev qa2111 (r13 : GValue) : List CV := [ci r13.kind, ci r13.n, ci r13.scale, cst r13.s, cl eValue r13.items]
abbrev qa2114 (r1 : (GType × Int)) : St := [.box qa2103, .box (qa2102 r1)]
theorem c_table_Transform (p1 : GTransform) (p2 : GValue) (r : GValue) (h : table_Transform p1 p2 = some r) : PC Tryz.prog 9 [.ag [ci p1.kind, ci p1.param], .ag (qa2097 p2)] (.ag [ci r.kind, ci r.n, ci r.scale, cst r.s, cl eValue r.items]) := by
 unfold table_Transform at h
 refine zF 90 Tryz.f9 (zq fun K1 m1 => zr (zg [4, 5] 3 [2,3,4] (zd (m1 _ _ (zq fun K2 m2 => ?_)))))
 obtain ⟨r1, c3, h⟩ := zB h
 refine zr (zu [4, 5] 6 [2,3,4,10,15] [(qa2099 p1), (qa2100 p2), (qa2100 p2)] ?_)
 refine zl 7 [.ag [ci p1.kind, ci p1.param], .ag [ci p2.kind, ci p2.scale, .pv (.s (.slice none 0 0))]] (.tp [.ag (qa2102 r1), vi r1.2]) [(16, .tp [.ag (qa2102 r1), vi r1.2]), (2, vR (qa2099 p1)), (3, vR (qa2100 p2)), (4, vq 0), (10, .ag [ci p1.kind, ci p1.param]), (15, .ag [ci p2.kind, ci p2.scale, .pv (.s (.slice none 0 0))])] (PC.le (c_table_TransformType _ _ _ c3) ⟨.rfl _, ALe.agc ⟨.rfl _, .rfl _, .nl, trivial⟩, trivial⟩) ?_
 refine zv [4, 5] 6 [2,3,4,6] [] [(2, vR (qa2099 p1)), (3, vR (qa2100 p2)), (4, vq 0), (6, vi r1.2)] (qa2114 r1) (zd (m2 _ _ (zq fun K4 m4 => zq fun K5 m5 => ?_)))
 have j1 : ∀ (x1 : Bool), table_Transform_j1 p1 p2 x1 = some r → ∀ w0 w1, Sub 90 0 [] w0 w1 [(2, vR (qa2099 p1)), (3, vR (qa2100 p2)), (4, vq 0), (25, vb x1)] (qa2114 r1) → K5 w0 w1 := by
  intro x1 h w0 w1 hS
  unfold table_Transform_j1 at h
  refine m5 _ _ (XW.sub hS ?_)
  refine zC h (fun b8 h => ?_) (fun b8 h => ?_)
  ·refine zq fun K9 m9 => zr (zg [4, 5] 2 [4] (zd (m9 _ _ (ze ?_))))
   obtain rfl := zj h
   exact zf [.ag qa2103] (.ag (.cons (.rfl _ rfl) (.cons (.rfl _ rfl) (.cons (.rfl _ rfl) (.cons (.rfl _ rfl) (.cons (.nl) .nil))))))
  ·refine zs (m4 _ _ (zq fun K10 m10 => zr (zg [4, 5] 2 [2,3,4,7,8] (zd (m10 _ _ (zq fun K11 m11 => ?_))))))
   have j2 : ∀ (x2 : Int) (x3 : Int), table_Transform_j2 p1 p2 x2 x3 = some r → ∀ w0 w1, Sub 90 0 [] w0 w1 [(2, vR (qa2099 p1)), (3, vR (qa2100 p2)), (4, vq 0), (7, vi x2), (8, vi x3)] (qa2114 r1) → K11 w0 w1 := by
    intro x2 x3 h w0 w1 hS
    unfold table_Transform_j2 at h
    refine m11 _ _ (XW.sub hS ?_)
    refine zq fun K17 m17 => zq fun K18 m18 => zr (zu [4, 5] 2 [2,3,4,7,8,43] [(qa2099 p1)] (zd (m18 _ _ (zb 0 (zq fun K19 m19 => ?_)))))
    refine zr (zg [4, 5] 2 [2,3,4,7,8,43,44] (zd (m19 _ _ (zC h (fun b20 h => ?_) (fun b20 h => ?_)))))
    ·refine zq fun K21 m21 => zr (zv [4, 5] 2 [4] [(qa2100 p2)] [(4, vq 0)] [.box (qa2097 p2), .box (qa2102 r1)] (zd (m21 _ _ (ze ?_))))
     obtain rfl := zj h
     exact zf [.ag (qa2097 p2)] (.ag (.cons (.rfl _ rfl) (.cons (.rfl _ rfl) (.cons (.rfl _ rfl) (.cons (.rfl _ rfl) (.cons (.rfl _ rfl) .nil))))))
    ·refine zq fun K22 m22 => zr (zg [4, 5] 2 [2,3,4,7,8,43,47] (zd (m22 _ _ (zC h (fun b23 h => ?_) (fun b23 h => ?_)))))
     ·refine zq fun K24 m24 => ?_
      obtain ⟨r5, c25, h⟩ := zB h
      obtain ⟨g26, h⟩ := zG h
      obtain ⟨r6, c27, h⟩ := zB h
      refine zw 5 [(53, vk .u64 (u64.wrap p1.param)), (52, vi p1.param), (51, .one (.pv (.rp [(qa2099 p1)] 0 1))), (50, vk .u64 r5), (49, .ag (qa2097 p2)), (2, vR (qa2099 p1)), (3, vR (qa2100 p2)), (4, vq 0), (7, vi x2), (8, vi x3), (43, vi p1.kind), (47, vb (p1.kind == (2 : Int)))] ?_ ?_
      ·refine zyu 1 [(qa2100 p2)] ?_
       exact DX.cal 30 [.ag (qa2097 p2)] (vk .u64 r5) [(50, vk .u64 r5), (49, .ag (qa2097 p2)), (2, vR (qa2099 p1)), (3, vR (qa2100 p2)), (4, vq 0), (7, vi x2), (8, vi x3), (43, vi p1.kind), (47, vb (p1.kind == (2 : Int)))] (by kernel_rfl) (c_value_Hash _ _ c25) rfl rfl (by kernel_rfl) (zyu 3 [(qa2099 p1)] zyd)
      refine zo [4, 5] 2 [4,55] [] [(u64.wrap p1.param) ≠ 0] (⟨g26, trivial⟩) (zl 29 [vi (i64.wrap (r5.tmod (u64.wrap p1.param)))] (.ag (qa2105 r6)) [(56, .ag (qa2105 r6)), (4, vq 0), (55, vi (i64.wrap (r5.tmod (u64.wrap p1.param))))] (c_table_number _ _ c27) (zg [4, 5] 1 [4] (zd (m24 _ _ (ze ?_)))))
      obtain rfl := zj h
      exact zf [.ag (qa2105 r6)] (.ag (.cons (.rfl _ rfl) (.cons (.rfl _ rfl) (.cons (.rfl _ rfl) (.cons (.rfl _ rfl) (.cons (.rfl _ rfl) .nil))))))
     ·refine zq fun K28 m28 => zr (zg [4, 5] 2 [2,3,4,7,8,43,57] (zd (m28 _ _ (zC h (fun b29 h => ?_) (fun b29 h => ?_)))))
      ·refine zq fun K30 m30 => ?_
       obtain ⟨r7, c31, h⟩ := zB h
       refine zr (zv [4, 5] 3 [4,59,61] [(qa2100 p2), (qa2099 p1)] [(4, vq 0), (59, .ag (qa2097 p2)), (61, vi p1.param)] (qa2114 r1) (za (c_table_truncated _ _ _ c31) (zg [4, 5] 1 [4] (zd (m30 _ _ (ze ?_))))))
       obtain rfl := zj h
       exact zf [.ag [ci r7.kind, ci r7.n, ci r7.scale, cst r7.s, cl eValue r7.items]] (.ag (.cons (.rfl _ rfl) (.cons (.rfl _ rfl) (.cons (.rfl _ rfl) (.cons (.rfl _ rfl) (.cons (.rfl _ rfl) .nil))))))
      ·refine zq fun K32 m32 => zr (zv [4, 5] 2 [3,4,7,8,43,63] [] [(3, vR (qa2100 p2)), (4, vq 0), (7, vi x2), (8, vi x3), (43, vi p1.kind), (63, vb (p1.kind == (4 : Int)))] (qa2114 r1) (zd (m32 _ _ (zC h (fun b33 h => ?_) (fun b33 h => ?_)))))
       ·refine zq fun K34 m34 => ?_
        obtain ⟨r8, c35, h⟩ := zB h
        refine zr (zg [4, 5] 2 [4,66] (za (c_table_number _ _ c35) (zv [4, 5] 1 [4] [] [(4, vq 0)] [.box [ci r8.kind, ci r8.n, ci r8.scale, cst r8.s, cl eValue r8.items], .box (qa2102 r1)] (zd (m34 _ _ (ze ?_))))))
        obtain rfl := zj h
        exact zf [.ag [ci r8.kind, ci r8.n, ci r8.scale, cst r8.s, cl eValue r8.items]] (.ag (.cons (.rfl _ rfl) (.cons (.rfl _ rfl) (.cons (.rfl _ rfl) (.cons (.rfl _ rfl) (.cons (.rfl _ rfl) .nil))))))
       ·refine zq fun K36 m36 => zr (zg [4, 5] 2 [3,4,7,8,43,68] (zd (m36 _ _ (zC h (fun b37 h => ?_) (fun b37 h => ?_)))))
        ·refine zq fun K38 m38 => ?_
         obtain ⟨y1, hy39, h⟩ := zB h
         obtain ⟨r9, c40, h⟩ := zB h
         refine zr (zv [4, 5] 3 [4,8,72] [] [(4, vq 0), (8, vi x3), (72, vi (i64.wrap ((12 : Int) * (i64.wrap (x2 - (1970 : Int))))))] [.box [ci 0, ci 0, ci 0, cst ByteArray.empty, .pv (.s (.slice none 0 0))], .box [ci r1.1.kind, ci r1.1.scale, cl eField r1.1.fields]] ?_)
         rw [show (i64.wrap ((12 : Int) * (i64.wrap (x2 - (1970 : Int))))) = y1 from zj hy39]
         refine zg [4, 5] 3 [4,75] (za (c_table_number _ _ c40) (zv [4, 5] 1 [4] [] [(4, vq 0)] [.box [ci r9.kind, ci r9.n, ci r9.scale, cst r9.s, cl eValue r9.items], .box (qa2102 r1)] (zd (m38 _ _ (ze ?_)))))
         obtain rfl := zj h
         exact zf [.ag [ci r9.kind, ci r9.n, ci r9.scale, cst r9.s, cl eValue r9.items]] (.ag (.cons (.rfl _ rfl) (.cons (.rfl _ rfl) (.cons (.rfl _ rfl) (.cons (.rfl _ rfl) (.cons (.rfl _ rfl) .nil))))))
        ·refine zq fun K41 m41 => zr (zg [4, 5] 2 [3,4,43,77] (zd (m41 _ _ (zC h (fun b42 h => ?_) (fun b42 h => ?_)))))
         ·refine zq fun K43 m43 => ?_
          obtain ⟨r10, c44, h⟩ := zB h
          obtain ⟨r11, c45, h⟩ := zB h
          refine zr (zu [4, 5] 2 [4,80] [(qa2100 p2)] (zl 32 [vi p2.n, vi 86400] (vi r10) [(81, vi r10), (4, vq 0), (80, vi p2.n)] (c_table_floor _ _ _ c44) (za (c_table_number _ _ c45) (zg [4, 5] 1 [4] (zd (m43 _ _ (ze ?_)))))))
          obtain rfl := zj h
          exact zf [.ag [ci r11.kind, ci r11.n, ci r11.scale, cst r11.s, cl eValue r11.items]] (.ag (.cons (.rfl _ rfl) (.cons (.rfl _ rfl) (.cons (.rfl _ rfl) (.cons (.rfl _ rfl) (.cons (.rfl _ rfl) .nil))))))
         ·refine zq fun K46 m46 => zr (zv [4, 5] 2 [3,4,83] [] [(3, vR (qa2100 p2)), (4, vq 0), (83, vb (p1.kind == (7 : Int)))] (qa2114 r1) (zd (m46 _ _ (zC h (fun b47 h => ?_) (fun b47 h => ?_)))))
          ·refine zq fun K48 m48 => ?_
           obtain ⟨r12, c49, h⟩ := zB h
           obtain ⟨r13, c50, h⟩ := zB h
           refine zr (zu [4, 5] 2 [4,86] [(qa2100 p2)] (za (c_table_floor _ _ _ c49) (zl 29 [vi r12] (.ag (qa2111 r13)) [(88, .ag (qa2111 r13)), (87, vi r12), (4, vq 0), (86, vi p2.n)] (c_table_number _ _ c50) (zg [4, 5] 1 [4] (zd (m48 _ _ (ze ?_)))))))
           obtain rfl := zj h
           exact zf [.ag (qa2111 r13)] (.ag (.cons (.rfl _ rfl) (.cons (.rfl _ rfl) (.cons (.rfl _ rfl) (.cons (.rfl _ rfl) (.cons (.rfl _ rfl) .nil))))))
          ·refine zs (m17 _ _ (zq fun K51 m51 => zr (zg [4, 5] 2 [4] (zd (m51 _ _ (ze ?_))))))
           obtain rfl := zj h
           exact zf [.ag qa2103] (.ag (.cons (.rfl _ rfl) (.cons (.rfl _ rfl) (.cons (.rfl _ rfl) (.cons (.rfl _ rfl) (.cons (.nl) .nil))))))
   refine zq fun K12 m12 => zr (zv [4, 5] 3 [2,3,4,7,8,29] [(qa2100 p2)] [(2, vR (qa2099 p1)), (3, vR (qa2100 p2)), (4, vq 0), (7, vi 0), (8, vi 0), (29, vb (p2.kind == (5 : Int)))] (qa2114 r1) (zd (m12 _ _ ?_)))
   refine zC h (fun b13 h => ?_) (fun b13 h => ?_)
   ·refine zq fun K14 m14 => ?_
    obtain ⟨r3, c15, h⟩ := zB h
    refine zr (zu [4, 5] 2 [2,3,4,32] [(qa2100 p2)] (za (c_value_Part _ _ _ _ c15) (zv [4, 5] 4 [2,3,4,7] [] [(2, vR (qa2099 p1)), (3, vR (qa2100 p2)), (4, vq 0), (7, vi r3.1)] (qa2114 r1) (zd (m14 _ _ ?_)))))
    obtain ⟨r4, c16, h⟩ := zB h
    exact zr (zu [4, 5] 2 [2,3,4,7,38] [(qa2100 p2)] (za (c_value_Part _ _ _ _ c16) (zv [4, 5] 4 [2,3,4,7,8] [] [(2, vR (qa2099 p1)), (3, vR (qa2100 p2)), (4, vq 0), (7, vi r3.1), (8, vi r4.1)] (qa2114 r1) (zd (j2 r3.1 r4.1 h _ _ (zk [2,3,4,7,8]))))))
   ·exact zs (j2 (0 : Int) (0 : Int) h _ _ (zk [2,3,4,7,8]))
 rcases zW h with ⟨b6, h⟩ | ⟨b6, h⟩
 ·exact zr (zg [4, 5] 3 [2,3,4,21] (zt 21 b6 (zg [4, 5] 4 [2,3,4,25] (zd (j1 true h _ _ (zk [2,3,4,25]))))))
 ·obtain ⟨r2, c7, h⟩ := zB h
  refine zr (zv [4, 5] 3 [2,3,4,21] [] [(2, vR (qa2099 p1)), (3, vR (qa2100 p2)), (4, vq 0), (21, vb (r1.2 != (0 : Int)))] (qa2114 r1) (zt 21 b6 (zu [4, 5] 1 [2,3,4,21,22] [(qa2100 p2)] (za (c_value_Sound _ _ c7) ?_))))
  exact zv [4, 5] 2 [2,3,4,25] [] [(2, vR (qa2099 p1)), (3, vR (qa2100 p2)), (4, vq 0), (25, vb (!r2))] (qa2114 r1) (zd (j1 (!r2) h _ _ (zk [2,3,4,25])))
def ref2_SameFields_j1 (rec1 : Int → Option Bool) (x1 : Int) (x2 : Bool) : Option Bool :=
    ift x2
      (some false)
      (rec1 (i64.wrap (x1 + (1 : Int))))
def ref2_SameFields_j2 : Option Bool :=
    some true
def ref2_SameFields_l1 (q_ref2_SameFields : (List GField) → (List GField) → Option Bool) (p1 : (List GField)) (p2 : (List GField)) : Nat → Int → Option Bool
  | 0, _ => none
  | k1 + 1, x1 =>
    ift (decide (x1 < (p1.length : Int)))
      (bnd (at? p1 x1) fun e1 =>
       bnd (at? p2 x1) fun e2 =>
       ift (e1.id != e2.id)
         (ref2_SameFields_j1 (ref2_SameFields_l1 q_ref2_SameFields p1 p2 k1) x1 true)
         (ift (!(e1.name.toList == e2.name.toList))
            (ref2_SameFields_j1 (ref2_SameFields_l1 q_ref2_SameFields p1 p2 k1) x1 true)
            (ift (!(e1.need == e2.need))
               (ref2_SameFields_j1 (ref2_SameFields_l1 q_ref2_SameFields p1 p2 k1) x1 true)
               (ift (e1.type.kind != e2.type.kind)
                  (ref2_SameFields_j1 (ref2_SameFields_l1 q_ref2_SameFields p1 p2 k1) x1 true)
                  (ift (e1.type.scale != e2.type.scale)
                     (ref2_SameFields_j1 (ref2_SameFields_l1 q_ref2_SameFields p1 p2 k1) x1 true)
                     (bnd (q_ref2_SameFields e1.type.fields e2.type.fields) fun r1 =>
                      ref2_SameFields_j1 (ref2_SameFields_l1 q_ref2_SameFields p1 p2 k1) x1 (!r1)))))))
      (ref2_SameFields_j2)
def ref2_SameFields : Nat → (List GField) → (List GField) → Option Bool
  | 0, _, _ => none
  | k0 + 1, p1, p2 =>
    ift ((p1.length : Int) != (p2.length : Int))
      (some false)
      (ref2_SameFields_l1 (ref2_SameFields k0) p1 p2 BIG (0 : Int))
abbrev qa2134 (e2 : GField) : List CV := [ci e2.id, cst e2.name, cb e2.need, ci e2.type.kind, ci e2.type.scale, cl eField e2.type.fields]
abbrev qa2135 (e1 : GField) : List CV := [ci e1.id, cst e1.name, cb e1.need, ci e1.type.kind, ci e1.type.scale, cl eField e1.type.fields]
abbrev qa2136 : List CV := [ci 0, cst ByteArray.empty, cb false, ci 0, ci 0, .pv (.s (.slice none 0 0))]
abbrev qa2137 (e1 : GField) : List PV := [pi e1.id, .s (.string e1.name), .s (.bool e1.need), pi e1.type.kind, pi e1.type.scale, .ro (eField.els e1.type.fields)]
abbrev qa2138 (e2 : GField) : List PV := [pi e2.id, .s (.string e2.name), .s (.bool e2.need), pi e2.type.kind, pi e2.type.scale, .ro (eField.els e2.type.fields)]
abbrev qa2141 (p1 : (List GField)) (p2 : (List GField)) (x1 : Int) : Fr := [(0, vl eField p1), (1, vl eField p2), (14, vi (p1.length : Int)), (15, vi x1), (72, vb true)]
abbrev qa2142 (p1 : (List GField)) (p2 : (List GField)) (x1 : Int) (e1 : GField) (e2 : GField) : Fr := [(0, vl eField p1), (1, vl eField p2), (6, vq 0), (7, vq 1), (14, vi (p1.length : Int)), (15, vi x1), (45, vb (!(e1.need == e2.need)))]
abbrev qa2145 (p1 : (List GField)) (p2 : (List GField)) (x1 : Int) (e1 : GField) (e2 : GField) : Fr := [(7, vq 1), (6, vq 0), (25, .ag (qa2134 e2)), (24, .one (.pv (.rp (eField.els p2) x1.toNat 0))), (23, vi x1), (22, vl eField p2), (21, .ag (qa2135 e1)), (20, .one (.pv (.rp (eField.els p1) x1.toNat 0))), (19, vi x1), (18, vl eField p1), (0, vl eField p1), (1, vl eField p2), (5, vi x1), (14, vi (p1.length : Int)), (15, vi x1)]
abbrev qa2151 (e1 : GField) (e2 : GField) : St := [.box (qa2135 e1), .box (qa2134 e2)]
theorem c_ref2_SameFields : ∀ (k0 : Nat) (p1 : (List GField)) (p2 : (List GField)) (r : Bool), ref2_SameFields k0 p1 p2 = some r → PC Tryz.prog 33 [vl eField p1, vl eField p2] (vb r)
 | 0, _, _, r, h => by rw [ref2_SameFields.eq_1] at h; cases h
 | k0 + 1, p1, p2, r, h => by
  rw [ref2_SameFields.eq_2] at h
  refine zF 74 Tryz.f33 (zq fun K1 m1 => zr (zg [6, 7] 1 [0,1] (zd (m1 _ _ (zq fun K2 m2 => zq fun K3 m3 => ?_)))))
  refine zr (zv [6, 7] 2 [0,1,9] [] [(0, vl eField p1), (1, vl eField p2), (9, vi ((eField.els p1).length : Int))] [] ?_)
  rw [eField.len p1]
  refine zv [6, 7] 2 [0,1,9,11] [] [(0, vl eField p1), (1, vl eField p2), (9, vi (p1.length : Int)), (11, vi ((eField.els p2).length : Int))] [] ?_
  rw [eField.len p2]
  refine zg [6, 7] 1 [0,1,12] (zd (m3 _ _ (zC h (fun b4 h => ?_) (fun b4 h => ?_))))
  ·refine zq fun K5 m5 => zr (zg [6, 7] 1 [4] (zd (m5 _ _ (ze ?_))))
   obtain rfl := zj h
   exact zf [vb false] (.one (.rfl _ rfl))
  ·refine zs (m2 _ _ (zq fun K6 m6 => ?_))
   have j2 : ∀ (_ : Unit), ref2_SameFields_j2 = some r → ∀ w0 w1, Sub 74 0 [] w0 w1 [] [] → K6 w0 w1 := by
    intro _ h w0 w1 hS
    unfold ref2_SameFields_j2 at h
    refine m6 _ _ (XW.sub hS ?_)
    refine zq fun K25 m25 => zr (zg [6, 7] 1 [4] (zd (m25 _ _ (ze ?_))))
    obtain rfl := zj h
    exact zf [vb true] (.one (.rfl _ rfl))
   refine zq fun K7 m7 => zr (zv [6, 7] 2 [0,1,14] [] [(0, vl eField p1), (1, vl eField p2), (14, vi ((eField.els p1).length : Int))] [] ?_)
   rw [eField.len p1]
   refine zg [6, 7] 1 [0,1,14,15] (zd (m7 _ _ (zb 0 (XW.rounds' BIG (x := cd Tryz.f33 [1,1,0,1,0,0]) (by kernel_rfl) fun Q1 hQ1 => ?_))))
   have hL1 : ∀ (k1 : Nat) (x1 : Int), ref2_SameFields_l1 (ref2_SameFields k0) p1 p2 k1 x1 = some r → XR Tryz.prog 74 0 [] (cd Tryz.f33 [1,1,0,1,0,0]) Q1 k1 [(0, vl eField p1), (1, vl eField p2), (14, vi (p1.length : Int)), (15, vi x1)] [] := by
    intro k1
    induction k1 with
    | zero => intro x1 h; rw [ref2_SameFields_l1.eq_1] at h; cases h
    | succ k1 ih1 =>
     intro x1 h
     rw [ref2_SameFields_l1.eq_2] at h
     refine zq fun K8 m8 => zr (zg [6, 7] 1 [0,1,14,15,16] (zd (m8 _ _ (zq fun K9 m9 => zC h (fun b10 h => ?_) (fun b10 h => ?_)))))
     ·refine zs (m9 _ _ (zq fun K11 m11 => zb 1 (zq fun K12 m12 => zr (zv [6, 7] 2 [0,1,5,14,15] [] [(0, vl eField p1), (1, vl eField p2), (5, vi x1), (14, vi (p1.length : Int)), (15, vi x1)] [] (zd ?_)))))
      refine m12 _ _ (zq fun K13 m13 => ?_)
      obtain ⟨e1, a14, h⟩ := zB h
      obtain ⟨e2, a15, h⟩ := zB h
      refine XW.sub (Sub.dead 2) ?_
      refine XW.drwG 11 [0, 1, 2] [([], []), ([], []), ([], []), ([], []), ([], []), ([], []), ([], []), ([], []), ([0], [0]), ([1], [1]), ([0], [0])] (qa2145 p1 p2 x1 e1 e2) [.box (qa2135 e1), .box qa2136] (by kernel_rfl) (by kernel_rfl) ?_ ?_
      ·refine GY.go 8 [(qa2137 e1), (qa2138 e2)] [(25, .ag (qa2134 e2)), (24, .one (.pv (.rp (eField.els p2) x1.toNat 0))), (23, vi x1), (22, vl eField p2), (21, .ag (qa2135 e1)), (20, .one (.pv (.rp (eField.els p1) x1.toNat 0))), (19, vi x1), (18, vl eField p1), (0, vl eField p1), (1, vl eField p2), (5, vi x1), (14, vi (p1.length : Int)), (15, vi x1)] [0 ≤ x1 ∧ x1 < ((eField.els p1).length : Int) ∧ elemsOk 6 (eField.els p1), (eField.els p1)[x1.toNat]? = some (qa2137 e1), 0 ≤ x1 ∧ x1 < ((eField.els p2).length : Int) ∧ elemsOk 6 (eField.els p2), (eField.els p2)[x1.toNat]? = some (qa2138 e2)] (by kernel_rfl) (⟨eField.inb a14, ((eField.get a14).trans (by rcases e1 with ⟨_, _, _, ⟨_, _, _⟩⟩; rfl)), eField.inb a15, ((eField.get a15).trans (by rcases e2 with ⟨_, _, _, ⟨_, _, _⟩⟩; rfl)), trivial⟩) ?_
       refine GY.new true 0 [] [(6, vq 0), (25, .ag (qa2134 e2)), (24, .one (.pv (.rp (eField.els p2) x1.toNat 0))), (23, vi x1), (22, vl eField p2), (21, .ag (qa2135 e1)), (20, .one (.pv (.rp (eField.els p1) x1.toNat 0))), (19, vi x1), (18, vl eField p1), (0, vl eField p1), (1, vl eField p2), (5, vi x1), (14, vi (p1.length : Int)), (15, vi x1)] [0] [.box qa2136, .dead] [] (by kernel_rfl) (by kernel_rfl) trivial ?_
       refine GY.new true 1 [] (qa2145 p1 p2 x1 e1 e2) [1] [.box qa2136, .box qa2136] [] (by kernel_rfl) (by kernel_rfl) trivial ?_
       refine GY.wr [] (qa2145 p1 p2 x1 e1 e2) [0] [.box (qa2135 e1), .box qa2136] [] (by kernel_rfl) (by kernel_rfl) trivial ?_
       exact GY.done (by kernel_rfl) (by kernel_rfl)
      refine zg [6, 7] 1 [0,1,6,7,14,15] (zd (m13 _ _ (zq fun K16 m16 => ?_)))
      have j1 : ∀ (x2 : Bool), ref2_SameFields_j1 (ref2_SameFields_l1 (ref2_SameFields k0) p1 p2 k1) x1 x2 = some r → ∀ w0 w1, Sub 74 0 [] w0 w1 [(0, vl eField p1), (1, vl eField p2), (14, vi (p1.length : Int)), (15, vi x1), (72, vb x2)] (qa2151 e1 e2) → K16 w0 w1 := by
       intro x2 h w0 w1 hS
       unfold ref2_SameFields_j1 at h
       refine m16 _ _ (XW.sub hS ?_)
       refine zC h (fun b23 h => ?_) (fun b23 h => ?_)
       ·refine zq fun K24 m24 => zr (zg [6, 7] 1 [4] (zd (m24 _ _ (ze (hQ1 _ _ _ ?_)))))
        obtain rfl := zj h
        exact zf [vb false] (.one (.rfl _ rfl))
       ·exact zs (m11 _ _ (zr (zg [6, 7] 2 [0,1,14,15] (zd (XR.sub (Sub.trans (Sub.pick (fr' := [(0, vl eField p1), (1, vl eField p2), (14, vi (p1.length : Int)), (15, vi (i64.wrap (x1 + (1 : Int))))]) [0,1,14,15] (by kernel_rfl)) (Sub.take (fr' := [(0, vl eField p1), (1, vl eField p2), (14, vi (p1.length : Int)), (15, vi (i64.wrap (x1 + (1 : Int))))]) 0 (Nat.zero_le _) (by kernel_rfl) (by kernel_rfl))) (ih1 (i64.wrap (x1 + (1 : Int))) h))))))
      rcases zW h with ⟨b17, h⟩ | ⟨b17, h⟩
      ·exact zr (zg [6, 7] 6 [0,1,6,7,14,15,31] (zt 31 b17 (zv [6, 7] 41 [0,1,14,15,72] [] (qa2141 p1 p2 x1) (qa2151 e1 e2) (zd (j1 true h _ _ (zk [0,1,14,15,72]))))))
      ·rcases zW h with ⟨b18, h⟩ | ⟨b18, h⟩
       ·exact zr (zg [6, 7] 6 [0,1,6,7,14,15,31] (zt 31 b17 (zg [6, 7] 7 [0,1,6,7,14,15,38] (zt 38 b18 (zv [6, 7] 34 [0,1,14,15,72] [] (qa2141 p1 p2 x1) (qa2151 e1 e2) (zd (j1 true h _ _ (zk [0,1,14,15,72]))))))))
       ·rcases zW h with ⟨b19, h⟩ | ⟨b19, h⟩
        ·refine zr (zg [6, 7] 6 [0,1,6,7,14,15,31] (zt 31 b17 (zg [6, 7] 7 [0,1,6,7,14,15,38] (zt 38 b18 (zv [6, 7] 7 [0,1,6,7,14,15,45] [] (qa2142 p1 p2 x1 e1 e2) (qa2151 e1 e2) (zt 45 b19 (zg [6, 7] 27 [0,1,14,15,72] ?_)))))))
         exact zd (j1 true h _ _ (zk [0,1,14,15,72]))
        ·rcases zW h with ⟨b20, h⟩ | ⟨b20, h⟩
         ·refine zr (zg [6, 7] 6 [0,1,6,7,14,15,31] (zt 31 b17 (zv [6, 7] 7 [0,1,6,7,14,15,38] [] [(0, vl eField p1), (1, vl eField p2), (6, vq 0), (7, vq 1), (14, vi (p1.length : Int)), (15, vi x1), (38, vb (!(e1.name.toList == e2.name.toList)))] (qa2151 e1 e2) (zt 38 b18 (zg [6, 7] 7 [0,1,6,7,14,15,45] (zt 45 b19 (zg [6, 7] 9 [0,1,6,7,14,15,54] ?_)))))))
          exact zt 54 b20 (zv [6, 7] 18 [0,1,14,15,72] [] (qa2141 p1 p2 x1) (qa2151 e1 e2) (zd (j1 true h _ _ (zk [0,1,14,15,72]))))
         ·rcases zW h with ⟨b21, h⟩ | ⟨b21, h⟩
          ·refine zr (zg [6, 7] 6 [0,1,6,7,14,15,31] (zt 31 b17 (zg [6, 7] 7 [0,1,6,7,14,15,38] (zt 38 b18 (zv [6, 7] 7 [0,1,6,7,14,15,45] [] (qa2142 p1 p2 x1 e1 e2) (qa2151 e1 e2) (zt 45 b19 (zg [6, 7] 9 [0,1,6,7,14,15,54] ?_)))))))
           exact zt 54 b20 (zg [6, 7] 9 [0,1,6,7,14,15,63] (zt 63 b21 (zv [6, 7] 9 [0,1,14,15,72] [] (qa2141 p1 p2 x1) (qa2151 e1 e2) (zd (j1 true h _ _ (zk [0,1,14,15,72]))))))
          ·obtain ⟨r1, c22, h⟩ := zB h
           refine zr (zg [6, 7] 6 [0,1,6,7,14,15,31] (zt 31 b17 (zg [6, 7] 7 [0,1,6,7,14,15,38] (zt 38 b18 (zv [6, 7] 7 [0,1,6,7,14,15,45] [] (qa2142 p1 p2 x1 e1 e2) (qa2151 e1 e2) (zt 45 b19 (zg [6, 7] 9 [0,1,6,7,14,15,54] ?_)))))))
           exact zt 54 b20 (zg [6, 7] 9 [0,1,6,7,14,15,63] (zt 63 b21 (zv [6, 7] 6 [0,1,14,15,63,66,69] [] [(0, vl eField p1), (1, vl eField p2), (14, vi (p1.length : Int)), (15, vi x1), (63, vb false), (66, vl eField e1.type.fields), (69, vl eField e2.type.fields)] (qa2151 e1 e2) (za (c_ref2_SameFields k0 _ _ _ c22) (zg [6, 7] 2 [0,1,14,15,72] (zd (j1 (!r1) h _ _ (zk [0,1,14,15,72]))))))))
     ·exact zx 0 (hQ1 _ _ _ (j2 () h _ _ (zk [])))
   exact XR.sub (zk [0,1,14,15]) (hL1 BIG (0 : Int) h)
def law3_sameType_j1 (x1 : Bool) : Option Bool :=
    some x1
def law3_sameType (p1 : GType) (p2 : GType) : Option Bool :=
    ift (p1.kind == p2.kind)
      (ift (p1.scale == p2.scale)
         (bnd (ref2_SameFields BIG p1.fields p2.fields) fun r1 =>
          law3_sameType_j1 r1)
         (law3_sameType_j1 false))
      (law3_sameType_j1 false)
abbrev qa2155 (p1 : GType) : List PV := [pi p1.kind, pi p1.scale, .ro (eField.els p1.fields)]
abbrev qa2156 (p2 : GType) : List PV := [pi p2.kind, pi p2.scale, .ro (eField.els p2.fields)]
theorem c_law3_sameType (p1 : GType) (p2 : GType) (r : Bool) (h : law3_sameType p1 p2 = some r) : PC Tryz.prog 11 [.ag [ci p1.kind, ci p1.scale, cl eField p1.fields], .ag [ci p2.kind, ci p2.scale, cl eField p2.fields]] (vb r) := by
 unfold law3_sameType at h
 refine zF 24 Tryz.f11 (zq fun K1 m1 => zr (zg [] 3 [2,3] (zd (m1 _ _ (zq fun K2 m2 => ?_)))))
 have j1 : ∀ (x1 : Bool), law3_sameType_j1 x1 = some r → ∀ w0 w1, Sub 24 0 [] w0 w1 [(4, vb x1)] [] → K2 w0 w1 := by
  intro x1 h w0 w1 hS
  unfold law3_sameType_j1 at h
  refine m2 _ _ (XW.sub hS ?_)
  refine ze ?_
  obtain rfl := zj h
  exact zf [vb x1] (.one (.rfl _ rfl))
 rcases zW h with ⟨b3, h⟩ | ⟨b3, h⟩
 ·rcases zW h with ⟨b4, h⟩ | ⟨b4, h⟩
  ·obtain ⟨r1, c5, h⟩ := zB h
   refine zr (zu [] 6 [2,3,10] [(qa2155 p1), (qa2156 p2)] (zt 10 b3 (zv [] 7 [2,3,17] [(qa2155 p1), (qa2156 p2)] [(2, vR (qa2155 p1)), (3, vR (qa2156 p2)), (17, vb (p1.scale == p2.scale))] [] (zt 17 b4 ?_))))
   exact zu [] 4 [17,19,21] [(qa2155 p1), (qa2156 p2)] (za (c_ref2_SameFields BIG _ _ _ c5) (zv [] 2 [4] [] [(4, vb r1)] [] (zd (j1 r1 h _ _ (zk [4])))))
  ·exact zr (zu [] 6 [2,3,10] [(qa2155 p1), (qa2156 p2)] (zt 10 b3 (zu [] 7 [2,3,17] [(qa2155 p1), (qa2156 p2)] (zt 17 b4 (zv [] 7 [4] [] [(4, vb false)] [] (zd (j1 false h _ _ (zk [4]))))))))
 ·exact zr (zu [] 6 [2,3,10] [(qa2155 p1), (qa2156 p2)] (zt 10 b3 (zv [] 14 [4] [] [(4, vb false)] [] (zd (j1 false h _ _ (zk [4]))))))
def ref1_characters_j2 (rec1 : Int → Option Bool) (x2 : Int) (x3 : Bool) : Option Bool :=
    ift x3
      (some false)
      (rec1 (i64.wrap (x2 + (1 : Int))))
def ref1_characters_j3 : Option Bool :=
    some true
def ref1_characters_l1 (p1 : ByteArray) : Nat → Int → Option Bool
  | 0, _ => none
  | k1 + 1, x2 =>
    ift (decide (x2 < (p1.size : Int)))
      (grd (0 ≤ x2 ∧ x2 < (p1.size : Int)) <|
       bnd (some (decide (((p1.data.toList.getD x2.toNat 0).toNat : Int) < (32 : Int)))) fun y1 =>
       ift y1
         (ref1_characters_j2 (ref1_characters_l1 p1 k1) x2 true)
         (grd (0 ≤ x2 ∧ x2 < (p1.size : Int)) <|
          ref1_characters_j2 (ref1_characters_l1 p1 k1) x2 (((p1.data.toList.getD x2.toNat 0).toNat : Int) == (127 : Int))))
      (ref1_characters_j3)
def ref1_characters_j1 (p1 : ByteArray) (x1 : Bool) : Option Bool :=
    ift x1
      (some false)
      (ref1_characters_l1 p1 BIG (0 : Int))
def ref1_characters (p1 : ByteArray) : Option Bool :=
    bnd (utf8_ValidString p1) fun r1 =>
    ift (!r1)
      (ref1_characters_j1 p1 true)
      (ref1_characters_j1 p1 (decide ((256 : Int) < (p1.size : Int))))
theorem c_ref1_characters (p1 : ByteArray) (r : Bool) (h : ref1_characters p1 = some r) : PC Tryz.prog 163 [vs p1] (vb r) := by
 unfold ref1_characters at h
 refine zF 28 Tryz.f163 (zq fun K1 m1 => zr (zg [] 1 [0] (zd (m1 _ _ (zq fun K2 m2 => zq fun K3 m3 => ?_)))))
 have j1 : ∀ (x1 : Bool), ref1_characters_j1 p1 x1 = some r → ∀ w0 w1, Sub 28 0 [] w0 w1 [(0, vs p1), (11, vb x1)] [] → K3 w0 w1 := by
  intro x1 h w0 w1 hS
  unfold ref1_characters_j1 at h
  refine m3 _ _ (XW.sub hS ?_)
  refine zC h (fun b6 h => ?_) (fun b6 h => ?_)
  ·refine zq fun K7 m7 => zr (zg [] 1 [2] (zd (m7 _ _ (ze ?_))))
   obtain rfl := zj h
   exact zf [vb false] (.one (.rfl _ rfl))
  ·refine zs (m2 _ _ (zq fun K8 m8 => ?_))
   have j3 : ∀ (_ : Unit), ref1_characters_j3 = some r → ∀ w0 w1, Sub 28 0 [] w0 w1 [] [] → K8 w0 w1 := by
    intro _ h w0 w1 hS
    unfold ref1_characters_j3 at h
    refine m8 _ _ (XW.sub hS ?_)
    refine zq fun K21 m21 => zr (zg [] 1 [2] (zd (m21 _ _ (ze ?_))))
    obtain rfl := zj h
    exact zf [vb true] (.one (.rfl _ rfl))
   refine zq fun K9 m9 => zr (zg [] 1 [0,3] (zd (m9 _ _ (zb 0 (XW.rounds' BIG (x := cd Tryz.f163 [1,1,0,1,0,0]) (by kernel_rfl) fun Q1 hQ1 => ?_)))))
   have hL1 : ∀ (k1 : Nat) (x2 : Int), ref1_characters_l1 p1 k1 x2 = some r → XR Tryz.prog 28 0 [] (cd Tryz.f163 [1,1,0,1,0,0]) Q1 k1 [(0, vs p1), (3, vi x2)] [] := by
    intro k1
    induction k1 with
    | zero => intro x2 h; rw [ref1_characters_l1.eq_1] at h; cases h
    | succ k1 ih1 =>
     intro x2 h
     rw [ref1_characters_l1.eq_2] at h
     refine zq fun K10 m10 => zq fun K11 m11 => zr (zg [] 4 [0,3,15] (zd (m11 _ _ (zC h (fun b12 h => ?_) (fun b12 h => ?_)))))
     ·refine zs (m10 _ _ (zq fun K13 m13 => zb 1 (zq fun K14 m14 => ?_)))
      have j2 : ∀ (x3 : Bool), ref1_characters_j2 (ref1_characters_l1 p1 k1) x2 x3 = some r → ∀ w0 w1, Sub 28 0 [] w0 w1 [(0, vs p1), (3, vi x2), (27, vb x3)] [] → K14 w0 w1 := by
       intro x3 h w0 w1 hS
       unfold ref1_characters_j2 at h
       refine m14 _ _ (XW.sub hS ?_)
       refine zC h (fun b19 h => ?_) (fun b19 h => ?_)
       ·refine zq fun K20 m20 => zr (zg [] 1 [2] (zd (m20 _ _ (ze (hQ1 _ _ _ ?_)))))
        obtain rfl := zj h
        exact zf [vb false] (.one (.rfl _ rfl))
       ·exact zs (m13 _ _ (zr (zg [] 3 [0,3] (zd (XR.sub (zk [0,3]) (ih1 (i64.wrap (x2 + (1 : Int))) h))))))
      obtain ⟨g15, h⟩ := zG h
      obtain ⟨y1, hy16, h⟩ := zB h
      rcases zW h with ⟨b17, h⟩ | ⟨b17, h⟩
      ·refine zr (zp [] 4 [0,3,21] [] [(0, vs p1), (3, vi x2), (21, vb (decide (((p1.data.toList.getD x2.toNat 0).toNat : Int) < (32 : Int))))] [] [0 ≤ x2 ∧ x2 < (p1.size : Int)] (⟨g15, trivial⟩) ?_)
       rw [show (decide (((p1.data.toList.getD x2.toNat 0).toNat : Int) < (32 : Int))) = y1 from zj hy16]
       exact zg [] 1 [0,3,22] (zt 22 b17 (zg [] 5 [0,3,27] (zd (j2 true h _ _ (zk [0,3,27])))))
      ·obtain ⟨g18, h⟩ := zG h
       refine zr (zp [] 4 [0,3,21] [] [(0, vs p1), (3, vi x2), (21, vb (decide (((p1.data.toList.getD x2.toNat 0).toNat : Int) < (32 : Int))))] [] [0 ≤ x2 ∧ x2 < (p1.size : Int)] (⟨g15, trivial⟩) ?_)
       rw [show (decide (((p1.data.toList.getD x2.toNat 0).toNat : Int) < (32 : Int))) = y1 from zj hy16]
       exact zg [] 1 [0,3,22] (zt 22 b17 (zo [] 5 [0,3,27] [] [0 ≤ x2 ∧ x2 < (p1.size : Int)] (⟨g18, trivial⟩) (zd (j2 (((p1.data.toList.getD x2.toNat 0).toNat : Int) == (127 : Int)) h _ _ (zk [0,3,27])))))
     ·exact zx 0 (hQ1 _ _ _ (j3 () h _ _ (zk [])))
   exact XR.sub (zk [0,3]) (hL1 BIG (0 : Int) h)
 obtain ⟨r1, c4, h⟩ := zB h
 rcases zW h with ⟨b5, h⟩ | ⟨b5, h⟩
 ·exact zr (zg [] 1 [0,4] (zl 180 [vs p1] (vb r1) [(5, vb r1), (0, vs p1), (4, vs p1)] (c_utf8_ValidString _ _ c4) (zg [] 2 [0,7] (zt 7 b5 (zg [] 4 [0,11] (zd (j1 true h _ _ (zk [0,11]))))))))
 ·exact zr (zv [] 1 [0,4] [] [(0, vs p1), (4, vs p1)] [] (za (c_utf8_ValidString _ _ c4) (zg [] 2 [0,7] (zt 7 b5 (zv [] 4 [0,11] [] [(0, vs p1), (11, vb (decide ((256 : Int) < (p1.size : Int))))] [] (zd (j1 (decide ((256 : Int) < (p1.size : Int))) h _ _ (zk [0,11]))))))))
def ref1_alone_j2 (x2 : Bool) : Option Bool :=
    some x2
def ref1_alone_j3 (x3 : Bool) : Option Bool :=
    some x3
def ref1_alone_j4 (x4 : Bool) : Option Bool :=
    some x4
def ref1_alone_j5 (x5 : Bool) : Option Bool :=
    some x5
def ref1_alone_j6 (x6 : Bool) : Option Bool :=
    some x6
def ref1_alone_j7 (x7 : Bool) : Option Bool :=
    some x7
def ref1_alone_j8 (x8 : Bool) : Option Bool :=
    some x8
def ref1_alone_j9 (x9 : Bool) : Option Bool :=
    some x9
def ref1_alone_j1 (p1 : GValue) (x1 : Bool) : Option Bool :=
    ift (p1.kind == (0 : Int))
      (ift x1
         (ift (p1.n == (0 : Int))
            (ref1_alone_j2 (p1.scale == (0 : Int)))
            (ref1_alone_j2 false))
         (ref1_alone_j2 false))
      (ift (p1.kind == (1 : Int))
         (ift x1
            (bnd (ref1_within p1.n (0 : Int) (1 : Int)) fun r1 =>
             ift r1
               (ref1_alone_j3 (p1.scale == (0 : Int)))
               (ref1_alone_j3 false))
            (ref1_alone_j3 false))
         (ift (p1.kind == (2 : Int))
            (ift x1
               (bnd (ref1_within p1.n (-999999999999999999 : Int) (999999999999999999 : Int)) fun r2 =>
                ift r2
                  (ref1_alone_j4 (p1.scale == (0 : Int)))
                  (ref1_alone_j4 false))
               (ref1_alone_j4 false))
            (ift (p1.kind == (3 : Int))
               (ift x1
                  (bnd (ref1_within p1.n (-999999999999999999 : Int) (999999999999999999 : Int)) fun r3 =>
                   ift r3
                     (bnd (ref1_within p1.scale (0 : Int) (12 : Int)) fun r4 =>
                      ref1_alone_j5 r4)
                     (ref1_alone_j5 false))
                  (ref1_alone_j5 false))
               (ift (p1.kind == (4 : Int))
                  (ift ((p1.items.length : Int) == (0 : Int))
                     (ift (p1.n == (0 : Int))
                        (ift (p1.scale == (0 : Int))
                           (bnd (ref1_characters p1.s) fun r5 =>
                            ref1_alone_j6 r5)
                           (ref1_alone_j6 false))
                        (ref1_alone_j6 false))
                     (ref1_alone_j6 false))
                  (ift (p1.kind == (5 : Int))
                     (ift x1
                        (bnd (ref1_within p1.n (-62135596800 : Int) (253402300799 : Int)) fun r6 =>
                         ift r6
                           (ref1_alone_j7 (p1.scale == (0 : Int)))
                           (ref1_alone_j7 false))
                        (ref1_alone_j7 false))
                     (ift (p1.kind == (6 : Int))
                        (ift (p1.s.toList == (ByteArray.mk #[]).toList)
                           (ift (p1.n == (0 : Int))
                              (ift (p1.scale == (0 : Int))
                                 (ref1_alone_j8 (decide ((p1.items.length : Int) ≤ (64 : Int))))
                                 (ref1_alone_j8 false))
                              (ref1_alone_j8 false))
                           (ref1_alone_j8 false))
                        (ift (p1.kind == (7 : Int))
                           (ift (p1.s.toList == (ByteArray.mk #[]).toList)
                              (ift (p1.n == (0 : Int))
                                 (ift (p1.scale == (0 : Int))
                                    (ref1_alone_j9 (decide ((0 : Int) < (p1.items.length : Int))))
                                    (ref1_alone_j9 false))
                                 (ref1_alone_j9 false))
                              (ref1_alone_j9 false))
                           (some false))))))))
def ref1_alone (p1 : GValue) : Option Bool :=
    ift (p1.s.toList == (ByteArray.mk #[]).toList)
      (ref1_alone_j1 p1 ((p1.items.length : Int) == (0 : Int)))
      (ref1_alone_j1 p1 false)
abbrev qa2167 (p1 : GValue) : List PV := [pi p1.kind, pi p1.n, pi p1.scale, .s (.string p1.s), .ro (eValue.els p1.items)]
abbrev qa2195 (p1 : GValue) : Fr := [(1, vR (qa2167 p1)), (106, vb (p1.s.toList == (ByteArray.mk #[]).toList))]
theorem c_ref1_alone (p1 : GValue) (r : Bool) (h : ref1_alone p1 = some r) : PC Tryz.prog 124 [.ag [ci p1.kind, ci p1.n, ci p1.scale, cst p1.s, cl eValue p1.items]] (vb r) := by
 unfold ref1_alone at h
 refine zF 143 Tryz.f124 (zq fun K1 m1 => zr (zg [] 2 [1] (zd (m1 _ _ (zq fun K2 m2 => ?_)))))
 have j1 : ∀ (x1 : Bool), ref1_alone_j1 p1 x1 = some r → ∀ w0 w1, Sub 143 0 [] w0 w1 [(1, vR (qa2167 p1)), (3, vb x1)] [] → K2 w0 w1 := by
  intro x1 h w0 w1 hS
  unfold ref1_alone_j1 at h
  refine m2 _ _ (XW.sub hS ?_)
  refine zq fun K4 m4 => zq fun K5 m5 => zr (zu [] 2 [1,3,14] [(qa2167 p1)] (zd (m5 _ _ (zb 0 (zq fun K6 m6 => ?_)))))
  refine zr (zg [] 2 [1,3,14,15] (zd (m6 _ _ (zC h (fun b7 h => ?_) (fun b7 h => ?_)))))
  ·refine zq fun K8 m8 => ?_
   have j2 : ∀ (x2 : Bool), ref1_alone_j2 x2 = some r → ∀ w0 w1, Sub 143 0 [] w0 w1 [(2, vb x2)] [] → K8 w0 w1 := by
    intro x2 h w0 w1 hS
    unfold ref1_alone_j2 at h
    refine m8 _ _ (XW.sub hS ?_)
    refine ze ?_
    obtain rfl := zj h
    exact zf [vb x2] (.one (.rfl _ rfl))
   rcases zW h with ⟨b9, h⟩ | ⟨b9, h⟩
   ·rcases zW h with ⟨b10, h⟩ | ⟨b10, h⟩
    ·exact zr (zv [] 2 [1,18] [] [(1, vR (qa2167 p1)), (18, vb x1)] [] (zt 18 b9 (zu [] 5 [1,23] [(qa2167 p1)] (zt 23 b10 (zu [] 5 [2] [(qa2167 p1)] (zd (j2 (p1.scale == (0 : Int)) h _ _ (zk [2]))))))))
    ·exact zr (zv [] 2 [1,18] [] [(1, vR (qa2167 p1)), (18, vb x1)] [] (zt 18 b9 (zu [] 5 [1,23] [(qa2167 p1)] (zt 23 b10 (zg [] 5 [2] (zd (j2 false h _ _ (zk [2]))))))))
   ·exact zr (zv [] 2 [1,18] [] [(1, vR (qa2167 p1)), (18, vb x1)] [] (zt 18 b9 (zg [] 10 [2] (zd (j2 false h _ _ (zk [2]))))))
  ·refine zq fun K11 m11 => zr (zv [] 2 [1,3,14,28] [] [(1, vR (qa2167 p1)), (3, vb x1), (14, vi p1.kind), (28, vb (p1.kind == (1 : Int)))] [] (zd (m11 _ _ (zC h (fun b12 h => ?_) (fun b12 h => ?_)))))
   ·refine zq fun K13 m13 => ?_
    have j3 : ∀ (x3 : Bool), ref1_alone_j3 x3 = some r → ∀ w0 w1, Sub 143 0 [] w0 w1 [(2, vb x3)] [] → K13 w0 w1 := by
     intro x3 h w0 w1 hS
     unfold ref1_alone_j3 at h
     refine m13 _ _ (XW.sub hS ?_)
     refine ze ?_
     obtain rfl := zj h
     exact zf [vb x3] (.one (.rfl _ rfl))
    rcases zW h with ⟨b14, h⟩ | ⟨b14, h⟩
    ·obtain ⟨r1, c15, h⟩ := zB h
     rcases zW h with ⟨b16, h⟩ | ⟨b16, h⟩
     ·refine zr (zg [] 2 [1,31] (zt 31 b14 (zu [] 2 [1,31,33] [(qa2167 p1)] (zl 73 [vi p1.n, vi 0, vi 1] (vb r1) [(34, vb r1), (1, vR (qa2167 p1)), (31, vb true), (33, vi p1.n)] (c_ref1_within _ _ _ _ c15) (zg [] 2 [1,36] (zt 36 b16 (zu [] 5 [2] [(qa2167 p1)] ?_)))))))
      exact zd (j3 (p1.scale == (0 : Int)) h _ _ (zk [2]))
     ·refine zr (zv [] 2 [1,31] [] [(1, vR (qa2167 p1)), (31, vb x1)] [] (zt 31 b14 (zu [] 2 [1,31,33] [(qa2167 p1)] (za (c_ref1_within _ _ _ _ c15) (zv [] 2 [1,36] [] [(1, vR (qa2167 p1)), (36, vb r1)] [] (zt 36 b16 (zg [] 5 [2] ?_)))))))
      exact zd (j3 false h _ _ (zk [2]))
    ·exact zr (zg [] 2 [1,31] (zt 31 b14 (zg [] 10 [2] (zd (j3 false h _ _ (zk [2]))))))
   ·refine zq fun K17 m17 => zr (zg [] 2 [1,3,14,41] (zd (m17 _ _ (zC h (fun b18 h => ?_) (fun b18 h => ?_)))))
    ·refine zq fun K19 m19 => ?_
     have j4 : ∀ (x4 : Bool), ref1_alone_j4 x4 = some r → ∀ w0 w1, Sub 143 0 [] w0 w1 [(2, vb x4)] [] → K19 w0 w1 := by
      intro x4 h w0 w1 hS
      unfold ref1_alone_j4 at h
      refine m19 _ _ (XW.sub hS ?_)
      refine ze ?_
      obtain rfl := zj h
      exact zf [vb x4] (.one (.rfl _ rfl))
     rcases zW h with ⟨b20, h⟩ | ⟨b20, h⟩
     ·obtain ⟨r2, c21, h⟩ := zB h
      rcases zW h with ⟨b22, h⟩ | ⟨b22, h⟩
      ·refine zr (zg [] 2 [1,44] (zt 44 b20 (zv [] 2 [1,44,46] [(qa2167 p1)] [(1, vR (qa2167 p1)), (44, vb true), (46, vi p1.n)] [] (za (c_ref1_within _ _ _ _ c21) (zg [] 2 [1,49] (zt 49 b22 (zv [] 5 [2] [(qa2167 p1)] [(2, vb (p1.scale == (0 : Int)))] [] ?_)))))))
       exact zd (j4 (p1.scale == (0 : Int)) h _ _ (zk [2]))
      ·refine zr (zg [] 2 [1,44] (zt 44 b20 (zu [] 2 [1,44,46] [(qa2167 p1)] (zl 73 [vi p1.n, vi (-999999999999999999), vi 999999999999999999] (vb r2) [(47, vb r2), (1, vR (qa2167 p1)), (44, vb true), (46, vi p1.n)] (c_ref1_within _ _ _ _ c21) (zg [] 2 [1,49] (zt 49 b22 (zg [] 5 [2] ?_)))))))
       exact zd (j4 false h _ _ (zk [2]))
     ·exact zr (zg [] 2 [1,44] (zt 44 b20 (zv [] 10 [2] [] [(2, vb false)] [] (zd (j4 false h _ _ (zk [2]))))))
    ·refine zq fun K23 m23 => zr (zg [] 2 [1,3,14,54] (zd (m23 _ _ (zC h (fun b24 h => ?_) (fun b24 h => ?_)))))
     ·refine zq fun K25 m25 => ?_
      have j5 : ∀ (x5 : Bool), ref1_alone_j5 x5 = some r → ∀ w0 w1, Sub 143 0 [] w0 w1 [(2, vb x5)] [] → K25 w0 w1 := by
       intro x5 h w0 w1 hS
       unfold ref1_alone_j5 at h
       refine m25 _ _ (XW.sub hS ?_)
       refine ze ?_
       obtain rfl := zj h
       exact zf [vb x5] (.one (.rfl _ rfl))
      rcases zW h with ⟨b26, h⟩ | ⟨b26, h⟩
      ·obtain ⟨r3, c27, h⟩ := zB h
       rcases zW h with ⟨b28, h⟩ | ⟨b28, h⟩
       ·obtain ⟨r4, c29, h⟩ := zB h
        refine zr (zv [] 2 [1,57] [] [(1, vR (qa2167 p1)), (57, vb x1)] [] (zt 57 b26 (zu [] 2 [1,57,59] [(qa2167 p1)] (za (c_ref1_within _ _ _ _ c27) (zv [] 2 [1,62] [] [(1, vR (qa2167 p1)), (62, vb r3)] [] (zt 62 b28 (zu [] 2 [62,64] [(qa2167 p1)] ?_)))))))
        exact za (c_ref1_within _ _ _ _ c29) (zv [] 2 [2] [] [(2, vb r4)] [] (zd (j5 r4 h _ _ (zk [2]))))
       ·refine zr (zg [] 2 [1,57] (zt 57 b26 (zu [] 2 [1,57,59] [(qa2167 p1)] (zl 73 [vi p1.n, vi (-999999999999999999), vi 999999999999999999] (vb r3) [(60, vb r3), (1, vR (qa2167 p1)), (57, vb true), (59, vi p1.n)] (c_ref1_within _ _ _ _ c27) (zg [] 2 [1,62] (zt 62 b28 (zg [] 5 [2] ?_)))))))
        exact zd (j5 false h _ _ (zk [2]))
      ·exact zr (zv [] 2 [1,57] [] [(1, vR (qa2167 p1)), (57, vb x1)] [] (zt 57 b26 (zg [] 10 [2] (zd (j5 false h _ _ (zk [2]))))))
     ·refine zq fun K30 m30 => zr (zv [] 2 [1,3,14,67] [] [(1, vR (qa2167 p1)), (3, vb x1), (14, vi p1.kind), (67, vb (p1.kind == (4 : Int)))] [] (zd (m30 _ _ (zC h (fun b31 h => ?_) (fun b31 h => ?_)))))
      ·refine zq fun K32 m32 => ?_
       have j6 : ∀ (x6 : Bool), ref1_alone_j6 x6 = some r → ∀ w0 w1, Sub 143 0 [] w0 w1 [(2, vb x6)] [] → K32 w0 w1 := by
        intro x6 h w0 w1 hS
        unfold ref1_alone_j6 at h
        refine m32 _ _ (XW.sub hS ?_)
        refine ze ?_
        obtain rfl := zj h
        exact zf [vb x6] (.one (.rfl _ rfl))
       rcases zW h with ⟨b33, h⟩ | ⟨b33, h⟩
       ·rcases zW h with ⟨b34, h⟩ | ⟨b34, h⟩
        ·rcases zW h with ⟨b35, h⟩ | ⟨b35, h⟩
         ·obtain ⟨r5, c36, h⟩ := zB h
          refine zr (zv [] 3 [1,71] [[pi p1.kind, pi p1.n, pi p1.scale, .s (.string p1.s), .ro (eValue.els p1.items)]] [(1, vR [pi p1.kind, pi p1.n, pi p1.scale, .s (.string p1.s), .ro (eValue.els p1.items)]), (71, vi ((eValue.els p1.items).length : Int))] [] ?_)
          rw [eValue.len p1.items]
          refine zg [] 2 [1,73] (zt 73 b33 (zu [] 5 [1,78] [(qa2167 p1)] (zt 78 b34 (zv [] 5 [1,83] [(qa2167 p1)] [(1, vR (qa2167 p1)), (83, vb (p1.scale == (0 : Int)))] [] (zt 83 b35 (zu [] 2 [83,85] [(qa2167 p1)] (za (c_ref1_characters _ _ c36) ?_)))))))
          exact zv [] 2 [2] [] [(2, vb r5)] [] (zd (j6 r5 h _ _ (zk [2])))
         ·refine zr (zv [] 3 [1,71] [[pi p1.kind, pi p1.n, pi p1.scale, .s (.string p1.s), .ro (eValue.els p1.items)]] [(1, vR [pi p1.kind, pi p1.n, pi p1.scale, .s (.string p1.s), .ro (eValue.els p1.items)]), (71, vi ((eValue.els p1.items).length : Int))] [] ?_)
          rw [eValue.len p1.items]
          refine zg [] 2 [1,73] (zt 73 b33 (zu [] 5 [1,78] [(qa2167 p1)] (zt 78 b34 (zv [] 5 [1,83] [(qa2167 p1)] [(1, vR (qa2167 p1)), (83, vb (p1.scale == (0 : Int)))] [] (zt 83 b35 (zg [] 5 [2] (zd ?_)))))))
          exact j6 false h _ _ (zk [2])
        ·refine zr (zv [] 3 [1,71] [[pi p1.kind, pi p1.n, pi p1.scale, .s (.string p1.s), .ro (eValue.els p1.items)]] [(1, vR [pi p1.kind, pi p1.n, pi p1.scale, .s (.string p1.s), .ro (eValue.els p1.items)]), (71, vi ((eValue.els p1.items).length : Int))] [] ?_)
         rw [eValue.len p1.items]
         exact zg [] 2 [1,73] (zt 73 b33 (zu [] 5 [1,78] [(qa2167 p1)] (zt 78 b34 (zv [] 10 [2] [] [(2, vb false)] [] (zd (j6 false h _ _ (zk [2])))))))
       ·refine zr (zv [] 3 [1,71] [[pi p1.kind, pi p1.n, pi p1.scale, .s (.string p1.s), .ro (eValue.els p1.items)]] [(1, vR [pi p1.kind, pi p1.n, pi p1.scale, .s (.string p1.s), .ro (eValue.els p1.items)]), (71, vi ((eValue.els p1.items).length : Int))] [] ?_)
        rw [eValue.len p1.items]
        exact zg [] 2 [1,73] (zt 73 b33 (zg [] 15 [2] (zd (j6 false h _ _ (zk [2])))))
      ·refine zq fun K37 m37 => zr (zg [] 2 [1,3,14,88] (zd (m37 _ _ (zC h (fun b38 h => ?_) (fun b38 h => ?_)))))
       ·refine zq fun K39 m39 => ?_
        have j7 : ∀ (x7 : Bool), ref1_alone_j7 x7 = some r → ∀ w0 w1, Sub 143 0 [] w0 w1 [(2, vb x7)] [] → K39 w0 w1 := by
         intro x7 h w0 w1 hS
         unfold ref1_alone_j7 at h
         refine m39 _ _ (XW.sub hS ?_)
         refine ze ?_
         obtain rfl := zj h
         exact zf [vb x7] (.one (.rfl _ rfl))
        rcases zW h with ⟨b40, h⟩ | ⟨b40, h⟩
        ·obtain ⟨r6, c41, h⟩ := zB h
         rcases zW h with ⟨b42, h⟩ | ⟨b42, h⟩
         ·refine zr (zg [] 2 [1,91] (zt 91 b40 (zv [] 2 [1,91,93] [(qa2167 p1)] [(1, vR (qa2167 p1)), (91, vb true), (93, vi p1.n)] [] (za (c_ref1_within _ _ _ _ c41) (zg [] 2 [1,96] (zt 96 b42 (zv [] 5 [2] [(qa2167 p1)] [(2, vb (p1.scale == (0 : Int)))] [] ?_)))))))
          exact zd (j7 (p1.scale == (0 : Int)) h _ _ (zk [2]))
         ·refine zr (zg [] 2 [1,91] (zt 91 b40 (zu [] 2 [1,91,93] [(qa2167 p1)] (zl 73 [vi p1.n, vi (-62135596800), vi 253402300799] (vb r6) [(94, vb r6), (1, vR (qa2167 p1)), (91, vb true), (93, vi p1.n)] (c_ref1_within _ _ _ _ c41) (zg [] 2 [1,96] (zt 96 b42 (zg [] 5 [2] ?_)))))))
          exact zd (j7 false h _ _ (zk [2]))
        ·exact zr (zg [] 2 [1,91] (zt 91 b40 (zv [] 10 [2] [] [(2, vb false)] [] (zd (j7 false h _ _ (zk [2]))))))
       ·refine zq fun K43 m43 => zr (zg [] 2 [1,14,101] (zd (m43 _ _ (zC h (fun b44 h => ?_) (fun b44 h => ?_)))))
        ·refine zq fun K45 m45 => ?_
         have j8 : ∀ (x8 : Bool), ref1_alone_j8 x8 = some r → ∀ w0 w1, Sub 143 0 [] w0 w1 [(2, vb x8)] [] → K45 w0 w1 := by
          intro x8 h w0 w1 hS
          unfold ref1_alone_j8 at h
          refine m45 _ _ (XW.sub hS ?_)
          refine ze ?_
          obtain rfl := zj h
          exact zf [vb x8] (.one (.rfl _ rfl))
         rcases zW h with ⟨b46, h⟩ | ⟨b46, h⟩
         ·rcases zW h with ⟨b47, h⟩ | ⟨b47, h⟩
          ·rcases zW h with ⟨b48, h⟩ | ⟨b48, h⟩
           ·refine zr (zv [] 4 [1,106] [(qa2167 p1)] (qa2195 p1) [] (zt 106 b46 (zu [] 5 [1,111] [(qa2167 p1)] (zt 111 b47 (zu [] 5 [1,116] [(qa2167 p1)] (zt 116 b48 ?_))))))
            refine zv [] 3 [116,119] [[pi p1.kind, pi p1.n, pi p1.scale, .s (.string p1.s), .ro (eValue.els p1.items)]] [(116, vb true), (119, vi ((eValue.els p1.items).length : Int))] [] ?_
            rw [eValue.len p1.items]
            exact zg [] 3 [2] (zd (j8 (decide ((p1.items.length : Int) ≤ (64 : Int))) h _ _ (zk [2])))
           ·refine zr (zu [] 4 [1,106] [(qa2167 p1)] (zt 106 b46 (zv [] 5 [1,111] [(qa2167 p1)] [(1, vR (qa2167 p1)), (111, vb (p1.n == (0 : Int)))] [] (zt 111 b47 (zu [] 5 [1,116] [(qa2167 p1)] (zt 116 b48 (zg [] 6 [2] ?_)))))))
            exact zd (j8 false h _ _ (zk [2]))
          ·exact zr (zv [] 4 [1,106] [(qa2167 p1)] (qa2195 p1) [] (zt 106 b46 (zu [] 5 [1,111] [(qa2167 p1)] (zt 111 b47 (zg [] 11 [2] (zd (j8 false h _ _ (zk [2]))))))))
         ·exact zr (zv [] 4 [1,106] [(qa2167 p1)] (qa2195 p1) [] (zt 106 b46 (zg [] 16 [2] (zd (j8 false h _ _ (zk [2]))))))
        ·refine zq fun K49 m49 => zr (zv [] 2 [1,122] [] [(1, vR (qa2167 p1)), (122, vb (p1.kind == (7 : Int)))] [] (zd (m49 _ _ (zC h (fun b50 h => ?_) (fun b50 h => ?_)))))
         ·refine zq fun K51 m51 => ?_
          have j9 : ∀ (x9 : Bool), ref1_alone_j9 x9 = some r → ∀ w0 w1, Sub 143 0 [] w0 w1 [(2, vb x9)] [] → K51 w0 w1 := by
           intro x9 h w0 w1 hS
           unfold ref1_alone_j9 at h
           refine m51 _ _ (XW.sub hS ?_)
           refine ze ?_
           obtain rfl := zj h
           exact zf [vb x9] (.one (.rfl _ rfl))
          rcases zW h with ⟨b52, h⟩ | ⟨b52, h⟩
          ·rcases zW h with ⟨b53, h⟩ | ⟨b53, h⟩
           ·rcases zW h with ⟨b54, h⟩ | ⟨b54, h⟩
            ·refine zr (zu [] 4 [1,127] [(qa2167 p1)] (zt 127 b52 (zu [] 5 [1,132] [(qa2167 p1)] (zt 132 b53 (zv [] 5 [1,137] [(qa2167 p1)] [(1, vR (qa2167 p1)), (137, vb (p1.scale == (0 : Int)))] [] (zt 137 b54 ?_))))))
             refine zv [] 3 [137,140] [[pi p1.kind, pi p1.n, pi p1.scale, .s (.string p1.s), .ro (eValue.els p1.items)]] [(137, vb true), (140, vi ((eValue.els p1.items).length : Int))] [] ?_
             rw [eValue.len p1.items]
             exact zg [] 3 [2] (zd (j9 (decide ((0 : Int) < (p1.items.length : Int))) h _ _ (zk [2])))
            ·refine zr (zu [] 4 [1,127] [(qa2167 p1)] (zt 127 b52 (zv [] 5 [1,132] [(qa2167 p1)] [(1, vR (qa2167 p1)), (132, vb (p1.n == (0 : Int)))] [] (zt 132 b53 (zu [] 5 [1,137] [(qa2167 p1)] (zt 137 b54 (zg [] 6 [2] ?_)))))))
             exact zd (j9 false h _ _ (zk [2]))
           ·exact zr (zu [] 4 [1,127] [(qa2167 p1)] (zt 127 b52 (zu [] 5 [1,132] [(qa2167 p1)] (zt 132 b53 (zv [] 11 [2] [] [(2, vb false)] [] (zd (j9 false h _ _ (zk [2]))))))))
          ·exact zr (zu [] 4 [1,127] [(qa2167 p1)] (zt 127 b52 (zg [] 16 [2] (zd (j9 false h _ _ (zk [2]))))))
         ·refine zs (m4 _ _ (zq fun K55 m55 => zr (zg [] 1 [2] (zd (m55 _ _ (ze ?_))))))
          obtain rfl := zj h
          exact zf [vb false] (.one (.rfl _ rfl))
 rcases zW h with ⟨b3, h⟩ | ⟨b3, h⟩
 ·refine zr (zu [] 4 [1,7] [[pi p1.kind, pi p1.n, pi p1.scale, .s (.string p1.s), .ro (eValue.els p1.items)]] (zt 7 b3 (zv [] 3 [1,7,10] [[pi p1.kind, pi p1.n, pi p1.scale, .s (.string p1.s), .ro (eValue.els p1.items)]] [(1, vR [pi p1.kind, pi p1.n, pi p1.scale, .s (.string p1.s), .ro (eValue.els p1.items)]), (7, vb true), (10, vi ((eValue.els p1.items).length : Int))] [] ?_)))
  rw [eValue.len p1.items]
  exact zg [] 3 [1,3] (zd (j1 ((p1.items.length : Int) == (0 : Int)) h _ _ (zk [1,3])))
 ·exact zr (zu [] 4 [1,7] [(qa2167 p1)] (zt 7 b3 (zv [] 6 [1,3] [] [(1, vR (qa2167 p1)), (3, vb false)] [] (zd (j1 false h _ _ (zk [1,3]))))))
end Go.Proofs.YtmaemlebpjnmoaaGreatDoor
