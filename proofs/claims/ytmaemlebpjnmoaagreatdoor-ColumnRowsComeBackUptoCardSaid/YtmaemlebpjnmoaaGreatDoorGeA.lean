/- The shelf's contract of utf8.ValidString, laid at this program. Printed by a program: what the functions compute, and the proofs of their contracts. -/
import Derived.Test.YtmaemlebpjnmoaaGreatDoorProg
import Derived.Test.YtmaemlebpjnmoaaGreatDoorChecked
import Derived.Test.YtmaemlebpjnmoaaGreatDoorSxC
set_option linter.unusedVariables false
set_option linter.unusedSimpArgs false
set_option linter.unnecessarySimpa false
namespace Go.Proofs.YtmaemlebpjnmoaaGreatDoor
open Go Go.SX Go.Shelf Go.Lib
def Cc : Ren where
 f := fun n => if n = 196 then 180 else if n = 259 then 193 else n
 t := fun n => if n = 0 then 0 else if n = 3 then 3 else if n = 4 then 4 else if n = 5 then 5 else if n = 9 then 9 else if n = 12 then 12 else if n = 46 then 217 else if n = 53 then 64 else if n = 119 then 230 else if n = 138 then 232 else if n = 139 then 233 else n
 g := fun n => if n = 3 then 0 else if n = 4 then 1 else n
set_option maxRecDepth 100000 in
theorem Bd : Lays.n196 Tryz.prog Cc where
 mixed := by kernel_rfl
 f196 := by kernel_rfl
 f259 := by kernel_rfl
 t0 := by kernel_rfl
 a0 := fun w => by kernel_rfl
 z0 := fun w => by kernel_rfl
 v0 := fun w => by kernel_rfl
 t3 := by kernel_rfl
 a3 := fun w => by kernel_rfl
 z3 := fun w => by kernel_rfl
 v3 := fun w => by kernel_rfl
 t4 := by kernel_rfl
 a4 := fun w => by kernel_rfl
 z4 := fun w => by kernel_rfl
 v4 := fun w => by kernel_rfl
 t5 := by kernel_rfl
 a5 := fun w => by kernel_rfl
 z5 := fun w => by kernel_rfl
 v5 := fun w => by kernel_rfl
 t9 := by kernel_rfl
 a9 := fun w => by kernel_rfl
 z9 := fun w => by kernel_rfl
 v9 := fun w => by kernel_rfl
 t12 := by kernel_rfl
 a12 := fun w => by kernel_rfl
 z12 := fun w => by kernel_rfl
 v12 := fun w => by kernel_rfl
 t46 := by kernel_rfl
 a46 := fun w => by kernel_rfl
 z46 := fun w => by kernel_rfl
 v46 := fun w => by kernel_rfl
 t53 := by kernel_rfl
 a53 := fun w => by kernel_rfl
 z53 := fun w => by kernel_rfl
 v53 := fun w => by kernel_rfl
 t119 := by kernel_rfl
 a119 := fun w => by kernel_rfl
 z119 := fun w => by kernel_rfl
 t138 := by kernel_rfl
 a138 := fun w => by kernel_rfl
 z138 := fun w => by kernel_rfl
 v138 := fun w => by kernel_rfl
 t139 := by kernel_rfl
 a139 := fun w => by kernel_rfl
 z139 := fun w => by kernel_rfl
 v139 := fun w => by kernel_rfl
 g3 := by kernel_rfl
 g4 := by kernel_rfl
def utf8_ValidString (p1 : ByteArray) : Option Bool := fL (p1.size ≤ 9223372036854775807) <| some (validD p1.data.toList)
theorem jz (p1 : ByteArray) (r : Bool) (h : utf8_ValidString p1 = some r) : PC Tryz.prog 180 [vs p1] (vb r) := by
 unfold utf8_ValidString at h
 obtain ⟨g1, h⟩ := uz h
 obtain rfl := Option.some.inj h
 exact q6 Bd (by kernel_rfl) (by kernel_rfl) p1 g1
end Go.Proofs.YtmaemlebpjnmoaaGreatDoor
namespace Go.Proofs.YtmaemlebpjnmoaaGreatDoor
open Go.SX Go
open Go.IntKind (i64 u64 u8 i32 u32)
set_option maxRecDepth 100000
set_option maxHeartbeats 8000000
def oN : Option (List ah) := some ([(iU.mk (1 : Int) (ByteArray.mk #[97]) false (aw.mk (2 : Int) (0 : Int) []))])
theorem uh (r : (List ah)) (h : oN = some r) : PC Tryz.prog 50 [] (vl ab r) := by
 unfold oN at h
 refine zF 4 Tryz.f50 (zq fun K1 m1 => zr (zg [] 1 [] (zd (m1 _ _ (zq fun K2 m2 => zr ?_)))))
 refine zg [] 4 [0] (zd (m2 _ _ (ze ?_)))
 obtain rfl := zj h
 exact zf [vl ab ([(iU.mk (1 : Int) (ByteArray.mk #[97]) false (aw.mk (2 : Int) (0 : Int) []))])] (.one (.rfl _ rfl))
def ny (p1 : Int) : Option ac := some (ac.mk (2 : Int) p1 (0 : Int) ByteArray.empty [])
theorem so (p1 : Int) (r : ac) (h : ny p1 = some r) : PC Tryz.prog 51 [vi p1] (.ag [ci r.kind, ci r.n, ci r.scale, cj r.s, cl aa r.items]) := by
 unfold ny at h
 refine zF 5 Tryz.f51 (zq fun K1 m1 => zr (zg [2] 1 [0,2] (zd (m1 _ _ (zq fun K2 m2 => zr ?_)))))
 refine zg [2] 3 [2] (zd (m2 _ _ (ze ?_)))
 obtain rfl := zj h
 exact zf [.ag [ci 2, ci p1, ci 0, cj ByteArray.empty, .pv (.s (.slice none 0 0))]] (.ag (.cons (.rfl _ rfl) (.cons (.rfl _ rfl) (.cons (.rfl _ rfl) (.cons (.rfl _ rfl) (.cons (.nl) .nil))))))
def je (x1 : Bool) : Option Bool := some x1
def kj (p1 : aw) : Option Bool := aI (p1.kind != 6) (je (p1.kind != 7)) (je false)
abbrev aj (p1 : aw) : List PV := [pi p1.kind, pi p1.scale, .ro (ab.els p1.fields)]
theorem mH (p1 : aw) (r : Bool) (h : kj p1 = some r) : PC Tryz.prog 107 [.ag [ci p1.kind, ci p1.scale, cl ab p1.fields]] (vb r) := by
 unfold kj at h
 refine zF 11 Tryz.f107 (zq fun K1 m1 => zr (zg [] 2 [1] (zd (m1 _ _ (zq fun K2 m2 => ?_)))))
 have j1 : ∀ (x1 : Bool), je x1 = some r → ∀ w0 w1, aL 11 0 [] w0 w1 [(2, vb x1)] [] → K2 w0 w1 := by
  intro x1 h w0 w1 hS
  unfold je at h
  refine m2 _ _ (XW.sub hS ?_)
  refine ze ?_
  obtain rfl := zj h
  exact zf [vb x1] (.one (.rfl _ rfl))
 rcases zW h with ⟨b3, h⟩ | ⟨b3, h⟩
 ·exact zr (zu [] 4 [1,6] [(aj p1)] (zt 6 b3 (zv [] 5 [2] [(aj p1)] [(2, vb (p1.kind != 7))] [] (zd (j1 (p1.kind != 7) h _ _ (zk [2]))))))
 ·exact zr (zu [] 4 [1,6] [(aj p1)] (zt 6 b3 (zg [] 5 [2] (zd (j1 false h _ _ (zk [2]))))))
def dh (x1 : Bool) : Option Bool := some x1
def ka (p1 : Int) : Option Bool := aI (decide (p1 < (97 : Int))) (aI (decide (p1 < (48 : Int))) (dh (p1 != 95)) (aI (decide ((57 : Int) < p1)) (dh (p1 != 95)) (dh false))) (aI (decide ((122 : Int) < p1)) (aI (decide (p1 < (48 : Int))) (dh (p1 != 95)) (aI (decide ((57 : Int) < p1)) (dh (p1 != 95)) (dh false))) (dh false))
abbrev xn (p1 : Int) : Fr := [(0, vk .i32 p1), (9, vb (decide ((122 : Int) < p1)))]
theorem rO (p1 : Int) (r : Bool) (h : ka p1 = some r) : PC Tryz.prog 178 [vk .i32 p1] (vb r) := by
 unfold ka at h
 refine zF 21 Tryz.f178 (zq fun K1 m1 => zr (zg [] 1 [0] (zd (m1 _ _ (zq fun K2 m2 => ?_)))))
 have j1 : ∀ (x1 : Bool), dh x1 = some r → ∀ w0 w1, aL 21 0 [] w0 w1 [(2, vb x1)] [] → K2 w0 w1 := by
  intro x1 h w0 w1 hS
  unfold dh at h
  refine m2 _ _ (XW.sub hS ?_)
  refine ze ?_
  obtain rfl := zj h
  exact zf [vb x1] (.one (.rfl _ rfl))
 rcases zW h with ⟨b3, h⟩ | ⟨b3, h⟩
 ·rcases zW h with ⟨b4, h⟩ | ⟨b4, h⟩
  ·exact zr (zg [] 3 [0,5] (zt 5 b3 (zv [] 7 [0,9,12] [] [(0, vk .i32 p1), (9, vb true), (12, vb (decide (p1 < (48 : Int))))] [] (zt 12 b4 (zg [] 9 [2] (zd (j1 (p1 != 95) h _ _ (zk [2]))))))))
  ·rcases zW h with ⟨b5, h⟩ | ⟨b5, h⟩
   ·refine zr (zg [] 3 [0,5] (zt 5 b3 (zv [] 7 [0,9,12] [] [(0, vk .i32 p1), (9, vb true), (12, vb (decide (p1 < (48 : Int))))] [] (zt 12 b4 (zg [] 5 [0,17] (zt 17 b5 (zg [] 4 [2] ?_)))))))
    exact zd (j1 (p1 != 95) h _ _ (zk [2]))
   ·refine zr (zv [] 3 [0,5] [] [(0, vk .i32 p1), (5, vb (decide (p1 < (97 : Int))))] [] (zt 5 b3 (zg [] 7 [0,9,12] (zt 12 b4 (zg [] 5 [0,17] (zt 17 b5 (zv [] 4 [2] [] [(2, vb false)] [] ?_)))))))
    exact zd (j1 false h _ _ (zk [2]))
 ·rcases zW h with ⟨b6, h⟩ | ⟨b6, h⟩
  ·rcases zW h with ⟨b7, h⟩ | ⟨b7, h⟩
   ·refine zr (zg [] 3 [0,5] (zt 5 b3 (zv [] 4 [0,9] [] (xn p1) [] (zt 9 b6 (zg [] 3 [0,9,12] (zt 12 b7 (zg [] 9 [2] ?_)))))))
    exact zd (j1 (p1 != 95) h _ _ (zk [2]))
   ·rcases zW h with ⟨b8, h⟩ | ⟨b8, h⟩
    ·refine zr (zv [] 3 [0,5] [] [(0, vk .i32 p1), (5, vb (decide (p1 < (97 : Int))))] [] (zt 5 b3 (zg [] 4 [0,9] (zt 9 b6 (zg [] 3 [0,9,12] (zt 12 b7 (zv [] 5 [0,17] [] [(0, vk .i32 p1), (17, vb (decide ((57 : Int) < p1)))] [] ?_)))))))
     exact zt 17 b8 (zg [] 4 [2] (zd (j1 (p1 != 95) h _ _ (zk [2]))))
    ·refine zr (zg [] 3 [0,5] (zt 5 b3 (zv [] 4 [0,9] [] (xn p1) [] (zt 9 b6 (zg [] 3 [0,9,12] (zt 12 b7 (zg [] 5 [0,17] ?_)))))))
     exact zt 17 b8 (zv [] 4 [2] [] [(2, vb false)] [] (zd (j1 false h _ _ (zk [2]))))
  ·exact zr (zg [] 3 [0,5] (zt 5 b3 (zv [] 4 [0,9] [] (xn p1) [] (zt 9 b6 (zg [] 12 [2] (zd (j1 false h _ _ (zk [2]))))))))
def dy : Option Int := some (-1 : Int)
def bi (p1 : ByteArray) (p2 : Bool) : Nat → Nat → Option Int
 | 0, _ => none
 | k1 + 1, z1 => aI (decide (z1 < p1.size)) (aT (ka (Int.ofNat (Utf8.decode p1 z1).1)) fun r1 => aI (r1 == p2) (some (Int.ofNat z1)) ((bi p1 p2 k1) (z1 + (Utf8.decode p1 z1).2))) (dy)
def cQ (p1 : ByteArray) (p2 : Bool) : Option Int := bi p1 p2 bf 0
theorem jh (p1 : ByteArray) (p2 : Bool) (r : Int) (h : cQ p1 p2 = some r) : PC Tryz.prog 197 [vs p1, .one (.pv (.fn 178 [])), vb p2] (vi r) := by
 unfold cQ at h
 refine zF 21 Tryz.f197 (zq fun K1 m1 => zr (zg [] 1 [0,1,2] (zd (m1 _ _ (zq fun K2 m2 => ?_)))))
 have j1 : ∀ (_ : Unit), dy = some r → ∀ w0 w1, aL 21 0 [] w0 w1 [] [] → K2 w0 w1 := by
  intro _ h w0 w1 hS
  unfold dy at h
  refine m2 _ _ (XW.sub hS ?_)
  refine zq fun K13 m13 => zr (zg [] 1 [6] (zd (m13 _ _ (ze ?_))))
  obtain rfl := zj h
  exact zf [vi (-1)] (.one (.rfl _ rfl))
 refine zq fun K3 m3 => zr (zv [] 1 [1,2,9] [] [(1, .one (.pv (.fn 178 []))), (2, vb p2), (9, vs p1)] [] (XO.rng p1 [(10, vq 0), (1, .one (.pv (.fn 178 []))), (2, vb p2), (9, vs p1)] [.raw (.stringIter p1 0)] (by kernel_rfl) (by kernel_rfl) (by kernel_rfl) (zd (m3 _ _ (zb 0 (XW.rounds' bf (x := cd Tryz.f197 [1,0,1,0,0]) (by kernel_rfl) fun Q1 hQ1 => ?_))))))
 have hL1 : ∀ (k1 z1 : Nat), bi p1 p2 k1 z1 = some r → XR Tryz.prog 21 0 [] (cd Tryz.f197 [1,0,1,0,0]) Q1 k1 [(1, .one (.pv (.fn 178 []))), (2, vb p2), (10, vq 0)] [.raw (.stringIter p1 z1)] := by
  intro k1
  induction k1 with
  | zero => intro z1 h; rw [bi.eq_1] at h; cases h
  | succ k1 ih1 =>
   intro z1 h
   rw [bi.eq_2] at h
   refine zq fun K4 m4 => ?_
   rcases zW h with ⟨b5, h⟩ | ⟨b5, h⟩
   ·refine zr (XO.nxt 0 p1 z1 [(11, .tp [vb true, vi (Int.ofNat z1), vk .i32 (Int.ofNat (Utf8.decode p1 z1).1)]), (1, .one (.pv (.fn 178 []))), (2, vb p2), (10, vq 0)] [.raw (.stringIter p1 (z1 + (Utf8.decode p1 z1).2))] (by kernel_rfl) (by kernel_rfl) (by kernel_rfl) (by kernel_rfl) b5 (zg [] 1 [1,2,10,11,12] (zd (m4 _ _ (zq fun K6 m6 => zc true (fun _ => ?_) (fun hx => by cases hx))))))
    refine zs (m6 _ _ (zb 1 (zq fun K7 m7 => zr (zg [] 4 [1,2,7,8,10] (zd (m7 _ _ ?_))))))
    refine zq fun K8 m8 => ?_
    obtain ⟨r1, c9, h⟩ := zB h
    refine zr (zv [] 2 [1,2,7,10,15,16] [] [(1, .one (.pv (.fn 178 []))), (2, vb p2), (7, vi (Int.ofNat z1)), (10, vq 0), (15, .one (.pv (.fn 178 []))), (16, vk .i32 (Int.ofNat (Utf8.decode p1 z1).1))] [.raw (.stringIter p1 (z1 + (Utf8.decode p1 z1).2))] (za (rO _ _ c9) (zg [] 2 [1,2,7,10,19] (zd (m8 _ _ (zC h (fun b10 h => ?_) (fun b10 h => ?_)))))))
    ·refine zq fun K11 m11 => zr (zv [] 2 [6] [] [(6, vi (Int.ofNat z1))] [.raw (.stringIter p1 (z1 + (Utf8.decode p1 z1).2))] (zd (m11 _ _ (ze (hQ1 _ _ _ ?_)))))
     obtain rfl := zj h
     exact zf [vi (Int.ofNat z1)] (.one (.rfl _ rfl))
    ·exact zs (XR.sub (zk [1,2,10]) (ih1 (z1 + (Utf8.decode p1 z1).2) h))
   ·refine zr (XO.nxtE 0 p1 z1 [(11, .tp [vb false]), (1, .one (.pv (.fn 178 []))), (2, vb p2), (10, vq 0)] (by kernel_rfl) (by kernel_rfl) (by kernel_rfl) b5 (zv [] 1 [1,2,10,11,12] [] [(1, .one (.pv (.fn 178 []))), (2, vb p2), (10, vq 0), (11, .tp [vb false]), (12, vb false)] [.raw (.stringIter p1 z1)] (zd (m4 _ _ (zq fun K12 m12 => zc false (fun hx => by cases hx) (fun _ => ?_))))))
    exact zx 0 (hQ1 _ _ _ (j1 () h _ _ (aL.trans (aL.pick (fr' := []) [] (by kernel_rfl)) (aL.take (fr' := []) 0 (Nat.zero_le _) (by kernel_rfl) (by kernel_rfl)))))
 exact XR.sub (zk [1,2,10]) (hL1 bf 0 h)
def cO (p1 : ByteArray) : Option Int := aT (cQ p1 true) fun r1 => some r1
theorem jf (p1 : ByteArray) (r : Int) (h : cO p1 = some r) : PC Tryz.prog 192 [vs p1, .one (.pv (.fn 178 []))] (vi r) := by
 unfold cO at h
 refine zF 8 Tryz.f192 (zq fun K1 m1 => zr (zg [] 1 [0,1] (zd (m1 _ _ (zq fun K2 m2 => ?_)))))
 obtain ⟨r1, c3, h⟩ := zB h
 refine zr (zg [] 2 [5,6] (zl 197 [vs p1, .one (.pv (.fn 178 [])), vb true] (vi r1) [(7, vi r1), (5, vs p1), (6, .one (.pv (.fn 178 [])))] (jh _ _ _ c3) (zg [] 1 [4] (zd (m2 _ _ (ze ?_))))))
 obtain rfl := zj h
 exact zf [vi r1] (.one (.rfl _ rfl))
def cx (p1 : ByteArray) : Option Bool := aT (cO p1) fun r1 => some (decide ((0 : Int) ≤ r1))
theorem iG (p1 : ByteArray) (r : Bool) (h : cx p1 = some r) : PC Tryz.prog 179 [vs p1, .one (.pv (.fn 178 []))] (vb r) := by
 unfold cx at h
 refine zF 9 Tryz.f179 (zq fun K1 m1 => zr (zg [] 1 [0,1] (zd (m1 _ _ (zq fun K2 m2 => ?_)))))
 obtain ⟨r1, c3, h⟩ := zB h
 refine zr (zg [] 2 [5,6] (zl 192 [vs p1, .one (.pv (.fn 178 []))] (vi r1) [(7, vi r1), (5, vs p1), (6, .one (.pv (.fn 178 [])))] (jf _ _ c3) (zg [] 2 [4] (zd (m2 _ _ (ze ?_))))))
 obtain rfl := zj h
 exact zf [vb (decide ((0 : Int) ≤ r1))] (.one (.rfl _ rfl))
def fX (p1 : ByteArray) (x1 : Bool) : Option Bool := aI x1 (some false) (aT (cx p1) fun r1 => some (!r1))
def lG (p1 : ByteArray) : Option Bool := aI (p1.toList == (ByteArray.mk #[]).toList) (fX p1 true) (aI (decide ((24 : Int) < (p1.size : Int))) (fX p1 true) (fL (0 ≤ (0 : Int) ∧ (0 : Int) < (p1.size : Int)) <| aT (some (decide (((p1.data.toList.getD (0 : Int).toNat 0).toNat : Int) < (97 : Int)))) fun y1 => aI y1 (fX p1 true) (fL (0 ≤ (0 : Int) ∧ (0 : Int) < (p1.size : Int)) <| aT (some (decide ((122 : Int) < ((p1.data.toList.getD (0 : Int).toNat 0).toNat : Int)))) fun y2 => fX p1 y2)))
theorem td (p1 : ByteArray) (r : Bool) (h : lG p1 = some r) : PC Tryz.prog 152 [vs p1] (vb r) := by
 unfold lG at h
 refine zF 25 Tryz.f152 (zq fun K1 m1 => zr (zg [] 1 [0] (zd (m1 _ _ (zq fun K2 m2 => zq fun K3 m3 => ?_)))))
 have j1 : ∀ (x1 : Bool), fX p1 x1 = some r → ∀ w0 w1, aL 25 0 [] w0 w1 [(0, vs p1), (20, vb x1)] [] → K3 w0 w1 := by
  intro x1 h w0 w1 hS
  unfold fX at h
  refine m3 _ _ (XW.sub hS ?_)
  refine zC h (fun b11 h => ?_) (fun b11 h => ?_)
  ·refine zq fun K12 m12 => zr (zg [] 1 [2] (zd (m12 _ _ (ze ?_))))
   obtain rfl := zj h
   exact zf [vb false] (.one (.rfl _ rfl))
  ·refine zs (m2 _ _ (zq fun K13 m13 => zr (zg [] 1 [0,3] (zd (m13 _ _ (zq fun K14 m14 => ?_))))))
   obtain ⟨r1, c15, h⟩ := zB h
   refine zr (zv [] 2 [21,22] [] [(21, vs p1), (22, .one (.pv (.fn 178 [])))] [] (za (iG _ _ c15) (zg [] 2 [2] (zd (m14 _ _ (ze ?_))))))
   obtain rfl := zj h
   exact zf [vb (!r1)] (.one (.rfl _ rfl))
 rcases zW h with ⟨b4, h⟩ | ⟨b4, h⟩
 ·exact zr (zg [] 3 [0,6] (zt 6 b4 (zv [] 14 [0,20] [] [(0, vs p1), (20, vb true)] [] (zd (j1 true h _ _ (zk [0,20]))))))
 ·rcases zW h with ⟨b5, h⟩ | ⟨b5, h⟩
  ·exact zr (zg [] 3 [0,6] (zt 6 b4 (zg [] 5 [0,11] (zt 11 b5 (zv [] 9 [0,20] [] [(0, vs p1), (20, vb true)] [] (zd (j1 true h _ _ (zk [0,20]))))))))
  ·obtain ⟨g6, h⟩ := zG h
   obtain ⟨y1, hy7, h⟩ := zB h
   rcases zW h with ⟨b8, h⟩ | ⟨b8, h⟩
   ·refine zr (zg [] 3 [0,6] (zt 6 b4 (zg [] 5 [0,11] (zt 11 b5 (zp [] 3 [0,11,14] [] [(0, vs p1), (11, vb false), (14, vb (decide (((p1.data.toList.getD (0 : Int).toNat 0).toNat : Int) < (97 : Int))))] [] [0 ≤ (0 : Int) ∧ (0 : Int) < (p1.size : Int)] (⟨g6, trivial⟩) ?_)))))
    rw [show (decide (((p1.data.toList.getD (0 : Int).toNat 0).toNat : Int) < (97 : Int))) = y1 from zj hy7]
    exact zg [] 2 [0,16] (zt 16 b8 (zg [] 4 [0,20] (zd (j1 true h _ _ (zk [0,20])))))
   ·obtain ⟨g9, h⟩ := zG h
    obtain ⟨y2, hy10, h⟩ := zB h
    refine zr (zv [] 3 [0,6] [] [(0, vs p1), (6, vb (p1.toList == (ByteArray.mk #[]).toList))] [] (zt 6 b4 (zg [] 5 [0,11] (zt 11 b5 (zp [] 3 [0,11,14] [] [(0, vs p1), (11, vb false), (14, vb (decide (((p1.data.toList.getD (0 : Int).toNat 0).toNat : Int) < (97 : Int))))] [] [0 ≤ (0 : Int) ∧ (0 : Int) < (p1.size : Int)] (⟨g6, trivial⟩) ?_)))))
    rw [show (decide (((p1.data.toList.getD (0 : Int).toNat 0).toNat : Int) < (97 : Int))) = y1 from zj hy7]
    refine zg [] 2 [0,16] (zt 16 b8 (zp [] 3 [0,16,19] [] [(0, vs p1), (16, vb false), (19, vb (decide ((122 : Int) < ((p1.data.toList.getD (0 : Int).toNat 0).toNat : Int))))] [] [0 ≤ (0 : Int) ∧ (0 : Int) < (p1.size : Int)] (⟨g9, trivial⟩) ?_))
    rw [show (decide ((122 : Int) < ((p1.data.toList.getD (0 : Int).toNat 0).toNat : Int))) = y2 from zj hy10]
    exact zg [] 1 [0,20] (zd (j1 y2 h _ _ (zk [0,20])))
def jY (p1 : ah) : Option Bool := aT (lG p1.name) fun r1 => some (!r1)
theorem qj (p1 : ah) (r : Bool) (h : jY p1 = some r) : PC Tryz.prog 151 [.ag [ci p1.id, cj p1.name, cb p1.need, ci p1.type.kind, ci p1.type.scale, cl ab p1.type.fields]] (vb r) := by
 unfold jY at h
 refine zF 7 Tryz.f151 (zq fun K1 m1 => zr (zg [] 2 [1] (zd (m1 _ _ (zq fun K2 m2 => ?_)))))
 obtain ⟨r1, c3, h⟩ := zB h
 refine zr (zu [] 2 [4] [[pi p1.id, .s (.string p1.name), .s (.bool p1.need), pi p1.type.kind, pi p1.type.scale, .ro (ab.els p1.type.fields)]] (zl 152 [vs p1.name] (vb r1) [(5, vb r1), (4, vs p1.name)] (td _ _ c3) (zg [] 2 [2] (zd (m2 _ _ (ze ?_))))))
 obtain rfl := zj h
 exact zf [vb (!r1)] (.one (.rfl _ rfl))
def bI : Option Int := some (-1 : Int)
def au (p1 : (List ah)) : Nat → Int → Option Int
 | 0, _ => none
 | k1 + 1, x1 => aI (decide (x1 < (p1.length : Int))) (aT (at? p1 x1) fun e1 => aT (jY e1) fun r1 => aI r1 (some x1) ((au p1 k1) (i64.wrap (x1 + 1)))) (bI)
def bq (p1 : (List ah)) : Option Int := au p1 bf (0 : Int)
abbrev aJ (e1 : ah) : List PV := [pi e1.id, .s (.string e1.name), .s (.bool e1.need), pi e1.type.kind, pi e1.type.scale, .ro (ab.els e1.type.fields)]
theorem eF (p1 : (List ah)) (r : Int) (h : bq p1 = some r) : PC Tryz.prog 177 [vl ab p1, .one (.pv (.fn 151 []))] (vi r) := by
 unfold bq at h
 refine zF 19 Tryz.f177 (zq fun K1 m1 => zr (zg [] 1 [0,1] (zd (m1 _ _ (zq fun K2 m2 => ?_)))))
 have j1 : ∀ (_ : Unit), bI = some r → ∀ w0 w1, aL 19 0 [] w0 w1 [] [] → K2 w0 w1 := by
  intro _ h w0 w1 hS
  unfold bI at h
  refine m2 _ _ (XW.sub hS ?_)
  refine zq fun K14 m14 => zr (zg [] 1 [4] (zd (m14 _ _ (ze ?_))))
  obtain rfl := zj h
  exact zf [vi (-1)] (.one (.rfl _ rfl))
 refine zq fun K3 m3 => zr (zv [] 2 [0,1,7] [] [(0, vl ab p1), (1, .one (.pv (.fn 151 []))), (7, vi ((ab.els p1).length : Int))] [] ?_)
 rw [ab.len p1]
 refine zg [] 1 [0,1,7,8] (zd (m3 _ _ (zb 0 (XW.rounds' bf (x := cd Tryz.f177 [1,0,1,0,0]) (by kernel_rfl) fun Q1 hQ1 => ?_))))
 have hL1 : ∀ (k1 : Nat) (x1 : Int), au p1 k1 x1 = some r → XR Tryz.prog 19 0 [] (cd Tryz.f177 [1,0,1,0,0]) Q1 k1 [(0, vl ab p1), (1, .one (.pv (.fn 151 []))), (7, vi (p1.length : Int)), (8, vi x1)] [] := by
  intro k1
  induction k1 with
  | zero => intro x1 h; rw [au.eq_1] at h; cases h
  | succ k1 ih1 =>
   intro x1 h
   rw [au.eq_2] at h
   refine zq fun K4 m4 => zr (zg [] 1 [0,1,7,8,9] (zd (m4 _ _ (zq fun K5 m5 => zC h (fun b6 h => ?_) (fun b6 h => ?_)))))
   ·refine zs (m5 _ _ (zq fun K7 m7 => zb 1 (zq fun K8 m8 => zr (zg [] 2 [0,1,5,7,8] (zd ?_)))))
    refine m8 _ _ (zq fun K9 m9 => ?_)
    obtain ⟨e1, a10, h⟩ := zB h
    obtain ⟨r1, c11, h⟩ := zB h
    refine zr ?_
    refine zp [] 5 [0,1,5,7,8,11,15] [(aJ e1)] [(0, vl ab p1), (1, .one (.pv (.fn 151 []))), (5, vi x1), (7, vi (p1.length : Int)), (8, vi x1), (11, .one (.pv (.fn 151 []))), (15, .ag [ci e1.id, cj e1.name, cb e1.need, ci e1.type.kind, ci e1.type.scale, cl ab e1.type.fields])] [] [0 ≤ x1 ∧ x1 < ((ab.els p1).length : Int) ∧ aq 6 (ab.els p1), (ab.els p1)[x1.toNat]? = some (aJ e1)] (⟨ab.inb a10, ((ab.get a10).trans (by rcases e1 with ⟨_, _, _, ⟨_, _, _⟩⟩; rfl)), trivial⟩) ?_
    refine za (qj _ _ c11) (zd (m9 _ _ (zC h (fun b12 h => ?_) (fun b12 h => ?_))))
    ·refine zq fun K13 m13 => zr (zg [] 2 [4] (zd (m13 _ _ (ze (hQ1 _ _ _ ?_)))))
     obtain rfl := zj h
     exact zf [vi x1] (.one (.rfl _ rfl))
    ·exact zs (m7 _ _ (zr (zv [] 2 [0,1,7,8] [] [(0, vl ab p1), (1, .one (.pv (.fn 151 []))), (7, vi (p1.length : Int)), (8, vi (i64.wrap (x1 + 1)))] [] (zd (XR.sub (zk [0,1,7,8]) (ih1 (i64.wrap (x1 + 1)) h))))))
   ·exact zx 0 (hQ1 _ _ _ (j1 () h _ _ (zk [])))
 exact XR.sub (zk [0,1,7,8]) (hL1 bf (0 : Int) h)
def aR (p1 : (List ah)) : Option Bool := aT (bq p1) fun r1 => some (decide ((0 : Int) ≤ r1))
theorem ek (p1 : (List ah)) (r : Bool) (h : aR p1 = some r) : PC Tryz.prog 150 [vl ab p1, .one (.pv (.fn 151 []))] (vb r) := by
 unfold aR at h
 refine zF 9 Tryz.f150 (zq fun K1 m1 => zr (zg [] 1 [0,1] (zd (m1 _ _ (zq fun K2 m2 => ?_)))))
 obtain ⟨r1, c3, h⟩ := zB h
 refine zr (zg [] 2 [5,6] (zl 177 [vl ab p1, .one (.pv (.fn 151 []))] (vi r1) [(7, vi r1), (5, vl ab p1), (6, .one (.pv (.fn 151 [])))] (eF _ _ c3) (zg [] 2 [4] (zd (m2 _ _ (ze ?_))))))
 obtain rfl := zj h
 exact zf [vb (decide ((0 : Int) ≤ r1))] (.one (.rfl _ rfl))
def jV (p1 p2 : ah) : Option (Bool × ah) := some ((p1.name.toList == p2.name.toList), p2)
abbrev aS (p2 : ah) : List CV := [ci p2.id, cj p2.name, cb p2.need, ci p2.type.kind, ci p2.type.scale, cl ab p2.type.fields]
theorem pW (p1 p2 : ah) (r : (Bool × ah)) (h : jV p1 p2 = some r) : MC Tryz.prog 153 [.ag [ci p1.id, cj p1.name, cb p1.need, ci p1.type.kind, ci p1.type.scale, cl ab p1.type.fields], vq 0] [.box (aS p2)] (vb r.1) [.box [ci r.2.id, cj r.2.name, cb r.2.need, ci r.2.type.kind, ci r.2.type.scale, cl ab r.2.type.fields]] := by
 unfold jV at h
 refine MC.of 1 (n := 9) (fn := Tryz.f153) (c := cd Tryz.f153 []) (by kernel_rfl) (by kernel_rfl) (by kernel_rfl) (Nat.le_of_ble_eq_true rfl) rfl (zq fun K1 m1 => zr (zg [] 2 [1,2] (zd (m1 _ _ (zq fun K2 m2 => zr ?_)))))
 refine zv [] 6 [3] [[pi p1.id, .s (.string p1.name), .s (.bool p1.need), pi p1.type.kind, pi p1.type.scale, .ro (ab.els p1.type.fields)]] [(3, vb (p1.name.toList == p2.name.toList))] [.box (aS p2)] (zd (m2 _ _ (ze ?_)))
 obtain rfl := zj h
 exact eT.fin (.inr rfl) [] [vb (p1.name.toList == p2.name.toList)] [] (by kernel_rfl) trivial (by kernel_rfl) (by kernel_rfl) (.one (.rfl _ rfl))
def bh (z7 : Int) (z8 : ByteArray) (z9 : Bool) (z10 z11 : Int) (z12 : List ah) : Option (Int × ah) := some ((-1 : Int), (iU.mk z7 z8 z9 (aw.mk z10 z11 z12)))
def ap (p1 : (List ah)) : Nat → Int → ByteArray → Bool → Int → Int → List ah → Int → Option (Int × ah)
 | 0, _, _, _, _, _, _, _ => none
 | k1 + 1, z1, z2, z3, z4, z5, z6, x1 => aI (decide (x1 < (p1.length : Int))) (aT (at? p1 x1) fun e1 => aT (jV e1 (iU.mk z1 z2 z3 (aw.mk z4 z5 z6))) fun r1 => aI r1.1 (some (x1, r1.2)) ((ap p1 k1) r1.2.id r1.2.name r1.2.need r1.2.type.kind r1.2.type.scale r1.2.type.fields (i64.wrap (x1 + 1)))) (bh z1 z2 z3 z4 z5 z6)
def br (p1 : (List ah)) (p2 : ah) : Option (Int × ah) := ap p1 bf p2.id p2.name p2.need p2.type.kind p2.type.scale p2.type.fields (0 : Int)
abbrev ra (r1 : (Bool × ah)) : List CV := [ci r1.2.id, cj r1.2.name, cb r1.2.need, ci r1.2.type.kind, ci r1.2.type.scale, cl ab r1.2.type.fields]
theorem eE (p1 : (List ah)) (p2 : ah) (r : (Int × ah)) (h : br p1 p2 = some r) : MC Tryz.prog 177 [vl ab p1, .one (.fn 153 [.pt 0 0 0 0])] [.box [ci p2.id, cj p2.name, cb p2.need, ci p2.type.kind, ci p2.type.scale, cl ab p2.type.fields]] (vi r.1) [.box [ci r.2.id, cj r.2.name, cb r.2.need, ci r.2.type.kind, ci r.2.type.scale, cl ab r.2.type.fields]] := by
 unfold br at h
 refine MC.of 1 (n := 19) (fn := Tryz.f177) (c := cd Tryz.f177 []) (by kernel_rfl) (by kernel_rfl) (by kernel_rfl) (Nat.le_of_ble_eq_true rfl) rfl (zq fun K1 m1 => zr (zg [] 1 [0,1] (zd (m1 _ _ (zq fun K2 m2 => ?_)))))
 have j1 : ∀ (z7 : Int) (z8 : ByteArray) (z9 : Bool) (z10 z11 : Int) (z12 : List ah), bh z7 z8 z9 z10 z11 z12 = some r → ∀ w0 w1, aL 19 1 [] w0 w1 [] [.box [ci z7, cj z8, cb z9, ci z10, ci z11, cl ab z12]] → K2 w0 w1 := by
  intro z7 z8 z9 z10 z11 z12 h w0 w1 hS
  unfold bh at h
  refine m2 _ _ (XW.sub hS ?_)
  refine zq fun K14 m14 => zr (zv [] 1 [4] [] [(4, vi (-1))] [.box [ci z7, cj z8, cb z9, ci z10, ci z11, cl ab z12]] (zd (m14 _ _ (ze ?_))))
  obtain rfl := zj h
  exact eT.fin (.inr rfl) [] [vi (-1)] [] (by kernel_rfl) trivial (by kernel_rfl) (by kernel_rfl) (.one (.rfl _ rfl))
 refine zq fun K3 m3 => zr (zv [] 2 [0,1,7] [] [(0, vl ab p1), (1, .one (.fn 153 [.pt 0 0 0 0])), (7, vi ((ab.els p1).length : Int))] [.box [ci p2.id, cj p2.name, cb p2.need, ci p2.type.kind, ci p2.type.scale, cl ab p2.type.fields]] ?_)
 rw [ab.len p1]
 refine zg [] 1 [0,1,7,8] (zd (m3 _ _ (zb 0 (XW.rounds' bf (x := cd Tryz.f177 [1,0,1,0,0]) (by kernel_rfl) fun Q1 hQ1 => ?_))))
 have hL1 : ∀ (k1 : Nat) (z1 : Int) (z2 : ByteArray) (z3 : Bool) (z4 z5 : Int) (z6 : List ah) (x1 : Int), ap p1 k1 z1 z2 z3 z4 z5 z6 x1 = some r → XR Tryz.prog 19 1 [] (cd Tryz.f177 [1,0,1,0,0]) Q1 k1 [(0, vl ab p1), (1, .one (.fn 153 [.pt 0 0 0 0])), (7, vi (p1.length : Int)), (8, vi x1)] [.box [ci z1, cj z2, cb z3, ci z4, ci z5, cl ab z6]] := by
  intro k1
  induction k1 with
  | zero => intro z1 z2 z3 z4 z5 z6 x1 h; rw [ap.eq_1] at h; cases h
  | succ k1 ih1 =>
   intro z1 z2 z3 z4 z5 z6 x1 h
   rw [ap.eq_2] at h
   refine zq fun K4 m4 => zr (zg [] 1 [0,1,7,8,9] (zd (m4 _ _ (zq fun K5 m5 => zC h (fun b6 h => ?_) (fun b6 h => ?_)))))
   ·refine zs (m5 _ _ (zq fun K7 m7 => zb 1 (zq fun K8 m8 => zr (zg [] 2 [0,1,5,7,8] (zd ?_)))))
    refine m8 _ _ (zq fun K9 m9 => ?_)
    obtain ⟨e1, a10, h⟩ := zB h
    obtain ⟨r1, c11, h⟩ := zB h
    refine zr ?_
    refine zp [] 5 [0,1,5,7,8,11,15] [(aJ e1)] [(0, vl ab p1), (1, .one (.fn 153 [.pt 0 0 0 0])), (5, vi x1), (7, vi (p1.length : Int)), (8, vi x1), (11, .one (.fn 153 [.pt 0 0 0 0])), (15, .ag (aS e1))] [.box [ci z1, cj z2, cb z3, ci z4, ci z5, cl ab z6]] [0 ≤ x1 ∧ x1 < ((ab.els p1).length : Int) ∧ aq 6 (ab.els p1), (ab.els p1)[x1.toNat]? = some (aJ e1)] (⟨ab.inb a10, ((ab.get a10).trans (by rcases e1 with ⟨_, _, _, ⟨_, _, _⟩⟩; rfl)), trivial⟩) ?_
    refine XO.calm 153 [.ag (aS e1), vq 0] [.box [ci z1, cj z2, cb z3, ci z4, ci z5, cl ab z6]] [.box (ra r1)] (vb r1.1) [0] [(16, vb r1.1), (0, vl ab p1), (1, .one (.fn 153 [.pt 0 0 0 0])), (5, vi x1), (7, vi (p1.length : Int)), (8, vi x1), (11, .one (.fn 153 [.pt 0 0 0 0])), (15, .ag (aS e1))] [.box (ra r1)] (by kernel_rfl) (pW _ _ _ c11) (by kernel_rfl) (by kernel_rfl) (by kernel_rfl) (by kernel_rfl) ?_
    refine zd (m9 _ _ (zC h (fun b12 h => ?_) (fun b12 h => ?_)))
    ·refine zq fun K13 m13 => zr (zv [] 2 [4] [] [(4, vi x1)] [.box (ra r1)] (zd (m13 _ _ (ze (hQ1 _ _ _ ?_)))))
     obtain rfl := zj h
     exact eT.fin (.inr rfl) [] [vi x1] [] (by kernel_rfl) trivial (by kernel_rfl) (by kernel_rfl) (.one (.rfl _ rfl))
    ·exact zs (m7 _ _ (zr (zg [] 2 [0,1,7,8] (zd (XR.sub (zk [0,1,7,8]) (ih1 r1.2.id r1.2.name r1.2.need r1.2.type.kind r1.2.type.scale r1.2.type.fields (i64.wrap (x1 + 1)) h))))))
   ·exact zx 0 (hQ1 _ _ _ (j1 z1 z2 z3 z4 z5 z6 h _ _ (zk [])))
 exact XR.sub (zk [0,1,7,8]) (hL1 bf p2.id p2.name p2.need p2.type.kind p2.type.scale p2.type.fields (0 : Int) h)
def aP (p1 : (List ah)) (p2 : ah) : Option (Bool × ah) := aT (br p1 p2) fun r1 => some ((decide ((0 : Int) ≤ r1.1)), r1.2)
abbrev v8 (r1 : (Int × ah)) : List CV := [ci r1.2.id, cj r1.2.name, cb r1.2.need, ci r1.2.type.kind, ci r1.2.type.scale, cl ab r1.2.type.fields]
theorem ej (p1 : (List ah)) (p2 : ah) (r : (Bool × ah)) (h : aP p1 p2 = some r) : MC Tryz.prog 150 [vl ab p1, .one (.fn 153 [.pt 0 0 0 0])] [.box (aS p2)] (vb r.1) [.box [ci r.2.id, cj r.2.name, cb r.2.need, ci r.2.type.kind, ci r.2.type.scale, cl ab r.2.type.fields]] := by
 unfold aP at h
 refine MC.of 1 (n := 9) (fn := Tryz.f150) (c := cd Tryz.f150 []) (by kernel_rfl) (by kernel_rfl) (by kernel_rfl) (Nat.le_of_ble_eq_true rfl) rfl (zq fun K1 m1 => zr (zg [] 1 [0,1] (zd (m1 _ _ (zq fun K2 m2 => ?_)))))
 obtain ⟨r1, c3, h⟩ := zB h
 refine zr (zv [] 2 [5,6] [] [(5, vl ab p1), (6, .one (.fn 153 [.pt 0 0 0 0]))] [.box (aS p2)] ?_)
 refine XO.calm 177 [vl ab p1, .one (.fn 153 [.pt 0 0 0 0])] [.box (aS p2)] [.box (v8 r1)] (vi r1.1) [0] [(7, vi r1.1), (5, vl ab p1), (6, .one (.fn 153 [.pt 0 0 0 0]))] [.box (v8 r1)] (by kernel_rfl) (eE _ _ _ c3) (by kernel_rfl) (by kernel_rfl) (by kernel_rfl) (by kernel_rfl) ?_
 refine zv [] 2 [4] [] [(4, vb (decide ((0 : Int) ≤ r1.1)))] [.box (v8 r1)] (zd (m2 _ _ (ze ?_)))
 obtain rfl := zj h
 exact eT.fin (.inr rfl) [] [vb (decide ((0 : Int) ≤ r1.1))] [] (by kernel_rfl) trivial (by kernel_rfl) (by kernel_rfl) (.one (.rfl _ rfl))
def gV (x1 : Bool) : Option Int := aI x1 (some (1 : Int)) (some (0 : Int))
def kL : Option Int := some (0 : Int)
def cM (p1 : aw) : Nat → Int → Option Int
 | 0, _ => none
 | k1 + 1, x2 => aI (decide (x2 < (p1.fields.length : Int))) (aT (at? p1.fields x2) fun e2 => fL (0 ≤ (0 : Int) ∧ (0 : Int) ≤ x2 ∧ x2 ≤ (p1.fields.length : Int)) <| aT (aP ((p1.fields.drop (0 : Int).toNat).take (x2.toNat - (0 : Int).toNat)) e2) fun r2 => aI r2.1 (some (5 : Int)) ((cM p1 k1) (i64.wrap (x2 + 1)))) (kL)
def jS (p1 : aw) : Option Int := aI (p1.kind == 6) (aI ((p1.fields.length : Int) != 1) (gV true) (aT (at? p1.fields (0 : Int)) fun e1 => gV (!(e1.name.toList == (ByteArray.mk #[]).toList)))) (aI (p1.kind != 7) (aI (decide ((0 : Int) < (p1.fields.length : Int))) (some (1 : Int)) (some (0 : Int))) (aI ((p1.fields.length : Int) == 0) (some (1 : Int)) (aT (aR p1.fields) fun r1 => aI r1 (some (4 : Int)) (cM p1 bf (0 : Int)))))
abbrev Av (p1 : aw) (x2 : Int) : Fr := [(1, vR (aj p1)), (38, vl ab p1.fields), (39, vi (p1.fields.length : Int)), (40, vi (i64.wrap (x2 + 1)))]
theorem rX (p1 : aw) (r : Int) (h : jS p1 = some r) : PC Tryz.prog 108 [.ag [ci p1.kind, ci p1.scale, cl ab p1.fields]] (vi r) := by
 unfold jS at h
 refine zF 52 Tryz.f108 (zq fun K1 m1 => zr (zg [4] 2 [1] (zd (m1 _ _ (zq fun K2 m2 => zb 0 ?_)))))
 refine zq fun K3 m3 => zr (zu [4] 4 [1,5] [(aj p1)] (zd (m3 _ _ (zC h (fun b4 h => ?_) (fun b4 h => ?_)))))
 ·refine zq fun K5 m5 => zq fun K6 m6 => ?_
  have j1 : ∀ (x1 : Bool), gV x1 = some r → ∀ w0 w1, aL 52 0 [] w0 w1 [(20, vb x1)] [] → K6 w0 w1 := by
   intro x1 h w0 w1 hS
   unfold gV at h
   refine m6 _ _ (XW.sub hS ?_)
   refine zC h (fun b9 h => ?_) (fun b9 h => ?_)
   ·refine zq fun K10 m10 => zr (zg [4] 1 [2] (zd (m10 _ _ (ze ?_))))
    obtain rfl := zj h
    exact zf [vi 1] (.one (.rfl _ rfl))
   ·refine zs (m5 _ _ (zq fun K11 m11 => zr (zg [4] 1 [2] (zd (m11 _ _ (ze ?_))))))
    obtain rfl := zj h
    exact zf [vi 0] (.one (.rfl _ rfl))
  rcases zW h with ⟨b7, h⟩ | ⟨b7, h⟩
  ·refine zr (zv [4] 3 [1,11] [[pi p1.kind, pi p1.scale, .ro (ab.els p1.fields)]] [(1, vR [pi p1.kind, pi p1.scale, .ro (ab.els p1.fields)]), (11, vi ((ab.els p1.fields).length : Int))] [] ?_)
   rw [ab.len p1.fields]
   exact zg [4] 2 [1,13] (zt 13 b7 (zg [4] 7 [20] (zd (j1 true h _ _ (zk [20])))))
  ·obtain ⟨e1, a8, h⟩ := zB h
   refine zr (zv [4] 3 [1,11] [[pi p1.kind, pi p1.scale, .ro (ab.els p1.fields)]] [(1, vR [pi p1.kind, pi p1.scale, .ro (ab.els p1.fields)]), (11, vi ((ab.els p1.fields).length : Int))] [] ?_)
   rw [ab.len p1.fields]
   refine zg [4] 2 [1,13] (zt 13 b7 ?_)
   refine zo [4] 7 [20] [(aj p1), (aJ e1)] [([(aj p1)] : List (List PV))[0]? = some (aj p1), 0 ≤ (0 : Int) ∧ (0 : Int) < ((ab.els p1.fields).length : Int) ∧ aq 6 (ab.els p1.fields), (ab.els p1.fields)[(0 : Int).toNat]? = some (aJ e1)] (⟨rfl, ab.inb a8, ((ab.get a8).trans (by rcases e1 with ⟨_, _, _, ⟨_, _, _⟩⟩; rfl)), trivial⟩) ?_
   exact zd (j1 (!(e1.name.toList == (ByteArray.mk #[]).toList)) h _ _ (zk [20]))
 ·refine zq fun K12 m12 => zr (zv [4] 4 [1,21] [(aj p1)] [(1, vR (aj p1)), (21, vb (p1.kind != 7))] [] (zd (m12 _ _ (zC h (fun b13 h => ?_) (fun b13 h => ?_)))))
  ·refine zq fun K14 m14 => zq fun K15 m15 => zr (zv [4] 3 [27] [[pi p1.kind, pi p1.scale, .ro (ab.els p1.fields)]] [(27, vi ((ab.els p1.fields).length : Int))] [] ?_)
   rw [ab.len p1.fields]
   refine zg [4] 1 [28] (zd (m15 _ _ (zC h (fun b16 h => ?_) (fun b16 h => ?_))))
   ·refine zq fun K17 m17 => zr (zg [4] 1 [2] (zd (m17 _ _ (ze ?_))))
    obtain rfl := zj h
    exact zf [vi 1] (.one (.rfl _ rfl))
   ·refine zs (m14 _ _ (zq fun K18 m18 => zr (zv [4] 1 [2] [] [(2, vi 0)] [] (zd (m18 _ _ (ze ?_))))))
    obtain rfl := zj h
    exact zf [vi 0] (.one (.rfl _ rfl))
  ·refine zq fun K19 m19 => zr (zv [4] 3 [1,32] [[pi p1.kind, pi p1.scale, .ro (ab.els p1.fields)]] [(1, vR [pi p1.kind, pi p1.scale, .ro (ab.els p1.fields)]), (32, vi ((ab.els p1.fields).length : Int))] [] ?_)
   rw [ab.len p1.fields]
   refine zg [4] 2 [1,29] (zd (m19 _ _ (zC h (fun b20 h => ?_) (fun b20 h => ?_))))
   ·refine zq fun K21 m21 => zr (zg [4] 1 [2] (zd (m21 _ _ (ze ?_))))
    obtain rfl := zj h
    exact zf [vi 1] (.one (.rfl _ rfl))
   ·refine zs (m2 _ _ (zq fun K22 m22 => zq fun K23 m23 => ?_))
    obtain ⟨r1, c24, h⟩ := zB h
    refine zr (zv [4] 2 [1,35] [(aj p1)] [(1, vR (aj p1)), (35, vl ab p1.fields)] [] (za (ek _ _ c24) (zd (m23 _ _ (zC h (fun b25 h => ?_) (fun b25 h => ?_))))))
    ·refine zq fun K26 m26 => zr (zg [4] 1 [2] (zd (m26 _ _ (ze ?_))))
     obtain rfl := zj h
     exact zf [vi 4] (.one (.rfl _ rfl))
    ·refine zs (m22 _ _ (zq fun K27 m27 => ?_))
     have j2 : ∀ (_ : Unit), kL = some r → ∀ w0 w1, aL 52 0 [] w0 w1 [] [] → K27 w0 w1 := by
      intro _ h w0 w1 hS
      unfold kL at h
      refine m27 _ _ (XW.sub hS ?_)
      refine zq fun K40 m40 => zr (zg [4] 1 [2] (zd (m40 _ _ (ze ?_))))
      obtain rfl := zj h
      exact zf [vi 0] (.one (.rfl _ rfl))
     refine zq fun K28 m28 => zr (zv [4] 3 [1,38,39] [[pi p1.kind, pi p1.scale, .ro (ab.els p1.fields)]] [(1, vR [pi p1.kind, pi p1.scale, .ro (ab.els p1.fields)]), (38, vl ab p1.fields), (39, vi ((ab.els p1.fields).length : Int))] [] ?_)
     rw [ab.len p1.fields]
     refine zg [4] 1 [1,38,39,40] (zd (m28 _ _ (zb 1 (XW.rounds' bf (x := cd Tryz.f108 [1,1,1,0,1,0,0]) (by kernel_rfl) fun Q1 hQ1 => ?_))))
     have hL1 : ∀ (k1 : Nat) (x2 : Int), cM p1 k1 x2 = some r → XR Tryz.prog 52 0 [] (cd Tryz.f108 [1,1,1,0,1,0,0]) Q1 k1 [(1, vR (aj p1)), (38, vl ab p1.fields), (39, vi (p1.fields.length : Int)), (40, vi x2)] [] := by
      intro k1
      induction k1 with
      | zero => intro x2 h; rw [cM.eq_1] at h; cases h
      | succ k1 ih1 =>
       intro x2 h
       rw [cM.eq_2] at h
       refine zq fun K29 m29 => zr (zg [4] 1 [1,38,39,40,41] (zd (m29 _ _ (zq fun K30 m30 => zC h (fun b31 h => ?_) (fun b31 h => ?_)))))
       ·refine zs (m30 _ _ (zq fun K32 m32 => zb 2 (zq fun K33 m33 => ?_)))
        obtain ⟨e2, a34, h⟩ := zB h
        refine zr (zo [4] 6 [1,3,4,38,39,40] [(aJ e2)] [0 ≤ x2 ∧ x2 < ((ab.els p1.fields).length : Int) ∧ aq 6 (ab.els p1.fields), (ab.els p1.fields)[x2.toNat]? = some (aJ e2)] (⟨ab.inb a34, ((ab.get a34).trans (by rcases e2 with ⟨_, _, _, ⟨_, _, _⟩⟩; rfl)), trivial⟩) (zd (m33 _ _ (zq fun K35 m35 => ?_))))
        obtain ⟨g36, h⟩ := zG h
        obtain ⟨r2, c37, h⟩ := zB h
        refine zr ?_
        refine zp [4] 4 [1,4,38,39,40,48] [[pi p1.kind, pi p1.scale, .ro (ab.els p1.fields)]] [(1, vR [pi p1.kind, pi p1.scale, .ro (ab.els p1.fields)]), (4, vq 0), (38, vl ab p1.fields), (39, vi (p1.fields.length : Int)), (40, vi x2), (48, .one (.pv (.ro (((ab.els p1.fields).drop (0 : Int).toNat).take (x2.toNat - (0 : Int).toNat)))))] [.box [ci e2.id, cj e2.name, cb e2.need, ci e2.type.kind, ci e2.type.scale, cl ab e2.type.fields]] [([[pi p1.kind, pi p1.scale, .ro (ab.els p1.fields)]] : List (List PV))[0]? = some [pi p1.kind, pi p1.scale, .ro (ab.els p1.fields)], (0 ≤ (0 : Int) ∧ (0 : Int) ≤ x2 ∧ x2 ≤ ((ab.els p1.fields).length : Int)) ∧ aq 6 (ab.els p1.fields)] (⟨rfl, ab.cutOk g36, trivial⟩) ?_
        rw [show ((ab.els p1.fields).drop (0 : Int).toNat).take (x2.toNat - (0 : Int).toNat) = ab.els ((p1.fields.drop (0 : Int).toNat).take (x2.toNat - (0 : Int).toNat)) from ab.cut _ _ _]
        refine zv [4] 1 [1,38,39,40,48,49] [] [(1, vR (aj p1)), (38, vl ab p1.fields), (39, vi (p1.fields.length : Int)), (40, vi x2), (48, vl ab ((p1.fields.drop (0 : Int).toNat).take (x2.toNat - (0 : Int).toNat))), (49, .one (.fn 153 [.pt 0 0 0 0]))] [.box (aS e2)] ?_
        refine XO.calm 150 [vl ab ((p1.fields.drop (0 : Int).toNat).take (x2.toNat - (0 : Int).toNat)), .one (.fn 153 [.pt 0 0 0 0])] [.box (aS e2)] [.box (ra r2)] (vb r2.1) [0] [(50, vb r2.1), (1, vR (aj p1)), (38, vl ab p1.fields), (39, vi (p1.fields.length : Int)), (40, vi x2), (48, vl ab ((p1.fields.drop (0 : Int).toNat).take (x2.toNat - (0 : Int).toNat))), (49, .one (.fn 153 [.pt 0 0 0 0]))] [.box (ra r2)] (by kernel_rfl) (ej _ _ _ c37) (by kernel_rfl) (by kernel_rfl) (by kernel_rfl) (by kernel_rfl) ?_
        refine zd (m35 _ _ (zC h (fun b38 h => ?_) (fun b38 h => ?_)))
        ·refine zq fun K39 m39 => zr (zg [4] 1 [2] (zd (m39 _ _ (ze (hQ1 _ _ _ ?_)))))
         obtain rfl := zj h
         exact zf [vi 5] (.one (.rfl _ rfl))
        ·refine zs (m32 _ _ (zr (zg [4] 2 [1,38,39,40] (zd ?_))))
         exact XR.sub (aL.trans (aL.pick (fr' := (Av p1 x2)) [1,38,39,40] (by kernel_rfl)) (aL.take (fr' := (Av p1 x2)) 0 (Nat.zero_le _) (by kernel_rfl) (by kernel_rfl))) (ih1 (i64.wrap (x2 + 1)) h)
       ·exact zx 1 (hQ1 _ _ _ (j2 () h _ _ (zk [])))
     exact XR.sub (zk [1,38,39,40]) (hL1 bf (0 : Int) h)
def gP (z3 : Int) : Option (Int × bR) := some ((0 : Int), (bR.mk z3))
def bN (q_value_checker_check : aw → Int → bR → Option (Int × bR)) (p1 : aw) (p2 : Int) : Nat → Int → Int → Option (Int × bR)
 | 0, _, _ => none
 | k1 + 1, z2, x4 => aI (decide (x4 < (p1.fields.length : Int))) (aT (at? p1.fields x4) fun e1 => aT (q_value_checker_check e1.type (i64.wrap (p2 + 1)) (bR.mk z2)) fun r4 => aI (r4.1 != 0) (some (r4.1, r4.2)) ((bN q_value_checker_check p1 p2 k1) r4.2.leaves (i64.wrap (x4 + 1)))) (gP z2)
def cc (q_value_checker_check : aw → Int → bR → Option (Int × bR)) (p1 : aw) (p2 z1 : Int) (x3 : Bool) : Option (Int × bR) := aI x3 (some ((1 : Int), (bR.mk z1))) (aT (jS p1) fun r3 => aI (r3 != 0) (some (r3, (bR.mk z1))) (bN q_value_checker_check p1 p2 bf z1 (0 : Int)))
def dX (q_value_checker_check : aw → Int → bR → Option (Int × bR)) (p1 : aw) (p2 z1 : Int) (x2 : Bool) : Option (Int × bR) := aI x2 (some ((3 : Int), (bR.mk z1))) (aI (p1.scale != 0) (aI (p1.kind != 3) (cc q_value_checker_check p1 p2 z1 true) (aI (decide (p1.scale < (0 : Int))) (cc q_value_checker_check p1 p2 z1 true) (cc q_value_checker_check p1 p2 z1 (decide ((12 : Int) < p1.scale))))) (cc q_value_checker_check p1 p2 z1 false))
def cF (q_value_checker_check : aw → Int → bR → Option (Int × bR)) (p1 : aw) (p2 z1 : Int) : Option (Int × bR) := aI (decide (p1.kind < (1 : Int))) (dX q_value_checker_check p1 p2 z1 true) (dX q_value_checker_check p1 p2 z1 (decide ((7 : Int) < p1.kind)))
def cH (q_value_checker_check : aw → Int → bR → Option (Int × bR)) (p1 : aw) (p2 : Int) (p3 : bR) (x1 : Bool) : Option (Int × bR) := aI x1 (some ((7 : Int), p3)) (aT (kj p1) fun r2 => aI r2 (cF q_value_checker_check p1 p2 (i64.wrap (p3.leaves + 1))) (cF q_value_checker_check p1 p2 p3.leaves))
def aY : Nat → aw → Int → bR → Option (Int × bR)
 | 0, _, _, _ => none
 | k0 + 1, p1, p2, p3 => aI (decide ((4 : Int) < p2)) (cH (aY k0) p1 p2 p3 true) (aT (kj p1) fun r1 => aI r1 (cH (aY k0) p1 p2 p3 (p3.leaves == 40)) (cH (aY k0) p1 p2 p3 false))
abbrev iY (e1 : ah) : List CV := [ci e1.type.kind, ci e1.type.scale, cl ab e1.type.fields]
abbrev zI (p1 : aw) (p2 x4 : Int) : Fr := [(0, vq 0), (2, vi p2), (67, vl ab p1.fields), (68, vi (p1.fields.length : Int)), (69, vi (i64.wrap (x4 + 1)))]
theorem kd : ∀ (k0 : Nat) (p1 : aw) (p2 : Int) (p3 : bR) (r : (Int × bR)), aY k0 p1 p2 p3 = some r → MC Tryz.prog 65 [vq 0, .ag [ci p1.kind, ci p1.scale, cl ab p1.fields], vi p2] [.box [ci p3.leaves]] (vi r.1) [.box [ci r.2.leaves]]
 | 0, _, _, _, r, h => by rw [aY.eq_1] at h; cases h
 | k0 + 1, p1, p2, p3, r, h => by
  rw [aY.eq_2] at h
  refine MC.of 1 (n := 83) (fn := Tryz.f65) (c := cd Tryz.f65 []) (by kernel_rfl) (by kernel_rfl) (by kernel_rfl) (Nat.le_of_ble_eq_true rfl) rfl (zq fun K1 m1 => zr (zg [9] 2 [0,2,4] (zd (m1 _ _ (zq fun K2 m2 => zq fun K3 m3 => ?_)))))
  have j1 : ∀ (x1 : Bool), cH (aY k0) p1 p2 p3 x1 = some r → ∀ w0 w1, aL 83 1 [] w0 w1 [(0, vq 0), (2, vi p2), (4, vR (aj p1)), (23, vb x1)] [.box [ci p3.leaves]] → K3 w0 w1 := by
   intro x1 h w0 w1 hS
   unfold cH at h
   refine m3 _ _ (XW.sub hS ?_)
   refine zC h (fun b7 h => ?_) (fun b7 h => ?_)
   ·refine zq fun K8 m8 => zr (zv [9] 1 [6] [] [(6, vi 7)] [.box [ci p3.leaves]] (zd (m8 _ _ (ze ?_))))
    obtain rfl := zj h
    exact eT.fin (.inr rfl) [] [vi 7] [] (by kernel_rfl) trivial (by kernel_rfl) (by kernel_rfl) (.one (.rfl _ rfl))
   ·refine zs (m2 _ _ (zq fun K9 m9 => ?_))
    have j2 : ∀ (z1 : Int), cF (aY k0) p1 p2 z1 = some r → ∀ w0 w1, aL 83 1 [] w0 w1 [(0, vq 0), (2, vi p2), (4, vR (aj p1))] [.box [ci z1]] → K9 w0 w1 := by
     intro z1 h w0 w1 hS
     unfold cF at h
     refine m9 _ _ (XW.sub hS ?_)
     refine zq fun K13 m13 => zb 0 (zq fun K14 m14 => ?_)
     have j3 : ∀ (x2 : Bool), dX (aY k0) p1 p2 z1 x2 = some r → ∀ w0 w1, aL 83 1 [] w0 w1 [(0, vq 0), (2, vi p2), (4, vR (aj p1)), (33, vb x2)] [.box [ci z1]] → K14 w0 w1 := by
      intro x2 h w0 w1 hS
      unfold dX at h
      refine m14 _ _ (XW.sub hS ?_)
      refine zC h (fun b16 h => ?_) (fun b16 h => ?_)
      ·refine zq fun K17 m17 => zr (zv [9] 1 [6] [] [(6, vi 3)] [.box [ci z1]] (zd (m17 _ _ (ze ?_))))
       obtain rfl := zj h
       exact eT.fin (.inr rfl) [] [vi 3] [] (by kernel_rfl) trivial (by kernel_rfl) (by kernel_rfl) (.one (.rfl _ rfl))
      ·refine zq fun K18 m18 => ?_
       have j4 : ∀ (x3 : Bool), cc (aY k0) p1 p2 z1 x3 = some r → ∀ w0 w1, aL 83 1 [] w0 w1 [(0, vq 0), (2, vi p2), (4, vR (aj p1)), (42, vb x3)] [.box [ci z1]] → K18 w0 w1 := by
        intro x3 h w0 w1 hS
        unfold cc at h
        refine m18 _ _ (XW.sub hS ?_)
        refine zC h (fun b22 h => ?_) (fun b22 h => ?_)
        ·refine zq fun K23 m23 => zr (zv [9] 1 [6] [] [(6, vi 1)] [.box [ci z1]] (zd (m23 _ _ (ze ?_))))
         obtain rfl := zj h
         exact eT.fin (.inr rfl) [] [vi 1] [] (by kernel_rfl) trivial (by kernel_rfl) (by kernel_rfl) (.one (.rfl _ rfl))
        ·refine zs (m13 _ _ (zq fun K24 m24 => zq fun K25 m25 => ?_))
         obtain ⟨r3, c26, h⟩ := zB h
         refine zr (zu [9] 1 [0,2,4,61] [(aj p1)] (za (rX _ _ c26) (zv [9] 1 [0,2,4,7] [] [(0, vq 0), (2, vi p2), (4, vR (aj p1)), (7, vi r3)] [.box [ci z1]] (zd (m25 _ _ (zq fun K27 m27 => zr ?_))))))
         refine zg [9] 2 [0,2,4,7,64] (zd (m27 _ _ (zC h (fun b28 h => ?_) (fun b28 h => ?_))))
         ·refine zq fun K29 m29 => zr (zv [9] 2 [6] [] [(6, vi r3)] [.box [ci z1]] (zd (m29 _ _ (ze ?_))))
          obtain rfl := zj h
          exact eT.fin (.inr rfl) [] [vi r3] [] (by kernel_rfl) trivial (by kernel_rfl) (by kernel_rfl) (.one (.rfl _ rfl))
         ·refine zs (m24 _ _ (zq fun K30 m30 => ?_))
          have j5 : ∀ (z3 : Int), gP z3 = some r → ∀ w0 w1, aL 83 1 [] w0 w1 [] [.box [ci z3]] → K30 w0 w1 := by
           intro z3 h w0 w1 hS
           unfold gP at h
           refine m30 _ _ (XW.sub hS ?_)
           refine zq fun K43 m43 => zr (zv [9] 1 [6] [] [(6, vi 0)] [.box [ci z3]] (zd (m43 _ _ (ze ?_))))
           obtain rfl := zj h
           exact eT.fin (.inr rfl) [] [vi 0] [] (by kernel_rfl) trivial (by kernel_rfl) (by kernel_rfl) (.one (.rfl _ rfl))
          refine zq fun K31 m31 => zr (zv [9] 3 [0,2,67,68] [[pi p1.kind, pi p1.scale, .ro (ab.els p1.fields)]] [(0, vq 0), (2, vi p2), (67, vl ab p1.fields), (68, vi ((ab.els p1.fields).length : Int))] [.box [ci z1]] ?_)
          rw [ab.len p1.fields]
          refine zg [9] 1 [0,2,67,68,69] (zd (m31 _ _ (zb 1 (XW.rounds' bf (x := cd Tryz.f65 [1,1,1,1,1,0,1,0,0]) (by kernel_rfl) fun Q1 hQ1 => ?_))))
          have hL1 : ∀ (k1 : Nat) (z2 x4 : Int), bN (aY k0) p1 p2 k1 z2 x4 = some r → XR Tryz.prog 83 1 [] (cd Tryz.f65 [1,1,1,1,1,0,1,0,0]) Q1 k1 [(0, vq 0), (2, vi p2), (67, vl ab p1.fields), (68, vi (p1.fields.length : Int)), (69, vi x4)] [.box [ci z2]] := by
           intro k1
           induction k1 with
           | zero => intro z2 x4 h; rw [bN.eq_1] at h; cases h
           | succ k1 ih1 =>
            intro z2 x4 h
            rw [bN.eq_2] at h
            refine zq fun K32 m32 => zr (zg [9] 1 [0,2,67,68,69,70] (zd (m32 _ _ (zq fun K33 m33 => zC h (fun b34 h => ?_) (fun b34 h => ?_)))))
            ·refine zs (m33 _ _ (zq fun K35 m35 => zb 2 (zq fun K36 m36 => ?_)))
             obtain ⟨e1, a37, h⟩ := zB h
             refine zr (zo [9] 4 [0,2,9,67,68,69] [(aJ e1)] [0 ≤ x4 ∧ x4 < ((ab.els p1.fields).length : Int) ∧ aq 6 (ab.els p1.fields), (ab.els p1.fields)[x4.toNat]? = some (aJ e1)] (⟨ab.inb a37, ((ab.get a37).trans (by rcases e1 with ⟨_, _, _, ⟨_, _, _⟩⟩; rfl)), trivial⟩) (zd (m36 _ _ (zq fun K38 m38 => ?_))))
             obtain ⟨r4, c39, h⟩ := zB h
             refine zr (zv [9] 5 [0,2,67,68,69,73,75,77] [] [(0, vq 0), (2, vi p2), (67, vl ab p1.fields), (68, vi (p1.fields.length : Int)), (69, vi x4), (73, vq 0), (75, .ag (iY e1)), (77, vi (i64.wrap (p2 + 1)))] [.box [ci z2], .box (aS e1)] ?_)
             refine XO.calm 65 [vq 0, .ag (iY e1), vi (i64.wrap (p2 + 1))] [.box [ci z2]] [.box [ci r4.2.leaves]] (vi r4.1) [0] [(78, vi r4.1), (0, vq 0), (2, vi p2), (67, vl ab p1.fields), (68, vi (p1.fields.length : Int)), (69, vi x4), (73, vq 0), (75, .ag (iY e1)), (77, vi (i64.wrap (p2 + 1)))] [.box [ci r4.2.leaves], .box (aS e1)] (by kernel_rfl) (kd k0 _ _ _ _ c39) (by kernel_rfl) (by kernel_rfl) (by kernel_rfl) (by kernel_rfl) ?_
             refine zg [9] 1 [0,2,10,67,68,69] (zd (m38 _ _ (zq fun K40 m40 => zr (zg [9] 2 [0,2,10,67,68,69,80] (zd (m40 _ _ ?_))))))
             refine zC h (fun b41 h => ?_) (fun b41 h => ?_)
             ·refine zq fun K42 m42 => zr (zv [9] 2 [6] [] [(6, vi r4.1)] [.box [ci r4.2.leaves], .box (aS e1)] (zd (m42 _ _ (ze (hQ1 _ _ _ ?_)))))
              obtain rfl := zj h
              exact eT.fin (.inr rfl) [] [vi r4.1] [] (by kernel_rfl) trivial (by kernel_rfl) (by kernel_rfl) (.one (.rfl _ rfl))
             ·exact zs (m35 _ _ (zr (zg [9] 2 [0,2,67,68,69] (zd (XR.sub (aL.trans (aL.pick (fr' := (zI p1 p2 x4)) [0,2,67,68,69] (by kernel_rfl)) (aL.take (fr' := (zI p1 p2 x4)) 1 (by decide) (by kernel_rfl) (by kernel_rfl))) (ih1 r4.2.leaves (i64.wrap (x4 + 1)) h))))))
            ·exact zx 1 (hQ1 _ _ _ (j5 z2 h _ _ (zk [])))
          exact XR.sub (zk [0,2,67,68,69]) (hL1 bf z1 (0 : Int) h)
       rcases zW h with ⟨b19, h⟩ | ⟨b19, h⟩
       ·rcases zW h with ⟨b20, h⟩ | ⟨b20, h⟩
        ·exact zr (zu [9] 4 [0,2,4,46] [(aj p1)] (zt 46 b19 (zu [9] 4 [0,2,4,46,50] [(aj p1)] (zt 50 b20 (zv [9] 11 [0,2,4,42] [] [(0, vq 0), (2, vi p2), (4, vR (aj p1)), (42, vb true)] [.box [ci z1]] (zd (j4 true h _ _ (zk [0,2,4,42]))))))))
        ·rcases zW h with ⟨b21, h⟩ | ⟨b21, h⟩
         ·refine zr (zu [9] 4 [0,2,4,46] [(aj p1)] (zt 46 b19 (zu [9] 4 [0,2,4,46,50] [(aj p1)] (zt 50 b20 (zv [9] 5 [0,2,4,46,55] [(aj p1)] [(0, vq 0), (2, vi p2), (4, vR (aj p1)), (46, vb true), (55, vb (decide (p1.scale < (0 : Int))))] [.box [ci z1]] (zt 55 b21 (zg [9] 6 [0,2,4,42] ?_)))))))
          exact zd (j4 true h _ _ (zk [0,2,4,42]))
         ·refine zr (zu [9] 4 [0,2,4,46] [(aj p1)] (zt 46 b19 (zv [9] 4 [0,2,4,46,50] [(aj p1)] [(0, vq 0), (2, vi p2), (4, vR (aj p1)), (46, vb true), (50, vb (p1.kind != 3))] [.box [ci z1]] (zt 50 b20 (zu [9] 5 [0,2,4,46,55] [(aj p1)] (zt 55 b21 (zu [9] 6 [0,2,4,42] [(aj p1)] ?_)))))))
          exact zd (j4 (decide ((12 : Int) < p1.scale)) h _ _ (zk [0,2,4,42]))
       ·exact zr (zu [9] 4 [0,2,4,46] [(aj p1)] (zt 46 b19 (zg [9] 15 [0,2,4,42] (zd (j4 false h _ _ (zk [0,2,4,42]))))))
     rcases zW h with ⟨b15, h⟩ | ⟨b15, h⟩
     ·exact zr (zu [9] 4 [0,2,4,37] [(aj p1)] (zt 37 b15 (zg [9] 5 [0,2,4,33] (zd (j3 true h _ _ (zk [0,2,4,33]))))))
     ·exact zr (zv [9] 4 [0,2,4,37] [(aj p1)] [(0, vq 0), (2, vi p2), (4, vR (aj p1)), (37, vb (decide (p1.kind < (1 : Int))))] [.box [ci z1]] (zt 37 b15 (zu [9] 5 [0,2,4,33] [(aj p1)] (zd (j3 (decide ((7 : Int) < p1.kind)) h _ _ (zk [0,2,4,33]))))))
    refine zq fun K10 m10 => ?_
    obtain ⟨r2, c11, h⟩ := zB h
    refine zr (zu [9] 1 [0,2,4,24] [(aj p1)] (za (mH _ _ c11) (zd (m10 _ _ (zC h (fun b12 h => ?_) (fun b12 h => ?_))))))
    ·exact zr (zv [9] 8 [0,2,4] [] [(0, vq 0), (2, vi p2), (4, vR (aj p1))] [.box [ci (i64.wrap (p3.leaves + 1))]] (zd (j2 (i64.wrap (p3.leaves + 1)) h _ _ (zk [0,2,4]))))
    ·exact zs (j2 p3.leaves h _ _ (zk [0,2,4]))
  rcases zW h with ⟨b4, h⟩ | ⟨b4, h⟩
  ·exact zr (zg [9] 3 [0,2,4,13] (zt 13 b4 (zv [9] 10 [0,2,4,23] [] [(0, vq 0), (2, vi p2), (4, vR (aj p1)), (23, vb true)] [.box [ci p3.leaves]] (zd (j1 true h _ _ (zk [0,2,4,23]))))))
  ·obtain ⟨r1, c5, h⟩ := zB h
   rcases zW h with ⟨b6, h⟩ | ⟨b6, h⟩
   ·refine zr (zg [9] 3 [0,2,4,13] (zt 13 b4 (zu [9] 1 [0,2,4,13,14] [(aj p1)] (zl 107 [.ag [ci p1.kind, ci p1.scale, cl ab p1.fields]] (vb r1) [(15, vb r1), (0, vq 0), (2, vi p2), (4, vR (aj p1)), (13, vb false), (14, .ag [ci p1.kind, ci p1.scale, cl ab p1.fields])] (mH _ _ c5) (zg [9] 1 [0,2,4,13,16] (zt 16 b6 (zg [9] 7 [0,2,4,23] ?_)))))))
    exact zd (j1 (p3.leaves == 40) h _ _ (zk [0,2,4,23]))
   ·refine zr (zv [9] 3 [0,2,4,13] [] [(0, vq 0), (2, vi p2), (4, vR (aj p1)), (13, vb (decide ((4 : Int) < p2)))] [.box [ci p3.leaves]] (zt 13 b4 (zu [9] 1 [0,2,4,13,14] [(aj p1)] (za (mH _ _ c5) (zv [9] 1 [0,2,4,13,16] [] [(0, vq 0), (2, vi p2), (4, vR (aj p1)), (13, vb false), (16, vb r1)] [.box [ci p3.leaves]] (zt 16 b6 (zg [9] 7 [0,2,4,23] ?_)))))))
    exact zd (j1 false h _ _ (zk [0,2,4,23]))
def fJ (p1 : aw) : Option Int := aT (aY bf p1 (1 : Int) (bR.mk (0 : Int))) fun r1 => some r1.1
abbrev gd (p1 : aw) : List CV := [ci p1.kind, ci p1.scale, cl ab p1.fields]
theorem lQ (p1 : aw) (r : Int) (h : fJ p1 = some r) : PC Tryz.prog 22 [.ag (gd p1)] (vi r) := by
 unfold fJ at h
 refine zF 9 Tryz.f22 (zq fun K1 m1 => zr (zg [5] 2 [1] (zd (m1 _ _ (zq fun K2 m2 => zr ?_)))))
 refine zg [5] 3 [1,3] (zd (m2 _ _ (zq fun K3 m3 => ?_)))
 obtain ⟨r1, c4, h⟩ := zB h
 refine zr (zv [5] 2 [6,7] [[pi p1.kind, pi p1.scale, .ro (ab.els p1.fields)]] [(6, vq 0), (7, .ag (gd p1))] [.box [ci 0]] (XO.calm 65 [vq 0, .ag (gd p1), vi 1] [.box [ci 0]] [.box [ci r1.2.leaves]] (vi r1.1) [0] [(8, vi r1.1), (6, vq 0), (7, .ag (gd p1))] [.box [ci r1.2.leaves]] (by kernel_rfl) (kd bf _ _ _ _ c4) (by kernel_rfl) (by kernel_rfl) (by kernel_rfl) (by kernel_rfl) ?_))
 refine zg [5] 1 [2] (zd (m3 _ _ (ze ?_)))
 obtain rfl := zj h
 exact zf [vi r1.1] (.one (.rfl _ rfl))
def eR (p1 : ah) (p2 : (List (Int × Int))) : Option (Int × (List (Int × Int))) := aI (decide (p1.id < (1 : Int))) (some ((3 : Int), p2)) (aT (some (i64.wrap (((il (ea .i64) p2 p1.id).getD (0 : Int)) + (1 : Int)))) fun y1 => aT (some (decide ((1 : Int) < ((il (ea .i64) (ic (ea .i64) p2 p1.id y1) p1.id).getD (0 : Int))))) fun y2 => aI y2 (some ((5 : Int), (ic (ea .i64) p2 p1.id y1))) (some ((0 : Int), (ic (ea .i64) p2 p1.id y1))))
abbrev vL (p2 : (List (Int × Int))) : St := [.box [.mp 1], .raw (cz (ea .i64) (kb .i64) p2)]
abbrev te (p1 : ah) (p2 : (List (Int × Int))) (y1 : Int) : St := [.box [.mp 1], .raw (cz (ea .i64) (kb .i64) (ic (ea .i64) p2 p1.id y1))]
theorem na (p1 : ah) (p2 : (List (Int × Int))) (r : (Int × (List (Int × Int)))) (h : eR p1 p2 = some r) : MC Tryz.prog 96 [.ag [ci p1.id, cj p1.name, cb p1.need, ci p1.type.kind, ci p1.type.scale, cl ab p1.type.fields], vq 0] (vL p2) (vi r.1) [.box [.mp 1], .raw (cz (ea .i64) (kb .i64) r.2)] := by
 unfold eR at h
 refine MC.of 2 (n := 17) (fn := Tryz.f96) (c := cd Tryz.f96 []) (by kernel_rfl) (by kernel_rfl) (by kernel_rfl) (Nat.le_of_ble_eq_true rfl) rfl (zq fun K1 m1 => zr (zg [] 2 [1,2] (zd (m1 _ _ (zq fun K2 m2 => zq fun K3 m3 => ?_)))))
 refine zr (zu [] 3 [1,2,6] [(aJ p1)] (zd (m3 _ _ (zC h (fun b4 h => ?_) (fun b4 h => ?_)))))
 ·refine zq fun K5 m5 => zr (zv [] 1 [3] [] [(3, vi 3)] (vL p2) (zd (m5 _ _ (ze ?_))))
  obtain rfl := zj h
  exact eT.fin (.inr rfl) [] [vi 3] [] (by kernel_rfl) trivial (by kernel_rfl) (by kernel_rfl) (.one (.rfl _ rfl))
 ·refine zs (m2 _ _ (zq fun K6 m6 => zq fun K7 m7 => ?_))
  obtain ⟨y1, hy8, h⟩ := zB h
  refine zr (zv [] 3 [1,2,7,9] [(aJ p1)] [(1, vq 0), (2, vR (aJ p1)), (7, .one (.mp 1)), (9, vi p1.id)] (vL p2) ?_)
  refine XO.look (ea .i64) (kb .i64) 1 p2 p1.id (0 : Int) 3 3 [(10, vi ((il (ea .i64) p2 p1.id).getD (0 : Int))), (1, vq 0), (2, vR (aJ p1)), (7, .one (.mp 1)), (9, vi p1.id)] (by kernel_rfl) (by kernel_rfl) (by kernel_rfl) (by kernel_rfl) (by kernel_rfl) ?_
  refine zv [] 1 [1,2,7,9,11] [] [(1, vq 0), (2, vR [pi p1.id, .s (.string p1.name), .s (.bool p1.need), pi p1.type.kind, pi p1.type.scale, .ro (ab.els p1.type.fields)]), (7, .one (.mp 1)), (9, vi p1.id), (11, vi (i64.wrap (((il (ea .i64) p2 p1.id).getD (0 : Int)) + (1 : Int))))] [.box [.mp 1], .raw (cz (ea .i64) (kb .i64) p2)] ?_
  rw [show (i64.wrap (((il (ea .i64) p2 p1.id).getD (0 : Int)) + (1 : Int))) = y1 from zj hy8]
  refine XO.mupd (ea .i64) (kb .i64) 1 p2 p1.id y1 3 (te p1 p2 y1) (by kernel_rfl) (by kernel_rfl) (by kernel_rfl) (by kernel_rfl) (zd (m7 _ _ (zq fun K9 m9 => ?_)))
  obtain ⟨y2, hy10, h⟩ := zB h
  refine zr (zv [] 3 [12,14] [(aJ p1)] [(12, .one (.mp 1)), (14, vi p1.id)] (te p1 p2 y1) (XO.look (ea .i64) (kb .i64) 1 (ic (ea .i64) p2 p1.id y1) p1.id (0 : Int) 3 3 [(15, vi ((il (ea .i64) (ic (ea .i64) p2 p1.id y1) p1.id).getD (0 : Int))), (12, .one (.mp 1)), (14, vi p1.id)] (by kernel_rfl) (by kernel_rfl) (by kernel_rfl) (by kernel_rfl) (by kernel_rfl) ?_))
  refine zv [] 1 [16] [] [(16, vb (decide ((1 : Int) < ((il (ea .i64) (ic (ea .i64) p2 p1.id y1) p1.id).getD (0 : Int)))))] [.box [.mp 1], .raw (cz (ea .i64) (kb .i64) (ic (ea .i64) p2 p1.id y1))] ?_
  rw [show (decide ((1 : Int) < ((il (ea .i64) (ic (ea .i64) p2 p1.id y1) p1.id).getD (0 : Int)))) = y2 from zj hy10]
  refine zd (m9 _ _ (zC h (fun b11 h => ?_) (fun b11 h => ?_)))
  ·refine zq fun K12 m12 => zr (zv [] 1 [3] [] [(3, vi 5)] (te p1 p2 y1) (zd (m12 _ _ (ze ?_))))
   obtain rfl := zj h
   exact eT.fin (.inr rfl) [] [vi 5] [] (by kernel_rfl) trivial (by kernel_rfl) (by kernel_rfl) (.one (.rfl _ rfl))
  ·refine zs (m6 _ _ (zq fun K13 m13 => zr (zv [] 1 [3] [] [(3, vi 0)] (te p1 p2 y1) (zd (m13 _ _ (ze ?_))))))
   obtain rfl := zj h
   exact eT.fin (.inr rfl) [] [vi 0] [] (by kernel_rfl) trivial (by kernel_rfl) (by kernel_rfl) (.one (.rfl _ rfl))
def cw (z2 : (List (Int × Int))) : Option (Int × (List (Int × Int))) := some ((0 : Int), z2)
def aZ (q_value_Walk_of_value_CheckSchema_1 : (List ah) → (List (Int × Int)) → Option (Int × (List (Int × Int)))) (p1 : (List ah)) : Nat → (List (Int × Int)) → Int → Option (Int × (List (Int × Int)))
 | 0, _, _ => none
 | k1 + 1, z1, x1 => aI (decide (x1 < (p1.length : Int))) (aT (at? p1 x1) fun e1 => aT (eR e1 z1) fun r1 => aI (r1.1 != 0) (some (r1.1, r1.2)) (aT (q_value_Walk_of_value_CheckSchema_1 e1.type.fields r1.2) fun r2 => aI (r2.1 != 0) (some (r2.1, r2.2)) ((aZ q_value_Walk_of_value_CheckSchema_1 p1 k1) r2.2 (i64.wrap (x1 + 1))))) (cw z1)
def aM : Nat → (List ah) → (List (Int × Int)) → Option (Int × (List (Int × Int)))
 | 0, _, _ => none
 | k0 + 1, p1, p2 => aZ (aM k0) p1 bf p2 (0 : Int)
abbrev AT (p1 : (List ah)) (x1 : Int) : Fr := [(1, .one (.fn 96 [.pt 0 0 0 0])), (9, vl ab p1), (10, vi (p1.length : Int)), (11, vi (i64.wrap (x1 + 1)))]
abbrev xl (e1 : ah) (r1 : (Int × (List (Int × Int)))) : St := [.box [.mp 1], .raw (cz (ea .i64) (kb .i64) r1.2), .box (aS e1)]
theorem fa : ∀ (k0 : Nat) (p1 : (List ah)) (p2 : (List (Int × Int))) (r : (Int × (List (Int × Int)))), aM k0 p1 p2 = some r → MC Tryz.prog 95 [vl ab p1, .one (.fn 96 [.pt 0 0 0 0])] [.box [.mp 1], .raw (cz (ea .i64) (kb .i64) p2)] (vi r.1) [.box [.mp 1], .raw (cz (ea .i64) (kb .i64) r.2)]
 | 0, _, _, r, h => by rw [aM.eq_1] at h; cases h
 | k0 + 1, p1, p2, r, h => by
  rw [aM.eq_2] at h
  refine MC.of 2 (n := 30) (fn := Tryz.f95) (c := cd Tryz.f95 []) (by kernel_rfl) (by kernel_rfl) (by kernel_rfl) (Nat.le_of_ble_eq_true rfl) rfl (zq fun K1 m1 => zr (zg [6] 1 [0,1] (zd (m1 _ _ (zq fun K2 m2 => ?_)))))
  have j1 : ∀ (z2 : (List (Int × Int))), cw z2 = some r → ∀ w0 w1, aL 30 2 [] w0 w1 [] [.box [.mp 1], .raw (cz (ea .i64) (kb .i64) z2)] → K2 w0 w1 := by
   intro z2 h w0 w1 hS
   unfold cw at h
   refine m2 _ _ (XW.sub hS ?_)
   refine zq fun K21 m21 => zr (zv [6] 1 [4] [] [(4, vi 0)] [.box [.mp 1], .raw (cz (ea .i64) (kb .i64) z2)] (zd (m21 _ _ (ze ?_))))
   obtain rfl := zj h
   exact eT.fin (.inr rfl) [] [vi 0] [] (by kernel_rfl) trivial (by kernel_rfl) (by kernel_rfl) (.one (.rfl _ rfl))
  refine zq fun K3 m3 => zr (zv [6] 2 [1,9,10] [] [(1, .one (.fn 96 [.pt 0 0 0 0])), (9, vl ab p1), (10, vi ((ab.els p1).length : Int))] [.box [.mp 1], .raw (cz (ea .i64) (kb .i64) p2)] ?_)
  rw [ab.len p1]
  refine zg [6] 1 [1,9,10,11] (zd (m3 _ _ (zb 0 (XW.rounds' bf (x := cd Tryz.f95 [1,0,1,0,0]) (by kernel_rfl) fun Q1 hQ1 => ?_))))
  have hL1 : ∀ (k1 : Nat) (z1 : (List (Int × Int))) (x1 : Int), aZ (aM k0) p1 k1 z1 x1 = some r → XR Tryz.prog 30 2 [] (cd Tryz.f95 [1,0,1,0,0]) Q1 k1 [(1, .one (.fn 96 [.pt 0 0 0 0])), (9, vl ab p1), (10, vi (p1.length : Int)), (11, vi x1)] [.box [.mp 1], .raw (cz (ea .i64) (kb .i64) z1)] := by
   intro k1
   induction k1 with
   | zero => intro z1 x1 h; rw [aZ.eq_1] at h; cases h
   | succ k1 ih1 =>
    intro z1 x1 h
    rw [aZ.eq_2] at h
    refine zq fun K4 m4 => zr (zg [6] 1 [1,9,10,11,12] (zd (m4 _ _ (zq fun K5 m5 => zC h (fun b6 h => ?_) (fun b6 h => ?_)))))
    ·refine zs (m5 _ _ (zq fun K7 m7 => zb 1 (zq fun K8 m8 => ?_)))
     obtain ⟨e1, a9, h⟩ := zB h
     refine zr (zo [6] 4 [1,6,9,10,11] [(aJ e1)] [0 ≤ x1 ∧ x1 < ((ab.els p1).length : Int) ∧ aq 6 (ab.els p1), (ab.els p1)[x1.toNat]? = some (aJ e1)] (⟨ab.inb a9, ((ab.get a9).trans (by rcases e1 with ⟨_, _, _, ⟨_, _, _⟩⟩; rfl)), trivial⟩) (zd (m8 _ _ (zq fun K10 m10 => zq fun K11 m11 => ?_))))
     obtain ⟨r1, c12, h⟩ := zB h
     refine zr (zv [6] 2 [1,6,9,10,11,15,16] [] [(1, .one (.fn 96 [.pt 0 0 0 0])), (6, vq 2), (9, vl ab p1), (10, vi (p1.length : Int)), (11, vi x1), (15, .one (.fn 96 [.pt 0 0 0 0])), (16, .ag (aS e1))] [.box [.mp 1], .raw (cz (ea .i64) (kb .i64) z1), .box (aS e1)] ?_)
     refine XO.calm 96 [.ag (aS e1), vq 0] [.box [.mp 1], .raw (cz (ea .i64) (kb .i64) z1)] [.box [.mp 1], .raw (cz (ea .i64) (kb .i64) r1.2)] (vi r1.1) [0, 1] [(17, vi r1.1), (1, .one (.fn 96 [.pt 0 0 0 0])), (6, vq 2), (9, vl ab p1), (10, vi (p1.length : Int)), (11, vi x1), (15, .one (.fn 96 [.pt 0 0 0 0])), (16, .ag (aS e1))] (xl e1 r1) (by kernel_rfl) (na _ _ _ c12) (by kernel_rfl) (by kernel_rfl) (by kernel_rfl) (by kernel_rfl) ?_
     refine zg [6] 1 [1,6,7,9,10,11] (zd (m11 _ _ (zq fun K13 m13 => zr (zg [6] 2 [1,6,7,9,10,11,19] (zd (m13 _ _ ?_))))))
     refine zC h (fun b14 h => ?_) (fun b14 h => ?_)
     ·refine zq fun K15 m15 => zr (zv [6] 2 [4] [] [(4, vi r1.1)] (xl e1 r1) (zd (m15 _ _ (ze (hQ1 _ _ _ ?_)))))
      obtain rfl := zj h
      exact eT.fin (.inr rfl) [] [vi r1.1] [] (by kernel_rfl) trivial (by kernel_rfl) (by kernel_rfl) (.one (.rfl _ rfl))
     ·refine zs (m10 _ _ (zq fun K16 m16 => ?_))
      obtain ⟨r2, c17, h⟩ := zB h
      refine zr (zv [6] 4 [1,9,10,11,23,24] [] [(1, .one (.fn 96 [.pt 0 0 0 0])), (9, vl ab p1), (10, vi (p1.length : Int)), (11, vi x1), (23, vl ab e1.type.fields), (24, .one (.fn 96 [.pt 0 0 0 0]))] (xl e1 r1) ?_)
      refine XO.calm 95 [vl ab e1.type.fields, .one (.fn 96 [.pt 0 0 0 0])] [.box [.mp 1], .raw (cz (ea .i64) (kb .i64) r1.2)] [.box [.mp 1], .raw (cz (ea .i64) (kb .i64) r2.2)] (vi r2.1) [0, 1] [(25, vi r2.1), (1, .one (.fn 96 [.pt 0 0 0 0])), (9, vl ab p1), (10, vi (p1.length : Int)), (11, vi x1), (23, vl ab e1.type.fields), (24, .one (.fn 96 [.pt 0 0 0 0]))] [.box [.mp 1], .raw (cz (ea .i64) (kb .i64) r2.2), .box (aS e1)] (by kernel_rfl) (fa k0 _ _ _ c17) (by kernel_rfl) (by kernel_rfl) (by kernel_rfl) (by kernel_rfl) ?_
      refine zg [6] 1 [1,8,9,10,11] (zd (m16 _ _ (zq fun K18 m18 => zr (zg [6] 2 [1,8,9,10,11,27] (zd (m18 _ _ ?_))))))
      refine zC h (fun b19 h => ?_) (fun b19 h => ?_)
      ·refine zq fun K20 m20 => zr (zv [6] 2 [4] [] [(4, vi r2.1)] [.box [.mp 1], .raw (cz (ea .i64) (kb .i64) r2.2), .box (aS e1)] (zd (m20 _ _ (ze (hQ1 _ _ _ ?_)))))
       obtain rfl := zj h
       exact eT.fin (.inr rfl) [] [vi r2.1] [] (by kernel_rfl) trivial (by kernel_rfl) (by kernel_rfl) (.one (.rfl _ rfl))
      ·exact zs (m7 _ _ (zr (zg [6] 2 [1,9,10,11] (zd (XR.sub (aL.trans (aL.pick (fr' := (AT p1 x1)) [1,9,10,11] (by kernel_rfl)) (aL.take (fr' := (AT p1 x1)) 2 (by decide) (by kernel_rfl) (by kernel_rfl))) (ih1 r2.2 (i64.wrap (x1 + 1)) h))))))
    ·exact zx 0 (hQ1 _ _ _ (j1 z1 h _ _ (zk [])))
  exact XR.sub (zk [1,9,10,11]) (hL1 bf p2 (0 : Int) h)
def cX (p1 : (List ah)) : Option Int := aT (fJ (aw.mk (7 : Int) (0 : Int) p1)) fun r1 => aI (r1 != 0) (some r1) (aT (aM bf p1 []) fun r2 => some r2.1)
theorem kU (p1 : (List ah)) (r : Int) (h : cX p1 = some r) : PC Tryz.prog 52 [vl ab p1] (vi r) := by
 unfold cX at h
 refine zF 15 Tryz.f52 (zq fun K1 m1 => zr (zg [4] 1 [0] (zd (m1 _ _ (zq fun K2 m2 => zq fun K3 m3 => ?_)))))
 obtain ⟨r1, c4, h⟩ := zB h
 refine zr (zg [4] 2 [0,6] (zl 22 [.ag [ci 7, ci 0, cl ab p1]] (vi r1) [(7, vi r1), (0, vl ab p1), (6, .ag [ci 7, ci 0, cl ab p1])] (lQ _ _ c4) (zg [4] 1 [0,3] (zd (m3 _ _ (zq fun K5 m5 => zr ?_))))))
 refine zg [4] 2 [0,3,9] (zd (m5 _ _ (zC h (fun b6 h => ?_) (fun b6 h => ?_))))
 ·refine zq fun K7 m7 => zr (zv [4] 2 [2] [] [(2, vi r1)] [] (zd (m7 _ _ (ze ?_))))
  obtain rfl := zj h
  exact zf [vi r1] (.one (.rfl _ rfl))
 ·refine zs (m2 _ _ (zq fun K8 m8 => zr (XO.mkm (ea .i64) (kb .i64) [(11, .one (.mp 0)), (0, vl ab p1), (3, vi r1), (9, vb (r1 != 0))] [.raw (cz (ea .i64) (kb .i64) [])] (by kernel_rfl) (by kernel_rfl) (by kernel_rfl) (zg [4] 2 [0,4] (zd (m8 _ _ ?_))))))
  refine zq fun K9 m9 => ?_
  obtain ⟨r2, c10, h⟩ := zB h
  refine zr (zv [4] 2 [12,13] [] [(12, vl ab p1), (13, .one (.fn 96 [.pt 1 0 0 0]))] [.raw (cz (ea .i64) (kb .i64) []), .box [.mp 0]] (XO.calm 95 [vl ab p1, .one (.fn 96 [.pt 0 0 0 0])] [.box [.mp 1], .raw (cz (ea .i64) (kb .i64) [])] [.box [.mp 1], .raw (cz (ea .i64) (kb .i64) r2.2)] (vi r2.1) [1, 0] [(14, vi r2.1), (12, vl ab p1), (13, .one (.fn 96 [.pt 1 0 0 0]))] [.raw (cz (ea .i64) (kb .i64) r2.2), .box [.mp 0]] (by kernel_rfl) (fa bf _ _ _ c10) (by kernel_rfl) (by kernel_rfl) (by kernel_rfl) (by kernel_rfl) ?_))
  refine zg [4] 1 [2] (zd (m9 _ _ (ze ?_)))
  obtain rfl := zj h
  exact zf [vi r2.1] (.one (.rfl _ rfl))
def fH (x1 : Bool) : Option Bool := some x1
def dw (p1 p2 p3 : Int) : Option Bool := aI (decide (p2 ≤ p1)) (fH (decide (p1 ≤ p3))) (fH false)
theorem bm (p1 p2 p3 : Int) (r : Bool) (h : dw p1 p2 p3 = some r) : PC Tryz.prog 114 [vi p1, vi p2, vi p3] (vb r) := by
 unfold dw at h
 refine zF 15 Tryz.f114 (zq fun K1 m1 => zr (zg [] 1 [0,1,2] (zd (m1 _ _ (zq fun K2 m2 => ?_)))))
 have j1 : ∀ (x1 : Bool), fH x1 = some r → ∀ w0 w1, aL 15 0 [] w0 w1 [(6, vb x1)] [] → K2 w0 w1 := by
  intro x1 h w0 w1 hS
  unfold fH at h
  refine m2 _ _ (XW.sub hS ?_)
  refine ze ?_
  obtain rfl := zj h
  exact zf [vb x1] (.one (.rfl _ rfl))
 rcases zW h with ⟨b3, h⟩ | ⟨b3, h⟩
 ·exact zr (zg [] 4 [0,2,10] (zt 10 b3 (zv [] 5 [6] [] [(6, vb (decide (p1 ≤ p3)))] [] (zd (j1 (decide (p1 ≤ p3)) h _ _ (zk [6]))))))
 ·exact zr (zg [] 4 [0,2,10] (zt 10 b3 (zg [] 5 [6] (zd (j1 false h _ _ (zk [6]))))))
def i6 (rec1 : Nat → Option Bool) (p1 : ByteArray) (z1 : Nat) (x2 : Bool) : Option Bool := aI x2 (some false) (rec1 (z1 + (Utf8.decode p1 z1).2))
def kz : Option Bool := some true
def eC (p1 : ByteArray) : Nat → Nat → Option Bool
 | 0, _ => none
 | k1 + 1, z1 => aI (decide (z1 < p1.size)) (aI (decide (Int.ofNat (Utf8.decode p1 z1).1 < (32 : Int))) (i6 (eC p1 k1) p1 z1 true) (i6 (eC p1 k1) p1 z1 (Int.ofNat (Utf8.decode p1 z1).1 == 127))) (kz)
def jg (p1 : ByteArray) (x1 : Bool) : Option Bool := aI x1 (some false) (eC p1 bf 0)
def ls (p1 : ByteArray) : Option Bool := aI (decide ((256 : Int) < (p1.size : Int))) (jg p1 true) (aT (utf8_ValidString p1) fun r1 => jg p1 (!r1))
abbrev tS (p1 : ByteArray) (z1 : Nat) : St := [.raw (.stringIter p1 (z1 + (Utf8.decode p1 z1).2))]
theorem pH (p1 : ByteArray) (r : Bool) (h : ls p1 = some r) : PC Tryz.prog 155 [vs p1] (vb r) := by
 unfold ls at h
 refine zF 24 Tryz.f155 (zq fun K1 m1 => zr (zg [] 1 [0] (zd (m1 _ _ (zq fun K2 m2 => zq fun K3 m3 => ?_)))))
 have j1 : ∀ (x1 : Bool), jg p1 x1 = some r → ∀ w0 w1, aL 24 0 [] w0 w1 [(0, vs p1), (12, vb x1)] [] → K3 w0 w1 := by
  intro x1 h w0 w1 hS
  unfold jg at h
  refine m3 _ _ (XW.sub hS ?_)
  refine zC h (fun b6 h => ?_) (fun b6 h => ?_)
  ·refine zq fun K7 m7 => zr (zg [] 1 [2] (zd (m7 _ _ (ze ?_))))
   obtain rfl := zj h
   exact zf [vb false] (.one (.rfl _ rfl))
  ·refine zs (m2 _ _ (zq fun K8 m8 => ?_))
   have j3 : ∀ (_ : Unit), kz = some r → ∀ w0 w1, aL 24 0 [] w0 w1 [] [] → K8 w0 w1 := by
    intro _ h w0 w1 hS
    unfold kz at h
    refine m8 _ _ (XW.sub hS ?_)
    refine zq fun K19 m19 => zr (zg [] 1 [2] (zd (m19 _ _ (ze ?_))))
    obtain rfl := zj h
    exact zf [vb true] (.one (.rfl _ rfl))
   refine zq fun K9 m9 => zr (zv [] 1 [13] [] [(13, vs p1)] [] (XO.rng p1 [(14, vq 0), (13, vs p1)] [.raw (.stringIter p1 0)] (by kernel_rfl) (by kernel_rfl) (by kernel_rfl) (zd (m9 _ _ (zb 0 (XW.rounds' bf (x := cd Tryz.f155 [1,1,0,1,0,0]) (by kernel_rfl) fun Q1 hQ1 => ?_))))))
   have hL1 : ∀ (k1 z1 : Nat), eC p1 k1 z1 = some r → XR Tryz.prog 24 0 [] (cd Tryz.f155 [1,1,0,1,0,0]) Q1 k1 [(14, vq 0)] [.raw (.stringIter p1 z1)] := by
    intro k1
    induction k1 with
    | zero => intro z1 h; rw [eC.eq_1] at h; cases h
    | succ k1 ih1 =>
     intro z1 h
     rw [eC.eq_2] at h
     refine zq fun K10 m10 => ?_
     rcases zW h with ⟨b11, h⟩ | ⟨b11, h⟩
     ·refine zr (XO.nxt 0 p1 z1 [(15, .tp [vb true, vi (Int.ofNat z1), vk .i32 (Int.ofNat (Utf8.decode p1 z1).1)]), (14, vq 0)] (tS p1 z1) (by kernel_rfl) (by kernel_rfl) (by kernel_rfl) (by kernel_rfl) b11 (zg [] 1 [14,15,16] (zd (m10 _ _ (zq fun K12 m12 => zc true (fun _ => ?_) (fun hx => by cases hx))))))
      refine zs (m12 _ _ (zb 1 (zq fun K13 m13 => zr (zg [] 2 [4,14] (zd (m13 _ _ ?_))))))
      refine zq fun K14 m14 => ?_
      have j2 : ∀ (x2 : Bool), i6 (eC p1 k1) p1 z1 x2 = some r → ∀ w0 w1, aL 24 0 [] w0 w1 [(14, vq 0), (23, vb x2)] (tS p1 z1) → K14 w0 w1 := by
       intro x2 h w0 w1 hS
       unfold i6 at h
       refine m14 _ _ (XW.sub hS ?_)
       refine zC h (fun b16 h => ?_) (fun b16 h => ?_)
       ·refine zq fun K17 m17 => zr (zg [] 1 [2] (zd (m17 _ _ (ze (hQ1 _ _ _ ?_)))))
        obtain rfl := zj h
        exact zf [vb false] (.one (.rfl _ rfl))
       ·exact zs (XR.sub (zk [14]) (ih1 (z1 + (Utf8.decode p1 z1).2) h))
      rcases zW h with ⟨b15, h⟩ | ⟨b15, h⟩
      ·exact zr (zv [] 3 [4,14,20] [] [(4, vk .i32 (Int.ofNat (Utf8.decode p1 z1).1)), (14, vq 0), (20, vb (decide (Int.ofNat (Utf8.decode p1 z1).1 < (32 : Int))))] (tS p1 z1) (zt 20 b15 (zg [] 3 [14,23] (zd (j2 true h _ _ (zk [14,23]))))))
      ·exact zr (zg [] 3 [4,14,20] (zt 20 b15 (zv [] 3 [14,23] [] [(14, vq 0), (23, vb (Int.ofNat (Utf8.decode p1 z1).1 == 127))] (tS p1 z1) (zd (j2 (Int.ofNat (Utf8.decode p1 z1).1 == 127) h _ _ (zk [14,23]))))))
     ·refine zr (XO.nxtE 0 p1 z1 [(15, .tp [vb false]), (14, vq 0)] (by kernel_rfl) (by kernel_rfl) (by kernel_rfl) b11 (zv [] 1 [14,15,16] [] [(14, vq 0), (15, .tp [vb false]), (16, vb false)] [.raw (.stringIter p1 z1)] (zd (m10 _ _ (zq fun K18 m18 => zc false (fun hx => by cases hx) (fun _ => ?_))))))
      exact zx 0 (hQ1 _ _ _ (j3 () h _ _ (aL.trans (aL.pick (fr' := []) [] (by kernel_rfl)) (aL.take (fr' := []) 0 (Nat.zero_le _) (by kernel_rfl) (by kernel_rfl)))))
   exact XR.sub (zk [14]) (hL1 bf 0 h)
 rcases zW h with ⟨b4, h⟩ | ⟨b4, h⟩
 ·exact zr (zg [] 4 [0,8] (zt 8 b4 (zv [] 4 [0,12] [] [(0, vs p1), (12, vb true)] [] (zd (j1 true h _ _ (zk [0,12]))))))
 ·obtain ⟨r1, c5, h⟩ := zB h
  exact zr (zg [] 4 [0,8] (zt 8 b4 (zg [] 1 [0,8,9] (zl 180 [vs p1] (vb r1) [(10, vb r1), (0, vs p1), (8, vb false), (9, vs p1)] (jz _ _ c5) (zg [] 2 [0,12] (zd (j1 (!r1) h _ _ (zk [0,12]))))))))
def gi (x2 : Bool) : Option Bool := some x2
def fw (x3 : Bool) : Option Bool := some x3
def fh (x4 : Bool) : Option Bool := some x4
def fo (x5 : Bool) : Option Bool := some x5
def gw (x6 : Bool) : Option Bool := some x6
def fv (x7 : Bool) : Option Bool := some x7
def gc (x8 : Bool) : Option Bool := some x8
def gh (x9 : Bool) : Option Bool := some x9
def gn (p1 : ac) (x1 : Bool) : Option Bool := aI (p1.kind == 0) (aI x1 (aI (p1.s.toList == (ByteArray.mk #[]).toList) (gi ((p1.items.length : Int) == 0)) (gi false)) (gi false)) (aI (p1.kind == 1) (aT (dw p1.n (0 : Int) (1 : Int)) fun r1 => aI r1 (aI (p1.scale == 0) (aI (p1.s.toList == (ByteArray.mk #[]).toList) (fw ((p1.items.length : Int) == 0)) (fw false)) (fw false)) (fw false)) (aI (p1.kind == 2) (aT (dw p1.n (-999999999999999999 : Int) (999999999999999999 : Int)) fun r2 => aI r2 (aI (p1.scale == 0) (aI (p1.s.toList == (ByteArray.mk #[]).toList) (fh ((p1.items.length : Int) == 0)) (fh false)) (fh false)) (fh false)) (aI (p1.kind == 3) (aT (dw p1.n (-999999999999999999 : Int) (999999999999999999 : Int)) fun r3 => aI r3 (aT (dw p1.scale (0 : Int) (12 : Int)) fun r4 => aI r4 (aI (p1.s.toList == (ByteArray.mk #[]).toList) (fo ((p1.items.length : Int) == 0)) (fo false)) (fo false)) (fo false)) (aI (p1.kind == 4) (aI x1 (aT (ls p1.s) fun r5 => aI r5 (gw ((p1.items.length : Int) == 0)) (gw false)) (gw false)) (aI (p1.kind == 5) (aT (dw p1.n (-62135596800 : Int) (253402300799 : Int)) fun r6 => aI r6 (aI (p1.scale == 0) (aI (p1.s.toList == (ByteArray.mk #[]).toList) (fv ((p1.items.length : Int) == 0)) (fv false)) (fv false)) (fv false)) (aI (p1.kind == 6) (aI x1 (aI (p1.s.toList == (ByteArray.mk #[]).toList) (gc (decide ((p1.items.length : Int) ≤ (64 : Int)))) (gc false)) (gc false)) (aI (p1.kind == 7) (aI x1 (aI (p1.s.toList == (ByteArray.mk #[]).toList) (gh (decide ((0 : Int) < (p1.items.length : Int)))) (gh false)) (gh false)) (some false))))))))
def kI (p1 : ac) : Option Bool := aI (p1.n == 0) (gn p1 (p1.scale == 0)) (gn p1 false)
abbrev ae (p1 : ac) : List PV := [pi p1.kind, pi p1.n, pi p1.scale, .s (.string p1.s), .ro (aa.els p1.items)]
abbrev tm (p1 : ac) (r2 : Bool) : Fr := [(53, vb r2), (1, vR (ae p1)), (52, vi p1.n)]
abbrev wc (p1 : ac) : Fr := [(1, vR (ae p1)), (73, vi p1.n)]
abbrev uf (p1 : ac) (r6 : Bool) : Fr := [(109, vb r6), (1, vR (ae p1)), (108, vi p1.n)]
theorem sx (p1 : ac) (r : Bool) (h : kI p1 = some r) : PC Tryz.prog 110 [.ag [ci p1.kind, ci p1.n, ci p1.scale, cj p1.s, cl aa p1.items]] (vb r) := by
 unfold kI at h
 refine zF 154 Tryz.f110 (zq fun K1 m1 => zr (zg [] 2 [1] (zd (m1 _ _ (zq fun K2 m2 => ?_)))))
 have j1 : ∀ (x1 : Bool), gn p1 x1 = some r → ∀ w0 w1, aL 154 0 [] w0 w1 [(1, vR (ae p1)), (3, vb x1)] [] → K2 w0 w1 := by
  intro x1 h w0 w1 hS
  unfold gn at h
  refine m2 _ _ (XW.sub hS ?_)
  refine zq fun K4 m4 => zq fun K5 m5 => zr (zu [] 2 [1,3,13] [(ae p1)] (zd (m5 _ _ (zb 0 (zq fun K6 m6 => ?_)))))
  refine zr (zg [] 2 [1,3,13,14] (zd (m6 _ _ (zC h (fun b7 h => ?_) (fun b7 h => ?_)))))
  ·refine zq fun K8 m8 => ?_
   have j2 : ∀ (x2 : Bool), gi x2 = some r → ∀ w0 w1, aL 154 0 [] w0 w1 [(2, vb x2)] [] → K8 w0 w1 := by
    intro x2 h w0 w1 hS
    unfold gi at h
    refine m8 _ _ (XW.sub hS ?_)
    refine ze ?_
    obtain rfl := zj h
    exact zf [vb x2] (.one (.rfl _ rfl))
   rcases zW h with ⟨b9, h⟩ | ⟨b9, h⟩
   ·rcases zW h with ⟨b10, h⟩ | ⟨b10, h⟩
    ·refine zr (zv [] 2 [1,17] [] [(1, vR [pi p1.kind, pi p1.n, pi p1.scale, .s (.string p1.s), .ro (aa.els p1.items)]), (17, vb x1)] [] (zt 17 b9 (zu [] 5 [1,22] [[pi p1.kind, pi p1.n, pi p1.scale, .s (.string p1.s), .ro (aa.els p1.items)]] (zt 22 b10 (zv [] 3 [22,25] [[pi p1.kind, pi p1.n, pi p1.scale, .s (.string p1.s), .ro (aa.els p1.items)]] [(22, vb true), (25, vi ((aa.els p1.items).length : Int))] [] ?_)))))
     rw [aa.len p1.items]
     exact zg [] 3 [2] (zd (j2 ((p1.items.length : Int) == 0) h _ _ (zk [2])))
    ·exact zr (zg [] 2 [1,17] (zt 17 b9 (zv [] 5 [1,22] [(ae p1)] [(1, vR (ae p1)), (22, vb (p1.s.toList == (ByteArray.mk #[]).toList))] [] (zt 22 b10 (zg [] 6 [2] (zd (j2 false h _ _ (zk [2]))))))))
   ·exact zr (zv [] 2 [1,17] [] [(1, vR (ae p1)), (17, vb x1)] [] (zt 17 b9 (zg [] 11 [2] (zd (j2 false h _ _ (zk [2]))))))
  ·refine zq fun K11 m11 => zr (zv [] 2 [1,3,13,28] [] [(1, vR (ae p1)), (3, vb x1), (13, vi p1.kind), (28, vb (p1.kind == 1))] [] (zd (m11 _ _ (zC h (fun b12 h => ?_) (fun b12 h => ?_)))))
   ·refine zq fun K13 m13 => ?_
    have j3 : ∀ (x3 : Bool), fw x3 = some r → ∀ w0 w1, aL 154 0 [] w0 w1 [(2, vb x3)] [] → K13 w0 w1 := by
     intro x3 h w0 w1 hS
     unfold fw at h
     refine m13 _ _ (XW.sub hS ?_)
     refine ze ?_
     obtain rfl := zj h
     exact zf [vb x3] (.one (.rfl _ rfl))
    obtain ⟨r1, c14, h⟩ := zB h
    rcases zW h with ⟨b15, h⟩ | ⟨b15, h⟩
    ·rcases zW h with ⟨b16, h⟩ | ⟨b16, h⟩
     ·rcases zW h with ⟨b17, h⟩ | ⟨b17, h⟩
      ·refine zr (zu [] 2 [1,31] [(ae p1)] (za (bm _ _ _ _ c14) (zv [] 1 [1,33] [] [(1, vR (ae p1)), (33, vb r1)] [] (zt 33 b15 (zu [] 5 [1,38] [(ae p1)] (zt 38 b16 (zu [] 5 [1,43] [(ae p1)] ?_)))))))
       refine zt 43 b17 (zv [] 3 [43,46] [[pi p1.kind, pi p1.n, pi p1.scale, .s (.string p1.s), .ro (aa.els p1.items)]] [(43, vb true), (46, vi ((aa.els p1.items).length : Int))] [] ?_)
       rw [aa.len p1.items]
       exact zg [] 3 [2] (zd (j3 ((p1.items.length : Int) == 0) h _ _ (zk [2])))
      ·refine zr (zu [] 2 [1,31] [(ae p1)] (zl 114 [vi p1.n, vi 0, vi 1] (vb r1) [(32, vb r1), (1, vR (ae p1)), (31, vi p1.n)] (bm _ _ _ _ c14) (zg [] 1 [1,33] (zt 33 b15 (zu [] 5 [1,38] [(ae p1)] (zt 38 b16 ?_))))))
       exact zv [] 5 [1,43] [(ae p1)] [(1, vR (ae p1)), (43, vb (p1.s.toList == (ByteArray.mk #[]).toList))] [] (zt 43 b17 (zg [] 6 [2] (zd (j3 false h _ _ (zk [2])))))
     ·refine zr (zu [] 2 [1,31] [(ae p1)] (za (bm _ _ _ _ c14) (zv [] 1 [1,33] [] [(1, vR (ae p1)), (33, vb r1)] [] (zt 33 b15 (zu [] 5 [1,38] [(ae p1)] (zt 38 b16 (zg [] 11 [2] ?_)))))))
      exact zd (j3 false h _ _ (zk [2]))
    ·exact zr (zu [] 2 [1,31] [(ae p1)] (za (bm _ _ _ _ c14) (zv [] 1 [1,33] [] [(1, vR (ae p1)), (33, vb r1)] [] (zt 33 b15 (zg [] 16 [2] (zd (j3 false h _ _ (zk [2]))))))))
   ·refine zq fun K18 m18 => zr (zg [] 2 [1,3,13,49] (zd (m18 _ _ (zC h (fun b19 h => ?_) (fun b19 h => ?_)))))
    ·refine zq fun K20 m20 => ?_
     have j4 : ∀ (x4 : Bool), fh x4 = some r → ∀ w0 w1, aL 154 0 [] w0 w1 [(2, vb x4)] [] → K20 w0 w1 := by
      intro x4 h w0 w1 hS
      unfold fh at h
      refine m20 _ _ (XW.sub hS ?_)
      refine ze ?_
      obtain rfl := zj h
      exact zf [vb x4] (.one (.rfl _ rfl))
     obtain ⟨r2, c21, h⟩ := zB h
     rcases zW h with ⟨b22, h⟩ | ⟨b22, h⟩
     ·rcases zW h with ⟨b23, h⟩ | ⟨b23, h⟩
      ·rcases zW h with ⟨b24, h⟩ | ⟨b24, h⟩
       ·refine zr (zu [] 2 [1,52] [(ae p1)] (zl 114 [vi p1.n, vi (-999999999999999999), vi 999999999999999999] (vb r2) (tm p1 r2) (bm _ _ _ _ c21) (zg [] 1 [1,54] (zt 54 b22 (zu [] 5 [1,59] [(ae p1)] (zt 59 b23 ?_))))))
        refine zv [] 5 [1,64] [[pi p1.kind, pi p1.n, pi p1.scale, .s (.string p1.s), .ro (aa.els p1.items)]] [(1, vR [pi p1.kind, pi p1.n, pi p1.scale, .s (.string p1.s), .ro (aa.els p1.items)]), (64, vb (p1.s.toList == (ByteArray.mk #[]).toList))] [] (zt 64 b24 (zv [] 3 [64,67] [[pi p1.kind, pi p1.n, pi p1.scale, .s (.string p1.s), .ro (aa.els p1.items)]] [(64, vb true), (67, vi ((aa.els p1.items).length : Int))] [] ?_))
        rw [aa.len p1.items]
        exact zg [] 3 [2] (zd (j4 ((p1.items.length : Int) == 0) h _ _ (zk [2])))
       ·refine zr (zu [] 2 [1,52] [(ae p1)] (zl 114 [vi p1.n, vi (-999999999999999999), vi 999999999999999999] (vb r2) (tm p1 r2) (bm _ _ _ _ c21) (zg [] 1 [1,54] (zt 54 b22 (zu [] 5 [1,59] [(ae p1)] (zt 59 b23 ?_))))))
        exact zv [] 5 [1,64] [(ae p1)] [(1, vR (ae p1)), (64, vb (p1.s.toList == (ByteArray.mk #[]).toList))] [] (zt 64 b24 (zg [] 6 [2] (zd (j4 false h _ _ (zk [2])))))
      ·refine zr (zu [] 2 [1,52] [(ae p1)] (zl 114 [vi p1.n, vi (-999999999999999999), vi 999999999999999999] (vb r2) (tm p1 r2) (bm _ _ _ _ c21) (zg [] 1 [1,54] (zt 54 b22 (zu [] 5 [1,59] [(ae p1)] (zt 59 b23 (zv [] 11 [2] [] [(2, vb false)] [] ?_)))))))
       exact zd (j4 false h _ _ (zk [2]))
     ·exact zr (zu [] 2 [1,52] [(ae p1)] (zl 114 [vi p1.n, vi (-999999999999999999), vi 999999999999999999] (vb r2) (tm p1 r2) (bm _ _ _ _ c21) (zg [] 1 [1,54] (zt 54 b22 (zg [] 16 [2] (zd (j4 false h _ _ (zk [2]))))))))
    ·refine zq fun K25 m25 => zr (zg [] 2 [1,3,13,70] (zd (m25 _ _ (zC h (fun b26 h => ?_) (fun b26 h => ?_)))))
     ·refine zq fun K27 m27 => ?_
      have j5 : ∀ (x5 : Bool), fo x5 = some r → ∀ w0 w1, aL 154 0 [] w0 w1 [(2, vb x5)] [] → K27 w0 w1 := by
       intro x5 h w0 w1 hS
       unfold fo at h
       refine m27 _ _ (XW.sub hS ?_)
       refine ze ?_
       obtain rfl := zj h
       exact zf [vb x5] (.one (.rfl _ rfl))
      obtain ⟨r3, c28, h⟩ := zB h
      rcases zW h with ⟨b29, h⟩ | ⟨b29, h⟩
      ·obtain ⟨r4, c30, h⟩ := zB h
       rcases zW h with ⟨b31, h⟩ | ⟨b31, h⟩
       ·rcases zW h with ⟨b32, h⟩ | ⟨b32, h⟩
        ·refine zr (zv [] 2 [1,73] [(ae p1)] (wc p1) [] (za (bm _ _ _ _ c28) (zg [] 1 [1,75] (zt 75 b29 (zv [] 2 [1,75,77] [(ae p1)] [(1, vR (ae p1)), (75, vb true), (77, vi p1.scale)] [] (za (bm _ _ _ _ c30) ?_))))))
         refine zg [] 2 [1,80] (zt 80 b31 (zv [] 5 [1,85] [[pi p1.kind, pi p1.n, pi p1.scale, .s (.string p1.s), .ro (aa.els p1.items)]] [(1, vR [pi p1.kind, pi p1.n, pi p1.scale, .s (.string p1.s), .ro (aa.els p1.items)]), (85, vb (p1.s.toList == (ByteArray.mk #[]).toList))] [] (zt 85 b32 (zv [] 3 [85,88] [[pi p1.kind, pi p1.n, pi p1.scale, .s (.string p1.s), .ro (aa.els p1.items)]] [(85, vb true), (88, vi ((aa.els p1.items).length : Int))] [] ?_))))
         rw [aa.len p1.items]
         exact zg [] 3 [2] (zd (j5 ((p1.items.length : Int) == 0) h _ _ (zk [2])))
        ·refine zr (zu [] 2 [1,73] [(ae p1)] (zl 114 [vi p1.n, vi (-999999999999999999), vi 999999999999999999] (vb r3) [(74, vb r3), (1, vR (ae p1)), (73, vi p1.n)] (bm _ _ _ _ c28) (zg [] 1 [1,75] (zt 75 b29 (zu [] 2 [1,75,77] [(ae p1)] ?_)))))
         exact zl 114 [vi p1.scale, vi 0, vi 12] (vb r4) [(78, vb r4), (1, vR (ae p1)), (75, vb true), (77, vi p1.scale)] (bm _ _ _ _ c30) (zg [] 2 [1,80] (zt 80 b31 (zu [] 5 [1,85] [(ae p1)] (zt 85 b32 (zv [] 6 [2] [] [(2, vb false)] [] (zd (j5 false h _ _ (zk [2]))))))))
       ·refine zr (zv [] 2 [1,73] [(ae p1)] (wc p1) [] (za (bm _ _ _ _ c28) (zg [] 1 [1,75] (zt 75 b29 (zv [] 2 [1,75,77] [(ae p1)] [(1, vR (ae p1)), (75, vb true), (77, vi p1.scale)] [] (za (bm _ _ _ _ c30) ?_))))))
        exact zg [] 2 [1,80] (zt 80 b31 (zv [] 11 [2] [] [(2, vb false)] [] (zd (j5 false h _ _ (zk [2])))))
      ·exact zr (zv [] 2 [1,73] [(ae p1)] (wc p1) [] (za (bm _ _ _ _ c28) (zg [] 1 [1,75] (zt 75 b29 (zv [] 16 [2] [] [(2, vb false)] [] (zd (j5 false h _ _ (zk [2]))))))))
     ·refine zq fun K33 m33 => zr (zv [] 2 [1,3,13,91] [] [(1, vR (ae p1)), (3, vb x1), (13, vi p1.kind), (91, vb (p1.kind == 4))] [] (zd (m33 _ _ (zC h (fun b34 h => ?_) (fun b34 h => ?_)))))
      ·refine zq fun K35 m35 => ?_
       have j6 : ∀ (x6 : Bool), gw x6 = some r → ∀ w0 w1, aL 154 0 [] w0 w1 [(2, vb x6)] [] → K35 w0 w1 := by
        intro x6 h w0 w1 hS
        unfold gw at h
        refine m35 _ _ (XW.sub hS ?_)
        refine ze ?_
        obtain rfl := zj h
        exact zf [vb x6] (.one (.rfl _ rfl))
       rcases zW h with ⟨b36, h⟩ | ⟨b36, h⟩
       ·obtain ⟨r5, c37, h⟩ := zB h
        rcases zW h with ⟨b38, h⟩ | ⟨b38, h⟩
        ·refine zr (zg [] 2 [1,94] (zt 94 b36 (zu [] 2 [1,94,96] [[pi p1.kind, pi p1.n, pi p1.scale, .s (.string p1.s), .ro (aa.els p1.items)]] (zl 155 [vs p1.s] (vb r5) [(97, vb r5), (1, vR [pi p1.kind, pi p1.n, pi p1.scale, .s (.string p1.s), .ro (aa.els p1.items)]), (94, vb true), (96, vs p1.s)] (pH _ _ c37) (zg [] 2 [1,99] (zt 99 b38 (zv [] 3 [99,102] [[pi p1.kind, pi p1.n, pi p1.scale, .s (.string p1.s), .ro (aa.els p1.items)]] [(99, vb true), (102, vi ((aa.els p1.items).length : Int))] [] ?_)))))))
         rw [aa.len p1.items]
         exact zg [] 3 [2] (zd (j6 ((p1.items.length : Int) == 0) h _ _ (zk [2])))
        ·refine zr (zg [] 2 [1,94] (zt 94 b36 (zv [] 2 [1,94,96] [(ae p1)] [(1, vR (ae p1)), (94, vb true), (96, vs p1.s)] [] (za (pH _ _ c37) (zg [] 2 [1,99] (zt 99 b38 (zv [] 6 [2] [] [(2, vb false)] [] ?_)))))))
         exact zd (j6 false h _ _ (zk [2]))
       ·exact zr (zg [] 2 [1,94] (zt 94 b36 (zg [] 11 [2] (zd (j6 false h _ _ (zk [2]))))))
      ·refine zq fun K39 m39 => zr (zg [] 2 [1,3,13,105] (zd (m39 _ _ (zC h (fun b40 h => ?_) (fun b40 h => ?_)))))
       ·refine zq fun K41 m41 => ?_
        have j7 : ∀ (x7 : Bool), fv x7 = some r → ∀ w0 w1, aL 154 0 [] w0 w1 [(2, vb x7)] [] → K41 w0 w1 := by
         intro x7 h w0 w1 hS
         unfold fv at h
         refine m41 _ _ (XW.sub hS ?_)
         refine ze ?_
         obtain rfl := zj h
         exact zf [vb x7] (.one (.rfl _ rfl))
        obtain ⟨r6, c42, h⟩ := zB h
        rcases zW h with ⟨b43, h⟩ | ⟨b43, h⟩
        ·rcases zW h with ⟨b44, h⟩ | ⟨b44, h⟩
         ·rcases zW h with ⟨b45, h⟩ | ⟨b45, h⟩
          ·refine zr (zu [] 2 [1,108] [(ae p1)] (zl 114 [vi p1.n, vi (-62135596800), vi 253402300799] (vb r6) (uf p1 r6) (bm _ _ _ _ c42) (zg [] 1 [1,110] (zt 110 b43 (zu [] 5 [1,115] [(ae p1)] (zt 115 b44 ?_))))))
           refine zv [] 5 [1,120] [[pi p1.kind, pi p1.n, pi p1.scale, .s (.string p1.s), .ro (aa.els p1.items)]] [(1, vR [pi p1.kind, pi p1.n, pi p1.scale, .s (.string p1.s), .ro (aa.els p1.items)]), (120, vb (p1.s.toList == (ByteArray.mk #[]).toList))] [] (zt 120 b45 (zv [] 3 [120,123] [[pi p1.kind, pi p1.n, pi p1.scale, .s (.string p1.s), .ro (aa.els p1.items)]] [(120, vb true), (123, vi ((aa.els p1.items).length : Int))] [] ?_))
           rw [aa.len p1.items]
           exact zg [] 3 [2] (zd (j7 ((p1.items.length : Int) == 0) h _ _ (zk [2])))
          ·refine zr (zu [] 2 [1,108] [(ae p1)] (zl 114 [vi p1.n, vi (-62135596800), vi 253402300799] (vb r6) (uf p1 r6) (bm _ _ _ _ c42) (zg [] 1 [1,110] (zt 110 b43 (zu [] 5 [1,115] [(ae p1)] (zt 115 b44 ?_))))))
           exact zv [] 5 [1,120] [(ae p1)] [(1, vR (ae p1)), (120, vb (p1.s.toList == (ByteArray.mk #[]).toList))] [] (zt 120 b45 (zg [] 6 [2] (zd (j7 false h _ _ (zk [2])))))
         ·refine zr (zu [] 2 [1,108] [(ae p1)] (zl 114 [vi p1.n, vi (-62135596800), vi 253402300799] (vb r6) (uf p1 r6) (bm _ _ _ _ c42) (zg [] 1 [1,110] (zt 110 b43 (zu [] 5 [1,115] [(ae p1)] (zt 115 b44 (zv [] 11 [2] [] [(2, vb false)] [] ?_)))))))
          exact zd (j7 false h _ _ (zk [2]))
        ·exact zr (zu [] 2 [1,108] [(ae p1)] (zl 114 [vi p1.n, vi (-62135596800), vi 253402300799] (vb r6) (uf p1 r6) (bm _ _ _ _ c42) (zg [] 1 [1,110] (zt 110 b43 (zg [] 16 [2] (zd (j7 false h _ _ (zk [2]))))))))
       ·refine zq fun K46 m46 => zr (zg [] 2 [1,3,13,126] (zd (m46 _ _ (zC h (fun b47 h => ?_) (fun b47 h => ?_)))))
        ·refine zq fun K48 m48 => ?_
         have j8 : ∀ (x8 : Bool), gc x8 = some r → ∀ w0 w1, aL 154 0 [] w0 w1 [(2, vb x8)] [] → K48 w0 w1 := by
          intro x8 h w0 w1 hS
          unfold gc at h
          refine m48 _ _ (XW.sub hS ?_)
          refine ze ?_
          obtain rfl := zj h
          exact zf [vb x8] (.one (.rfl _ rfl))
         rcases zW h with ⟨b49, h⟩ | ⟨b49, h⟩
         ·rcases zW h with ⟨b50, h⟩ | ⟨b50, h⟩
          ·refine zr (zv [] 2 [1,129] [] [(1, vR [pi p1.kind, pi p1.n, pi p1.scale, .s (.string p1.s), .ro (aa.els p1.items)]), (129, vb x1)] [] (zt 129 b49 (zu [] 5 [1,134] [[pi p1.kind, pi p1.n, pi p1.scale, .s (.string p1.s), .ro (aa.els p1.items)]] (zt 134 b50 (zv [] 3 [134,137] [[pi p1.kind, pi p1.n, pi p1.scale, .s (.string p1.s), .ro (aa.els p1.items)]] [(134, vb true), (137, vi ((aa.els p1.items).length : Int))] [] ?_)))))
           rw [aa.len p1.items]
           exact zg [] 3 [2] (zd (j8 (decide ((p1.items.length : Int) ≤ (64 : Int))) h _ _ (zk [2])))
          ·exact zr (zg [] 2 [1,129] (zt 129 b49 (zv [] 5 [1,134] [(ae p1)] [(1, vR (ae p1)), (134, vb (p1.s.toList == (ByteArray.mk #[]).toList))] [] (zt 134 b50 (zg [] 6 [2] (zd (j8 false h _ _ (zk [2]))))))))
         ·exact zr (zv [] 2 [1,129] [] [(1, vR (ae p1)), (129, vb x1)] [] (zt 129 b49 (zg [] 11 [2] (zd (j8 false h _ _ (zk [2]))))))
        ·refine zq fun K51 m51 => zr (zv [] 2 [1,3,140] [] [(1, vR (ae p1)), (3, vb x1), (140, vb (p1.kind == 7))] [] (zd (m51 _ _ (zC h (fun b52 h => ?_) (fun b52 h => ?_)))))
         ·refine zq fun K53 m53 => ?_
          have j9 : ∀ (x9 : Bool), gh x9 = some r → ∀ w0 w1, aL 154 0 [] w0 w1 [(2, vb x9)] [] → K53 w0 w1 := by
           intro x9 h w0 w1 hS
           unfold gh at h
           refine m53 _ _ (XW.sub hS ?_)
           refine ze ?_
           obtain rfl := zj h
           exact zf [vb x9] (.one (.rfl _ rfl))
          rcases zW h with ⟨b54, h⟩ | ⟨b54, h⟩
          ·rcases zW h with ⟨b55, h⟩ | ⟨b55, h⟩
           ·refine zr (zg [] 2 [1,143] (zt 143 b54 (zu [] 5 [1,148] [[pi p1.kind, pi p1.n, pi p1.scale, .s (.string p1.s), .ro (aa.els p1.items)]] (zt 148 b55 (zv [] 3 [148,151] [[pi p1.kind, pi p1.n, pi p1.scale, .s (.string p1.s), .ro (aa.els p1.items)]] [(148, vb true), (151, vi ((aa.els p1.items).length : Int))] [] ?_)))))
            rw [aa.len p1.items]
            exact zg [] 3 [2] (zd (j9 (decide ((0 : Int) < (p1.items.length : Int))) h _ _ (zk [2])))
           ·exact zr (zg [] 2 [1,143] (zt 143 b54 (zv [] 5 [1,148] [(ae p1)] [(1, vR (ae p1)), (148, vb (p1.s.toList == (ByteArray.mk #[]).toList))] [] (zt 148 b55 (zg [] 6 [2] (zd (j9 false h _ _ (zk [2]))))))))
          ·exact zr (zg [] 2 [1,143] (zt 143 b54 (zg [] 11 [2] (zd (j9 false h _ _ (zk [2]))))))
         ·refine zs (m4 _ _ (zq fun K56 m56 => zr (zg [] 1 [2] (zd (m56 _ _ (ze ?_))))))
          obtain rfl := zj h
          exact zf [vb false] (.one (.rfl _ rfl))
 rcases zW h with ⟨b3, h⟩ | ⟨b3, h⟩
 ·exact zr (zu [] 4 [1,7] [(ae p1)] (zt 7 b3 (zv [] 5 [1,3] [(ae p1)] [(1, vR (ae p1)), (3, vb (p1.scale == 0))] [] (zd (j1 (p1.scale == 0) h _ _ (zk [1,3]))))))
 ·exact zr (zu [] 4 [1,7] [(ae p1)] (zt 7 b3 (zg [] 5 [1,3] (zd (j1 false h _ _ (zk [1,3]))))))
def bj (z2 : Int) : Option (Int × Int) := some ((-1 : Int), z2)
def aF (q_value_sound_1_s : ac → Int → Int → Option (Bool × Int)) (p1 : (List ac)) (p2 : Int) : Nat → Int → Int → Option (Int × Int)
 | 0, _, _ => none
 | k1 + 1, z1, x1 => aI (decide (x1 < (p1.length : Int))) (aT (at? p1 x1) fun e1 => aT (q_value_sound_1_s e1 p2 z1) fun r1 => aI r1.1 (some (x1, r1.2)) ((aF q_value_sound_1_s p1 p2 k1) r1.2 (i64.wrap (x1 + 1)))) (bj z1)
def fk (q_slices_ContainsFunc_api_Value_api_Value_of_value_sound_1 : (List ac) → Int → Int → Option (Bool × Int)) (p1 : ac) (p2 z1 : Int) (x1 : Bool) : Option (Bool × Int) := aI x1 (some (false, z1)) (aT (q_slices_ContainsFunc_api_Value_api_Value_of_value_sound_1 p1.items p2 z1) fun r2 => some ((!r2.1), r2.2))
def gb (q_slices_ContainsFunc_api_Value_api_Value_of_value_sound_1 : (List ac) → Int → Int → Option (Bool × Int)) (p1 : ac) (p2 z1 : Int) : Option (Bool × Int) := aI (decide ((4 : Int) < p2)) (fk q_slices_ContainsFunc_api_Value_api_Value_of_value_sound_1 p1 p2 z1 true) (aI (decide ((256 : Int) < z1)) (fk q_slices_ContainsFunc_api_Value_api_Value_of_value_sound_1 p1 p2 z1 true) (aT (kI p1) fun r1 => fk q_slices_ContainsFunc_api_Value_api_Value_of_value_sound_1 p1 p2 z1 (!r1)))
mutual
def ay : Nat → (List ac) → Int → Int → Option (Bool × Int)
 | 0, _, _, _ => none
 | k0 + 1, p1, p2, p3 => aT ((aX k0) p1 p2 p3) fun r1 => some ((decide ((0 : Int) ≤ r1.1)), r1.2)
def aX : Nat → (List ac) → Int → Int → Option (Int × Int)
 | 0, _, _, _ => none
 | k0 + 1, p1, p2, p3 => aF (eN k0) p1 p2 bf p3 (0 : Int)
def gE : Nat → ac → Int → Int → Option (Bool × Int)
 | 0, _, _, _ => none
 | k0 + 1, p1, p2, p3 => aI (p1.kind != 0) (gb (ay k0) p1 p2 (i64.wrap (p3 + 1))) (gb (ay k0) p1 p2 p3)
def eN : Nat → ac → Int → Int → Option (Bool × Int)
 | 0, _, _, _ => none
 | k0 + 1, p1, p2, p3 => aT ((gE k0) p1 (i64.wrap (p2 + 1)) p3) fun r1 => some ((!r1.1), r1.2)
end
abbrev mi : List CV := [.pt 1 0 0 0]
abbrev aD (e1 : ac) : List CV := [ci e1.kind, ci e1.n, ci e1.scale, cj e1.s, cl aa e1.items]
abbrev t8 : List CV := [.pt 0 0 0 0]
abbrev zi (p1 : ac) (p2 : Int) : Fr := [(3, vR (ae p1)), (4, vR [pi p2]), (5, vq 1)]
abbrev pO (z1 : Int) : St := [.box [ci z1], .box t8]
abbrev Be (p1 : ac) (p2 : Int) : Fr := [(3, vR (ae p1)), (4, vR [pi p2]), (5, vq 1), (17, vb (decide ((4 : Int) < p2)))]
mutual
theorem eo : ∀ (k0 : Nat) (p1 : (List ac)) (p2 p3 : Int) (r : (Bool × Int)), ay k0 p1 p2 p3 = some r → MC Tryz.prog 111 [vl aa p1, .one (.fn 112 [.pv (.rp [[pi p2]] 0 0), .pt 0 0 0 0])] [.box [.pt 1 0 0 0], .box [ci p3]] (vb r.1) [.box [.pt 1 0 0 0], .box [ci r.2]]
 | 0, _, _, _, r, h => by rw [ay.eq_1] at h; cases h
 | k0 + 1, p1, p2, p3, r, h => by
  rw [ay.eq_2] at h
  refine MC.of 2 (n := 9) (fn := Tryz.f111) (c := cd Tryz.f111 []) (by kernel_rfl) (by kernel_rfl) (by kernel_rfl) (Nat.le_of_ble_eq_true rfl) rfl (zq fun K1 m1 => zr (zg [] 1 [0,1] (zd (m1 _ _ (zq fun K2 m2 => ?_)))))
  obtain ⟨r1, c3, h⟩ := zB h
  refine zr (zv [] 2 [5,6] [] [(5, vl aa p1), (6, .one (.fn 112 [.pv (.rp [[pi p2]] 0 0), .pt 0 0 0 0]))] [.box [.pt 1 0 0 0], .box [ci p3]] ?_)
  refine XO.calm 156 [vl aa p1, .one (.fn 112 [.pv (.rp [[pi p2]] 0 0), .pt 0 0 0 0])] [.box [.pt 1 0 0 0], .box [ci p3]] [.box [.pt 1 0 0 0], .box [ci r1.2]] (vi r1.1) [0, 1] [(7, vi r1.1), (5, vl aa p1), (6, .one (.fn 112 [.pv (.rp [[pi p2]] 0 0), .pt 0 0 0 0]))] [.box [.pt 1 0 0 0], .box [ci r1.2]] (by kernel_rfl) (eG k0 _ _ _ _ c3) (by kernel_rfl) (by kernel_rfl) (by kernel_rfl) (by kernel_rfl) (zv [] 2 [4] [] [(4, vb (decide ((0 : Int) ≤ r1.1)))] [.box [.pt 1 0 0 0], .box [ci r1.2]] (zd (m2 _ _ (ze ?_))))
  obtain rfl := zj h
  exact eT.fin (.inr rfl) [] [vb (decide ((0 : Int) ≤ r1.1))] [] (by kernel_rfl) trivial (by kernel_rfl) (by kernel_rfl) (.one (.rfl _ rfl))
theorem eG : ∀ (k0 : Nat) (p1 : (List ac)) (p2 p3 : Int) (r : (Int × Int)), aX k0 p1 p2 p3 = some r → MC Tryz.prog 156 [vl aa p1, .one (.fn 112 [.pv (.rp [[pi p2]] 0 0), .pt 0 0 0 0])] [.box mi, .box [ci p3]] (vi r.1) [.box mi, .box [ci r.2]]
 | 0, _, _, _, r, h => by rw [aX.eq_1] at h; cases h
 | k0 + 1, p1, p2, p3, r, h => by
  rw [aX.eq_2] at h
  refine MC.of 2 (n := 19) (fn := Tryz.f156) (c := cd Tryz.f156 []) (by kernel_rfl) (by kernel_rfl) (by kernel_rfl) (Nat.le_of_ble_eq_true rfl) rfl (zq fun K1 m1 => zr (zg [] 1 [0,1] (zd (m1 _ _ (zq fun K2 m2 => ?_)))))
  have j1 : ∀ (z2 : Int), bj z2 = some r → ∀ w0 w1, aL 19 2 [] w0 w1 [] [.box mi, .box [ci z2]] → K2 w0 w1 := by
   intro z2 h w0 w1 hS
   unfold bj at h
   refine m2 _ _ (XW.sub hS ?_)
   refine zq fun K14 m14 => zr (zv [] 1 [4] [] [(4, vi (-1))] [.box mi, .box [ci z2]] (zd (m14 _ _ (ze ?_))))
   obtain rfl := zj h
   exact eT.fin (.inr rfl) [] [vi (-1)] [] (by kernel_rfl) trivial (by kernel_rfl) (by kernel_rfl) (.one (.rfl _ rfl))
  refine zq fun K3 m3 => zr (zv [] 2 [0,1,7] [] [(0, vl aa p1), (1, .one (.fn 112 [.pv (.rp [[pi p2]] 0 0), .pt 0 0 0 0])), (7, vi ((aa.els p1).length : Int))] [.box [.pt 1 0 0 0], .box [ci p3]] ?_)
  rw [aa.len p1]
  refine zg [] 1 [0,1,7,8] (zd (m3 _ _ (zb 0 (XW.rounds' bf (x := cd Tryz.f156 [1,0,1,0,0]) (by kernel_rfl) fun Q1 hQ1 => ?_))))
  have hL1 : ∀ (k1 : Nat) (z1 x1 : Int), aF (eN k0) p1 p2 k1 z1 x1 = some r → XR Tryz.prog 19 2 [] (cd Tryz.f156 [1,0,1,0,0]) Q1 k1 [(0, vl aa p1), (1, .one (.fn 112 [.pv (.rp [[pi p2]] 0 0), .pt 0 0 0 0])), (7, vi (p1.length : Int)), (8, vi x1)] [.box mi, .box [ci z1]] := by
   intro k1
   induction k1 with
   | zero => intro z1 x1 h; rw [aF.eq_1] at h; cases h
   | succ k1 ih1 =>
    intro z1 x1 h
    rw [aF.eq_2] at h
    refine zq fun K4 m4 => zr (zg [] 1 [0,1,7,8,9] (zd (m4 _ _ (zq fun K5 m5 => zC h (fun b6 h => ?_) (fun b6 h => ?_)))))
    ·refine zs (m5 _ _ (zq fun K7 m7 => zb 1 (zq fun K8 m8 => zr (zg [] 2 [0,1,5,7,8] (zd ?_)))))
     refine m8 _ _ (zq fun K9 m9 => ?_)
     obtain ⟨e1, a10, h⟩ := zB h
     obtain ⟨r1, c11, h⟩ := zB h
     refine zr ?_
     refine zp [] 5 [0,1,5,7,8,11,15] [[pi e1.kind, pi e1.n, pi e1.scale, .s (.string e1.s), .ro (aa.els e1.items)]] [(0, vl aa p1), (1, .one (.fn 112 [.pv (.rp [[pi p2]] 0 0), .pt 0 0 0 0])), (5, vi x1), (7, vi (p1.length : Int)), (8, vi x1), (11, .one (.fn 112 [.pv (.rp [[pi p2]] 0 0), .pt 0 0 0 0])), (15, .ag (aD e1))] [.box mi, .box [ci z1]] [0 ≤ x1 ∧ x1 < ((aa.els p1).length : Int) ∧ aq 5 (aa.els p1), (aa.els p1)[x1.toNat]? = some [pi e1.kind, pi e1.n, pi e1.scale, .s (.string e1.s), .ro (aa.els e1.items)]] (⟨aa.inb a10, ((aa.get a10).trans (by cases e1; rfl)), trivial⟩) ?_
     refine XO.calm 112 [.ag (aD e1), vR [pi p2], vq 0] [.box mi, .box [ci z1]] [.box mi, .box [ci r1.2]] (vb r1.1) [0, 1] [(16, vb r1.1), (0, vl aa p1), (1, .one (.fn 112 [.pv (.rp [[pi p2]] 0 0), .pt 0 0 0 0])), (5, vi x1), (7, vi (p1.length : Int)), (8, vi x1), (11, .one (.fn 112 [.pv (.rp [[pi p2]] 0 0), .pt 0 0 0 0])), (15, .ag (aD e1))] [.box mi, .box [ci r1.2]] (by kernel_rfl) (pA k0 _ _ _ _ c11) (by kernel_rfl) (by kernel_rfl) (by kernel_rfl) (by kernel_rfl) ?_
     refine zd (m9 _ _ (zC h (fun b12 h => ?_) (fun b12 h => ?_)))
     ·refine zq fun K13 m13 => zr (zv [] 2 [4] [] [(4, vi x1)] [.box mi, .box [ci r1.2]] (zd (m13 _ _ (ze (hQ1 _ _ _ ?_)))))
      obtain rfl := zj h
      exact eT.fin (.inr rfl) [] [vi x1] [] (by kernel_rfl) trivial (by kernel_rfl) (by kernel_rfl) (.one (.rfl _ rfl))
     ·exact zs (m7 _ _ (zr (zg [] 2 [0,1,7,8] (zd (XR.sub (zk [0,1,7,8]) (ih1 r1.2 (i64.wrap (x1 + 1)) h))))))
    ·exact zx 0 (hQ1 _ _ _ (j1 z1 h _ _ (zk [])))
  exact XR.sub (zk [0,1,7,8]) (hL1 bf p3 (0 : Int) h)
theorem oj : ∀ (k0 : Nat) (p1 : ac) (p2 p3 : Int) (r : (Bool × Int)), gE k0 p1 p2 p3 = some r → MC Tryz.prog 67 [.ag (aD p1), vi p2, vq 0] [.box [ci p3]] (vb r.1) [.box [ci r.2]]
 | 0, _, _, _, r, h => by rw [gE.eq_1] at h; cases h
 | k0 + 1, p1, p2, p3, r, h => by
  rw [gE.eq_2] at h
  refine MC.of 1 (n := 33) (fn := Tryz.f67) (c := cd Tryz.f67 []) (by kernel_rfl) (by kernel_rfl) (by kernel_rfl) (Nat.le_of_ble_eq_true rfl) rfl (zq fun K1 m1 => zr (zg [5] 4 [3,4,5] (zd (m1 _ _ (zq fun K2 m2 => ?_)))))
  have j1 : ∀ (z1 : Int), gb (ay k0) p1 p2 z1 = some r → ∀ w0 w1, aL 33 1 [] w0 w1 (zi p1 p2) (pO z1) → K2 w0 w1 := by
   intro z1 h w0 w1 hS
   unfold gb at h
   refine m2 _ _ (XW.sub hS ?_)
   refine zq fun K5 m5 => zq fun K6 m6 => ?_
   have j2 : ∀ (x1 : Bool), fk (ay k0) p1 p2 z1 x1 = some r → ∀ w0 w1, aL 33 1 [] w0 w1 [(3, vR (ae p1)), (4, vR [pi p2]), (5, vq 1), (27, vb x1)] (pO z1) → K6 w0 w1 := by
    intro x1 h w0 w1 hS
    unfold fk at h
    refine m6 _ _ (XW.sub hS ?_)
    refine zC h (fun b10 h => ?_) (fun b10 h => ?_)
    ·refine zq fun K11 m11 => zr (zv [5] 1 [6] [] [(6, vb false)] (pO z1) (zd (m11 _ _ (ze ?_))))
     obtain rfl := zj h
     exact eT.fin (.inr rfl) [] [vb false] [] (by kernel_rfl) trivial (by kernel_rfl) (by kernel_rfl) (.one (.rfl _ rfl))
    ·refine zs (m5 _ _ (zq fun K12 m12 => ?_))
     obtain ⟨r2, c13, h⟩ := zB h
     refine zr (zv [5] 3 [29,30] [(ae p1)] [(29, vl aa p1.items), (30, .one (.fn 112 [.pv (.rp [[pi p2]] 0 0), .pt 1 0 0 0]))] (pO z1) ?_)
     refine XO.calm 111 [vl aa p1.items, .one (.fn 112 [.pv (.rp [[pi p2]] 0 0), .pt 0 0 0 0])] [.box [.pt 1 0 0 0], .box [ci z1]] [.box [.pt 1 0 0 0], .box [ci r2.2]] (vb r2.1) [1, 0] [(31, vb r2.1), (29, vl aa p1.items), (30, .one (.fn 112 [.pv (.rp [[pi p2]] 0 0), .pt 1 0 0 0]))] [.box [ci r2.2], .box t8] (by kernel_rfl) (eo k0 _ _ _ _ c13) (by kernel_rfl) (by kernel_rfl) (by kernel_rfl) (by kernel_rfl) (zv [5] 2 [6] [] [(6, vb (!r2.1))] [.box [ci r2.2], .box t8] (zd (m12 _ _ (ze ?_))))
     obtain rfl := zj h
     exact eT.fin (.inr rfl) [] [vb (!r2.1)] [] (by kernel_rfl) trivial (by kernel_rfl) (by kernel_rfl) (.one (.rfl _ rfl))
   rcases zW h with ⟨b7, h⟩ | ⟨b7, h⟩
   ·exact zr (zu [5] 3 [3,4,5,17] [[pi p2]] (zt 17 b7 (zg [5] 10 [3,4,5,27] (zd (j2 true h _ _ (zk [3,4,5,27]))))))
   ·rcases zW h with ⟨b8, h⟩ | ⟨b8, h⟩
    ·exact zr (zv [5] 3 [3,4,5,17] [[pi p2]] (Be p1 p2) (pO z1) (zt 17 b7 (zg [5] 6 [3,4,5,23] (zt 23 b8 (zg [5] 4 [3,4,5,27] (zd (j2 true h _ _ (zk [3,4,5,27]))))))))
    ·obtain ⟨r1, c9, h⟩ := zB h
     refine zr (zv [5] 3 [3,4,5,17] [[pi p2]] (Be p1 p2) (pO z1) (zt 17 b7 (zg [5] 6 [3,4,5,23] (zt 23 b8 (zu [5] 1 [3,4,5,23,24] [(ae p1)] ?_)))))
     exact zl 110 [.ag (aD p1)] (vb r1) [(25, vb r1), (3, vR (ae p1)), (4, vR [pi p2]), (5, vq 1), (23, vb false), (24, .ag (aD p1))] (sx _ _ c9) (zg [5] 2 [3,4,5,27] (zd (j2 (!r1) h _ _ (zk [3,4,5,27]))))
  refine zq fun K3 m3 => zr (zu [5] 3 [3,4,5,9] [(ae p1)] (zd (m3 _ _ (zC h (fun b4 h => ?_) (fun b4 h => ?_)))))
  ·exact zr (zv [5] 6 [3,4,5] [] (zi p1 p2) [.box [ci (i64.wrap (p3 + 1))], .box t8] (zd (j1 (i64.wrap (p3 + 1)) h _ _ (zk [3,4,5]))))
  ·exact zs (j1 p3 h _ _ (zk [3,4,5]))
theorem pA : ∀ (k0 : Nat) (p1 : ac) (p2 p3 : Int) (r : (Bool × Int)), eN k0 p1 p2 p3 = some r → MC Tryz.prog 112 [.ag (aD p1), vR [pi p2], vq 0] [.box [.pt 1 0 0 0], .box [ci p3]] (vb r.1) [.box [.pt 1 0 0 0], .box [ci r.2]]
 | 0, _, _, _, r, h => by rw [eN.eq_1] at h; cases h
 | k0 + 1, p1, p2, p3, r, h => by
  rw [eN.eq_2] at h
  refine MC.of 2 (n := 11) (fn := Tryz.f112) (c := cd Tryz.f112 []) (by kernel_rfl) (by kernel_rfl) (by kernel_rfl) (Nat.le_of_ble_eq_true rfl) rfl (zq fun K1 m1 => zr (zg [] 2 [1,2,3] (zd (m1 _ _ (zq fun K2 m2 => ?_)))))
  obtain ⟨r1, c3, h⟩ := zB h
  refine zr (zv [] 4 [5,7,8] [[pi p1.kind, pi p1.n, pi p1.scale, .s (.string p1.s), .ro (aa.els p1.items)], [pi p2]] [(5, .ag (aD p1)), (7, vi (i64.wrap (p2 + 1))), (8, vq 1)] [.box [.pt 1 0 0 0], .box [ci p3]] ?_)
  refine XO.calm 67 [.ag (aD p1), vi (i64.wrap (p2 + 1)), vq 0] [.box [ci p3]] [.box [ci r1.2]] (vb r1.1) [1] [(9, vb r1.1), (5, .ag (aD p1)), (7, vi (i64.wrap (p2 + 1))), (8, vq 1)] [.box [.pt 1 0 0 0], .box [ci r1.2]] (by kernel_rfl) (oj k0 _ _ _ _ c3) (by kernel_rfl) (by kernel_rfl) (by kernel_rfl) (by kernel_rfl) (zv [] 2 [4] [] [(4, vb (!r1.1))] [.box [.pt 1 0 0 0], .box [ci r1.2]] (zd (m2 _ _ (ze ?_))))
  obtain rfl := zj h
  exact eT.fin (.inr rfl) [] [vb (!r1.1)] [] (by kernel_rfl) trivial (by kernel_rfl) (by kernel_rfl) (.one (.rfl _ rfl))
end
def jE (p1 : ac) : Option Bool := aT (gE bf p1 (1 : Int) (0 : Int)) fun r1 => some r1.1
theorem ov (p1 : ac) (r : Bool) (h : jE p1 = some r) : PC Tryz.prog 27 [.ag (aD p1)] (vb r) := by
 unfold jE at h
 refine zF 6 Tryz.f27 (zq fun K1 m1 => zr (zg [3] 2 [1] (zd (m1 _ _ (zq fun K2 m2 => zr ?_)))))
 refine zg [3] 2 [1,3] (zd (m2 _ _ (zq fun K3 m3 => ?_)))
 obtain ⟨r1, c4, h⟩ := zB h
 refine zr (zv [3] 1 [3,4] [[pi p1.kind, pi p1.n, pi p1.scale, .s (.string p1.s), .ro (aa.els p1.items)]] [(3, vq 0), (4, .ag (aD p1))] [.box [ci 0]] ?_)
 refine XO.calm 67 [.ag (aD p1), vi 1, vq 0] [.box [ci 0]] [.box [ci r1.2]] (vb r1.1) [0] [(5, vb r1.1), (3, vq 0), (4, .ag (aD p1))] [.box [ci r1.2]] (by kernel_rfl) (oj bf _ _ _ _ c4) (by kernel_rfl) (by kernel_rfl) (by kernel_rfl) (by kernel_rfl) (zg [3] 1 [2] (zd (m3 _ _ (ze ?_))))
 obtain rfl := zj h
 exact zf [vb r1.1] (.one (.rfl _ rfl))
def aK : Option Bool := some true
def ar (q_value_of_2 : ah → ac → Option Bool) (p1 : (List ah)) (p2 : (List ac)) : Nat → Int → Option Bool
 | 0, _ => none
 | k1 + 1, x1 => aI (decide (x1 < (p1.length : Int))) (aT (at? p1 x1) fun e1 => aT (at? p2 x1) fun e2 => aT (q_value_of_2 e1 e2) fun r1 => aI (!r1) (some false) ((ar q_value_of_2 p1 p2 k1) (i64.wrap (x1 + 1)))) (aK)
def bu : Option Int := some (-1 : Int)
def aB (q_value_of_1_s : ac → Int → Int → (List ah) → Option Bool) (p1 : (List ac)) (p2 p3 : Int) (p4 : (List ah)) : Nat → Int → Option Int
 | 0, _ => none
 | k1 + 1, x1 => aI (decide (x1 < (p1.length : Int))) (aT (at? p1 x1) fun e1 => aT (q_value_of_1_s e1 p2 p3 p4) fun r1 => aI r1 (some x1) ((aB q_value_of_1_s p1 p2 p3 p4 k1) (i64.wrap (x1 + 1)))) (bu)
mutual
def a7 : Nat → (List ac) → Int → Int → (List ah) → Option Bool
 | 0, _, _, _, _ => none
 | k0 + 1, p1, p2, p3, p4 => aT ((be k0) p1 p2 p3 p4) fun r1 => some (decide ((0 : Int) ≤ r1))
def az : Nat → (List ah) → (List ac) → Option Bool
 | 0, _, _ => none
 | k0 + 1, p1, p2 => aI ((p1.length : Int) != (p2.length : Int)) (some false) (ar (jx k0) p1 p2 bf (0 : Int))
def be : Nat → (List ac) → Int → Int → (List ah) → Option Int
 | 0, _, _, _, _ => none
 | k0 + 1, p1, p2, p3, p4 => aB (gF k0) p1 p2 p3 p4 bf (0 : Int)
def jQ : Nat → aw → ac → Option Bool
 | 0, _, _ => none
 | k0 + 1, p1, p2 => aI (p2.kind == 0) (some true) (aI (p2.kind != p1.kind) (some false) (aI (p2.kind == 3) (some (p2.scale == p1.scale)) (aI (p2.kind == 6) (aT ((a7 k0) p2.items p1.kind p1.scale p1.fields) fun r1 => some (!r1)) (aI (p2.kind == 7) (aT ((az k0) p1.fields p2.items) fun r2 => some r2) (some true)))))
def gF : Nat → ac → Int → Int → (List ah) → Option Bool
 | 0, _, _, _, _ => none
 | k0 + 1, p1, p2, p3, p4 => aT (at? p4 (0 : Int)) fun e1 => aT ((jQ k0) e1.type p1) fun r1 => some (!r1)
def jx : Nat → ah → ac → Option Bool
 | 0, _, _ => none
 | k0 + 1, p1, p2 => aT ((jQ k0) p1.type p2) fun r1 => some r1
end
abbrev zN (p1 : (List ah)) (p2 : (List ac)) (x1 : Int) : Fr := [(1, vl aa p2), (2, .one (.pv (.fn 134 []))), (15, vl ab p1), (16, vi (p1.length : Int)), (17, vi (i64.wrap (x1 + 1)))]
mutual
theorem eH : ∀ (k0 : Nat) (p1 : (List ac)) (p2 p3 : Int) (p4 : (List ah)) (r : Bool), a7 k0 p1 p2 p3 p4 = some r → PC Tryz.prog 111 [vl aa p1, .one (.fn 132 [.pv (.rp [[pi p2, pi p3, .ro (ab.els p4)]] 0 0)])] (vb r)
 | 0, _, _, _, _, r, h => by rw [a7.eq_1] at h; cases h
 | k0 + 1, p1, p2, p3, p4, r, h => by
  rw [a7.eq_2] at h
  refine zF 9 Tryz.f111 (zq fun K1 m1 => zr (zg [] 1 [0,1] (zd (m1 _ _ (zq fun K2 m2 => ?_)))))
  obtain ⟨r1, c3, h⟩ := zB h
  refine zr (zg [] 2 [5,6] (zl 156 [vl aa p1, .one (.fn 132 [.pv (.rp [[pi p2, pi p3, .ro (ab.els p4)]] 0 0)])] (vi r1) [(7, vi r1), (5, vl aa p1), (6, .one (.fn 132 [.pv (.rp [[pi p2, pi p3, .ro (ab.els p4)]] 0 0)]))] (eW k0 _ _ _ _ _ c3) (zg [] 2 [4] (zd (m2 _ _ (ze ?_))))))
  obtain rfl := zj h
  exact zf [vb (decide ((0 : Int) ≤ r1))] (.one (.rfl _ rfl))
theorem du : ∀ (k0 : Nat) (p1 : (List ah)) (p2 : (List ac)) (r : Bool), az k0 p1 p2 = some r → PC Tryz.prog 133 [vl ab p1, vl aa p2, .one (.pv (.fn 134 []))] (vb r)
 | 0, _, _, r, h => by rw [az.eq_1] at h; cases h
 | k0 + 1, p1, p2, r, h => by
  rw [az.eq_2] at h
  refine zF 32 Tryz.f133 (zq fun K1 m1 => zr (zg [8, 9] 1 [0,1,2] (zd (m1 _ _ (zq fun K2 m2 => zq fun K3 m3 => ?_)))))
  refine zr (zv [8, 9] 2 [0,1,2,11] [] [(0, vl ab p1), (1, vl aa p2), (2, .one (.pv (.fn 134 []))), (11, vi ((ab.els p1).length : Int))] [] ?_)
  rw [ab.len p1]
  refine zv [8, 9] 2 [0,1,2,11,13] [] [(0, vl ab p1), (1, vl aa p2), (2, .one (.pv (.fn 134 []))), (11, vi (p1.length : Int)), (13, vi ((aa.els p2).length : Int))] [] ?_
  rw [aa.len p2]
  refine zg [8, 9] 1 [0,1,2,14] (zd (m3 _ _ (zC h (fun b4 h => ?_) (fun b4 h => ?_))))
  ·refine zq fun K5 m5 => zr (zg [8, 9] 1 [6] (zd (m5 _ _ (ze ?_))))
   obtain rfl := zj h
   exact zf [vb false] (.one (.rfl _ rfl))
  ·refine zs (m2 _ _ (zq fun K6 m6 => ?_))
   have j1 : ∀ (_ : Unit), aK = some r → ∀ w0 w1, aL 32 0 [] w0 w1 [] [] → K6 w0 w1 := by
    intro _ h w0 w1 hS
    unfold aK at h
    refine m6 _ _ (XW.sub hS ?_)
    refine zq fun K20 m20 => zr (zg [8, 9] 1 [6] (zd (m20 _ _ (ze ?_))))
    obtain rfl := zj h
    exact zf [vb true] (.one (.rfl _ rfl))
   refine zq fun K7 m7 => zr (zv [8, 9] 2 [1,2,15,16] [] [(1, vl aa p2), (2, .one (.pv (.fn 134 []))), (15, vl ab p1), (16, vi ((ab.els p1).length : Int))] [] ?_)
   rw [ab.len p1]
   refine zg [8, 9] 1 [1,2,15,16,17] (zd (m7 _ _ (zb 0 (XW.rounds' bf (x := cd Tryz.f133 [1,1,0,1,0,0]) (by kernel_rfl) fun Q1 hQ1 => ?_))))
   have hL1 : ∀ (k1 : Nat) (x1 : Int), ar (jx k0) p1 p2 k1 x1 = some r → XR Tryz.prog 32 0 [] (cd Tryz.f133 [1,1,0,1,0,0]) Q1 k1 [(1, vl aa p2), (2, .one (.pv (.fn 134 []))), (15, vl ab p1), (16, vi (p1.length : Int)), (17, vi x1)] [] := by
    intro k1
    induction k1 with
    | zero => intro x1 h; rw [ar.eq_1] at h; cases h
    | succ k1 ih1 =>
     intro x1 h
     rw [ar.eq_2] at h
     refine zq fun K8 m8 => zr (zg [8, 9] 1 [1,2,15,16,17,18] (zd (m8 _ _ (zq fun K9 m9 => zC h (fun b10 h => ?_) (fun b10 h => ?_)))))
     ·refine zs (m9 _ _ (zq fun K11 m11 => zb 1 (zq fun K12 m12 => ?_)))
      obtain ⟨e1, a13, h⟩ := zB h
      refine zr (zo [8, 9] 6 [1,2,7,8,15,16,17] [(aJ e1)] [0 ≤ x1 ∧ x1 < ((ab.els p1).length : Int) ∧ aq 6 (ab.els p1), (ab.els p1)[x1.toNat]? = some (aJ e1)] (⟨ab.inb a13, ((ab.get a13).trans (by rcases e1 with ⟨_, _, _, ⟨_, _, _⟩⟩; rfl)), trivial⟩) (zd (m12 _ _ (zq fun K14 m14 => ?_))))
      obtain ⟨e2, a15, h⟩ := zB h
      refine zr ?_
      refine zp [8, 9] 6 [1,2,8,9,15,16,17] [[pi e2.kind, pi e2.n, pi e2.scale, .s (.string e2.s), .ro (aa.els e2.items)]] [(1, vl aa p2), (2, .one (.pv (.fn 134 []))), (8, vq 0), (9, vq 1), (15, vl ab p1), (16, vi (p1.length : Int)), (17, vi x1)] [.box (aS e1), .box [ci e2.kind, ci e2.n, ci e2.scale, cj e2.s, cl aa e2.items]] [0 ≤ x1 ∧ x1 < ((aa.els p2).length : Int) ∧ aq 5 (aa.els p2), (aa.els p2)[x1.toNat]? = some [pi e2.kind, pi e2.n, pi e2.scale, .s (.string e2.s), .ro (aa.els e2.items)]] (⟨aa.inb a15, ((aa.get a15).trans (by cases e2; rfl)), trivial⟩) ?_
      refine zd (m14 _ _ (zq fun K16 m16 => ?_))
      obtain ⟨r1, c17, h⟩ := zB h
      refine zr (zg [8, 9] 3 [1,2,15,16,17,26,27,28] (za (tX k0 _ _ _ c17) (zv [8, 9] 1 [1,2,15,16,17,30] [] [(1, vl aa p2), (2, .one (.pv (.fn 134 []))), (15, vl ab p1), (16, vi (p1.length : Int)), (17, vi x1), (30, vb (!r1))] [.box (aS e1), .box [ci e2.kind, ci e2.n, ci e2.scale, cj e2.s, cl aa e2.items]] (zd (m16 _ _ (zC h (fun b18 h => ?_) (fun b18 h => ?_)))))))
      ·refine zq fun K19 m19 => zr (zg [8, 9] 1 [6] (zd (m19 _ _ (ze (hQ1 _ _ _ ?_)))))
       obtain rfl := zj h
       exact zf [vb false] (.one (.rfl _ rfl))
      ·exact zs (m11 _ _ (zr (zg [8, 9] 2 [1,2,15,16,17] (zd (XR.sub (aL.trans (aL.pick (fr' := (zN p1 p2 x1)) [1,2,15,16,17] (by kernel_rfl)) (aL.take (fr' := (zN p1 p2 x1)) 0 (Nat.zero_le _) (by kernel_rfl) (by kernel_rfl))) (ih1 (i64.wrap (x1 + 1)) h))))))
     ·exact zx 0 (hQ1 _ _ _ (j1 () h _ _ (zk [])))
   exact XR.sub (zk [1,2,15,16,17]) (hL1 bf (0 : Int) h)
theorem eW : ∀ (k0 : Nat) (p1 : (List ac)) (p2 p3 : Int) (p4 : (List ah)) (r : Int), be k0 p1 p2 p3 p4 = some r → PC Tryz.prog 156 [vl aa p1, .one (.fn 132 [.pv (.rp [[pi p2, pi p3, .ro (ab.els p4)]] 0 0)])] (vi r)
 | 0, _, _, _, _, r, h => by rw [be.eq_1] at h; cases h
 | k0 + 1, p1, p2, p3, p4, r, h => by
  rw [be.eq_2] at h
  refine zF 19 Tryz.f156 (zq fun K1 m1 => zr (zg [] 1 [0,1] (zd (m1 _ _ (zq fun K2 m2 => ?_)))))
  have j1 : ∀ (_ : Unit), bu = some r → ∀ w0 w1, aL 19 0 [] w0 w1 [] [] → K2 w0 w1 := by
   intro _ h w0 w1 hS
   unfold bu at h
   refine m2 _ _ (XW.sub hS ?_)
   refine zq fun K14 m14 => zr (zg [] 1 [4] (zd (m14 _ _ (ze ?_))))
   obtain rfl := zj h
   exact zf [vi (-1)] (.one (.rfl _ rfl))
  refine zq fun K3 m3 => zr (zv [] 2 [0,1,7] [] [(0, vl aa p1), (1, .one (.fn 132 [.pv (.rp [[pi p2, pi p3, .ro (ab.els p4)]] 0 0)])), (7, vi ((aa.els p1).length : Int))] [] ?_)
  rw [aa.len p1]
  refine zg [] 1 [0,1,7,8] (zd (m3 _ _ (zb 0 (XW.rounds' bf (x := cd Tryz.f156 [1,0,1,0,0]) (by kernel_rfl) fun Q1 hQ1 => ?_))))
  have hL1 : ∀ (k1 : Nat) (x1 : Int), aB (gF k0) p1 p2 p3 p4 k1 x1 = some r → XR Tryz.prog 19 0 [] (cd Tryz.f156 [1,0,1,0,0]) Q1 k1 [(0, vl aa p1), (1, .one (.fn 132 [.pv (.rp [[pi p2, pi p3, .ro (ab.els p4)]] 0 0)])), (7, vi (p1.length : Int)), (8, vi x1)] [] := by
   intro k1
   induction k1 with
   | zero => intro x1 h; rw [aB.eq_1] at h; cases h
   | succ k1 ih1 =>
    intro x1 h
    rw [aB.eq_2] at h
    refine zq fun K4 m4 => zr (zg [] 1 [0,1,7,8,9] (zd (m4 _ _ (zq fun K5 m5 => zC h (fun b6 h => ?_) (fun b6 h => ?_)))))
    ·refine zs (m5 _ _ (zq fun K7 m7 => zb 1 (zq fun K8 m8 => zr (zg [] 2 [0,1,5,7,8] (zd ?_)))))
     refine m8 _ _ (zq fun K9 m9 => ?_)
     obtain ⟨e1, a10, h⟩ := zB h
     obtain ⟨r1, c11, h⟩ := zB h
     refine zr ?_
     refine zp [] 5 [0,1,5,7,8,11,15] [[pi e1.kind, pi e1.n, pi e1.scale, .s (.string e1.s), .ro (aa.els e1.items)]] [(0, vl aa p1), (1, .one (.fn 132 [.pv (.rp [[pi p2, pi p3, .ro (ab.els p4)]] 0 0)])), (5, vi x1), (7, vi (p1.length : Int)), (8, vi x1), (11, .one (.fn 132 [.pv (.rp [[pi p2, pi p3, .ro (ab.els p4)]] 0 0)])), (15, .ag [ci e1.kind, ci e1.n, ci e1.scale, cj e1.s, cl aa e1.items])] [] [0 ≤ x1 ∧ x1 < ((aa.els p1).length : Int) ∧ aq 5 (aa.els p1), (aa.els p1)[x1.toNat]? = some [pi e1.kind, pi e1.n, pi e1.scale, .s (.string e1.s), .ro (aa.els e1.items)]] (⟨aa.inb a10, ((aa.get a10).trans (by cases e1; rfl)), trivial⟩) ?_
     refine za (rC k0 _ _ _ _ _ c11) (zd (m9 _ _ (zC h (fun b12 h => ?_) (fun b12 h => ?_))))
     ·refine zq fun K13 m13 => zr (zg [] 2 [4] (zd (m13 _ _ (ze (hQ1 _ _ _ ?_)))))
      obtain rfl := zj h
      exact zf [vi x1] (.one (.rfl _ rfl))
     ·exact zs (m7 _ _ (zr (zv [] 2 [0,1,7,8] [] [(0, vl aa p1), (1, .one (.fn 132 [.pv (.rp [[pi p2, pi p3, .ro (ab.els p4)]] 0 0)])), (7, vi (p1.length : Int)), (8, vi (i64.wrap (x1 + 1)))] [] (zd (XR.sub (zk [0,1,7,8]) (ih1 (i64.wrap (x1 + 1)) h))))))
    ·exact zx 0 (hQ1 _ _ _ (j1 () h _ _ (zk [])))
  exact XR.sub (zk [0,1,7,8]) (hL1 bf (0 : Int) h)
theorem oM : ∀ (k0 : Nat) (p1 : aw) (p2 : ac) (r : Bool), jQ k0 p1 p2 = some r → PC Tryz.prog 86 [.ag [ci p1.kind, ci p1.scale, cl ab p1.fields], .ag [ci p2.kind, ci p2.n, ci p2.scale, cj p2.s, cl aa p2.items]] (vb r)
 | 0, _, _, r, h => by rw [jQ.eq_1] at h; cases h
 | k0 + 1, p1, p2, r, h => by
  rw [jQ.eq_2] at h
  refine zF 42 Tryz.f86 (zq fun K1 m1 => zr (zg [] 3 [2,3] (zd (m1 _ _ (zq fun K2 m2 => zb 0 ?_)))))
  refine zq fun K3 m3 => zr (zu [] 4 [2,3,5] [(ae p2)] (zd (m3 _ _ (zC h (fun b4 h => ?_) (fun b4 h => ?_)))))
  ·refine zq fun K5 m5 => zr (zv [] 1 [4] [] [(4, vb true)] [] (zd (m5 _ _ (ze ?_))))
   obtain rfl := zj h
   exact zf [vb true] (.one (.rfl _ rfl))
  ·refine zq fun K6 m6 => zr (zu [] 6 [2,3,9] [(ae p2), (aj p1)] (zd (m6 _ _ (zC h (fun b7 h => ?_) (fun b7 h => ?_)))))
   ·refine zq fun K8 m8 => zr (zg [] 1 [4] (zd (m8 _ _ (ze ?_))))
    obtain rfl := zj h
    exact zf [vb false] (.one (.rfl _ rfl))
   ·refine zq fun K9 m9 => zr (zv [] 4 [2,3,15] [(ae p2)] [(2, vR (aj p1)), (3, vR (ae p2)), (15, vb (p2.kind == 3))] [] (zd (m9 _ _ (zC h (fun b10 h => ?_) (fun b10 h => ?_)))))
    ·refine zq fun K11 m11 => zr (zu [] 6 [4] [(ae p2), (aj p1)] (zd (m11 _ _ (ze ?_))))
     obtain rfl := zj h
     exact zf [vb (p2.scale == p1.scale)] (.one (.rfl _ rfl))
    ·refine zq fun K12 m12 => zr (zu [] 4 [2,3,24] [(ae p2)] (zd (m12 _ _ (zC h (fun b13 h => ?_) (fun b13 h => ?_)))))
     ·refine zq fun K14 m14 => ?_
      obtain ⟨r1, c15, h⟩ := zB h
      refine zr (zv [] 3 [29,30] [(ae p2)] [(29, vl aa p2.items), (30, .one (.fn 132 [.pv (.rp [(aj p1)] 0 0)]))] [] (za (eH k0 _ _ _ _ _ c15) (zg [] 2 [4] (zd (m14 _ _ (ze ?_))))))
      obtain rfl := zj h
      exact zf [vb (!r1)] (.one (.rfl _ rfl))
     ·refine zq fun K16 m16 => zr (zv [] 4 [2,3,33] [(ae p2)] [(2, vR (aj p1)), (3, vR (ae p2)), (33, vb (p2.kind == 7))] [] (zd (m16 _ _ (zC h (fun b17 h => ?_) (fun b17 h => ?_)))))
      ·refine zq fun K18 m18 => ?_
       obtain ⟨r2, c19, h⟩ := zB h
       refine zr (zu [] 4 [38,40] [(aj p1), (ae p2)] (za (du k0 _ _ _ c19) (zv [] 1 [4] [] [(4, vb r2)] [] (zd (m18 _ _ (ze ?_))))))
       obtain rfl := zj h
       exact zf [vb r2] (.one (.rfl _ rfl))
      ·refine zs (m2 _ _ (zq fun K20 m20 => zr (zg [] 1 [4] (zd (m20 _ _ (ze ?_))))))
       obtain rfl := zj h
       exact zf [vb true] (.one (.rfl _ rfl))
theorem rC : ∀ (k0 : Nat) (p1 : ac) (p2 p3 : Int) (p4 : (List ah)) (r : Bool), gF k0 p1 p2 p3 p4 = some r → PC Tryz.prog 132 [.ag [ci p1.kind, ci p1.n, ci p1.scale, cj p1.s, cl aa p1.items], vR [pi p2, pi p3, .ro (ab.els p4)]] (vb r)
 | 0, _, _, _, _, r, h => by rw [gF.eq_1] at h; cases h
 | k0 + 1, p1, p2, p3, p4, r, h => by
  rw [gF.eq_2] at h
  refine zF 12 Tryz.f132 (zq fun K1 m1 => zr (zg [] 2 [1,2] (zd (m1 _ _ (zq fun K2 m2 => ?_)))))
  obtain ⟨e1, a3, h⟩ := zB h
  obtain ⟨r1, c4, h⟩ := zB h
  refine zw 6 [(9, .ag [ci p1.kind, ci p1.n, ci p1.scale, cj p1.s, cl aa p1.items]), (8, .ag [ci e1.type.kind, ci e1.type.scale, cl ab e1.type.fields]), (7, .one (.pv (.rp (ab.els p4) ((0 : Int).toNat) 3))), (6, .one (.pv (.rp (ab.els p4) ((0 : Int).toNat) 0))), (5, vl ab p4), (4, .one (.pv (.rp [[pi p2, pi p3, .ro (ab.els p4)]] 0 2))), (1, vR [pi p2, pi p3, .ro (ab.els p4)]), (2, vR (ae p1))] ?_ ?_
  ·refine sd 6 [[pi p2, pi p3, .ro (ab.els p4)], (aJ e1), (ae p1)] [([[pi p2, pi p3, .ro (ab.els p4)]] : List (List PV))[0]? = some [pi p2, pi p3, .ro (ab.els p4)], 0 ≤ (0 : Int) ∧ (0 : Int) < ((ab.els p4).length : Int) ∧ aq 6 (ab.els p4), (ab.els p4)[(0 : Int).toNat]? = some (aJ e1), ([(ae p1)] : List (List PV))[0]? = some (ae p1)] (⟨rfl, ab.inb a3, ((ab.get a3).trans (by rcases e1 with ⟨_, _, _, ⟨_, _, _⟩⟩; rfl)), rfl, trivial⟩) ?_
   exact lU
  refine za (oM k0 _ _ _ c4) (zv [] 2 [3] [] [(3, vb (!r1))] [] (zd (m2 _ _ (ze ?_))))
  obtain rfl := zj h
  exact zf [vb (!r1)] (.one (.rfl _ rfl))
theorem tX : ∀ (k0 : Nat) (p1 : ah) (p2 : ac) (r : Bool), jx k0 p1 p2 = some r → PC Tryz.prog 134 [.ag [ci p1.id, cj p1.name, cb p1.need, ci p1.type.kind, ci p1.type.scale, cl ab p1.type.fields], .ag (aD p2)] (vb r)
 | 0, _, _, r, h => by rw [jx.eq_1] at h; cases h
 | k0 + 1, p1, p2, r, h => by
  rw [jx.eq_2] at h
  refine zF 9 Tryz.f134 (zq fun K1 m1 => zr (zg [] 3 [2,3] (zd (m1 _ _ (zq fun K2 m2 => ?_)))))
  obtain ⟨r1, c3, h⟩ := zB h
  refine zr (zu [] 3 [6,7] [[pi p1.id, .s (.string p1.name), .s (.bool p1.need), pi p1.type.kind, pi p1.type.scale, .ro (ab.els p1.type.fields)], [pi p2.kind, pi p2.n, pi p2.scale, .s (.string p2.s), .ro (aa.els p2.items)]] (zl 86 [.ag [ci p1.type.kind, ci p1.type.scale, cl ab p1.type.fields], .ag (aD p2)] (vb r1) [(8, vb r1), (6, .ag [ci p1.type.kind, ci p1.type.scale, cl ab p1.type.fields]), (7, .ag (aD p2))] (oM k0 _ _ _ c3) (zg [] 1 [4] (zd (m2 _ _ ?_)))))
  refine ze ?_
  obtain rfl := zj h
  exact zf [vb r1] (.one (.rfl _ rfl))
end
def iA (p1 : aw) (x1 : Int) : Option ah := aT (at? p1.fields x1) fun e1 => some e1
def kK (p1 : aw) (p2 : Int) : Option ah := aI (p1.kind == 6) (iA p1 (0 : Int)) (iA p1 p2)
abbrev Bp : List CV := [ci 0, cj ByteArray.empty, cb false, ci 0, ci 0, .pv (.s (.slice none 0 0))]
theorem sj (p1 : aw) (p2 : Int) (r : ah) (h : kK p1 p2 = some r) : PC Tryz.prog 135 [.ag [ci p1.kind, ci p1.scale, cl ab p1.fields], vi p2] (.ag [ci r.id, cj r.name, cb r.need, ci r.type.kind, ci r.type.scale, cl ab r.type.fields]) := by
 unfold kK at h
 refine zF 13 Tryz.f135 (zq fun K1 m1 => zr (zg [4] 2 [1,2,4] (zd (m1 _ _ (zq fun K2 m2 => ?_)))))
 have j1 : ∀ (x1 : Int), iA p1 x1 = some r → ∀ w0 w1, aL 13 0 [] w0 w1 [(1, vi x1), (2, vR (aj p1)), (4, vq 0)] [.box Bp] → K2 w0 w1 := by
  intro x1 h w0 w1 hS
  unfold iA at h
  refine m2 _ _ (XW.sub hS ?_)
  refine zq fun K5 m5 => ?_
  obtain ⟨e1, a6, h⟩ := zB h
  refine zr ?_
  refine zo [4] 6 [4] [(aj p1), (aJ e1)] [([(aj p1)] : List (List PV))[0]? = some (aj p1), 0 ≤ x1 ∧ x1 < ((ab.els p1.fields).length : Int) ∧ aq 6 (ab.els p1.fields), (ab.els p1.fields)[x1.toNat]? = some (aJ e1)] (⟨rfl, ab.inb a6, ((ab.get a6).trans (by rcases e1 with ⟨_, _, _, ⟨_, _, _⟩⟩; rfl)), trivial⟩) ?_
  refine zd (m5 _ _ (ze ?_))
  obtain rfl := zj h
  exact zf [.ag [ci e1.id, cj e1.name, cb e1.need, ci e1.type.kind, ci e1.type.scale, cl ab e1.type.fields]] (.ag (.cons (.rfl _ rfl) (.cons (.rfl _ rfl) (.cons (.rfl _ rfl) (.cons (.rfl _ rfl) (.cons (.rfl _ rfl) (.cons (.rfl _ rfl) .nil)))))))
 refine zq fun K3 m3 => zr (zu [4] 3 [1,2,4,7] [(aj p1)] (zd (m3 _ _ (zC h (fun b4 h => ?_) (fun b4 h => ?_)))))
 ·exact zr (zv [4] 1 [1,2,4] [] [(1, vi 0), (2, vR (aj p1)), (4, vq 0)] [.box Bp] (zd (j1 (0 : Int) h _ _ (zk [1,2,4]))))
 ·exact zs (j1 p2 h _ _ (zk [1,2,4]))
def gq (rec1 : Int → Option Bool) (x1 : Int) (x2 : Bool) : Option Bool := aI x2 (some true) (rec1 (i64.wrap (x1 + 1)))
def jJ : Option Bool := some false
def db (q_value_lacks : aw → ac → Option Bool) (p1 : aw) (p2 : ac) : Nat → Int → Option Bool
 | 0, _ => none
 | k1 + 1, x1 => aI (decide (x1 < (p2.items.length : Int))) (aT (at? p2.items x1) fun e1 => aT (kK p1 x1) fun r1 => aI (e1.kind == 0) (aI r1.need (gq (db q_value_lacks p1 p2 k1) x1 true) (aT (q_value_lacks r1.type e1) fun r2 => gq (db q_value_lacks p1 p2 k1) x1 r2)) (aT (q_value_lacks r1.type e1) fun r3 => gq (db q_value_lacks p1 p2 k1) x1 r3)) (jJ)
def eD : Nat → aw → ac → Option Bool
 | 0, _, _ => none
 | k0 + 1, p1, p2 => db (eD k0) p1 p2 bf (0 : Int)
abbrev Bh (p1 : aw) (p2 : ac) (x1 : Int) : Fr := [(2, vR (aj p1)), (9, vl aa p2.items), (10, vi (p2.items.length : Int)), (11, vi (i64.wrap (x1 + 1)))]
abbrev vY (p1 : aw) (p2 : ac) (x1 : Int) (e1 : ac) : Fr := [(2, vR (aj p1)), (6, vq 0), (7, vq 1), (9, vl aa p2.items), (10, vi (p2.items.length : Int)), (11, vi x1), (22, vb (e1.kind == 0))]
abbrev zY (p1 : aw) (p2 : ac) (x1 : Int) : Fr := [(2, vR (aj p1)), (9, vl aa p2.items), (10, vi (p2.items.length : Int)), (11, vi x1), (31, vb true)]
abbrev vX (p1 : aw) (p2 : ac) (x1 : Int) (r3 : Bool) : Fr := [(2, vR (aj p1)), (9, vl aa p2.items), (10, vi (p2.items.length : Int)), (11, vi x1), (31, vb r3)]
theorem mg : ∀ (k0 : Nat) (p1 : aw) (p2 : ac) (r : Bool), eD k0 p1 p2 = some r → PC Tryz.prog 87 [.ag [ci p1.kind, ci p1.scale, cl ab p1.fields], .ag [ci p2.kind, ci p2.n, ci p2.scale, cj p2.s, cl aa p2.items]] (vb r)
 | 0, _, _, r, h => by rw [eD.eq_1] at h; cases h
 | k0 + 1, p1, p2, r, h => by
  rw [eD.eq_2] at h
  refine zF 33 Tryz.f87 (zq fun K1 m1 => zr (zg [6, 7] 3 [2,3] (zd (m1 _ _ (zq fun K2 m2 => ?_)))))
  have j2 : ∀ (_ : Unit), jJ = some r → ∀ w0 w1, aL 33 0 [] w0 w1 [] [] → K2 w0 w1 := by
   intro _ h w0 w1 hS
   unfold jJ at h
   refine m2 _ _ (XW.sub hS ?_)
   refine zq fun K19 m19 => zr (zg [6, 7] 1 [4] (zd (m19 _ _ (ze ?_))))
   obtain rfl := zj h
   exact zf [vb false] (.one (.rfl _ rfl))
  refine zq fun K3 m3 => zr (zv [6, 7] 3 [2,9,10] [[pi p2.kind, pi p2.n, pi p2.scale, .s (.string p2.s), .ro (aa.els p2.items)]] [(2, vR [pi p1.kind, pi p1.scale, .ro (ab.els p1.fields)]), (9, vl aa p2.items), (10, vi ((aa.els p2.items).length : Int))] [] ?_)
  rw [aa.len p2.items]
  refine zg [6, 7] 1 [2,9,10,11] (zd (m3 _ _ (zb 0 (XW.rounds' bf (x := cd Tryz.f87 [1,0,1,0,0]) (by kernel_rfl) fun Q1 hQ1 => ?_))))
  have hL1 : ∀ (k1 : Nat) (x1 : Int), db (eD k0) p1 p2 k1 x1 = some r → XR Tryz.prog 33 0 [] (cd Tryz.f87 [1,0,1,0,0]) Q1 k1 [(2, vR (aj p1)), (9, vl aa p2.items), (10, vi (p2.items.length : Int)), (11, vi x1)] [] := by
   intro k1
   induction k1 with
   | zero => intro x1 h; rw [db.eq_1] at h; cases h
   | succ k1 ih1 =>
    intro x1 h
    rw [db.eq_2] at h
    refine zq fun K4 m4 => zr (zg [6, 7] 1 [2,9,10,11,12] (zd (m4 _ _ (zq fun K5 m5 => zC h (fun b6 h => ?_) (fun b6 h => ?_)))))
    ·refine zs (m5 _ _ (zq fun K7 m7 => zb 1 (zq fun K8 m8 => ?_)))
     obtain ⟨e1, a9, h⟩ := zB h
     refine zr (zo [6, 7] 6 [2,5,6,9,10,11] [[pi e1.kind, pi e1.n, pi e1.scale, .s (.string e1.s), .ro (aa.els e1.items)]] [0 ≤ x1 ∧ x1 < ((aa.els p2.items).length : Int) ∧ aq 5 (aa.els p2.items), (aa.els p2.items)[x1.toNat]? = some [pi e1.kind, pi e1.n, pi e1.scale, .s (.string e1.s), .ro (aa.els e1.items)]] (⟨aa.inb a9, ((aa.get a9).trans (by cases e1; rfl)), trivial⟩) (zd (m8 _ _ (zq fun K10 m10 => ?_))))
     obtain ⟨r1, c11, h⟩ := zB h
     refine zr (zv [6, 7] 2 [2,6,9,10,11,16,17] [(aj p1)] [(2, vR (aj p1)), (6, vq 0), (9, vl aa p2.items), (10, vi (p2.items.length : Int)), (11, vi x1), (16, .ag [ci p1.kind, ci p1.scale, cl ab p1.fields]), (17, vi x1)] [.box (aD e1)] (za (sj _ _ _ c11) (zg [6, 7] 2 [2,6,7,9,10,11] (zd (m10 _ _ (zq fun K12 m12 => ?_))))))
     have j1 : ∀ (x2 : Bool), gq (db (eD k0) p1 p2 k1) x1 x2 = some r → ∀ w0 w1, aL 33 0 [] w0 w1 [(2, vR (aj p1)), (9, vl aa p2.items), (10, vi (p2.items.length : Int)), (11, vi x1), (31, vb x2)] [.dead, .dead] → K12 w0 w1 := by
      intro x2 h w0 w1 hS
      unfold gq at h
      refine m12 _ _ (XW.sub hS ?_)
      refine zC h (fun b17 h => ?_) (fun b17 h => ?_)
      ·refine zq fun K18 m18 => zr (zg [6, 7] 1 [4] (zd (m18 _ _ (ze (hQ1 _ _ _ ?_)))))
       obtain rfl := zj h
       exact zf [vb true] (.one (.rfl _ rfl))
      ·refine zs (m7 _ _ (zr (zg [6, 7] 2 [2,9,10,11] (zd ?_))))
       exact XR.sub (aL.trans (aL.pick (fr' := (Bh p1 p2 x1)) [2,9,10,11] (by kernel_rfl)) (aL.take (fr' := (Bh p1 p2 x1)) 0 (Nat.zero_le _) (by kernel_rfl) (by kernel_rfl))) (ih1 (i64.wrap (x1 + 1)) h)
     rcases zW h with ⟨b13, h⟩ | ⟨b13, h⟩
     ·rcases zW h with ⟨b14, h⟩ | ⟨b14, h⟩
      ·refine zr (zv [6, 7] 4 [2,6,7,9,10,11,22] [] (vY p1 p2 x1 e1) [.box (aD e1), .box (aS r1)] (zt 22 b13 (zg [6, 7] 4 [2,6,7,9,10,11,26] (zt 26 b14 (zg [6, 7] 5 [2,9,10,11,31] (zd ?_))))))
       exact j1 true h _ _ (aL.trans (aL.pick (fr' := (zY p1 p2 x1)) [2,9,10,11,31] (by kernel_rfl)) (aL.only (fr' := (zY p1 p2 x1)) (st' := [.dead, .dead]) [] 2 (by kernel_rfl) (by kernel_rfl) (by kernel_rfl) (by kernel_rfl)))
      ·obtain ⟨r2, c15, h⟩ := zB h
       refine zr (zv [6, 7] 4 [2,6,7,9,10,11,22] [] (vY p1 p2 x1 e1) [.box (aD e1), .box (aS r1)] (zt 22 b13 (zg [6, 7] 4 [2,6,7,9,10,11,26] (zt 26 b14 (zg [6, 7] 3 [2,9,10,11,26,28,29] ?_)))))
       refine zl 87 [.ag [ci r1.type.kind, ci r1.type.scale, cl ab r1.type.fields], .ag (aD e1)] (vb r2) [(30, vb r2), (2, vR (aj p1)), (9, vl aa p2.items), (10, vi (p2.items.length : Int)), (11, vi x1), (26, vb false), (28, .ag [ci r1.type.kind, ci r1.type.scale, cl ab r1.type.fields]), (29, .ag (aD e1))] (mg k0 _ _ _ c15) (zg [6, 7] 1 [2,9,10,11,31] (zd ?_))
       exact j1 r2 h _ _ (aL.trans (aL.pick (fr' := [(2, vR (aj p1)), (9, vl aa p2.items), (10, vi (p2.items.length : Int)), (11, vi x1), (31, vb r2)]) [2,9,10,11,31] (by kernel_rfl)) (aL.only (fr' := [(2, vR (aj p1)), (9, vl aa p2.items), (10, vi (p2.items.length : Int)), (11, vi x1), (31, vb r2)]) (st' := [.dead, .dead]) [] 2 (by kernel_rfl) (by kernel_rfl) (by kernel_rfl) (by kernel_rfl)))
     ·obtain ⟨r3, c16, h⟩ := zB h
      refine zr (zv [6, 7] 4 [2,6,7,9,10,11,22] [] (vY p1 p2 x1 e1) [.box (aD e1), .box (aS r1)] (zt 22 b13 (zg [6, 7] 7 [2,9,10,11,26,28,29] (za (mg k0 _ _ _ c16) ?_))))
      refine zv [6, 7] 1 [2,9,10,11,31] [] (vX p1 p2 x1 r3) [.box (aD e1), .box (aS r1)] (zd ?_)
      exact j1 r3 h _ _ (aL.trans (aL.pick (fr' := (vX p1 p2 x1 r3)) [2,9,10,11,31] (by kernel_rfl)) (aL.only (fr' := (vX p1 p2 x1 r3)) (st' := [.dead, .dead]) [] 2 (by kernel_rfl) (by kernel_rfl) (by kernel_rfl) (by kernel_rfl)))
    ·exact zx 0 (hQ1 _ _ _ (j2 () h _ _ (zk [])))
  exact XR.sub (zk [2,9,10,11]) (hL1 bf (0 : Int) h)
def gA (p1 : aw) (p2 : ac) : Option Int := aT (fJ p1) fun r1 => aI (r1 != 0) (some r1) (aT (jE p2) fun r2 => aI (!r2) (some (1 : Int)) (aT (jQ bf p1 p2) fun r3 => aI (!r3) (some (2 : Int)) (aT (eD bf p1 p2) fun r4 => aI r4 (some (9 : Int)) (some (0 : Int)))))
theorem sg (p1 : aw) (p2 : ac) (r : Int) (h : gA p1 p2 = some r) : PC Tryz.prog 43 [.ag (gd p1), .ag (aD p2)] (vi r) := by
 unfold gA at h
 refine zF 24 Tryz.f43 (zq fun K1 m1 => zr (zg [] 3 [2,3] (zd (m1 _ _ (zq fun K2 m2 => zq fun K3 m3 => ?_)))))
 obtain ⟨r1, c4, h⟩ := zB h
 refine zr (zu [] 1 [2,3,6] [(aj p1)] (zl 22 [.ag (gd p1)] (vi r1) [(7, vi r1), (2, vR (aj p1)), (3, vR (ae p2)), (6, .ag (gd p1))] (lQ _ _ c4) (zg [] 1 [2,3,5] (zd (m3 _ _ (zq fun K5 m5 => zr ?_))))))
 refine zg [] 2 [2,3,5,9] (zd (m5 _ _ (zC h (fun b6 h => ?_) (fun b6 h => ?_))))
 ·refine zq fun K7 m7 => zr (zv [] 2 [4] [] [(4, vi r1)] [] (zd (m7 _ _ (ze ?_))))
  obtain rfl := zj h
  exact zf [vi r1] (.one (.rfl _ rfl))
 ·refine zs (m2 _ _ (zq fun K8 m8 => zb 0 (zq fun K9 m9 => ?_)))
  obtain ⟨r2, c10, h⟩ := zB h
  refine zr (zu [] 1 [2,3,12] [(ae p2)] (za (ov _ _ c10) (zv [] 2 [2,3,11] [] [(2, vR (aj p1)), (3, vR (ae p2)), (11, vb (!r2))] [] (zd (m9 _ _ (zC h (fun b11 h => ?_) (fun b11 h => ?_)))))))
  ·refine zq fun K12 m12 => zr (zg [] 1 [4] (zd (m12 _ _ (ze ?_))))
   obtain rfl := zj h
   exact zf [vi 1] (.one (.rfl _ rfl))
  ·refine zq fun K13 m13 => ?_
   obtain ⟨r3, c14, h⟩ := zB h
   refine zr (zu [] 2 [2,3,16,17] [(aj p1), (ae p2)] ?_)
   refine zl 86 [.ag (gd p1), .ag (aD p2)] (vb r3) [(18, vb r3), (2, vR (aj p1)), (3, vR (ae p2)), (16, .ag (gd p1)), (17, .ag (aD p2))] (oM bf _ _ _ c14) (zg [] 2 [2,3,15] (zd (m13 _ _ (zC h (fun b15 h => ?_) (fun b15 h => ?_)))))
   ·refine zq fun K16 m16 => zr (zg [] 1 [4] (zd (m16 _ _ (ze ?_))))
    obtain rfl := zj h
    exact zf [vi 2] (.one (.rfl _ rfl))
   ·refine zq fun K17 m17 => ?_
    obtain ⟨r4, c18, h⟩ := zB h
    refine zr (zv [] 2 [21,22] [(aj p1), (ae p2)] [(21, .ag (gd p1)), (22, .ag (aD p2))] [] (za (mg bf _ _ _ c18) (zg [] 1 [20] (zd (m17 _ _ (zC h (fun b19 h => ?_) (fun b19 h => ?_)))))))
    ·refine zq fun K20 m20 => zr (zv [] 1 [4] [] [(4, vi 9)] [] (zd (m20 _ _ (ze ?_))))
     obtain rfl := zj h
     exact zf [vi 9] (.one (.rfl _ rfl))
    ·refine zs (m8 _ _ (zq fun K21 m21 => zr (zg [] 1 [4] (zd (m21 _ _ (ze ?_))))))
     obtain rfl := zj h
     exact zf [vi 0] (.one (.rfl _ rfl))
def eU (rec2 : Int → Option Int) (x2 : Int) (x3 : Bool) : Option Int := aI x3 (some (9 : Int)) (rec2 (i64.wrap (x2 + 1)))
def eQ (rec1 : Int → Option Int) (x1 : Int) : Option Int := rec1 (i64.wrap (x1 + 1))
def bV (rec1 : Int → Option Int) (p1 : (List ah)) (x1 : Int) (e1 : (List ac)) : Nat → Int → Option Int
 | 0, _ => none
 | k2 + 1, x2 => aI (decide (x2 < (p1.length : Int))) (aT (at? p1 x2) fun e2 => aT (at? e1 x2) fun e3 => aT (gA e2.type e3) fun r2 => aI (r2 != 0) (some r2) (aI (e3.kind == 0) (eU (bV rec1 p1 x1 e1 k2) x2 e2.need) (eU (bV rec1 p1 x1 e1 k2) x2 false))) (eQ rec1 x1)
def iV : Option Int := some (0 : Int)
def bG (p1 : (List ah)) (p2 : (List (List ac))) : Nat → Int → Option Int
 | 0, _ => none
 | k1 + 1, x1 => aI (decide (x1 < (p2.length : Int))) (aT (at? p2 x1) fun e1 => aI ((e1.length : Int) != (p1.length : Int)) (some (1 : Int)) (bV (bG p1 p2 k1) p1 x1 e1 bf (0 : Int))) (iV)
def fb (p1 : (List ah)) (p2 : (List (List ac))) : Option Int := aT (cX p1) fun r1 => aI (r1 != 0) (some r1) (aI (decide ((2000 : Int) < (p2.length : Int))) (some (7 : Int)) (bG p1 p2 bf (0 : Int)))
abbrev zO (p1 : (List ah)) (p2 : (List (List ac))) (x1 : Int) (e1 : (List ac)) (x2 : Int) : Fr := [(0, vl ab p1), (7, vl aa e1), (19, vl (eL aa) p2), (20, vi (p2.length : Int)), (21, vi x1), (30, vl ab p1), (31, vi (p1.length : Int)), (32, vi (i64.wrap (x2 + 1)))]
abbrev zD (p1 : (List ah)) (p2 : (List (List ac))) (x1 : Int) (e1 : (List ac)) (x2 : Int) (e2 : ah) (e3 : ac) : Fr := [(42, .ag (aD e3)), (41, .one (.pv (.rp (aa.els e1) x2.toNat 0))), (40, vi x2), (39, vl aa e1), (38, .ag (iY e2)), (37, .one (.pt 0 0 0 3)), (0, vl ab p1), (7, vl aa e1), (8, vi x2), (9, vq 0), (19, vl (eL aa) p2), (20, vi (p2.length : Int)), (21, vi x1), (30, vl ab p1), (31, vi (p1.length : Int)), (32, vi x2)]
theorem lg (p1 : (List ah)) (p2 : (List (List ac))) (r : Int) (h : fb p1 p2 = some r) : PC Tryz.prog 62 [vl ab p1, vl (eL aa) p2] (vi r) := by
 unfold fb at h
 refine zF 59 Tryz.f62 (zq fun K1 m1 => zr (zg [9] 1 [0,1] (zd (m1 _ _ (zq fun K2 m2 => zq fun K3 m3 => ?_)))))
 obtain ⟨r1, c4, h⟩ := zB h
 refine zr (zg [9] 1 [0,1,11] (zl 52 [vl ab p1] (vi r1) [(12, vi r1), (0, vl ab p1), (1, vl (eL aa) p2), (11, vl ab p1)] (kU _ _ c4) (zg [9] 1 [0,1,5] (zd (m3 _ _ (zq fun K5 m5 => zr ?_))))))
 refine zg [9] 2 [0,1,5,14] (zd (m5 _ _ (zC h (fun b6 h => ?_) (fun b6 h => ?_))))
 ·refine zq fun K7 m7 => zr (zv [9] 2 [4] [] [(4, vi r1)] [] (zd (m7 _ _ (ze ?_))))
  obtain rfl := zj h
  exact zf [vi r1] (.one (.rfl _ rfl))
 ·refine zs (m2 _ _ (zq fun K8 m8 => zq fun K9 m9 => zr (zv [9] 2 [0,1,17] [] [(0, vl ab p1), (1, vl (eL aa) p2), (17, vi (((eL aa).els p2).length : Int))] [] ?_)))
  rw [(eL aa).len p2]
  refine zg [9] 1 [0,1,18] (zd (m9 _ _ (zC h (fun b10 h => ?_) (fun b10 h => ?_))))
  ·refine zq fun K11 m11 => zr (zg [9] 1 [4] (zd (m11 _ _ (ze ?_))))
   obtain rfl := zj h
   exact zf [vi 7] (.one (.rfl _ rfl))
  ·refine zs (m8 _ _ (zq fun K12 m12 => ?_))
   have j3 : ∀ (_ : Unit), iV = some r → ∀ w0 w1, aL 59 0 [] w0 w1 [] [] → K12 w0 w1 := by
    intro _ h w0 w1 hS
    unfold iV at h
    refine m12 _ _ (XW.sub hS ?_)
    refine zq fun K42 m42 => zr (zg [9] 1 [4] (zd (m42 _ _ (ze ?_))))
    obtain rfl := zj h
    exact zf [vi 0] (.one (.rfl _ rfl))
   refine zq fun K13 m13 => zr (zv [9] 2 [0,19,20] [] [(0, vl ab p1), (19, vl (eL aa) p2), (20, vi (((eL aa).els p2).length : Int))] [] ?_)
   rw [(eL aa).len p2]
   refine zg [9] 1 [0,19,20,21] (zd (m13 _ _ (zb 0 (XW.rounds' bf (x := cd Tryz.f62 [1,1,1,0,1,0,0]) (by kernel_rfl) fun Q1 hQ1 => ?_))))
   have hL1 : ∀ (k1 : Nat) (x1 : Int), bG p1 p2 k1 x1 = some r → XR Tryz.prog 59 0 [] (cd Tryz.f62 [1,1,1,0,1,0,0]) Q1 k1 [(0, vl ab p1), (19, vl (eL aa) p2), (20, vi (p2.length : Int)), (21, vi x1)] [] := by
    intro k1
    induction k1 with
    | zero => intro x1 h; rw [bG.eq_1] at h; cases h
    | succ k1 ih1 =>
     intro x1 h
     rw [bG.eq_2] at h
     refine zq fun K14 m14 => zr (zg [9] 1 [0,19,20,21,22] (zd (m14 _ _ (zq fun K15 m15 => zC h (fun b16 h => ?_) (fun b16 h => ?_)))))
     ·refine zs (m15 _ _ (zq fun K17 m17 => ?_))
      have j2 : ∀ (_ : Unit), eQ (bG p1 p2 k1) x1 = some r → ∀ w0 w1, aL 59 0 [] w0 w1 [(0, vl ab p1), (19, vl (eL aa) p2), (20, vi (p2.length : Int)), (21, vi x1)] [] → K17 w0 w1 := by
       intro _ h w0 w1 hS
       unfold eQ at h
       refine m17 _ _ (XW.sub hS ?_)
       exact zr (zg [9] 2 [0,19,20,21] (zd (XR.sub (zk [0,19,20,21]) (ih1 (i64.wrap (x1 + 1)) h))))
      refine zb 1 (zq fun K18 m18 => ?_)
      obtain ⟨e1, a19, h⟩ := zB h
      refine zr (zo [9] 3 [0,7,19,20,21] [[.ro (aa.els e1)]] [0 ≤ x1 ∧ x1 < (((eL aa).els p2).length : Int) ∧ aq 1 ((eL aa).els p2), ((eL aa).els p2)[x1.toNat]? = some [.ro (aa.els e1)]] (⟨(eL aa).inb a19, ((eL aa).get a19), trivial⟩) (zd (m18 _ _ (zq fun K20 m20 => zq fun K21 m21 => zr (zv [9] 2 [0,7,19,20,21,26] [] [(0, vl ab p1), (7, vl aa e1), (19, vl (eL aa) p2), (20, vi (p2.length : Int)), (21, vi x1), (26, vi ((aa.els e1).length : Int))] [] ?_)))))
      rw [aa.len e1]
      refine zv [9] 2 [0,7,19,20,21,26,28] [] [(0, vl ab p1), (7, vl aa e1), (19, vl (eL aa) p2), (20, vi (p2.length : Int)), (21, vi x1), (26, vi (e1.length : Int)), (28, vi ((ab.els p1).length : Int))] [] ?_
      rw [ab.len p1]
      refine zg [9] 1 [0,7,19,20,21,29] (zd (m21 _ _ (zC h (fun b22 h => ?_) (fun b22 h => ?_))))
      ·refine zq fun K23 m23 => zr (zg [9] 1 [4] (zd (m23 _ _ (ze (hQ1 _ _ _ ?_)))))
       obtain rfl := zj h
       exact zf [vi 1] (.one (.rfl _ rfl))
      ·refine zs (m20 _ _ (zq fun K24 m24 => zr (zv [9] 2 [0,7,19,20,21,30,31] [] [(0, vl ab p1), (7, vl aa e1), (19, vl (eL aa) p2), (20, vi (p2.length : Int)), (21, vi x1), (30, vl ab p1), (31, vi ((ab.els p1).length : Int))] [] ?_)))
       rw [ab.len p1]
       refine zg [9] 1 [0,7,19,20,21,30,31,32] (zd (m24 _ _ (zb 2 (XW.rounds' bf (x := cd Tryz.f62 [1,1,1,0,1,0,0,1,1,0,0,1,1,1,0,0]) (by kernel_rfl) fun Q2 hQ2 => ?_))))
       have hL2 : ∀ (k2 : Nat) (x2 : Int), bV (bG p1 p2 k1) p1 x1 e1 k2 x2 = some r → XR Tryz.prog 59 0 [] (cd Tryz.f62 [1,1,1,0,1,0,0,1,1,0,0,1,1,1,0,0]) Q2 k2 [(0, vl ab p1), (7, vl aa e1), (19, vl (eL aa) p2), (20, vi (p2.length : Int)), (21, vi x1), (30, vl ab p1), (31, vi (p1.length : Int)), (32, vi x2)] [] := by
        intro k2
        induction k2 with
        | zero => intro x2 h; rw [bV.eq_1] at h; cases h
        | succ k2 ih2 =>
         intro x2 h
         rw [bV.eq_2] at h
         refine zq fun K25 m25 => zr (zg [9] 1 [0,7,19,20,21,30,31,32,33] (zd (m25 _ _ (zq fun K26 m26 => zC h (fun b27 h => ?_) (fun b27 h => ?_)))))
         ·refine zs (m26 _ _ (zq fun K28 m28 => zb 3 (zq fun K29 m29 => ?_)))
          obtain ⟨e2, a30, h⟩ := zB h
          refine zr (zo [9] 6 [0,7,8,9,19,20,21,30,31,32] [(aJ e2)] [0 ≤ x2 ∧ x2 < ((ab.els p1).length : Int) ∧ aq 6 (ab.els p1), (ab.els p1)[x2.toNat]? = some (aJ e2)] (⟨ab.inb a30, ((ab.get a30).trans (by rcases e2 with ⟨_, _, _, ⟨_, _, _⟩⟩; rfl)), trivial⟩) (zd (m29 _ _ (zq fun K31 m31 => zq fun K32 m32 => ?_))))
          obtain ⟨e3, a33, h⟩ := zB h
          obtain ⟨r2, c34, h⟩ := zB h
          refine zw 6 (zD p1 p2 x1 e1 x2 e2 e3) ?_ ?_
          ·refine vI 6 [(ae e3)] (zD p1 p2 x1 e1 x2 e2 e3) [0 ≤ x2 ∧ x2 < ((aa.els e1).length : Int) ∧ aq 5 (aa.els e1), (aa.els e1)[x2.toNat]? = some (ae e3)] (⟨aa.inb a33, ((aa.get a33).trans (by cases e3; rfl)), trivial⟩) ?_
           exact lU
          refine zl 43 [.ag (iY e2), .ag (aD e3)] (vi r2) [(43, vi r2), (42, .ag (aD e3)), (41, .one (.pv (.rp (aa.els e1) x2.toNat 0))), (40, vi x2), (39, vl aa e1), (38, .ag (iY e2)), (37, .one (.pt 0 0 0 3)), (0, vl ab p1), (7, vl aa e1), (8, vi x2), (9, vq 0), (19, vl (eL aa) p2), (20, vi (p2.length : Int)), (21, vi x1), (30, vl ab p1), (31, vi (p1.length : Int)), (32, vi x2)] (sg _ _ _ c34) ?_
          refine zg [9] 1 [0,7,8,9,10,19,20,21,30,31,32] (zd (m32 _ _ (zq fun K35 m35 => zr (zg [9] 2 [0,7,8,9,10,19,20,21,30,31,32,45] (zd (m35 _ _ ?_))))))
          refine zC h (fun b36 h => ?_) (fun b36 h => ?_)
          ·refine zq fun K37 m37 => zr (zv [9] 2 [4] [] [(4, vi r2)] [.box (aS e2)] (zd (m37 _ _ (ze (hQ2 _ _ _ (hQ1 _ _ _ ?_))))))
           obtain rfl := zj h
           exact zf [vi r2] (.one (.rfl _ rfl))
          ·refine zs (m31 _ _ (zq fun K38 m38 => ?_))
           have j1 : ∀ (x3 : Bool), eU (bV (bG p1 p2 k1) p1 x1 e1 k2) x2 x3 = some r → ∀ w0 w1, aL 59 0 [] w0 w1 [(0, vl ab p1), (7, vl aa e1), (19, vl (eL aa) p2), (20, vi (p2.length : Int)), (21, vi x1), (30, vl ab p1), (31, vi (p1.length : Int)), (32, vi x2), (56, vb x3)] [.dead] → K38 w0 w1 := by
            intro x3 h w0 w1 hS
            unfold eU at h
            refine m38 _ _ (XW.sub hS ?_)
            refine zC h (fun b40 h => ?_) (fun b40 h => ?_)
            ·refine zq fun K41 m41 => zr (zg [9] 1 [4] (zd (m41 _ _ (ze (hQ2 _ _ _ (hQ1 _ _ _ ?_))))))
             obtain rfl := zj h
             exact zf [vi 9] (.one (.rfl _ rfl))
            ·refine zs (m28 _ _ (zr (zg [9] 2 [0,7,19,20,21,30,31,32] (zd ?_))))
             exact XR.sub (aL.trans (aL.pick (fr' := (zO p1 p2 x1 e1 x2)) [0,7,19,20,21,30,31,32] (by kernel_rfl)) (aL.take (fr' := (zO p1 p2 x1 e1 x2)) 0 (Nat.zero_le _) (by kernel_rfl) (by kernel_rfl))) (ih2 (i64.wrap (x2 + 1)) h)
           rcases zW h with ⟨b39, h⟩ | ⟨b39, h⟩
           ·refine zr (zo [9] 7 [0,7,9,19,20,21,30,31,32,53] [(ae e3)] [0 ≤ x2 ∧ x2 < ((aa.els e1).length : Int) ∧ aq 5 (aa.els e1), (aa.els e1)[x2.toNat]? = some (ae e3)] (⟨aa.inb a33, ((aa.get a33).trans (by cases e3; rfl)), trivial⟩) (zt 53 b39 (zg [9] 3 [0,7,19,20,21,30,31,32,56] (zd ?_))))
            exact j1 e2.need h _ _ (aL.trans (aL.pick (fr' := [(0, vl ab p1), (7, vl aa e1), (19, vl (eL aa) p2), (20, vi (p2.length : Int)), (21, vi x1), (30, vl ab p1), (31, vi (p1.length : Int)), (32, vi x2), (56, vb e2.need)]) [0,7,19,20,21,30,31,32,56] (by kernel_rfl)) (aL.only (fr' := [(0, vl ab p1), (7, vl aa e1), (19, vl (eL aa) p2), (20, vi (p2.length : Int)), (21, vi x1), (30, vl ab p1), (31, vi (p1.length : Int)), (32, vi x2), (56, vb e2.need)]) (st' := [.dead]) [] 1 (by kernel_rfl) (by kernel_rfl) (by kernel_rfl) (by kernel_rfl)))
           ·refine zr ?_
            refine zp [9] 7 [0,7,9,19,20,21,30,31,32,53] [(ae e3)] [(0, vl ab p1), (7, vl aa e1), (9, vq 0), (19, vl (eL aa) p2), (20, vi (p2.length : Int)), (21, vi x1), (30, vl ab p1), (31, vi (p1.length : Int)), (32, vi x2), (53, vb (e3.kind == 0))] [.box (aS e2)] [0 ≤ x2 ∧ x2 < ((aa.els e1).length : Int) ∧ aq 5 (aa.els e1), (aa.els e1)[x2.toNat]? = some (ae e3)] (⟨aa.inb a33, ((aa.get a33).trans (by cases e3; rfl)), trivial⟩) ?_
            refine zt 53 b39 (zg [9] 3 [0,7,19,20,21,30,31,32,56] (zd ?_))
            exact j1 false h _ _ (aL.trans (aL.pick (fr' := [(0, vl ab p1), (7, vl aa e1), (19, vl (eL aa) p2), (20, vi (p2.length : Int)), (21, vi x1), (30, vl ab p1), (31, vi (p1.length : Int)), (32, vi x2), (56, vb false)]) [0,7,19,20,21,30,31,32,56] (by kernel_rfl)) (aL.only (fr' := [(0, vl ab p1), (7, vl aa e1), (19, vl (eL aa) p2), (20, vi (p2.length : Int)), (21, vi x1), (30, vl ab p1), (31, vi (p1.length : Int)), (32, vi x2), (56, vb false)]) (st' := [.dead]) [] 1 (by kernel_rfl) (by kernel_rfl) (by kernel_rfl) (by kernel_rfl)))
         ·exact zx 2 (hQ2 _ _ _ (j2 () h _ _ (zk [0,19,20,21])))
       exact XR.sub (zk [0,7,19,20,21,30,31,32]) (hL2 bf (0 : Int) h)
     ·exact zx 0 (hQ1 _ _ _ (j3 () h _ _ (zk [])))
   exact XR.sub (zk [0,19,20,21]) (hL1 bf (0 : Int) h)
def cP (p1 : (List ah)) : Option (List ah) := some p1
theorem i8 (p1 r : (List ah)) (h : cP p1 = some r) : PC Tryz.prog 84 [vl ab p1] (.one (.cl (ab.els r))) := by
 unfold cP at h
 refine zF 9 Tryz.f84 (zq fun K1 m1 => zr (zg [8] 1 [0] (zd (m1 _ _ (zq fun K2 m2 => zr ?_)))))
 refine zv [8] 3 [0,3,5] [] [(0, vl ab p1), (3, vl ab p1), (5, vi ((ab.els p1).length : Int))] [] ?_
 rw [ab.len p1]
 refine zv [8] 2 [3,5,7] [] [(3, vl ab p1), (5, vi (p1.length : Int)), (7, vi ((ab.els p1).length : Int))] [] ?_
 rw [ab.len p1]
 refine zo [8] 2 [2] [] [(0 : Int) = (0 : Int) ∧ (p1.length : Int) = ((ab.els p1).length : Int) ∧ (p1.length : Int) = ((ab.els p1).length : Int)] (⟨⟨rfl, by rw [ab.len], by rw [ab.len]⟩, trivial⟩) (zd (m2 _ _ (ze ?_)))
 obtain rfl := zj h
 exact zf [.one (.cl (ab.els p1))] (.one (.rfl _ rfl))
def ei (p1 : (List Int)) : Option (List Int) := some p1
theorem jC (p1 r : (List Int)) (h : ei p1 = some r) : PC Tryz.prog 85 [vl eI p1] (.one (.cl (eI.els r))) := by
 unfold ei at h
 refine zF 9 Tryz.f85 (zq fun K1 m1 => zr (zg [8] 1 [0] (zd (m1 _ _ (zq fun K2 m2 => zr ?_)))))
 refine zv [8] 3 [0,3,5] [] [(0, vl eI p1), (3, vl eI p1), (5, vi ((eI.els p1).length : Int))] [] ?_
 rw [eI.len p1]
 refine zv [8] 2 [3,5,7] [] [(3, vl eI p1), (5, vi (p1.length : Int)), (7, vi ((eI.els p1).length : Int))] [] ?_
 rw [eI.len p1]
 refine zo [8] 2 [2] [] [(0 : Int) = (0 : Int) ∧ (p1.length : Int) = ((eI.els p1).length : Int) ∧ (p1.length : Int) = ((eI.els p1).length : Int)] (⟨⟨rfl, by rw [eI.len], by rw [eI.len]⟩, trivial⟩) (zd (m2 _ _ (ze ?_)))
 obtain rfl := zj h
 exact zf [.one (.cl (eI.els p1))] (.one (.rfl _ rfl))
def eM (rec1 : List bc → Int → Option (Unit × (List bc))) (x1 : Int) (l2 : List bc) : Option (Unit × (List bc)) := rec1 l2 (i64.wrap (x1 + 1))
def eK (q_column_paths_1 : (List ah) → bc → (List bc) → Option (Unit × (List bc))) (rec1 : List bc → Int → Option (Unit × (List bc))) (p2 : bc) (l1 : List bc) (x1 : Int) (e1 : ah) (r1 : (List ah)) (r2 r3 : (List Int)) (z1 : Int) : Option (Unit × (List bc)) := aI (e1.type.kind == 6) (aT (q_column_paths_1 e1.type.fields (bc.mk (iu.mk (r3 ++ [e1.id]) p2.leaf.type (i64.wrap (z1 + 1)) (i64.wrap (p2.leaf.rep + 1))) (r1 ++ [e1]) (r2 ++ [x1])) l1) fun r4 => eM rec1 x1 r4.2) (aI (e1.type.kind == 7) (aT (q_column_paths_1 e1.type.fields (bc.mk (iu.mk (r3 ++ [e1.id]) p2.leaf.type z1 p2.leaf.rep) (r1 ++ [e1]) (r2 ++ [x1])) l1) fun r5 => eM rec1 x1 r5.2) (fL (l1.length + 1 ≤ 4294967296) <| eM rec1 x1 (l1 ++ [(bc.mk (iu.mk (r3 ++ [e1.id]) e1.type z1 p2.leaf.rep) (r1 ++ [e1]) (r2 ++ [x1]))])))
def bP (q_column_paths_1 : (List ah) → bc → (List bc) → Option (Unit × (List bc))) (p1 : (List ah)) (p2 : bc) : Nat → List bc → Int → Option (Unit × (List bc))
 | 0, _, _ => none
 | k1 + 1, l1, x1 => aI (decide (x1 < (p1.length : Int))) (aT (at? p1 x1) fun e1 => aT (cP p2.fields) fun r1 => fL (r1.length + 1 ≤ 4294967296) <| aT (ei p2.pos) fun r2 => fL (r2.length + 1 ≤ 4294967296) <| aT (ei p2.leaf.path) fun r3 => fL (r3.length + 1 ≤ 4294967296) <| aI (!e1.need) (eK q_column_paths_1 (bP q_column_paths_1 p1 p2 k1) p2 l1 x1 e1 r1 r2 r3 (i64.wrap (p2.leaf.df + 1))) (eK q_column_paths_1 (bP q_column_paths_1 p1 p2 k1) p2 l1 x1 e1 r1 r2 r3 p2.leaf.df)) (some ((), l1))
def ce : Nat → (List ah) → bc → (List bc) → Option (Unit × (List bc))
 | 0, _, _, _ => none
 | k0 + 1, p1, p2, p3 => bP (ce k0) p1 p2 bf p3 (0 : Int)
abbrev eg : List CV := [.fn 83 [.pt 0 0 0 0, .pt 1 0 0 0]]
abbrev bw (p2 : bc) : List PV := [.ro (eI.els p2.leaf.path), pi p2.leaf.type.kind, pi p2.leaf.type.scale, .ro (ab.els p2.leaf.type.fields), pi p2.leaf.df, pi p2.leaf.rep, .ro (ab.els p2.fields), .ro (eI.els p2.pos)]
abbrev fT (l1 : List bc) : List CV := [.sl 2 8 0 l1.length]
abbrev AL (p2 : bc) (x1 : Int) (e1 : ah) (r1 : (List ah)) (r2 : (List Int)) : List CV := [cl eI p2.leaf.path, ci p2.leaf.type.kind, ci p2.leaf.type.scale, cl ab p2.leaf.type.fields, ci p2.leaf.df, ci p2.leaf.rep, .sl 4 6 0 ((r1 ++ [e1]).length), .sl 5 1 0 ((r2 ++ [x1]).length)]
abbrev oD (p2 : bc) : List CV := [cl eI p2.leaf.path, ci p2.leaf.type.kind, ci p2.leaf.type.scale, cl ab p2.leaf.type.fields, ci p2.leaf.df, ci p2.leaf.rep]
abbrev sa : List CV := [.pv (.s (.slice none 0 0)), ci 0, ci 0, .pv (.s (.slice none 0 0)), ci 0, ci 0, .pv (.s (.slice none 0 0)), .pv (.s (.slice none 0 0))]
abbrev tK (p2 : bc) (x1 : Int) (e1 : ah) (r1 : (List ah)) (r2 r3 : (List Int)) (z1 : Int) : List CV := [.sl 7 1 0 ((r3 ++ [e1.id]).length), ci p2.leaf.type.kind, ci p2.leaf.type.scale, cl ab p2.leaf.type.fields, ci z1, ci p2.leaf.rep, .sl 4 6 0 ((r1 ++ [e1]).length), .sl 5 1 0 ((r2 ++ [x1]).length)]
abbrev xc (p2 : bc) (x1 : Int) (e1 : ah) (r1 : (List ah)) (r2 r3 : (List Int)) (z1 : Int) : List CV := [.sl 7 1 0 ((r3 ++ [e1.id]).length), ci p2.leaf.type.kind, ci p2.leaf.type.scale, cl ab p2.leaf.type.fields, ci (i64.wrap (z1 + 1)), ci (i64.wrap (p2.leaf.rep + 1)), .sl 4 6 0 ((r1 ++ [e1]).length), .sl 5 1 0 ((r2 ++ [x1]).length)]
abbrev zV (p2 : bc) (x1 : Int) (e1 : ah) (r1 : (List ah)) (r2 r3 : (List Int)) (z1 : Int) : List CV := [.sl 8 1 0 ((r3 ++ [e1.id]).length), ci p2.leaf.type.kind, ci p2.leaf.type.scale, cl ab p2.leaf.type.fields, ci (i64.wrap (z1 + 1)), ci (i64.wrap (p2.leaf.rep + 1)), .sl 4 6 0 ((r1 ++ [e1]).length), .sl 5 1 0 ((r2 ++ [x1]).length)]
abbrev Bw (p2 : bc) (x1 : Int) (e1 : ah) (r1 : (List ah)) (r2 r3 : (List Int)) (z1 : Int) : List CV := [.sl 8 1 0 ((r3 ++ [e1.id]).length), ci p2.leaf.type.kind, ci p2.leaf.type.scale, cl ab p2.leaf.type.fields, ci (i64.wrap (z1 + 1)), ci (i64.wrap (p2.leaf.rep + 1)), .sl 9 6 0 ((r1 ++ [e1]).length), .sl 5 1 0 ((r2 ++ [x1]).length)]
abbrev As (p2 : bc) (x1 : Int) (e1 : ah) (r1 : (List ah)) (r2 r3 : (List Int)) (z1 : Int) : List CV := [.sl 8 1 0 ((r3 ++ [e1.id]).length), ci p2.leaf.type.kind, ci p2.leaf.type.scale, cl ab p2.leaf.type.fields, ci (i64.wrap (z1 + 1)), ci (i64.wrap (p2.leaf.rep + 1)), .sl 9 6 0 ((r1 ++ [e1]).length), .sl 10 1 0 ((r2 ++ [x1]).length)]
abbrev wj (p2 : bc) (x1 : Int) (e1 : ah) (r1 : (List ah)) (r2 r3 : (List Int)) (z1 : Int) : List CV := [cl eI (r3 ++ [e1.id]), ci p2.leaf.type.kind, ci p2.leaf.type.scale, cl ab p2.leaf.type.fields, ci (i64.wrap (z1 + 1)), ci (i64.wrap (p2.leaf.rep + 1)), cl ab (r1 ++ [e1]), cl eI (r2 ++ [x1])]
abbrev we (p2 : bc) (x1 : Int) (e1 : ah) (r1 : (List ah)) (r2 r3 : (List Int)) (z1 : Int) : List CV := [cl eI (r3 ++ [e1.id]), ci p2.leaf.type.kind, ci p2.leaf.type.scale, cl ab p2.leaf.type.fields, ci z1, ci p2.leaf.rep, cl ab (r1 ++ [e1]), cl eI (r2 ++ [x1])]
abbrev v7 (p2 : bc) (x1 : Int) (e1 : ah) (r1 : (List ah)) (r2 r3 : (List Int)) (z1 : Int) : List CV := [.sl 7 1 0 ((r3 ++ [e1.id]).length), ci e1.type.kind, ci e1.type.scale, cl ab e1.type.fields, ci z1, ci p2.leaf.rep, .sl 4 6 0 ((r1 ++ [e1]).length), .sl 5 1 0 ((r2 ++ [x1]).length)]
abbrev wQ (p2 : bc) (x1 : Int) (e1 : ah) (r1 : (List ah)) (r2 r3 : (List Int)) (z1 : Int) : List CV := [.sl 8 1 0 ((r3 ++ [e1.id]).length), ci e1.type.kind, ci e1.type.scale, cl ab e1.type.fields, ci z1, ci p2.leaf.rep, .sl 9 6 0 ((r1 ++ [e1]).length), .sl 10 1 0 ((r2 ++ [x1]).length)]
abbrev nc (p1 : (List ah)) (p2 : bc) (x1 : Int) : Fr := [(2, vq 0), (3, vq 1), (5, vR (bw p2)), (9, vl ab p1), (10, vi (p1.length : Int)), (11, vi x1)]
abbrev wH (l1 : List bc) : St := [.box eg, .box (fT l1), .arr 8 (bo.els l1)]
abbrev Am (p1 : (List ah)) (p2 : bc) (x1 : Int) (e1 : ah) (r1 : (List ah)) (r2 : (List Int)) : Fr := [(8, vq 6), (30, .ag (AL p2 x1 e1 r1 r2)), (29, .one (.sl 5 1 0 ((r2 ++ [x1]).length))), (28, vl eI [x1]), (27, vi x1), (26, .one (.cl (eI.els r2))), (25, vl eI p2.pos), (24, .one (.pv (.rp [(bw p2)] 0 7))), (23, .one (.sl 4 6 0 ((r1 ++ [e1]).length))), (22, vl ab [e1]), (21, .ag (aS e1)), (20, .one (.cl (ab.els r1))), (19, vl ab p2.fields), (18, .one (.pv (.rp [(bw p2)] 0 6))), (17, .ag (oD p2)), (16, vR (bw p2)), (2, vq 0), (3, vq 1), (5, vR (bw p2)), (6, vi x1), (7, vq 3), (9, vl ab p1), (10, vi (p1.length : Int)), (11, vi x1)]
abbrev wB (p1 : (List ah)) (p2 : bc) (x1 : Int) : Fr := [(2, vq 0), (3, vq 1), (5, vR (bw p2)), (7, vq 3), (8, vq 6), (9, vl ab p1), (10, vi (p1.length : Int)), (11, vi x1)]
theorem km : ∀ (k0 : Nat) (p1 : (List ah)) (p2 : bc) (p3 : (List bc)) (r : (Unit × (List bc))), ce k0 p1 p2 p3 = some r → MX Tryz.prog 83 [vl ab p1, .ag [cl eI p2.leaf.path, ci p2.leaf.type.kind, ci p2.leaf.type.scale, cl ab p2.leaf.type.fields, ci p2.leaf.df, ci p2.leaf.rep, cl ab p2.fields, cl eI p2.pos], vq 0, vq 1] [.box eg, .box [.sl 2 8 0 p3.length], .arr 8 (bo.els p3)] [2] (.tp []) [.box eg, .box [.sl 2 8 0 r.2.length], .arr 8 (bo.els r.2)]
 | 0, _, _, _, r, h => by rw [ce.eq_1] at h; cases h
 | k0 + 1, p1, p2, p3, r, h => by
  rw [ce.eq_2] at h
  refine MX.of 3 3 rfl (n := 90) (fn := Tryz.f83) (c := cd Tryz.f83 []) (by kernel_rfl) (by kernel_rfl) (by kernel_rfl) (Nat.le_of_ble_eq_true rfl) rfl (zq fun K1 m1 => zr (zg [7, 8] 1 [0,2,3,5] (zd (m1 _ _ (zq fun K2 m2 => zr ?_)))))
  refine zv [7, 8] 2 [2,3,5,9,10] [] [(2, vq 0), (3, vq 1), (5, vR [.ro (eI.els p2.leaf.path), pi p2.leaf.type.kind, pi p2.leaf.type.scale, .ro (ab.els p2.leaf.type.fields), pi p2.leaf.df, pi p2.leaf.rep, .ro (ab.els p2.fields), .ro (eI.els p2.pos)]), (9, vl ab p1), (10, vi ((ab.els p1).length : Int))] [.box [.fn 83 [.pt 0 0 0 0, .pt 1 0 0 0]], .box [.sl 2 8 0 p3.length], .arr 8 (bo.els p3)] ?_
  rw [ab.len p1]
  refine zg [7, 8] 1 [2,3,5,9,10,11] (zd (m2 _ _ (zb 0 (XW.rounds' bf (x := cd Tryz.f83 [1,1,0,0]) (by kernel_rfl) fun Q1 hQ1 => ?_))))
  have hL1 : ∀ (k1 : Nat) (l1 : List bc) (x1 : Int), bP (ce k0) p1 p2 k1 l1 x1 = some r → XR Tryz.prog 90 3 [2] (cd Tryz.f83 [1,1,0,0]) Q1 k1 (nc p1 p2 x1) (wH l1) := by
   intro k1
   induction k1 with
   | zero => intro l1 x1 h; rw [bP.eq_1] at h; cases h
   | succ k1 ih1 =>
    intro l1 x1 h
    rw [bP.eq_2] at h
    refine zq fun K3 m3 => zr (zg [7, 8] 1 [2,3,5,9,10,11,12] (zd (m3 _ _ (zq fun K4 m4 => zC h (fun b5 h => ?_) (fun b5 h => ?_)))))
    ·refine zs (m4 _ _ (zq fun K6 m6 => ?_))
     have j2 : ∀ (l2 : List bc), eM (bP (ce k0) p1 p2 k1) x1 l2 = some r → ∀ w0 w1, aL 90 3 [2] w0 w1 (nc p1 p2 x1) [.box eg, .box [.sl 2 8 0 l2.length], .arr 8 (bo.els l2)] → K6 w0 w1 := by
      intro l2 h w0 w1 hS
      unfold eM at h
      refine m6 _ _ (XW.sub hS ?_)
      exact zr (zg [7, 8] 2 [2,3,5,9,10,11] (zd (XR.sub (zk [2,3,5,9,10,11]) (ih1 l2 (i64.wrap (x1 + 1)) h))))
     refine zb 1 (zq fun K7 m7 => ?_)
     obtain ⟨e1, a8, h⟩ := zB h
     refine zr ?_
     refine zp [7, 8] 6 [2,3,5,6,7,9,10,11] [(aJ e1)] [(2, vq 0), (3, vq 1), (5, vR (bw p2)), (6, vi x1), (7, vq 3), (9, vl ab p1), (10, vi (p1.length : Int)), (11, vi x1)] [.box eg, .box (fT l1), .arr 8 (bo.els l1), .box (aS e1)] [0 ≤ x1 ∧ x1 < ((ab.els p1).length : Int) ∧ aq 6 (ab.els p1), (ab.els p1)[x1.toNat]? = some (aJ e1)] (⟨ab.inb a8, ((ab.get a8).trans (by rcases e1 with ⟨_, _, _, ⟨_, _, _⟩⟩; rfl)), trivial⟩) ?_
     refine zd (m7 _ _ (zq fun K9 m9 => ?_))
     obtain ⟨r1, c10, h⟩ := zB h
     obtain ⟨g11, h⟩ := zG h
     obtain ⟨r2, c12, h⟩ := zB h
     obtain ⟨g13, h⟩ := zG h
     refine XW.sub (aL.dead 3) ?_
     refine XW.drwG 16 [4, 5, 6, 7] [([], []), ([], []), ([], []), ([], []), ([], []), ([3], []), ([], []), ([4, 1004], [4, 1004]), ([], []), ([], []), ([], []), ([], []), ([], []), ([5, 1005], [5, 1005]), ([1004, 1005], []), ([6, 1006], [6, 1006])] (Am p1 p2 x1 e1 r1 r2) [.box eg, .box (fT l1), .arr 8 (bo.els l1), .box (aS e1), .arr 6 (ab.els (r1 ++ [e1])), .arr 1 (eI.els (r2 ++ [x1])), .box sa] (by kernel_rfl) (by kernel_rfl) ?_ ?_
     ·refine qE 4 [(bw p2), (bw p2)] [(19, vl ab p2.fields), (18, .one (.pv (.rp [(bw p2)] 0 6))), (17, .ag (oD p2)), (16, vR (bw p2)), (2, vq 0), (3, vq 1), (5, vR (bw p2)), (6, vi x1), (7, vq 3), (9, vl ab p1), (10, vi (p1.length : Int)), (11, vi x1)] ?_
      refine GY.cal 84 [vl ab p2.fields] (.one (.cl (ab.els r1))) [(20, .one (.cl (ab.els r1))), (19, vl ab p2.fields), (18, .one (.pv (.rp [(bw p2)] 0 6))), (17, .ag (oD p2)), (16, vR (bw p2)), (2, vq 0), (3, vq 1), (5, vR (bw p2)), (6, vi x1), (7, vq 3), (9, vl ab p1), (10, vi (p1.length : Int)), (11, vi x1)] [] (by kernel_rfl) (by kernel_rfl) (i8 _ _ c10) rfl rfl (by kernel_rfl) (by kernel_rfl) ?_
      refine qE 2 [] [(22, .one (.pv (.ro [[pi e1.id, .s (.string e1.name), .s (.bool e1.need), pi e1.type.kind, pi e1.type.scale, .ro (ab.els e1.type.fields)]]))), (21, .ag [ci e1.id, cj e1.name, cb e1.need, ci e1.type.kind, ci e1.type.scale, cl ab e1.type.fields]), (20, .one (.cl (ab.els r1))), (19, vl ab p2.fields), (18, .one (.pv (.rp [[.ro (eI.els p2.leaf.path), pi p2.leaf.type.kind, pi p2.leaf.type.scale, .ro (ab.els p2.leaf.type.fields), pi p2.leaf.df, pi p2.leaf.rep, .ro (ab.els p2.fields), .ro (eI.els p2.pos)]] 0 6))), (17, .ag [cl eI p2.leaf.path, ci p2.leaf.type.kind, ci p2.leaf.type.scale, cl ab p2.leaf.type.fields, ci p2.leaf.df, ci p2.leaf.rep]), (16, vR [.ro (eI.els p2.leaf.path), pi p2.leaf.type.kind, pi p2.leaf.type.scale, .ro (ab.els p2.leaf.type.fields), pi p2.leaf.df, pi p2.leaf.rep, .ro (ab.els p2.fields), .ro (eI.els p2.pos)]), (2, vq 0), (3, vq 1), (5, vR [.ro (eI.els p2.leaf.path), pi p2.leaf.type.kind, pi p2.leaf.type.scale, .ro (ab.els p2.leaf.type.fields), pi p2.leaf.df, pi p2.leaf.rep, .ro (ab.els p2.fields), .ro (eI.els p2.pos)]), (6, vi x1), (7, vq 3), (9, vl ab p1), (10, vi (p1.length : Int)), (11, vi x1)] ?_
      rw [show ([[pi e1.id, .s (.string e1.name), .s (.bool e1.need), pi e1.type.kind, pi e1.type.scale, .ro (ab.els e1.type.fields)]] : List (List PV)) = ab.els [e1] from by rcases e1 with ⟨_, _, _, ⟨_, _, _⟩⟩; rfl]
      refine GY.new false 4 [] [(23, .one (.sl 4 6 0 ((ab.els r1).length + (ab.els [e1]).length))), (22, vl ab [e1]), (21, .ag [ci e1.id, cj e1.name, cb e1.need, ci e1.type.kind, ci e1.type.scale, cl ab e1.type.fields]), (20, .one (.cl (ab.els r1))), (19, vl ab p2.fields), (18, .one (.pv (.rp [[.ro (eI.els p2.leaf.path), pi p2.leaf.type.kind, pi p2.leaf.type.scale, .ro (ab.els p2.leaf.type.fields), pi p2.leaf.df, pi p2.leaf.rep, .ro (ab.els p2.fields), .ro (eI.els p2.pos)]] 0 6))), (17, .ag [cl eI p2.leaf.path, ci p2.leaf.type.kind, ci p2.leaf.type.scale, cl ab p2.leaf.type.fields, ci p2.leaf.df, ci p2.leaf.rep]), (16, vR [.ro (eI.els p2.leaf.path), pi p2.leaf.type.kind, pi p2.leaf.type.scale, .ro (ab.els p2.leaf.type.fields), pi p2.leaf.df, pi p2.leaf.rep, .ro (ab.els p2.fields), .ro (eI.els p2.pos)]), (2, vq 0), (3, vq 1), (5, vR [.ro (eI.els p2.leaf.path), pi p2.leaf.type.kind, pi p2.leaf.type.scale, .ro (ab.els p2.leaf.type.fields), pi p2.leaf.df, pi p2.leaf.rep, .ro (ab.els p2.fields), .ro (eI.els p2.pos)]), (6, vi x1), (7, vq 3), (9, vl ab p1), (10, vi (p1.length : Int)), (11, vi x1)] [4] [.box [.fn 83 [.pt 0 0 0 0, .pt 1 0 0 0]], .box [.sl 2 8 0 l1.length], .arr 8 (bo.els l1), .box [ci e1.id, cj e1.name, cb e1.need, ci e1.type.kind, ci e1.type.scale, cl ab e1.type.fields], .arr 6 (ab.els r1 ++ ab.els [e1]), .dead, .dead] [aq 6 (ab.els r1), aq 6 (ab.els [e1]), 0 < (ab.els [e1]).length, (ab.els r1).length + (ab.els [e1]).length ≤ 4294967296] (by kernel_rfl) (by kernel_rfl) (⟨ab.ok _, ab.ok _, (by rw [ab.len]; exact Nat.zero_lt_succ _), (by rw [ab.len]; exact g11), trivial⟩) (by kernel_rfl) ?_
      rw [show (ab.els r1).length + (ab.els [e1]).length = (r1 ++ [e1]).length from by rw [ab.len]; exact ab.lapp _ _]
      rw [show ab.els r1 ++ ab.els [e1] = ab.els (r1 ++ [e1]) from ab.app2 _ _]
      refine qE 2 [(bw p2)] [(25, vl eI p2.pos), (24, .one (.pv (.rp [(bw p2)] 0 7))), (23, .one (.sl 4 6 0 ((r1 ++ [e1]).length))), (22, vl ab [e1]), (21, .ag (aS e1)), (20, .one (.cl (ab.els r1))), (19, vl ab p2.fields), (18, .one (.pv (.rp [(bw p2)] 0 6))), (17, .ag (oD p2)), (16, vR (bw p2)), (2, vq 0), (3, vq 1), (5, vR (bw p2)), (6, vi x1), (7, vq 3), (9, vl ab p1), (10, vi (p1.length : Int)), (11, vi x1)] ?_
      refine GY.cal 85 [vl eI p2.pos] (.one (.cl (eI.els r2))) [(26, .one (.cl (eI.els r2))), (25, vl eI p2.pos), (24, .one (.pv (.rp [(bw p2)] 0 7))), (23, .one (.sl 4 6 0 ((r1 ++ [e1]).length))), (22, vl ab [e1]), (21, .ag (aS e1)), (20, .one (.cl (ab.els r1))), (19, vl ab p2.fields), (18, .one (.pv (.rp [(bw p2)] 0 6))), (17, .ag (oD p2)), (16, vR (bw p2)), (2, vq 0), (3, vq 1), (5, vR (bw p2)), (6, vi x1), (7, vq 3), (9, vl ab p1), (10, vi (p1.length : Int)), (11, vi x1)] [] (by kernel_rfl) (by kernel_rfl) (jC _ _ c12) rfl rfl (by kernel_rfl) (by kernel_rfl) ?_
      refine qE 2 [] [(28, vl eI [x1]), (27, vi x1), (26, .one (.cl (eI.els r2))), (25, vl eI p2.pos), (24, .one (.pv (.rp [(bw p2)] 0 7))), (23, .one (.sl 4 6 0 ((r1 ++ [e1]).length))), (22, vl ab [e1]), (21, .ag (aS e1)), (20, .one (.cl (ab.els r1))), (19, vl ab p2.fields), (18, .one (.pv (.rp [(bw p2)] 0 6))), (17, .ag (oD p2)), (16, vR (bw p2)), (2, vq 0), (3, vq 1), (5, vR (bw p2)), (6, vi x1), (7, vq 3), (9, vl ab p1), (10, vi (p1.length : Int)), (11, vi x1)] ?_
      refine GY.new false 5 [] [(29, .one (.sl 5 1 0 ((eI.els r2).length + (eI.els [x1]).length))), (28, vl eI [x1]), (27, vi x1), (26, .one (.cl (eI.els r2))), (25, vl eI p2.pos), (24, .one (.pv (.rp [[.ro (eI.els p2.leaf.path), pi p2.leaf.type.kind, pi p2.leaf.type.scale, .ro (ab.els p2.leaf.type.fields), pi p2.leaf.df, pi p2.leaf.rep, .ro (ab.els p2.fields), .ro (eI.els p2.pos)]] 0 7))), (23, .one (.sl 4 6 0 ((r1 ++ [e1]).length))), (22, vl ab [e1]), (21, .ag [ci e1.id, cj e1.name, cb e1.need, ci e1.type.kind, ci e1.type.scale, cl ab e1.type.fields]), (20, .one (.cl (ab.els r1))), (19, vl ab p2.fields), (18, .one (.pv (.rp [[.ro (eI.els p2.leaf.path), pi p2.leaf.type.kind, pi p2.leaf.type.scale, .ro (ab.els p2.leaf.type.fields), pi p2.leaf.df, pi p2.leaf.rep, .ro (ab.els p2.fields), .ro (eI.els p2.pos)]] 0 6))), (17, .ag [cl eI p2.leaf.path, ci p2.leaf.type.kind, ci p2.leaf.type.scale, cl ab p2.leaf.type.fields, ci p2.leaf.df, ci p2.leaf.rep]), (16, vR [.ro (eI.els p2.leaf.path), pi p2.leaf.type.kind, pi p2.leaf.type.scale, .ro (ab.els p2.leaf.type.fields), pi p2.leaf.df, pi p2.leaf.rep, .ro (ab.els p2.fields), .ro (eI.els p2.pos)]), (2, vq 0), (3, vq 1), (5, vR [.ro (eI.els p2.leaf.path), pi p2.leaf.type.kind, pi p2.leaf.type.scale, .ro (ab.els p2.leaf.type.fields), pi p2.leaf.df, pi p2.leaf.rep, .ro (ab.els p2.fields), .ro (eI.els p2.pos)]), (6, vi x1), (7, vq 3), (9, vl ab p1), (10, vi (p1.length : Int)), (11, vi x1)] [5] [.box [.fn 83 [.pt 0 0 0 0, .pt 1 0 0 0]], .box [.sl 2 8 0 l1.length], .arr 8 (bo.els l1), .box [ci e1.id, cj e1.name, cb e1.need, ci e1.type.kind, ci e1.type.scale, cl ab e1.type.fields], .arr 6 (ab.els (r1 ++ [e1])), .arr 1 (eI.els r2 ++ eI.els [x1]), .dead] [aq 1 (eI.els r2), aq 1 (eI.els [x1]), 0 < (eI.els [x1]).length, (eI.els r2).length + (eI.els [x1]).length ≤ 4294967296] (by kernel_rfl) (by kernel_rfl) (⟨eI.ok _, eI.ok _, (by rw [eI.len]; exact Nat.zero_lt_succ _), (by rw [eI.len]; exact g13), trivial⟩) (by kernel_rfl) ?_
      rw [show (eI.els r2).length + (eI.els [x1]).length = (r2 ++ [x1]).length from by rw [eI.len]; exact eI.lapp _ _]
      rw [show eI.els r2 ++ eI.els [x1] = eI.els (r2 ++ [x1]) from eI.app2 _ _]
      refine qE 1 [] [(30, .ag (AL p2 x1 e1 r1 r2)), (29, .one (.sl 5 1 0 ((r2 ++ [x1]).length))), (28, vl eI [x1]), (27, vi x1), (26, .one (.cl (eI.els r2))), (25, vl eI p2.pos), (24, .one (.pv (.rp [(bw p2)] 0 7))), (23, .one (.sl 4 6 0 ((r1 ++ [e1]).length))), (22, vl ab [e1]), (21, .ag (aS e1)), (20, .one (.cl (ab.els r1))), (19, vl ab p2.fields), (18, .one (.pv (.rp [(bw p2)] 0 6))), (17, .ag (oD p2)), (16, vR (bw p2)), (2, vq 0), (3, vq 1), (5, vR (bw p2)), (6, vi x1), (7, vq 3), (9, vl ab p1), (10, vi (p1.length : Int)), (11, vi x1)] ?_
      refine GY.new true 6 [] (Am p1 p2 x1 e1 r1 r2) [6] [.box eg, .box (fT l1), .arr 8 (bo.els l1), .box (aS e1), .arr 6 (ab.els (r1 ++ [e1])), .arr 1 (eI.els (r2 ++ [x1])), .box sa] [] (by kernel_rfl) (by kernel_rfl) trivial (by kernel_rfl) ?_
      exact GY.done (by kernel_rfl) (by kernel_rfl)
     refine zg [7, 8] 1 [2,3,5,7,8,9,10,11] (zd (m9 _ _ (zq fun K14 m14 => ?_)))
     obtain ⟨r3, c15, h⟩ := zB h
     obtain ⟨g16, h⟩ := zG h
     refine zw 7 [(37, vl eI [e1.id]), (36, vi e1.id), (35, vq 3), (34, .one (.cl (eI.els r3))), (33, vl eI p2.leaf.path), (32, vq 6), (31, vq 6), (2, vq 0), (3, vq 1), (5, vR (bw p2)), (7, vq 3), (8, vq 6), (9, vl ab p1), (10, vi (p1.length : Int)), (11, vi x1)] ?_ ?_
     ·refine BB 3 ?_
      refine DX.cal 85 [vl eI p2.leaf.path] (.one (.cl (eI.els r3))) [(34, .one (.cl (eI.els r3))), (33, vl eI p2.leaf.path), (32, vq 6), (31, vq 6), (2, vq 0), (3, vq 1), (5, vR (bw p2)), (7, vq 3), (8, vq 6), (9, vl ab p1), (10, vi (p1.length : Int)), (11, vi x1)] (by kernel_rfl) (jC _ _ c15) rfl rfl (by kernel_rfl) ?_
      exact BB 3 lU
     refine zp [7, 8] 1 [2,3,5,7,8,9,10,11,38] [] [(2, vq 0), (3, vq 1), (5, vR [.ro (eI.els p2.leaf.path), pi p2.leaf.type.kind, pi p2.leaf.type.scale, .ro (ab.els p2.leaf.type.fields), pi p2.leaf.df, pi p2.leaf.rep, .ro (ab.els p2.fields), .ro (eI.els p2.pos)]), (7, vq 3), (8, vq 6), (9, vl ab p1), (10, vi (p1.length : Int)), (11, vi x1), (38, .one (.sl 7 1 0 ((eI.els r3).length + (eI.els [e1.id]).length)))] [.box [.fn 83 [.pt 0 0 0 0, .pt 1 0 0 0]], .box [.sl 2 8 0 l1.length], .arr 8 (bo.els l1), .box [ci e1.id, cj e1.name, cb e1.need, ci e1.type.kind, ci e1.type.scale, cl ab e1.type.fields], .arr 6 (ab.els (r1 ++ [e1])), .arr 1 (eI.els (r2 ++ [x1])), .box [cl eI p2.leaf.path, ci p2.leaf.type.kind, ci p2.leaf.type.scale, cl ab p2.leaf.type.fields, ci p2.leaf.df, ci p2.leaf.rep, .sl 4 6 0 ((r1 ++ [e1]).length), .sl 5 1 0 ((r2 ++ [x1]).length)], .arr 1 (eI.els r3 ++ eI.els [e1.id])] [aq 1 (eI.els r3), aq 1 (eI.els [e1.id]), 0 < (eI.els [e1.id]).length, (eI.els r3).length + (eI.els [e1.id]).length ≤ 4294967296] (⟨eI.ok _, eI.ok _, (by rw [eI.len]; exact Nat.zero_lt_succ _), (by rw [eI.len]; exact g16), trivial⟩) ?_
     rw [show (eI.els r3).length + (eI.els [e1.id]).length = (r3 ++ [e1.id]).length from by rw [eI.len]; exact eI.lapp _ _]
     rw [show eI.els r3 ++ eI.els [e1.id] = eI.els (r3 ++ [e1.id]) from eI.app2 _ _]
     refine zg [7, 8] 3 [2,3,5,7,8,9,10,11] (zd (m14 _ _ (zq fun K17 m17 => ?_)))
     have j1 : ∀ (z1 : Int), eK (ce k0) (bP (ce k0) p1 p2 k1) p2 l1 x1 e1 r1 r2 r3 z1 = some r → ∀ w0 w1, aL 90 3 [2] w0 w1 (wB p1 p2 x1) [.box eg, .box (fT l1), .arr 8 (bo.els l1), .box (aS e1), .arr 6 (ab.els (r1 ++ [e1])), .arr 1 (eI.els (r2 ++ [x1])), .box (tK p2 x1 e1 r1 r2 r3 z1), .arr 1 (eI.els (r3 ++ [e1.id]))] → K17 w0 w1 := by
      intro z1 h w0 w1 hS
      unfold eK at h
      refine m17 _ _ (XW.sub hS ?_)
      refine zq fun K20 m20 => zr (zg [7, 8] 3 [2,3,5,7,8,9,10,11,52] (zd (m20 _ _ (zb 2 (zq fun K21 m21 => zr ?_)))))
      refine zg [7, 8] 2 [2,3,5,7,8,9,10,11,52,61] (zd (m21 _ _ (zC h (fun b22 h => ?_) (fun b22 h => ?_))))
      ·refine zq fun K23 m23 => zr ?_
       refine zv [7, 8] 7 [2,3,5,7,8,9,10,11] [] (wB p1 p2 x1) [.box eg, .box (fT l1), .arr 8 (bo.els l1), .box (aS e1), .arr 6 (ab.els (r1 ++ [e1])), .arr 1 (eI.els (r2 ++ [x1])), .box [.sl 7 1 0 ((r3 ++ [e1.id]).length), ci p2.leaf.type.kind, ci p2.leaf.type.scale, cl ab p2.leaf.type.fields, ci (i64.wrap (z1 + 1)), ci p2.leaf.rep, .sl 4 6 0 ((r1 ++ [e1]).length), .sl 5 1 0 ((r2 ++ [x1]).length)], .arr 1 (eI.els (r3 ++ [e1.id]))] ?_
       refine zd (m23 _ _ (zq fun K24 m24 => zr (zg [7, 8] 7 [2,3,5,7,8,9,10,11] (zd (m24 _ _ ?_)))))
       obtain ⟨r4, c25, h⟩ := zB h
       refine zr ?_
       refine zv [7, 8] 5 [2,3,5,9,10,11,75,78,79] [] [(2, vq 0), (3, vq 1), (5, vR (bw p2)), (9, vl ab p1), (10, vi (p1.length : Int)), (11, vi x1), (75, .one (.fn 83 [.pt 0 0 0 0, .pt 1 0 0 0])), (78, vl ab e1.type.fields), (79, .ag (xc p2 x1 e1 r1 r2 r3 z1))] [.box eg, .box (fT l1), .arr 8 (bo.els l1), .box (aS e1), .arr 6 (ab.els (r1 ++ [e1])), .arr 1 (eI.els (r2 ++ [x1])), .box (xc p2 x1 e1 r1 r2 r3 z1), .arr 1 (eI.els (r3 ++ [e1.id]))] ?_
       refine XO.sub (aL.trans (aL.stale 6 0 7 1 0 ((r3 ++ [e1.id]).length) (xc p2 x1 e1 r1 r2 r3 z1) rfl rfl [.box eg, .box (fT l1), .arr 8 (bo.els l1), .box (aS e1), .arr 6 (ab.els (r1 ++ [e1])), .arr 1 (eI.els (r2 ++ [x1])), .box (zV p2 x1 e1 r1 r2 r3 z1), .arr 1 (eI.els (r3 ++ [e1.id])), .dead] rfl) (aL.kill (fr' := [(2, vq 0), (3, vq 1), (5, vR (bw p2)), (9, vl ab p1), (10, vi (p1.length : Int)), (11, vi x1), (75, .one (.fn 83 [.pt 0 0 0 0, .pt 1 0 0 0])), (78, vl ab e1.type.fields), (79, .ag [cl eI (r3 ++ [e1.id]), ci p2.leaf.type.kind, ci p2.leaf.type.scale, cl ab p2.leaf.type.fields, ci (i64.wrap (z1 + 1)), ci (i64.wrap (p2.leaf.rep + 1)), .sl 4 6 0 ((r1 ++ [e1]).length), .sl 5 1 0 ((r2 ++ [x1]).length)])]) 7 (by decide) (by kernel_rfl) ⟨.one (.rfl _ rfl), .one (.rfl _ rfl), .one (.rfl _ rfl), .one (.rfl _ rfl), .one (.rfl _ rfl), .one (.rfl _ rfl), .one (.rfl _ rfl), .one (.rfl _ rfl), .ag (.cons (iS eI (r3 ++ [e1.id]) rfl rfl rfl) (.cons (.rfl _ rfl) (.cons (.rfl _ rfl) (.cons (.rfl _ rfl) (.cons (.rfl _ rfl) (.cons (.rfl _ rfl) (.cons (.rfl _ rfl) (.cons (.rfl _ rfl) .nil)))))))), trivial⟩)) ?_
       refine XO.sub (aL.trans (aL.stale 6 6 4 6 0 ((r1 ++ [e1]).length) (zV p2 x1 e1 r1 r2 r3 z1) rfl rfl [.box eg, .box (fT l1), .arr 8 (bo.els l1), .box (aS e1), .arr 6 (ab.els (r1 ++ [e1])), .arr 1 (eI.els (r2 ++ [x1])), .box (Bw p2 x1 e1 r1 r2 r3 z1), .dead, .dead, .dead] rfl) (aL.kill (fr' := [(2, vq 0), (3, vq 1), (5, vR (bw p2)), (9, vl ab p1), (10, vi (p1.length : Int)), (11, vi x1), (75, .one (.fn 83 [.pt 0 0 0 0, .pt 1 0 0 0])), (78, vl ab e1.type.fields), (79, .ag [cl eI (r3 ++ [e1.id]), ci p2.leaf.type.kind, ci p2.leaf.type.scale, cl ab p2.leaf.type.fields, ci (i64.wrap (z1 + 1)), ci (i64.wrap (p2.leaf.rep + 1)), cl ab (r1 ++ [e1]), .sl 5 1 0 ((r2 ++ [x1]).length)])]) 4 (by decide) (by kernel_rfl) ⟨.one (.rfl _ rfl), .one (.rfl _ rfl), .one (.rfl _ rfl), .one (.rfl _ rfl), .one (.rfl _ rfl), .one (.rfl _ rfl), .one (.rfl _ rfl), .one (.rfl _ rfl), .ag (.cons (.rfl _ rfl) (.cons (.rfl _ rfl) (.cons (.rfl _ rfl) (.cons (.rfl _ rfl) (.cons (.rfl _ rfl) (.cons (.rfl _ rfl) (.cons (iS ab (r1 ++ [e1]) rfl rfl rfl) (.cons (.rfl _ rfl) .nil)))))))), trivial⟩)) ?_
       refine XO.sub (aL.trans (aL.stale 6 7 5 1 0 ((r2 ++ [x1]).length) (Bw p2 x1 e1 r1 r2 r3 z1) rfl rfl [.box eg, .box (fT l1), .arr 8 (bo.els l1), .box (aS e1), .dead, .arr 1 (eI.els (r2 ++ [x1])), .box (As p2 x1 e1 r1 r2 r3 z1), .dead, .dead, .dead, .dead] rfl) (aL.kill (fr' := [(2, vq 0), (3, vq 1), (5, vR (bw p2)), (9, vl ab p1), (10, vi (p1.length : Int)), (11, vi x1), (75, .one (.fn 83 [.pt 0 0 0 0, .pt 1 0 0 0])), (78, vl ab e1.type.fields), (79, .ag (wj p2 x1 e1 r1 r2 r3 z1))]) 5 (by decide) (by kernel_rfl) ⟨.one (.rfl _ rfl), .one (.rfl _ rfl), .one (.rfl _ rfl), .one (.rfl _ rfl), .one (.rfl _ rfl), .one (.rfl _ rfl), .one (.rfl _ rfl), .one (.rfl _ rfl), .ag (.cons (.rfl _ rfl) (.cons (.rfl _ rfl) (.cons (.rfl _ rfl) (.cons (.rfl _ rfl) (.cons (.rfl _ rfl) (.cons (.rfl _ rfl) (.cons (.rfl _ rfl) (.cons (iS eI (r2 ++ [x1]) rfl rfl rfl) .nil)))))))), trivial⟩)) ?_
       refine XO.calx 83 [vl ab e1.type.fields, .ag (wj p2 x1 e1 r1 r2 r3 z1), vq 0, vq 1] (wH l1) [.box eg, .box [.sl 2 8 0 r4.2.length], .arr 8 (bo.els r4.2)] [2] (.tp []) [0, 1, 2] [2] [(80, .tp []), (2, vq 0), (3, vq 1), (5, vR (bw p2)), (9, vl ab p1), (10, vi (p1.length : Int)), (11, vi x1), (75, .one (.fn 83 [.pt 0 0 0 0, .pt 1 0 0 0])), (78, vl ab e1.type.fields), (79, .ag (wj p2 x1 e1 r1 r2 r3 z1))] [.box eg, .box [.sl 2 8 0 r4.2.length], .arr 8 (bo.els r4.2), .box (aS e1), .dead, .dead, .box (As p2 x1 e1 r1 r2 r3 z1), .dead, .dead, .dead, .dead] (by kernel_rfl) (km k0 _ _ _ _ c25) (by kernel_rfl) (by kernel_rfl) (by kernel_rfl) (by kernel_rfl) (by kernel_rfl) (by kernel_rfl) (by kernel_rfl) ?_
       refine zd ?_
       exact j2 r4.2 h _ _ (aL.trans (aL.pick (fr' := (nc p1 p2 x1)) [2,3,5,9,10,11] (by kernel_rfl)) (aL.take (fr' := (nc p1 p2 x1)) 3 (by decide) (by kernel_rfl) (by kernel_rfl)))
      ·refine zq fun K26 m26 => zr (zg [7, 8] 2 [2,3,5,7,8,9,10,11,81] (zd (m26 _ _ (zC h (fun b27 h => ?_) (fun b27 h => ?_)))))
       ·obtain ⟨r5, c28, h⟩ := zB h
        refine zr ?_
        refine zv [7, 8] 5 [2,3,5,9,10,11,83,86,87] [] [(2, vq 0), (3, vq 1), (5, vR (bw p2)), (9, vl ab p1), (10, vi (p1.length : Int)), (11, vi x1), (83, .one (.fn 83 [.pt 0 0 0 0, .pt 1 0 0 0])), (86, vl ab e1.type.fields), (87, .ag (tK p2 x1 e1 r1 r2 r3 z1))] [.box eg, .box (fT l1), .arr 8 (bo.els l1), .box (aS e1), .arr 6 (ab.els (r1 ++ [e1])), .arr 1 (eI.els (r2 ++ [x1])), .box (tK p2 x1 e1 r1 r2 r3 z1), .arr 1 (eI.els (r3 ++ [e1.id]))] ?_
        refine XO.sub (aL.trans (aL.stale 6 0 7 1 0 ((r3 ++ [e1.id]).length) (tK p2 x1 e1 r1 r2 r3 z1) rfl rfl [.box eg, .box (fT l1), .arr 8 (bo.els l1), .box (aS e1), .arr 6 (ab.els (r1 ++ [e1])), .arr 1 (eI.els (r2 ++ [x1])), .box [.sl 8 1 0 ((r3 ++ [e1.id]).length), ci p2.leaf.type.kind, ci p2.leaf.type.scale, cl ab p2.leaf.type.fields, ci z1, ci p2.leaf.rep, .sl 4 6 0 ((r1 ++ [e1]).length), .sl 5 1 0 ((r2 ++ [x1]).length)], .arr 1 (eI.els (r3 ++ [e1.id])), .dead] rfl) (aL.kill (fr' := [(2, vq 0), (3, vq 1), (5, vR (bw p2)), (9, vl ab p1), (10, vi (p1.length : Int)), (11, vi x1), (83, .one (.fn 83 [.pt 0 0 0 0, .pt 1 0 0 0])), (86, vl ab e1.type.fields), (87, .ag [cl eI (r3 ++ [e1.id]), ci p2.leaf.type.kind, ci p2.leaf.type.scale, cl ab p2.leaf.type.fields, ci z1, ci p2.leaf.rep, .sl 4 6 0 ((r1 ++ [e1]).length), .sl 5 1 0 ((r2 ++ [x1]).length)])]) 7 (by decide) (by kernel_rfl) ⟨.one (.rfl _ rfl), .one (.rfl _ rfl), .one (.rfl _ rfl), .one (.rfl _ rfl), .one (.rfl _ rfl), .one (.rfl _ rfl), .one (.rfl _ rfl), .one (.rfl _ rfl), .ag (.cons (iS eI (r3 ++ [e1.id]) rfl rfl rfl) (.cons (.rfl _ rfl) (.cons (.rfl _ rfl) (.cons (.rfl _ rfl) (.cons (.rfl _ rfl) (.cons (.rfl _ rfl) (.cons (.rfl _ rfl) (.cons (.rfl _ rfl) .nil)))))))), trivial⟩)) ?_
        refine XO.sub (aL.trans (aL.stale 6 6 4 6 0 ((r1 ++ [e1]).length) [.sl 8 1 0 ((r3 ++ [e1.id]).length), ci p2.leaf.type.kind, ci p2.leaf.type.scale, cl ab p2.leaf.type.fields, ci z1, ci p2.leaf.rep, .sl 4 6 0 ((r1 ++ [e1]).length), .sl 5 1 0 ((r2 ++ [x1]).length)] rfl rfl [.box eg, .box (fT l1), .arr 8 (bo.els l1), .box (aS e1), .arr 6 (ab.els (r1 ++ [e1])), .arr 1 (eI.els (r2 ++ [x1])), .box [.sl 8 1 0 ((r3 ++ [e1.id]).length), ci p2.leaf.type.kind, ci p2.leaf.type.scale, cl ab p2.leaf.type.fields, ci z1, ci p2.leaf.rep, .sl 9 6 0 ((r1 ++ [e1]).length), .sl 5 1 0 ((r2 ++ [x1]).length)], .dead, .dead, .dead] rfl) (aL.kill (fr' := [(2, vq 0), (3, vq 1), (5, vR (bw p2)), (9, vl ab p1), (10, vi (p1.length : Int)), (11, vi x1), (83, .one (.fn 83 [.pt 0 0 0 0, .pt 1 0 0 0])), (86, vl ab e1.type.fields), (87, .ag [cl eI (r3 ++ [e1.id]), ci p2.leaf.type.kind, ci p2.leaf.type.scale, cl ab p2.leaf.type.fields, ci z1, ci p2.leaf.rep, cl ab (r1 ++ [e1]), .sl 5 1 0 ((r2 ++ [x1]).length)])]) 4 (by decide) (by kernel_rfl) ⟨.one (.rfl _ rfl), .one (.rfl _ rfl), .one (.rfl _ rfl), .one (.rfl _ rfl), .one (.rfl _ rfl), .one (.rfl _ rfl), .one (.rfl _ rfl), .one (.rfl _ rfl), .ag (.cons (.rfl _ rfl) (.cons (.rfl _ rfl) (.cons (.rfl _ rfl) (.cons (.rfl _ rfl) (.cons (.rfl _ rfl) (.cons (.rfl _ rfl) (.cons (iS ab (r1 ++ [e1]) rfl rfl rfl) (.cons (.rfl _ rfl) .nil)))))))), trivial⟩)) ?_
        refine XO.sub (aL.trans (aL.stale 6 7 5 1 0 ((r2 ++ [x1]).length) [.sl 8 1 0 ((r3 ++ [e1.id]).length), ci p2.leaf.type.kind, ci p2.leaf.type.scale, cl ab p2.leaf.type.fields, ci z1, ci p2.leaf.rep, .sl 9 6 0 ((r1 ++ [e1]).length), .sl 5 1 0 ((r2 ++ [x1]).length)] rfl rfl [.box eg, .box (fT l1), .arr 8 (bo.els l1), .box (aS e1), .dead, .arr 1 (eI.els (r2 ++ [x1])), .box [.sl 8 1 0 ((r3 ++ [e1.id]).length), ci p2.leaf.type.kind, ci p2.leaf.type.scale, cl ab p2.leaf.type.fields, ci z1, ci p2.leaf.rep, .sl 9 6 0 ((r1 ++ [e1]).length), .sl 10 1 0 ((r2 ++ [x1]).length)], .dead, .dead, .dead, .dead] rfl) (aL.kill (fr' := [(2, vq 0), (3, vq 1), (5, vR (bw p2)), (9, vl ab p1), (10, vi (p1.length : Int)), (11, vi x1), (83, .one (.fn 83 [.pt 0 0 0 0, .pt 1 0 0 0])), (86, vl ab e1.type.fields), (87, .ag (we p2 x1 e1 r1 r2 r3 z1))]) 5 (by decide) (by kernel_rfl) ⟨.one (.rfl _ rfl), .one (.rfl _ rfl), .one (.rfl _ rfl), .one (.rfl _ rfl), .one (.rfl _ rfl), .one (.rfl _ rfl), .one (.rfl _ rfl), .one (.rfl _ rfl), .ag (.cons (.rfl _ rfl) (.cons (.rfl _ rfl) (.cons (.rfl _ rfl) (.cons (.rfl _ rfl) (.cons (.rfl _ rfl) (.cons (.rfl _ rfl) (.cons (.rfl _ rfl) (.cons (iS eI (r2 ++ [x1]) rfl rfl rfl) .nil)))))))), trivial⟩)) ?_
        refine XO.calx 83 [vl ab e1.type.fields, .ag (we p2 x1 e1 r1 r2 r3 z1), vq 0, vq 1] (wH l1) [.box eg, .box [.sl 2 8 0 r5.2.length], .arr 8 (bo.els r5.2)] [2] (.tp []) [0, 1, 2] [2] [(88, .tp []), (2, vq 0), (3, vq 1), (5, vR (bw p2)), (9, vl ab p1), (10, vi (p1.length : Int)), (11, vi x1), (83, .one (.fn 83 [.pt 0 0 0 0, .pt 1 0 0 0])), (86, vl ab e1.type.fields), (87, .ag (we p2 x1 e1 r1 r2 r3 z1))] [.box eg, .box [.sl 2 8 0 r5.2.length], .arr 8 (bo.els r5.2), .box (aS e1), .dead, .dead, .box [.sl 8 1 0 ((r3 ++ [e1.id]).length), ci p2.leaf.type.kind, ci p2.leaf.type.scale, cl ab p2.leaf.type.fields, ci z1, ci p2.leaf.rep, .sl 9 6 0 ((r1 ++ [e1]).length), .sl 10 1 0 ((r2 ++ [x1]).length)], .dead, .dead, .dead, .dead] (by kernel_rfl) (km k0 _ _ _ _ c28) (by kernel_rfl) (by kernel_rfl) (by kernel_rfl) (by kernel_rfl) (by kernel_rfl) (by kernel_rfl) (by kernel_rfl) ?_
        refine zd ?_
        exact j2 r5.2 h _ _ (aL.trans (aL.pick (fr' := (nc p1 p2 x1)) [2,3,5,9,10,11] (by kernel_rfl)) (aL.take (fr' := (nc p1 p2 x1)) 3 (by decide) (by kernel_rfl) (by kernel_rfl)))
       ·refine zq fun K29 m29 => zr (zg [7, 8] 5 [2,3,5,8,9,10,11] (zd (m29 _ _ ?_)))
        obtain ⟨g30, h⟩ := zG h
        refine zr ?_
        refine zv [7, 8] 2 [2,3,5,9,10,11,57,58] [] [(2, vq 0), (3, vq 1), (5, vR (bw p2)), (9, vl ab p1), (10, vi (p1.length : Int)), (11, vi x1), (57, .one (.sl 2 8 0 l1.length)), (58, .ag (v7 p2 x1 e1 r1 r2 r3 z1))] [.box eg, .box (fT l1), .arr 8 (bo.els l1), .box (aS e1), .arr 6 (ab.els (r1 ++ [e1])), .arr 1 (eI.els (r2 ++ [x1])), .box (v7 p2 x1 e1 r1 r2 r3 z1), .arr 1 (eI.els (r3 ++ [e1.id]))] ?_
        refine XO.sub (aL.trans (aL.stale 6 0 7 1 0 ((r3 ++ [e1.id]).length) (v7 p2 x1 e1 r1 r2 r3 z1) rfl rfl [.box eg, .box (fT l1), .arr 8 (bo.els l1), .box (aS e1), .arr 6 (ab.els (r1 ++ [e1])), .arr 1 (eI.els (r2 ++ [x1])), .box [.sl 8 1 0 ((r3 ++ [e1.id]).length), ci e1.type.kind, ci e1.type.scale, cl ab e1.type.fields, ci z1, ci p2.leaf.rep, .sl 4 6 0 ((r1 ++ [e1]).length), .sl 5 1 0 ((r2 ++ [x1]).length)], .arr 1 (eI.els (r3 ++ [e1.id])), .dead] rfl) (aL.kill (fr' := [(2, vq 0), (3, vq 1), (5, vR (bw p2)), (9, vl ab p1), (10, vi (p1.length : Int)), (11, vi x1), (57, .one (.sl 2 8 0 l1.length)), (58, .ag [cl eI (r3 ++ [e1.id]), ci e1.type.kind, ci e1.type.scale, cl ab e1.type.fields, ci z1, ci p2.leaf.rep, .sl 4 6 0 ((r1 ++ [e1]).length), .sl 5 1 0 ((r2 ++ [x1]).length)])]) 7 (by decide) (by kernel_rfl) ⟨.one (.rfl _ rfl), .one (.rfl _ rfl), .one (.rfl _ rfl), .one (.rfl _ rfl), .one (.rfl _ rfl), .one (.rfl _ rfl), .one (.rfl _ rfl), .ag (.cons (iS eI (r3 ++ [e1.id]) rfl rfl rfl) (.cons (.rfl _ rfl) (.cons (.rfl _ rfl) (.cons (.rfl _ rfl) (.cons (.rfl _ rfl) (.cons (.rfl _ rfl) (.cons (.rfl _ rfl) (.cons (.rfl _ rfl) .nil)))))))), trivial⟩)) ?_
        refine XO.sub (aL.trans (aL.stale 6 6 4 6 0 ((r1 ++ [e1]).length) [.sl 8 1 0 ((r3 ++ [e1.id]).length), ci e1.type.kind, ci e1.type.scale, cl ab e1.type.fields, ci z1, ci p2.leaf.rep, .sl 4 6 0 ((r1 ++ [e1]).length), .sl 5 1 0 ((r2 ++ [x1]).length)] rfl rfl [.box eg, .box (fT l1), .arr 8 (bo.els l1), .box (aS e1), .arr 6 (ab.els (r1 ++ [e1])), .arr 1 (eI.els (r2 ++ [x1])), .box [.sl 8 1 0 ((r3 ++ [e1.id]).length), ci e1.type.kind, ci e1.type.scale, cl ab e1.type.fields, ci z1, ci p2.leaf.rep, .sl 9 6 0 ((r1 ++ [e1]).length), .sl 5 1 0 ((r2 ++ [x1]).length)], .dead, .dead, .dead] rfl) (aL.kill (fr' := [(2, vq 0), (3, vq 1), (5, vR (bw p2)), (9, vl ab p1), (10, vi (p1.length : Int)), (11, vi x1), (57, .one (.sl 2 8 0 l1.length)), (58, .ag [cl eI (r3 ++ [e1.id]), ci e1.type.kind, ci e1.type.scale, cl ab e1.type.fields, ci z1, ci p2.leaf.rep, cl ab (r1 ++ [e1]), .sl 5 1 0 ((r2 ++ [x1]).length)])]) 4 (by decide) (by kernel_rfl) ⟨.one (.rfl _ rfl), .one (.rfl _ rfl), .one (.rfl _ rfl), .one (.rfl _ rfl), .one (.rfl _ rfl), .one (.rfl _ rfl), .one (.rfl _ rfl), .ag (.cons (.rfl _ rfl) (.cons (.rfl _ rfl) (.cons (.rfl _ rfl) (.cons (.rfl _ rfl) (.cons (.rfl _ rfl) (.cons (.rfl _ rfl) (.cons (iS ab (r1 ++ [e1]) rfl rfl rfl) (.cons (.rfl _ rfl) .nil)))))))), trivial⟩)) ?_
        refine XO.sub (aL.trans (aL.stale 6 7 5 1 0 ((r2 ++ [x1]).length) [.sl 8 1 0 ((r3 ++ [e1.id]).length), ci e1.type.kind, ci e1.type.scale, cl ab e1.type.fields, ci z1, ci p2.leaf.rep, .sl 9 6 0 ((r1 ++ [e1]).length), .sl 5 1 0 ((r2 ++ [x1]).length)] rfl rfl [.box eg, .box (fT l1), .arr 8 (bo.els l1), .box (aS e1), .dead, .arr 1 (eI.els (r2 ++ [x1])), .box (wQ p2 x1 e1 r1 r2 r3 z1), .dead, .dead, .dead, .dead] rfl) (aL.kill (fr' := [(2, vq 0), (3, vq 1), (5, vR (bw p2)), (9, vl ab p1), (10, vi (p1.length : Int)), (11, vi x1), (57, .one (.sl 2 8 0 l1.length)), (58, .ag [cl eI (r3 ++ [e1.id]), ci e1.type.kind, ci e1.type.scale, cl ab e1.type.fields, ci z1, ci p2.leaf.rep, cl ab (r1 ++ [e1]), cl eI (r2 ++ [x1])])]) 5 (by decide) (by kernel_rfl) ⟨.one (.rfl _ rfl), .one (.rfl _ rfl), .one (.rfl _ rfl), .one (.rfl _ rfl), .one (.rfl _ rfl), .one (.rfl _ rfl), .one (.rfl _ rfl), .ag (.cons (.rfl _ rfl) (.cons (.rfl _ rfl) (.cons (.rfl _ rfl) (.cons (.rfl _ rfl) (.cons (.rfl _ rfl) (.cons (.rfl _ rfl) (.cons (.rfl _ rfl) (.cons (iS eI (r2 ++ [x1]) rfl rfl rfl) .nil)))))))), trivial⟩)) ?_
        refine zv [7, 8] 1 [2,3,5,9,10,11,57,59] [] [(2, vq 0), (3, vq 1), (5, vR (bw p2)), (9, vl ab p1), (10, vi (p1.length : Int)), (11, vi x1), (57, .one (.sl 2 8 0 l1.length)), (59, vl bo ([(bc.mk (iu.mk (r3 ++ [e1.id]) e1.type z1 p2.leaf.rep) (r1 ++ [e1]) (r2 ++ [x1]))]))] [.box eg, .box (fT l1), .arr 8 (bo.els l1), .box (aS e1), .dead, .dead, .box (wQ p2 x1 e1 r1 r2 r3 z1), .dead, .dead, .dead, .dead] ?_
        refine XO.sub (aL.stale 1 0 2 8 0 l1.length (fT l1) rfl rfl [.box eg, .box [.sl 11 8 0 l1.length], .arr 8 (bo.els l1), .box (aS e1), .dead, .dead, .box (wQ p2 x1 e1 r1 r2 r3 z1), .dead, .dead, .dead, .dead, .dead] rfl) ?_
        refine zp [7, 8] 1 [2,3,5,9,10,11,60] [] [(2, vq 0), (3, vq 1), (5, vR [.ro (eI.els p2.leaf.path), pi p2.leaf.type.kind, pi p2.leaf.type.scale, .ro (ab.els p2.leaf.type.fields), pi p2.leaf.df, pi p2.leaf.rep, .ro (ab.els p2.fields), .ro (eI.els p2.pos)]), (9, vl ab p1), (10, vi (p1.length : Int)), (11, vi x1), (60, .one (.sl 2 8 0 (l1.length + (bo.els ([(bc.mk (iu.mk (r3 ++ [e1.id]) e1.type z1 p2.leaf.rep) (r1 ++ [e1]) (r2 ++ [x1]))])).length)))] [.box [.fn 83 [.pt 0 0 0 0, .pt 1 0 0 0]], .box [.sl 11 8 0 l1.length], .arr 8 (bo.els l1 ++ bo.els ([(bc.mk (iu.mk (r3 ++ [e1.id]) e1.type z1 p2.leaf.rep) (r1 ++ [e1]) (r2 ++ [x1]))])), .box [ci e1.id, cj e1.name, cb e1.need, ci e1.type.kind, ci e1.type.scale, cl ab e1.type.fields], .dead, .dead, .box [.sl 8 1 0 ((r3 ++ [e1.id]).length), ci e1.type.kind, ci e1.type.scale, cl ab e1.type.fields, ci z1, ci p2.leaf.rep, .sl 9 6 0 ((r1 ++ [e1]).length), .sl 10 1 0 ((r2 ++ [x1]).length)], .dead, .dead, .dead, .dead, .dead] [aq 8 (bo.els ([(bc.mk (iu.mk (r3 ++ [e1.id]) e1.type z1 p2.leaf.rep) (r1 ++ [e1]) (r2 ++ [x1]))])), l1.length = (bo.els l1).length, l1.length + (bo.els ([(bc.mk (iu.mk (r3 ++ [e1.id]) e1.type z1 p2.leaf.rep) (r1 ++ [e1]) (r2 ++ [x1]))])).length ≤ 4294967296] (⟨bo.ok _, (bo.len l1).symm, g30, trivial⟩) ?_
        rw [show l1.length + (bo.els ([(bc.mk (iu.mk (r3 ++ [e1.id]) e1.type z1 p2.leaf.rep) (r1 ++ [e1]) (r2 ++ [x1]))])).length = (l1 ++ [(bc.mk (iu.mk (r3 ++ [e1.id]) e1.type z1 p2.leaf.rep) (r1 ++ [e1]) (r2 ++ [x1]))]).length from bo.lapp _ _]
        rw [show bo.els l1 ++ bo.els ([(bc.mk (iu.mk (r3 ++ [e1.id]) e1.type z1 p2.leaf.rep) (r1 ++ [e1]) (r2 ++ [x1]))]) = bo.els (l1 ++ [(bc.mk (iu.mk (r3 ++ [e1.id]) e1.type z1 p2.leaf.rep) (r1 ++ [e1]) (r2 ++ [x1]))]) from bo.app2 _ _]
        refine zg [7, 8] 1 [2,3,5,9,10,11] (zd ?_)
        exact j2 (l1 ++ [(bc.mk (iu.mk (r3 ++ [e1.id]) e1.type z1 p2.leaf.rep) (r1 ++ [e1]) (r2 ++ [x1]))]) h _ _ (aL.trans (aL.pick (fr' := (nc p1 p2 x1)) [2,3,5,9,10,11] (by kernel_rfl)) (aL.take (fr' := (nc p1 p2 x1)) 3 (by decide) (by kernel_rfl) (by kernel_rfl)))
     refine zq fun K18 m18 => zr (zg [7, 8] 3 [2,3,5,7,8,9,10,11,43] (zd (m18 _ _ (zC h (fun b19 h => ?_) (fun b19 h => ?_)))))
     ·refine zr ?_
      refine zv [7, 8] 7 [2,3,5,7,8,9,10,11] [] (wB p1 p2 x1) [.box eg, .box (fT l1), .arr 8 (bo.els l1), .box (aS e1), .arr 6 (ab.els (r1 ++ [e1])), .arr 1 (eI.els (r2 ++ [x1])), .box [.sl 7 1 0 ((r3 ++ [e1.id]).length), ci p2.leaf.type.kind, ci p2.leaf.type.scale, cl ab p2.leaf.type.fields, ci (i64.wrap (p2.leaf.df + 1)), ci p2.leaf.rep, .sl 4 6 0 ((r1 ++ [e1]).length), .sl 5 1 0 ((r2 ++ [x1]).length)], .arr 1 (eI.els (r3 ++ [e1.id]))] ?_
      exact zd (j1 (i64.wrap (p2.leaf.df + 1)) h _ _ (zk [2,3,5,7,8,9,10,11]))
     ·exact zs (j1 p2.leaf.df h _ _ (zk [2,3,5,7,8,9,10,11]))
    ·refine zx 0 (hQ1 _ _ _ ?_)
     obtain rfl := zj h
     exact eT.fin (.inl rfl) [] [] [] (by kernel_rfl) trivial (by kernel_rfl) (by kernel_rfl) (.tp0)
  exact XR.sub (zk [2,3,5,9,10,11]) (hL1 bf p3 (0 : Int) h)
def gG (p1 : (List ah)) : Option (List bc) := aT (ce bf p1 (bc.mk (iu.mk [] (aw.mk (0 : Int) (0 : Int) []) (0 : Int) (0 : Int)) [] []) []) fun r1 => some r1.2
abbrev wi : List CV := [.fn 83 [.pt 1 0 0 0, .pt 0 0 0 0]]
theorem lM (p1 : (List ah)) (r : (List bc)) (h : gG p1 = some r) : PC Tryz.prog 42 [vl ab p1] (vl bo r) := by
 unfold gG at h
 refine zF 11 Tryz.f42 (zq fun K1 m1 => zr (zg [3, 4] 1 [0] (zd (m1 _ _ (zq fun K2 m2 => zr ?_)))))
 refine zg [3, 4] 1 [0,3] (zd (m2 _ _ (zq fun K3 m3 => zr (zv [3, 4] 1 [0,3,4] [] [(0, vl ab p1), (3, vq 0), (4, vq 1)] [.box [.pv (.s (.slice none 0 0))], .box [.pv (.s .nilFunc)]] (zd (m3 _ _ ?_))))))
 refine zq fun K4 m4 => zr (zg [3, 4] 2 [0,3,4] (zd (m4 _ _ (zq fun K5 m5 => ?_))))
 obtain ⟨r1, c6, h⟩ := zB h
 refine zr (zv [3, 4] 3 [3,6,7,8] [] [(3, vq 0), (6, .one (.fn 83 [.pt 1 0 0 0, .pt 0 0 0 0])), (7, vl ab p1), (8, .ag sa)] [.box [.pv (.s (.slice none 0 0))], .box wi] (XO.sub (aL.listb 0 0 8 [.pv (.s (.slice none 0 0))] rfl rfl [.box [.sl 2 8 0 0], .box wi, .arr 8 (bo.els [])] rfl) ?_))
 refine XO.calx 83 [vl ab p1, .ag sa, vq 0, vq 1] [.box [.fn 83 [.pt 0 0 0 0, .pt 1 0 0 0]], .box [.sl 2 8 0 0], .arr 8 (bo.els [])] [.box [.fn 83 [.pt 0 0 0 0, .pt 1 0 0 0]], .box [.sl 2 8 0 r1.2.length], .arr 8 (bo.els r1.2)] [2] (.tp []) [1, 0, 2] [2] [(9, .tp []), (3, vq 0), (6, .one (.fn 83 [.pt 1 0 0 0, .pt 0 0 0 0])), (7, vl ab p1), (8, .ag sa)] [.box [.sl 2 8 0 r1.2.length], .box wi, .arr 8 (bo.els r1.2)] (by kernel_rfl) (MX.le (km bf _ _ _ _ c6) ⟨.rfl _, xF.agc ⟨.nl, .rfl _, .rfl _, .nl, .rfl _, .rfl _, .nl, .nl, trivial⟩, .rfl _, .rfl _, trivial⟩) (by kernel_rfl) (by kernel_rfl) (by kernel_rfl) (by kernel_rfl) (by kernel_rfl) (by kernel_rfl) (by kernel_rfl) ?_
 refine zd (m5 _ _ (zq fun K7 m7 => zr (zg [3, 4] 2 [2] (zd (m7 _ _ (ze ?_))))))
 obtain rfl := zj h
 exact zf [.one (.sl 2 8 0 r1.2.length)] (.one (iS bo r1.2 rfl rfl rfl))
def cV (p1 p2 : Int) (p3 : bl) : Option (Unit × bl) := fL (p3.c.reps.length + 1 ≤ 4294967296) <| fL (p3.c.defs.length + 1 ≤ 4294967296) <| some ((), (bl.mk p3.p (ak.mk (p3.c.reps ++ [p1]) (p3.c.defs ++ [p2]) p3.c.values)))
abbrev wz (p1 p2 : Int) (p3 : bl) : Fr := [(26, .one (.pt 0 0 0 8)), (25, .one (.pt 0 0 0 8)), (24, vq 0), (23, .one (.sl 5 1 0 ((p3.c.defs ++ [p2]).length))), (22, vl eI [p2]), (21, vi p2), (20, .one (.sl 2 1 0 p3.c.defs.length)), (19, .one (.pt 0 0 0 9)), (18, .one (.pt 0 0 0 8)), (17, vq 0), (16, vq 0), (15, .one (.sl 4 1 0 ((p3.c.reps ++ [p1]).length))), (14, vl eI [p1]), (13, vi p1), (12, .one (.sl 1 1 0 p3.c.reps.length)), (11, .one (.pt 0 0 0 8)), (10, .one (.pt 0 0 0 8)), (9, vq 0), (8, vq 0), (7, vq 0), (6, vq 0), (0, vq 0), (1, vi p1), (2, vi p2)]
abbrev CK (p1 : Int) (p3 : bl) : List CV := [cl eI p3.p.leaf.path, ci p3.p.leaf.type.kind, ci p3.p.leaf.type.scale, cl ab p3.p.leaf.type.fields, ci p3.p.leaf.df, ci p3.p.leaf.rep, cl ab p3.p.fields, cl eI p3.p.pos, .sl 4 1 0 ((p3.c.reps ++ [p1]).length), .sl 2 1 0 p3.c.defs.length, .sl 3 5 0 p3.c.values.length]
abbrev Bm (p1 p2 : Int) (p3 : bl) : St := [.box (CK p1 p3), .dead, .dead, .arr 5 (aa.els p3.c.values), .arr 1 (eI.els (p3.c.reps ++ [p1])), .arr 1 (eI.els (p3.c.defs ++ [p2]))]
theorem gr (p1 p2 : Int) (p3 : bl) (r : (Unit × bl)) (h : cV p1 p2 p3 = some r) : MX Tryz.prog 149 [vq 0, vi p1, vi p2] [.box [cl eI p3.p.leaf.path, ci p3.p.leaf.type.kind, ci p3.p.leaf.type.scale, cl ab p3.p.leaf.type.fields, ci p3.p.leaf.df, ci p3.p.leaf.rep, cl ab p3.p.fields, cl eI p3.p.pos, .sl 1 1 0 p3.c.reps.length, .sl 2 1 0 p3.c.defs.length, .sl 3 5 0 p3.c.values.length], .arr 1 (eI.els p3.c.reps), .arr 1 (eI.els p3.c.defs), .arr 5 (aa.els p3.c.values)] [1, 2, 3] (.tp []) [.box [cl eI r.2.p.leaf.path, ci r.2.p.leaf.type.kind, ci r.2.p.leaf.type.scale, cl ab r.2.p.leaf.type.fields, ci r.2.p.leaf.df, ci r.2.p.leaf.rep, cl ab r.2.p.fields, cl eI r.2.p.pos, .sl 1 1 0 r.2.c.reps.length, .sl 2 1 0 r.2.c.defs.length, .sl 3 5 0 r.2.c.values.length], .arr 1 (eI.els r.2.c.reps), .arr 1 (eI.els r.2.c.defs), .arr 5 (aa.els r.2.c.values)] := by
 unfold cV at h
 refine MX.of 4 4 rfl (n := 30) (fn := Tryz.f149) (c := cd Tryz.f149 []) (by kernel_rfl) (by kernel_rfl) (by kernel_rfl) (Nat.le_of_ble_eq_true rfl) rfl ?_
 obtain ⟨g1, h⟩ := zG h
 obtain ⟨g2, h⟩ := zG h
 refine XW.sub (aL.dead 2) ?_
 refine XW.drwG 22 [4, 5, 6] [([], []), ([], []), ([], []), ([], []), ([], []), ([], []), ([0], []), ([], []), ([], []), ([4, 1, 1004], [4, 1, 1004]), ([], []), ([], []), ([], []), ([], []), ([0], []), ([], []), ([], []), ([5, 2, 1005], [5, 2, 1005]), ([], []), ([], []), ([], []), ([0, 1004], [0])] (wz p1 p2 p3) (Bm p1 p2 p3) (by kernel_rfl) (by kernel_rfl) ?_ ?_
 ·refine qE 9 [] [(14, vl eI [p1]), (13, vi p1), (12, .one (.sl 1 1 0 p3.c.reps.length)), (11, .one (.pt 0 0 0 8)), (10, .one (.pt 0 0 0 8)), (9, vq 0), (8, vq 0), (7, vq 0), (6, vq 0), (0, vq 0), (1, vi p1), (2, vi p2)] ?_
  refine GY.new true 4 [] [(15, .one (.sl 4 1 0 (p3.c.reps.length + (eI.els [p1]).length))), (14, vl eI [p1]), (13, vi p1), (12, .one (.sl 1 1 0 p3.c.reps.length)), (11, .one (.pt 0 0 0 8)), (10, .one (.pt 0 0 0 8)), (9, vq 0), (8, vq 0), (7, vq 0), (6, vq 0), (0, vq 0), (1, vi p1), (2, vi p2)] [4, 1] [.box [cl eI p3.p.leaf.path, ci p3.p.leaf.type.kind, ci p3.p.leaf.type.scale, cl ab p3.p.leaf.type.fields, ci p3.p.leaf.df, ci p3.p.leaf.rep, cl ab p3.p.fields, cl eI p3.p.pos, .sl 1 1 0 p3.c.reps.length, .sl 2 1 0 p3.c.defs.length, .sl 3 5 0 p3.c.values.length], .dead, .arr 1 (eI.els p3.c.defs), .arr 5 (aa.els p3.c.values), .arr 1 (eI.els p3.c.reps ++ eI.els [p1]), .dead] [aq 1 (eI.els [p1]), p3.c.reps.length = (eI.els p3.c.reps).length, p3.c.reps.length + (eI.els [p1]).length ≤ 4294967296] (by kernel_rfl) (by kernel_rfl) (⟨eI.ok _, (eI.len p3.c.reps).symm, g1, trivial⟩) (by kernel_rfl) ?_
  rw [show p3.c.reps.length + (eI.els [p1]).length = (p3.c.reps ++ [p1]).length from eI.lapp _ _]
  rw [show eI.els p3.c.reps ++ eI.els [p1] = eI.els (p3.c.reps ++ [p1]) from eI.app2 _ _]
  refine qE 7 [] [(22, vl eI [p2]), (21, vi p2), (20, .one (.sl 2 1 0 p3.c.defs.length)), (19, .one (.pt 0 0 0 9)), (18, .one (.pt 0 0 0 8)), (17, vq 0), (16, vq 0), (15, .one (.sl 4 1 0 ((p3.c.reps ++ [p1]).length))), (14, vl eI [p1]), (13, vi p1), (12, .one (.sl 1 1 0 p3.c.reps.length)), (11, .one (.pt 0 0 0 8)), (10, .one (.pt 0 0 0 8)), (9, vq 0), (8, vq 0), (7, vq 0), (6, vq 0), (0, vq 0), (1, vi p1), (2, vi p2)] ?_
  refine GY.new true 5 [] [(23, .one (.sl 5 1 0 (p3.c.defs.length + (eI.els [p2]).length))), (22, vl eI [p2]), (21, vi p2), (20, .one (.sl 2 1 0 p3.c.defs.length)), (19, .one (.pt 0 0 0 9)), (18, .one (.pt 0 0 0 8)), (17, vq 0), (16, vq 0), (15, .one (.sl 4 1 0 ((p3.c.reps ++ [p1]).length))), (14, vl eI [p1]), (13, vi p1), (12, .one (.sl 1 1 0 p3.c.reps.length)), (11, .one (.pt 0 0 0 8)), (10, .one (.pt 0 0 0 8)), (9, vq 0), (8, vq 0), (7, vq 0), (6, vq 0), (0, vq 0), (1, vi p1), (2, vi p2)] [5, 2] [.box [cl eI p3.p.leaf.path, ci p3.p.leaf.type.kind, ci p3.p.leaf.type.scale, cl ab p3.p.leaf.type.fields, ci p3.p.leaf.df, ci p3.p.leaf.rep, cl ab p3.p.fields, cl eI p3.p.pos, .sl 1 1 0 p3.c.reps.length, .sl 2 1 0 p3.c.defs.length, .sl 3 5 0 p3.c.values.length], .dead, .dead, .arr 5 (aa.els p3.c.values), .arr 1 (eI.els (p3.c.reps ++ [p1])), .arr 1 (eI.els p3.c.defs ++ eI.els [p2])] [aq 1 (eI.els [p2]), p3.c.defs.length = (eI.els p3.c.defs).length, p3.c.defs.length + (eI.els [p2]).length ≤ 4294967296] (by kernel_rfl) (by kernel_rfl) (⟨eI.ok _, (eI.len p3.c.defs).symm, g2, trivial⟩) (by kernel_rfl) ?_
  rw [show p3.c.defs.length + (eI.els [p2]).length = (p3.c.defs ++ [p2]).length from eI.lapp _ _]
  rw [show eI.els p3.c.defs ++ eI.els [p2] = eI.els (p3.c.defs ++ [p2]) from eI.app2 _ _]
  refine qE 3 [] (wz p1 p2 p3) ?_
  refine GY.sto [0] [] (wz p1 p2 p3) ([0] ++ [1004]) (Bm p1 p2 p3) [] (by kernel_rfl) (by kernel_rfl) trivial (by kernel_rfl) ?_
  exact GY.done (by kernel_rfl) (by kernel_rfl)
 refine zv [] 4 [] [] [] [.box [cl eI p3.p.leaf.path, ci p3.p.leaf.type.kind, ci p3.p.leaf.type.scale, cl ab p3.p.leaf.type.fields, ci p3.p.leaf.df, ci p3.p.leaf.rep, cl ab p3.p.fields, cl eI p3.p.pos, .sl 4 1 0 ((p3.c.reps ++ [p1]).length), .sl 5 1 0 ((p3.c.defs ++ [p2]).length), .sl 3 5 0 p3.c.values.length], .dead, .dead, .arr 5 (aa.els p3.c.values), .arr 1 (eI.els (p3.c.reps ++ [p1])), .arr 1 (eI.els (p3.c.defs ++ [p2]))] ?_
 refine XO.sub (aL.swap 1 4 [] [.box [cl eI p3.p.leaf.path, ci p3.p.leaf.type.kind, ci p3.p.leaf.type.scale, cl ab p3.p.leaf.type.fields, ci p3.p.leaf.df, ci p3.p.leaf.rep, cl ab p3.p.fields, cl eI p3.p.pos, .sl 1 1 0 ((p3.c.reps ++ [p1]).length), .sl 5 1 0 ((p3.c.defs ++ [p2]).length), .sl 3 5 0 p3.c.values.length], .arr 1 (eI.els (p3.c.reps ++ [p1])), .dead, .arr 5 (aa.els p3.c.values), .dead, .arr 1 (eI.els (p3.c.defs ++ [p2]))] (by kernel_rfl) (by kernel_rfl) (by kernel_rfl) (by kernel_rfl)) ?_
 refine XO.sub (aL.swap 2 5 [] [.box [cl eI p3.p.leaf.path, ci p3.p.leaf.type.kind, ci p3.p.leaf.type.scale, cl ab p3.p.leaf.type.fields, ci p3.p.leaf.df, ci p3.p.leaf.rep, cl ab p3.p.fields, cl eI p3.p.pos, .sl 1 1 0 ((p3.c.reps ++ [p1]).length), .sl 2 1 0 ((p3.c.defs ++ [p2]).length), .sl 3 5 0 p3.c.values.length], .arr 1 (eI.els (p3.c.reps ++ [p1])), .arr 1 (eI.els (p3.c.defs ++ [p2])), .arr 5 (aa.els p3.c.values), .dead, .dead] (by kernel_rfl) (by kernel_rfl) (by kernel_rfl) (by kernel_rfl)) (zd ?_)
 obtain rfl := zj h
 exact eT.fin (.inl rfl) [] [] [] (by kernel_rfl) trivial (by kernel_rfl) (by kernel_rfl) (.tp0)
end Go.Proofs.YtmaemlebpjnmoaaGreatDoor
