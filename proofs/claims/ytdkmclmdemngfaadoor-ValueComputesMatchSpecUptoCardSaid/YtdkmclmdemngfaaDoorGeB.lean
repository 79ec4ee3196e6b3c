/- Printed by a program: what the functions compute, and the proofs of their contracts. -/
import Derived.Test.YtdkmclmdemngfaaDoorGeA
namespace Go.Proofs.YtdkmclmdemngfaaDoor
open Go.SX Go
set_option linter.unusedVariables false
set_option linter.unusedSimpArgs false
set_option maxRecDepth 100000
set_option maxHeartbeats 8000000

def law1_exactly_j2 : Option Bool :=
    some true

def law1_exactly_l1 (q_law1_exactly : GValue → GValue → Option Bool) (p1 : GValue) (p2 : GValue) : Nat → Int → Option Bool
  | 0, _ => none
  | k1 + 1, x2 =>
    ift (decide (x2 < (p1.items.length : Int)))
      (bnd (at? p1.items x2) fun e1 =>
       bnd (at? p2.items x2) fun e2 =>
       bnd (q_law1_exactly e1 e2) fun r1 =>
       ift (!r1)
         (some false)
         ((law1_exactly_l1 q_law1_exactly p1 p2 k1) (IntKind.i64.wrap (x2 + (1 : Int)))))
      (law1_exactly_j2)

def law1_exactly_j1 (q_law1_exactly : GValue → GValue → Option Bool) (p1 : GValue) (p2 : GValue) (x1 : Bool) : Option Bool :=
    ift x1
      (some false)
      (law1_exactly_l1 q_law1_exactly p1 p2 BIG (0 : Int))

def law1_exactly : Nat → GValue → GValue → Option Bool
  | 0, _, _ => none
  | k0 + 1, p1, p2 =>
    ift (p1.kind != p2.kind)
      (law1_exactly_j1 (law1_exactly k0) p1 p2 true)
      (ift (p1.n != p2.n)
         (law1_exactly_j1 (law1_exactly k0) p1 p2 true)
         (ift (p1.scale != p2.scale)
            (law1_exactly_j1 (law1_exactly k0) p1 p2 true)
            (ift (!(p1.s.toList == p2.s.toList))
               (law1_exactly_j1 (law1_exactly k0) p1 p2 true)
               (law1_exactly_j1 (law1_exactly k0) p1 p2 ((p1.items.length : Int) != (p2.items.length : Int))))))

abbrev qa1882 (p1 : GValue) : List PV := [pi p1.kind, pi p1.n, pi p1.scale, .s (.string p1.s), .ro (eValue.els p1.items)]
abbrev qa1883 (p2 : GValue) : List PV := [pi p2.kind, pi p2.n, pi p2.scale, .s (.string p2.s), .ro (eValue.els p2.items)]
abbrev qa1884 (e2 : GValue) : List CV := [ci e2.kind, ci e2.n, ci e2.scale, cst e2.s, cl eValue e2.items]
abbrev qa1885 (e1 : GValue) : List CV := [ci e1.kind, ci e1.n, ci e1.scale, cst e1.s, cl eValue e1.items]
abbrev qa1890 (p1 : GValue) (p2 : GValue) (x2 : Int) (e1 : GValue) (e2 : GValue) : Fr := [(56, .ag (qa1884 e2)), (55, .one (.pv (.rp (eValue.els p2.items) x2.toNat 0))), (54, vi x2), (53, vl eValue p2.items), (52, .one (.pv (.rp [(qa1883 p2)] 0 4))), (51, .ag (qa1885 e1)), (50, .one (.pv (.rp (eValue.els p1.items) x2.toNat 0))), (49, vi x2), (48, vl eValue p1.items), (47, .one (.pv (.rp [(qa1882 p1)] 0 4))), (2, .one (.pv (.rp [(qa1882 p1)] 0 0))), (3, .one (.pv (.rp [(qa1883 p2)] 0 0))), (5, vi x2), (43, vi (p1.items.length : Int)), (44, vi x2)]
abbrev qa1893 (p1 : GValue) (p2 : GValue) : Fr := [(2, .one (.pv (.rp [(qa1882 p1)] 0 0))), (3, .one (.pv (.rp [(qa1883 p2)] 0 0))), (40, vb true)]
abbrev qa1894 (p1 : GValue) (p2 : GValue) : Fr := [(2, .one (.pv (.rp [(qa1882 p1)] 0 0))), (3, .one (.pv (.rp [(qa1883 p2)] 0 0))), (25, vb (p1.scale != p2.scale))]

theorem c_law1_exactly : ∀ (k0 : Nat) (p1 : GValue) (p2 : GValue) (r : Bool), law1_exactly k0 p1 p2 = some r → PC Tryd.prog 19 [.ag [ci p1.kind, ci p1.n, ci p1.scale, cst p1.s, cl eValue p1.items], .ag [ci p2.kind, ci p2.n, ci p2.scale, cst p2.s, cl eValue p2.items]] (vb r)
 | 0, _, _, r, h => by rw [law1_exactly.eq_1] at h; cases h
 | k0 + 1, p1, p2, r, h => by
  rw [law1_exactly.eq_2] at h
  refine zF 60 Tryd.f19 (zq fun K1 hK1 => zr (zg [] 3 [2,3] (zd (hK1 _ _ (zq fun K2 hK2 => zq fun K3 hK3 => ?_)))))
  have hJ1 : ∀ (x1 : Bool), law1_exactly_j1 (law1_exactly k0) p1 p2 x1 = some r → ∀ fr1 st1, Sub 60 0 [] fr1 st1 [(2, .one (.pv (.rp [(qa1882 p1)] 0 0))), (3, .one (.pv (.rp [(qa1883 p2)] 0 0))), (40, vb x1)] [] → K3 fr1 st1 := by
   intro x1 h fr1 st1 hS
   unfold law1_exactly_j1 at h
   refine hK3 _ _ (XW.sub hS ?_)
   refine zC h (fun b8 h => ?_) (fun b8 h => ?_)
   ·refine zq fun K9 hK9 => zr (zg [] 1 [4] (zd (hK9 _ _ (ze ?_))))
    obtain rfl := Option.some.inj h
    exact zf [vb false] (.one (.rfl _ rfl))
   ·refine zs (hK2 _ _ (zq fun K10 hK10 => ?_))
    have hJ2 : ∀ (_ : Unit), law1_exactly_j2 = some r → ∀ fr1 st1, Sub 60 0 [] fr1 st1 [] [] → K10 fr1 st1 := by
     intro _ h fr1 st1 hS
     unfold law1_exactly_j2 at h
     refine hK10 _ _ (XW.sub hS ?_)
     refine zq fun K23 hK23 => zr (zg [] 1 [4] (zd (hK23 _ _ (ze ?_))))
     obtain rfl := Option.some.inj h
     exact zf [vb true] (.one (.rfl _ rfl))
    refine zq fun K11 hK11 => zr (zv [] 3 [2,3,43] [[pi p1.kind, pi p1.n, pi p1.scale, .s (.string p1.s), .ro (eValue.els p1.items)]] [(2, .one (.pv (.rp [[pi p1.kind, pi p1.n, pi p1.scale, .s (.string p1.s), .ro (eValue.els p1.items)]] 0 0))), (3, .one (.pv (.rp [[pi p2.kind, pi p2.n, pi p2.scale, .s (.string p2.s), .ro (eValue.els p2.items)]] 0 0))), (43, vi ((eValue.els p1.items).length : Int))] [] ?_)
    rw [eValue.len p1.items]
    refine zg [] 1 [2,3,43,44] (zd (hK11 _ _ (zb 0 (XW.rounds' BIG (x := cd Tryd.f19 [1,1,0,1,0,0]) (by kernel_rfl) fun Q1 hQ1 => ?_))))
    have hL1 : ∀ (k1 : Nat) (x2 : Int), law1_exactly_l1 (law1_exactly k0) p1 p2 k1 x2 = some r → XR Tryd.prog 60 0 [] (cd Tryd.f19 [1,1,0,1,0,0]) Q1 k1 [(2, .one (.pv (.rp [(qa1882 p1)] 0 0))), (3, .one (.pv (.rp [(qa1883 p2)] 0 0))), (43, vi (p1.items.length : Int)), (44, vi x2)] [] := by
     intro k1
     induction k1 with
     | zero => intro x2 h; rw [law1_exactly_l1.eq_1] at h; cases h
     | succ k1 ih1 =>
      intro x2 h
      rw [law1_exactly_l1.eq_2] at h
      refine zq fun K12 hK12 => zr (zg [] 1 [2,3,43,44,45] (zd (hK12 _ _ (zq fun K13 hK13 => zC h (fun b14 h => ?_) (fun b14 h => ?_)))))
      ·refine zs (hK13 _ _ (zq fun K15 hK15 => zb 1 (zq fun K16 hK16 => zr (zg [] 2 [2,3,5,43,44] (zd ?_)))))
       refine hK16 _ _ (zq fun K17 hK17 => ?_)
       obtain ⟨e1, a18, h⟩ := zB h
       obtain ⟨e2, a19, h⟩ := zB h
       obtain ⟨r1, c20, h⟩ := zB h
       refine zw 10 (qa1890 p1 p2 x2 e1 e2) ?_ ?_
       ·refine zyp 10 [(qa1882 p1), [pi e1.kind, pi e1.n, pi e1.scale, .s (.string e1.s), .ro (eValue.els e1.items)], (qa1883 p2), [pi e2.kind, pi e2.n, pi e2.scale, .s (.string e2.s), .ro (eValue.els e2.items)]] (qa1890 p1 p2 x2 e1 e2) [([(qa1882 p1)] : List (List PV))[0]? = some (qa1882 p1), 0 ≤ x2 ∧ x2 < ((eValue.els p1.items).length : Int) ∧ elemsOk 5 (eValue.els p1.items), (eValue.els p1.items)[x2.toNat]? = some [pi e1.kind, pi e1.n, pi e1.scale, .s (.string e1.s), .ro (eValue.els e1.items)], ([(qa1883 p2)] : List (List PV))[0]? = some (qa1883 p2), 0 ≤ x2 ∧ x2 < ((eValue.els p2.items).length : Int) ∧ elemsOk 5 (eValue.els p2.items), (eValue.els p2.items)[x2.toNat]? = some [pi e2.kind, pi e2.n, pi e2.scale, .s (.string e2.s), .ro (eValue.els e2.items)]] (⟨rfl, eValue.inb a18, ((eValue.get a18).trans (by cases e1; rfl)), rfl, eValue.inb a19, ((eValue.get a19).trans (by cases e2; rfl)), trivial⟩) ?_
        exact zyd
       refine zl 19 [.ag (qa1885 e1), .ag (qa1884 e2)] (vb r1) [(57, vb r1), (56, .ag (qa1884 e2)), (55, .one (.pv (.rp (eValue.els p2.items) x2.toNat 0))), (54, vi x2), (53, vl eValue p2.items), (52, .one (.pv (.rp [(qa1883 p2)] 0 4))), (51, .ag (qa1885 e1)), (50, .one (.pv (.rp (eValue.els p1.items) x2.toNat 0))), (49, vi x2), (48, vl eValue p1.items), (47, .one (.pv (.rp [(qa1882 p1)] 0 4))), (2, .one (.pv (.rp [(qa1882 p1)] 0 0))), (3, .one (.pv (.rp [(qa1883 p2)] 0 0))), (5, vi x2), (43, vi (p1.items.length : Int)), (44, vi x2)] (c_law1_exactly k0 _ _ _ c20) ?_
       refine zg [] 1 [2,3,43,44,58] (zd (hK17 _ _ (zC h (fun b21 h => ?_) (fun b21 h => ?_))))
       ·refine zq fun K22 hK22 => zr (zg [] 1 [4] (zd (hK22 _ _ (ze (hQ1 _ _ _ ?_)))))
        obtain rfl := Option.some.inj h
        exact zf [vb false] (.one (.rfl _ rfl))
       ·exact zs (hK15 _ _ (zr (zv [] 2 [2,3,43,44] [] [(2, .one (.pv (.rp [(qa1882 p1)] 0 0))), (3, .one (.pv (.rp [(qa1883 p2)] 0 0))), (43, vi (p1.items.length : Int)), (44, vi (IntKind.i64.wrap (x2 + (1 : Int))))] [] (zd (XR.sub (zk [2,3,43,44]) (ih1 (IntKind.i64.wrap (x2 + (1 : Int))) h))))))
      ·exact zx 0 (hQ1 _ _ _ (hJ2 () h _ _ (zk [])))
    exact XR.sub (zk [2,3,43,44]) (hL1 BIG (0 : Int) h)
  rcases zW h with ⟨b4, h⟩ | ⟨b4, h⟩
  ·exact zr (zu [] 6 [2,3,11] [(qa1882 p1), (qa1883 p2)] (zt 11 b4 (zv [] 29 [2,3,40] [] (qa1893 p1 p2) [] (zd (hJ1 true h _ _ (zk [2,3,40]))))))
  ·rcases zW h with ⟨b5, h⟩ | ⟨b5, h⟩
   ·refine zr (zu [] 6 [2,3,11] [(qa1882 p1), (qa1883 p2)] (zt 11 b4 (zu [] 7 [2,3,18] [(qa1882 p1), (qa1883 p2)] (zt 18 b5 ?_))))
    exact zv [] 22 [2,3,40] [] (qa1893 p1 p2) [] (zd (hJ1 true h _ _ (zk [2,3,40])))
   ·rcases zW h with ⟨b6, h⟩ | ⟨b6, h⟩
    ·refine zr (zu [] 6 [2,3,11] [(qa1882 p1), (qa1883 p2)] (zt 11 b4 (zu [] 7 [2,3,18] [(qa1882 p1), (qa1883 p2)] (zt 18 b5 ?_))))
     exact zv [] 7 [2,3,25] [(qa1882 p1), (qa1883 p2)] (qa1894 p1 p2) [] (zt 25 b6 (zg [] 15 [2,3,40] (zd (hJ1 true h _ _ (zk [2,3,40])))))
    ·rcases zW h with ⟨b7, h⟩ | ⟨b7, h⟩
     ·refine zr (zu [] 6 [2,3,11] [(qa1882 p1), (qa1883 p2)] (zt 11 b4 ?_))
      refine zv [] 7 [2,3,18] [(qa1882 p1), (qa1883 p2)] [(2, .one (.pv (.rp [(qa1882 p1)] 0 0))), (3, .one (.pv (.rp [(qa1883 p2)] 0 0))), (18, vb (p1.n != p2.n))] [] (zt 18 b5 ?_)
      refine zu [] 7 [2,3,25] [(qa1882 p1), (qa1883 p2)] (zt 25 b6 (zu [] 7 [2,3,32] [(qa1882 p1), (qa1883 p2)] (zt 32 b7 ?_)))
      exact zv [] 8 [2,3,40] [] (qa1893 p1 p2) [] (zd (hJ1 true h _ _ (zk [2,3,40])))
     ·refine zr (zu [] 6 [2,3,11] [(qa1882 p1), (qa1883 p2)] (zt 11 b4 (zu [] 7 [2,3,18] [(qa1882 p1), (qa1883 p2)] (zt 18 b5 ?_))))
      refine zv [] 7 [2,3,25] [(qa1882 p1), (qa1883 p2)] (qa1894 p1 p2) [] (zt 25 b6 ?_)
      refine zu [] 7 [2,3,32] [[pi p1.kind, pi p1.n, pi p1.scale, .s (.string p1.s), .ro (eValue.els p1.items)], [pi p2.kind, pi p2.n, pi p2.scale, .s (.string p2.s), .ro (eValue.els p2.items)]] (zt 32 b7 (zv [] 3 [2,3,32,35] [[pi p1.kind, pi p1.n, pi p1.scale, .s (.string p1.s), .ro (eValue.els p1.items)]] [(2, .one (.pv (.rp [[pi p1.kind, pi p1.n, pi p1.scale, .s (.string p1.s), .ro (eValue.els p1.items)]] 0 0))), (3, .one (.pv (.rp [[pi p2.kind, pi p2.n, pi p2.scale, .s (.string p2.s), .ro (eValue.els p2.items)]] 0 0))), (32, vb false), (35, vi ((eValue.els p1.items).length : Int))] [] ?_))
      rw [eValue.len p1.items]
      refine zv [] 3 [2,3,32,35,38] [[pi p2.kind, pi p2.n, pi p2.scale, .s (.string p2.s), .ro (eValue.els p2.items)]] [(2, .one (.pv (.rp [[pi p1.kind, pi p1.n, pi p1.scale, .s (.string p1.s), .ro (eValue.els p1.items)]] 0 0))), (3, .one (.pv (.rp [[pi p2.kind, pi p2.n, pi p2.scale, .s (.string p2.s), .ro (eValue.els p2.items)]] 0 0))), (32, vb false), (35, vi (p1.items.length : Int)), (38, vi ((eValue.els p2.items).length : Int))] [] ?_
      rw [eValue.len p2.items]
      exact zg [] 2 [2,3,40] (zd (hJ1 ((p1.items.length : Int) != (p2.items.length : Int)) h _ _ (zk [2,3,40])))

def ref1_isNumber_j1 (x1 : Bool) : Option Bool :=
    some x1

def ref1_isNumber (p1 : Int) : Option Bool :=
    ift (p1 == (2 : Int))
      (ref1_isNumber_j1 true)
      (ref1_isNumber_j1 (p1 == (3 : Int)))


theorem c_ref1_isNumber (p1 : Int) (r : Bool) (h : ref1_isNumber p1 = some r) : PC Tryd.prog 52 [vi p1] (vb r) := by
 unfold ref1_isNumber at h
 refine zF 9 Tryd.f52 (zq fun K1 hK1 => zr (zg [] 1 [0] (zd (hK1 _ _ (zq fun K2 hK2 => ?_)))))
 have hJ1 : ∀ (x1 : Bool), ref1_isNumber_j1 x1 = some r → ∀ fr1 st1, Sub 9 0 [] fr1 st1 [(2, vb x1)] [] → K2 fr1 st1 := by
  intro x1 h fr1 st1 hS
  unfold ref1_isNumber_j1 at h
  refine hK2 _ _ (XW.sub hS ?_)
  refine ze ?_
  obtain rfl := Option.some.inj h
  exact zf [vb x1] (.one (.rfl _ rfl))
 rcases zW h with ⟨b3, h⟩ | ⟨b3, h⟩
 ·exact zr (zg [] 3 [0,5] (zt 5 b3 (zv [] 4 [2] [] [(2, vb true)] [] (zd (hJ1 true h _ _ (zk [2]))))))
 ·exact zr (zg [] 3 [0,5] (zt 5 b3 (zg [] 4 [2] (zd (hJ1 (p1 == (3 : Int)) h _ _ (zk [2]))))))

def ref1_within_j1 (x1 : Bool) : Option Bool :=
    some x1

def ref1_within (p1 : Int) (p2 : Int) (p3 : Int) : Option Bool :=
    ift (decide (p2 ≤ p1))
      (ref1_within_j1 (decide (p1 ≤ p3)))
      (ref1_within_j1 false)


theorem c_ref1_within (p1 : Int) (p2 : Int) (p3 : Int) (r : Bool) (h : ref1_within p1 p2 p3 = some r) : PC Tryd.prog 68 [vi p1, vi p2, vi p3] (vb r) := by
 unfold ref1_within at h
 refine zF 15 Tryd.f68 (zq fun K1 hK1 => zr (zg [] 1 [0,1,2] (zd (hK1 _ _ (zq fun K2 hK2 => ?_)))))
 have hJ1 : ∀ (x1 : Bool), ref1_within_j1 x1 = some r → ∀ fr1 st1, Sub 15 0 [] fr1 st1 [(6, vb x1)] [] → K2 fr1 st1 := by
  intro x1 h fr1 st1 hS
  unfold ref1_within_j1 at h
  refine hK2 _ _ (XW.sub hS ?_)
  refine ze ?_
  obtain rfl := Option.some.inj h
  exact zf [vb x1] (.one (.rfl _ rfl))
 rcases zW h with ⟨b3, h⟩ | ⟨b3, h⟩
 ·exact zr (zg [] 4 [0,2,10] (zt 10 b3 (zv [] 5 [6] [] [(6, vb (decide (p1 ≤ p3)))] [] (zd (hJ1 (decide (p1 ≤ p3)) h _ _ (zk [6]))))))
 ·exact zr (zg [] 4 [0,2,10] (zt 10 b3 (zg [] 5 [6] (zd (hJ1 false h _ _ (zk [6]))))))

def ref1_characters_j2 (rec1 : Int → Option Bool) (x2 : Int) (x3 : Bool) : Option Bool :=
    ift x3
      (some false)
      (rec1 (IntKind.i64.wrap (x2 + (1 : Int))))

def ref1_characters_j3 : Option Bool :=
    some true

def ref1_characters_l1 (p1 : ByteArray) : Nat → Int → Option Bool
  | 0, _ => none
  | k1 + 1, x2 =>
    ift (decide (x2 < (p1.size : Int)))
      (grd (0 ≤ x2 ∧ x2 < (p1.size : Int)) <|
       bnd (some (decide (((p1.data.toList.getD x2.toNat 0).toNat : Int) < (32 : Int)))) fun y1 =>
       ift y1
         (ref1_characters_j2 (ref1_characters_l1 p1 k1) x2 true)
         (grd (0 ≤ x2 ∧ x2 < (p1.size : Int)) <|
          ref1_characters_j2 (ref1_characters_l1 p1 k1) x2 (((p1.data.toList.getD x2.toNat 0).toNat : Int) == (127 : Int))))
      (ref1_characters_j3)

def ref1_characters_j1 (p1 : ByteArray) (x1 : Bool) : Option Bool :=
    ift x1
      (some false)
      (ref1_characters_l1 p1 BIG (0 : Int))

def ref1_characters (p1 : ByteArray) : Option Bool :=
    bnd (utf8_ValidString p1) fun r1 =>
    ift (!r1)
      (ref1_characters_j1 p1 true)
      (ref1_characters_j1 p1 (decide ((256 : Int) < (p1.size : Int))))


theorem c_ref1_characters (p1 : ByteArray) (r : Bool) (h : ref1_characters p1 = some r) : PC Tryd.prog 115 [vs p1] (vb r) := by
 unfold ref1_characters at h
 refine zF 28 Tryd.f115 (zq fun K1 hK1 => zr (zg [] 1 [0] (zd (hK1 _ _ (zq fun K2 hK2 => zq fun K3 hK3 => ?_)))))
 have hJ1 : ∀ (x1 : Bool), ref1_characters_j1 p1 x1 = some r → ∀ fr1 st1, Sub 28 0 [] fr1 st1 [(0, vs p1), (11, vb x1)] [] → K3 fr1 st1 := by
  intro x1 h fr1 st1 hS
  unfold ref1_characters_j1 at h
  refine hK3 _ _ (XW.sub hS ?_)
  refine zC h (fun b6 h => ?_) (fun b6 h => ?_)
  ·refine zq fun K7 hK7 => zr (zg [] 1 [2] (zd (hK7 _ _ (ze ?_))))
   obtain rfl := Option.some.inj h
   exact zf [vb false] (.one (.rfl _ rfl))
  ·refine zs (hK2 _ _ (zq fun K8 hK8 => ?_))
   have hJ3 : ∀ (_ : Unit), ref1_characters_j3 = some r → ∀ fr1 st1, Sub 28 0 [] fr1 st1 [] [] → K8 fr1 st1 := by
    intro _ h fr1 st1 hS
    unfold ref1_characters_j3 at h
    refine hK8 _ _ (XW.sub hS ?_)
    refine zq fun K21 hK21 => zr (zg [] 1 [2] (zd (hK21 _ _ (ze ?_))))
    obtain rfl := Option.some.inj h
    exact zf [vb true] (.one (.rfl _ rfl))
   refine zq fun K9 hK9 => zr (zg [] 1 [0,3] (zd (hK9 _ _ (zb 0 (XW.rounds' BIG (x := cd Tryd.f115 [1,1,0,1,0,0]) (by kernel_rfl) fun Q1 hQ1 => ?_)))))
   have hL1 : ∀ (k1 : Nat) (x2 : Int), ref1_characters_l1 p1 k1 x2 = some r → XR Tryd.prog 28 0 [] (cd Tryd.f115 [1,1,0,1,0,0]) Q1 k1 [(0, vs p1), (3, vi x2)] [] := by
    intro k1
    induction k1 with
    | zero => intro x2 h; rw [ref1_characters_l1.eq_1] at h; cases h
    | succ k1 ih1 =>
     intro x2 h
     rw [ref1_characters_l1.eq_2] at h
     refine zq fun K10 hK10 => zq fun K11 hK11 => zr (zg [] 4 [0,3,15] (zd (hK11 _ _ (zC h (fun b12 h => ?_) (fun b12 h => ?_)))))
     ·refine zs (hK10 _ _ (zq fun K13 hK13 => zb 1 (zq fun K14 hK14 => ?_)))
      have hJ2 : ∀ (x3 : Bool), ref1_characters_j2 (ref1_characters_l1 p1 k1) x2 x3 = some r → ∀ fr1 st1, Sub 28 0 [] fr1 st1 [(0, vs p1), (3, vi x2), (27, vb x3)] [] → K14 fr1 st1 := by
       intro x3 h fr1 st1 hS
       unfold ref1_characters_j2 at h
       refine hK14 _ _ (XW.sub hS ?_)
       refine zC h (fun b19 h => ?_) (fun b19 h => ?_)
       ·refine zq fun K20 hK20 => zr (zg [] 1 [2] (zd (hK20 _ _ (ze (hQ1 _ _ _ ?_)))))
        obtain rfl := Option.some.inj h
        exact zf [vb false] (.one (.rfl _ rfl))
       ·exact zs (hK13 _ _ (zr (zg [] 3 [0,3] (zd (XR.sub (zk [0,3]) (ih1 (IntKind.i64.wrap (x2 + (1 : Int))) h))))))
      obtain ⟨g15, h⟩ := zG h
      obtain ⟨y1, hy16, h⟩ := zB h
      rcases zW h with ⟨b17, h⟩ | ⟨b17, h⟩
      ·refine zr (zp [] 4 [0,3,21] [] [(0, vs p1), (3, vi x2), (21, vb (decide (((p1.data.toList.getD x2.toNat 0).toNat : Int) < (32 : Int))))] [] [0 ≤ x2 ∧ x2 < (p1.size : Int)] (⟨g15, trivial⟩) ?_)
       rw [show (decide (((p1.data.toList.getD x2.toNat 0).toNat : Int) < (32 : Int))) = y1 from Option.some.inj hy16]
       exact zg [] 1 [0,3,22] (zt 22 b17 (zg [] 5 [0,3,27] (zd (hJ2 true h _ _ (zk [0,3,27])))))
      ·obtain ⟨g18, h⟩ := zG h
       refine zr (zp [] 4 [0,3,21] [] [(0, vs p1), (3, vi x2), (21, vb (decide (((p1.data.toList.getD x2.toNat 0).toNat : Int) < (32 : Int))))] [] [0 ≤ x2 ∧ x2 < (p1.size : Int)] (⟨g15, trivial⟩) ?_)
       rw [show (decide (((p1.data.toList.getD x2.toNat 0).toNat : Int) < (32 : Int))) = y1 from Option.some.inj hy16]
       exact zg [] 1 [0,3,22] (zt 22 b17 (zo [] 5 [0,3,27] [] [0 ≤ x2 ∧ x2 < (p1.size : Int)] (⟨g18, trivial⟩) (zd (hJ2 (((p1.data.toList.getD x2.toNat 0).toNat : Int) == (127 : Int)) h _ _ (zk [0,3,27])))))
     ·exact zx 0 (hQ1 _ _ _ (hJ3 () h _ _ (zk [])))
   exact XR.sub (zk [0,3]) (hL1 BIG (0 : Int) h)
 obtain ⟨r1, c4, h⟩ := zB h
 rcases zW h with ⟨b5, h⟩ | ⟨b5, h⟩
 ·exact zr (zg [] 1 [0,4] (zl 126 [vs p1] (vb r1) [(5, vb r1), (0, vs p1), (4, vs p1)] (c_utf8_ValidString _ _ c4) (zg [] 2 [0,7] (zt 7 b5 (zg [] 4 [0,11] (zd (hJ1 true h _ _ (zk [0,11]))))))))
 ·exact zr (zv [] 1 [0,4] [] [(0, vs p1), (4, vs p1)] [] (za (c_utf8_ValidString _ _ c4) (zg [] 2 [0,7] (zt 7 b5 (zv [] 4 [0,11] [] [(0, vs p1), (11, vb (decide ((256 : Int) < (p1.size : Int))))] [] (zd (hJ1 (decide ((256 : Int) < (p1.size : Int))) h _ _ (zk [0,11]))))))))

def ref1_alone_j2 (x2 : Bool) : Option Bool :=
    some x2

def ref1_alone_j3 (x3 : Bool) : Option Bool :=
    some x3

def ref1_alone_j4 (x4 : Bool) : Option Bool :=
    some x4

def ref1_alone_j5 (x5 : Bool) : Option Bool :=
    some x5

def ref1_alone_j6 (x6 : Bool) : Option Bool :=
    some x6

def ref1_alone_j7 (x7 : Bool) : Option Bool :=
    some x7

def ref1_alone_j8 (x8 : Bool) : Option Bool :=
    some x8

def ref1_alone_j9 (x9 : Bool) : Option Bool :=
    some x9

def ref1_alone_j1 (p1 : GValue) (x1 : Bool) : Option Bool :=
    ift (p1.kind == (0 : Int))
      (ift x1
         (ift (p1.n == (0 : Int))
            (ref1_alone_j2 (p1.scale == (0 : Int)))
            (ref1_alone_j2 false))
         (ref1_alone_j2 false))
      (ift (p1.kind == (1 : Int))
         (ift x1
            (bnd (ref1_within p1.n (0 : Int) (1 : Int)) fun r1 =>
             ift r1
               (ref1_alone_j3 (p1.scale == (0 : Int)))
               (ref1_alone_j3 false))
            (ref1_alone_j3 false))
         (ift (p1.kind == (2 : Int))
            (ift x1
               (bnd (ref1_within p1.n (-999999999999999999 : Int) (999999999999999999 : Int)) fun r2 =>
                ift r2
                  (ref1_alone_j4 (p1.scale == (0 : Int)))
                  (ref1_alone_j4 false))
               (ref1_alone_j4 false))
            (ift (p1.kind == (3 : Int))
               (ift x1
                  (bnd (ref1_within p1.n (-999999999999999999 : Int) (999999999999999999 : Int)) fun r3 =>
                   ift r3
                     (bnd (ref1_within p1.scale (0 : Int) (12 : Int)) fun r4 =>
                      ref1_alone_j5 r4)
                     (ref1_alone_j5 false))
                  (ref1_alone_j5 false))
               (ift (p1.kind == (4 : Int))
                  (ift ((p1.items.length : Int) == (0 : Int))
                     (ift (p1.n == (0 : Int))
                        (ift (p1.scale == (0 : Int))
                           (bnd (ref1_characters p1.s) fun r5 =>
                            ref1_alone_j6 r5)
                           (ref1_alone_j6 false))
                        (ref1_alone_j6 false))
                     (ref1_alone_j6 false))
                  (ift (p1.kind == (5 : Int))
                     (ift x1
                        (bnd (ref1_within p1.n (-62135596800 : Int) (253402300799 : Int)) fun r6 =>
                         ift r6
                           (ref1_alone_j7 (p1.scale == (0 : Int)))
                           (ref1_alone_j7 false))
                        (ref1_alone_j7 false))
                     (ift (p1.kind == (6 : Int))
                        (ift (p1.s.toList == (ByteArray.mk #[]).toList)
                           (ift (p1.n == (0 : Int))
                              (ift (p1.scale == (0 : Int))
                                 (ref1_alone_j8 (decide ((p1.items.length : Int) ≤ (64 : Int))))
                                 (ref1_alone_j8 false))
                              (ref1_alone_j8 false))
                           (ref1_alone_j8 false))
                        (ift (p1.kind == (7 : Int))
                           (ift (p1.s.toList == (ByteArray.mk #[]).toList)
                              (ift (p1.n == (0 : Int))
                                 (ift (p1.scale == (0 : Int))
                                    (ref1_alone_j9 (decide ((0 : Int) < (p1.items.length : Int))))
                                    (ref1_alone_j9 false))
                                 (ref1_alone_j9 false))
                              (ref1_alone_j9 false))
                           (some false))))))))

def ref1_alone (p1 : GValue) : Option Bool :=
    ift (p1.s.toList == (ByteArray.mk #[]).toList)
      (ref1_alone_j1 p1 ((p1.items.length : Int) == (0 : Int)))
      (ref1_alone_j1 p1 false)

abbrev qa1907 (p1 : GValue) : List PV := [pi p1.kind, pi p1.n, pi p1.scale, .s (.string p1.s), .ro (eValue.els p1.items)]
abbrev qa1935 (p1 : GValue) : Fr := [(1, .one (.pv (.rp [(qa1907 p1)] 0 0))), (106, vb (p1.s.toList == (ByteArray.mk #[]).toList))]

theorem c_ref1_alone (p1 : GValue) (r : Bool) (h : ref1_alone p1 = some r) : PC Tryd.prog 79 [.ag [ci p1.kind, ci p1.n, ci p1.scale, cst p1.s, cl eValue p1.items]] (vb r) := by
 unfold ref1_alone at h
 refine zF 143 Tryd.f79 (zq fun K1 hK1 => zr (zg [] 2 [1] (zd (hK1 _ _ (zq fun K2 hK2 => ?_)))))
 have hJ1 : ∀ (x1 : Bool), ref1_alone_j1 p1 x1 = some r → ∀ fr1 st1, Sub 143 0 [] fr1 st1 [(1, .one (.pv (.rp [(qa1907 p1)] 0 0))), (3, vb x1)] [] → K2 fr1 st1 := by
  intro x1 h fr1 st1 hS
  unfold ref1_alone_j1 at h
  refine hK2 _ _ (XW.sub hS ?_)
  refine zq fun K4 hK4 => zq fun K5 hK5 => zr (zu [] 2 [1,3,14] [(qa1907 p1)] (zd (hK5 _ _ (zb 0 (zq fun K6 hK6 => ?_)))))
  refine zr (zg [] 2 [1,3,14,15] (zd (hK6 _ _ (zC h (fun b7 h => ?_) (fun b7 h => ?_)))))
  ·refine zq fun K8 hK8 => ?_
   have hJ2 : ∀ (x2 : Bool), ref1_alone_j2 x2 = some r → ∀ fr1 st1, Sub 143 0 [] fr1 st1 [(2, vb x2)] [] → K8 fr1 st1 := by
    intro x2 h fr1 st1 hS
    unfold ref1_alone_j2 at h
    refine hK8 _ _ (XW.sub hS ?_)
    refine ze ?_
    obtain rfl := Option.some.inj h
    exact zf [vb x2] (.one (.rfl _ rfl))
   rcases zW h with ⟨b9, h⟩ | ⟨b9, h⟩
   ·rcases zW h with ⟨b10, h⟩ | ⟨b10, h⟩
    ·exact zr (zv [] 2 [1,18] [] [(1, .one (.pv (.rp [(qa1907 p1)] 0 0))), (18, vb x1)] [] (zt 18 b9 (zu [] 5 [1,23] [(qa1907 p1)] (zt 23 b10 (zu [] 5 [2] [(qa1907 p1)] (zd (hJ2 (p1.scale == (0 : Int)) h _ _ (zk [2]))))))))
    ·exact zr (zv [] 2 [1,18] [] [(1, .one (.pv (.rp [(qa1907 p1)] 0 0))), (18, vb x1)] [] (zt 18 b9 (zu [] 5 [1,23] [(qa1907 p1)] (zt 23 b10 (zg [] 5 [2] (zd (hJ2 false h _ _ (zk [2]))))))))
   ·exact zr (zv [] 2 [1,18] [] [(1, .one (.pv (.rp [(qa1907 p1)] 0 0))), (18, vb x1)] [] (zt 18 b9 (zg [] 10 [2] (zd (hJ2 false h _ _ (zk [2]))))))
  ·refine zq fun K11 hK11 => zr (zv [] 2 [1,3,14,28] [] [(1, .one (.pv (.rp [(qa1907 p1)] 0 0))), (3, vb x1), (14, vi p1.kind), (28, vb (p1.kind == (1 : Int)))] [] (zd (hK11 _ _ (zC h (fun b12 h => ?_) (fun b12 h => ?_)))))
   ·refine zq fun K13 hK13 => ?_
    have hJ3 : ∀ (x3 : Bool), ref1_alone_j3 x3 = some r → ∀ fr1 st1, Sub 143 0 [] fr1 st1 [(2, vb x3)] [] → K13 fr1 st1 := by
     intro x3 h fr1 st1 hS
     unfold ref1_alone_j3 at h
     refine hK13 _ _ (XW.sub hS ?_)
     refine ze ?_
     obtain rfl := Option.some.inj h
     exact zf [vb x3] (.one (.rfl _ rfl))
    rcases zW h with ⟨b14, h⟩ | ⟨b14, h⟩
    ·obtain ⟨r1, c15, h⟩ := zB h
     rcases zW h with ⟨b16, h⟩ | ⟨b16, h⟩
     ·refine zr (zg [] 2 [1,31] (zt 31 b14 (zu [] 2 [1,31,33] [(qa1907 p1)] (zl 68 [vi p1.n, vi (0 : Int), vi (1 : Int)] (vb r1) [(34, vb r1), (1, .one (.pv (.rp [(qa1907 p1)] 0 0))), (31, vb true), (33, vi p1.n)] (c_ref1_within _ _ _ _ c15) (zg [] 2 [1,36] (zt 36 b16 (zu [] 5 [2] [(qa1907 p1)] ?_)))))))
      exact zd (hJ3 (p1.scale == (0 : Int)) h _ _ (zk [2]))
     ·refine zr (zv [] 2 [1,31] [] [(1, .one (.pv (.rp [(qa1907 p1)] 0 0))), (31, vb x1)] [] (zt 31 b14 (zu [] 2 [1,31,33] [(qa1907 p1)] (za (c_ref1_within _ _ _ _ c15) (zv [] 2 [1,36] [] [(1, .one (.pv (.rp [(qa1907 p1)] 0 0))), (36, vb r1)] [] (zt 36 b16 (zg [] 5 [2] ?_)))))))
      exact zd (hJ3 false h _ _ (zk [2]))
    ·exact zr (zg [] 2 [1,31] (zt 31 b14 (zg [] 10 [2] (zd (hJ3 false h _ _ (zk [2]))))))
   ·refine zq fun K17 hK17 => zr (zg [] 2 [1,3,14,41] (zd (hK17 _ _ (zC h (fun b18 h => ?_) (fun b18 h => ?_)))))
    ·refine zq fun K19 hK19 => ?_
     have hJ4 : ∀ (x4 : Bool), ref1_alone_j4 x4 = some r → ∀ fr1 st1, Sub 143 0 [] fr1 st1 [(2, vb x4)] [] → K19 fr1 st1 := by
      intro x4 h fr1 st1 hS
      unfold ref1_alone_j4 at h
      refine hK19 _ _ (XW.sub hS ?_)
      refine ze ?_
      obtain rfl := Option.some.inj h
      exact zf [vb x4] (.one (.rfl _ rfl))
     rcases zW h with ⟨b20, h⟩ | ⟨b20, h⟩
     ·obtain ⟨r2, c21, h⟩ := zB h
      rcases zW h with ⟨b22, h⟩ | ⟨b22, h⟩
      ·refine zr (zg [] 2 [1,44] (zt 44 b20 (zv [] 2 [1,44,46] [(qa1907 p1)] [(1, .one (.pv (.rp [(qa1907 p1)] 0 0))), (44, vb true), (46, vi p1.n)] [] (za (c_ref1_within _ _ _ _ c21) (zg [] 2 [1,49] (zt 49 b22 (zv [] 5 [2] [(qa1907 p1)] [(2, vb (p1.scale == (0 : Int)))] [] ?_)))))))
       exact zd (hJ4 (p1.scale == (0 : Int)) h _ _ (zk [2]))
      ·refine zr (zg [] 2 [1,44] (zt 44 b20 (zu [] 2 [1,44,46] [(qa1907 p1)] (zl 68 [vi p1.n, vi (-999999999999999999 : Int), vi (999999999999999999 : Int)] (vb r2) [(47, vb r2), (1, .one (.pv (.rp [(qa1907 p1)] 0 0))), (44, vb true), (46, vi p1.n)] (c_ref1_within _ _ _ _ c21) (zg [] 2 [1,49] (zt 49 b22 (zg [] 5 [2] ?_)))))))
       exact zd (hJ4 false h _ _ (zk [2]))
     ·exact zr (zg [] 2 [1,44] (zt 44 b20 (zv [] 10 [2] [] [(2, vb false)] [] (zd (hJ4 false h _ _ (zk [2]))))))
    ·refine zq fun K23 hK23 => zr (zg [] 2 [1,3,14,54] (zd (hK23 _ _ (zC h (fun b24 h => ?_) (fun b24 h => ?_)))))
     ·refine zq fun K25 hK25 => ?_
      have hJ5 : ∀ (x5 : Bool), ref1_alone_j5 x5 = some r → ∀ fr1 st1, Sub 143 0 [] fr1 st1 [(2, vb x5)] [] → K25 fr1 st1 := by
       intro x5 h fr1 st1 hS
       unfold ref1_alone_j5 at h
       refine hK25 _ _ (XW.sub hS ?_)
       refine ze ?_
       obtain rfl := Option.some.inj h
       exact zf [vb x5] (.one (.rfl _ rfl))
      rcases zW h with ⟨b26, h⟩ | ⟨b26, h⟩
      ·obtain ⟨r3, c27, h⟩ := zB h
       rcases zW h with ⟨b28, h⟩ | ⟨b28, h⟩
       ·obtain ⟨r4, c29, h⟩ := zB h
        refine zr (zv [] 2 [1,57] [] [(1, .one (.pv (.rp [(qa1907 p1)] 0 0))), (57, vb x1)] [] (zt 57 b26 (zu [] 2 [1,57,59] [(qa1907 p1)] (za (c_ref1_within _ _ _ _ c27) (zv [] 2 [1,62] [] [(1, .one (.pv (.rp [(qa1907 p1)] 0 0))), (62, vb r3)] [] (zt 62 b28 (zu [] 2 [62,64] [(qa1907 p1)] ?_)))))))
        exact za (c_ref1_within _ _ _ _ c29) (zv [] 2 [2] [] [(2, vb r4)] [] (zd (hJ5 r4 h _ _ (zk [2]))))
       ·refine zr (zg [] 2 [1,57] (zt 57 b26 (zu [] 2 [1,57,59] [(qa1907 p1)] (zl 68 [vi p1.n, vi (-999999999999999999 : Int), vi (999999999999999999 : Int)] (vb r3) [(60, vb r3), (1, .one (.pv (.rp [(qa1907 p1)] 0 0))), (57, vb true), (59, vi p1.n)] (c_ref1_within _ _ _ _ c27) (zg [] 2 [1,62] (zt 62 b28 (zg [] 5 [2] ?_)))))))
        exact zd (hJ5 false h _ _ (zk [2]))
      ·exact zr (zv [] 2 [1,57] [] [(1, .one (.pv (.rp [(qa1907 p1)] 0 0))), (57, vb x1)] [] (zt 57 b26 (zg [] 10 [2] (zd (hJ5 false h _ _ (zk [2]))))))
     ·refine zq fun K30 hK30 => zr (zv [] 2 [1,3,14,67] [] [(1, .one (.pv (.rp [(qa1907 p1)] 0 0))), (3, vb x1), (14, vi p1.kind), (67, vb (p1.kind == (4 : Int)))] [] (zd (hK30 _ _ (zC h (fun b31 h => ?_) (fun b31 h => ?_)))))
      ·refine zq fun K32 hK32 => ?_
       have hJ6 : ∀ (x6 : Bool), ref1_alone_j6 x6 = some r → ∀ fr1 st1, Sub 143 0 [] fr1 st1 [(2, vb x6)] [] → K32 fr1 st1 := by
        intro x6 h fr1 st1 hS
        unfold ref1_alone_j6 at h
        refine hK32 _ _ (XW.sub hS ?_)
        refine ze ?_
        obtain rfl := Option.some.inj h
        exact zf [vb x6] (.one (.rfl _ rfl))
       rcases zW h with ⟨b33, h⟩ | ⟨b33, h⟩
       ·rcases zW h with ⟨b34, h⟩ | ⟨b34, h⟩
        ·rcases zW h with ⟨b35, h⟩ | ⟨b35, h⟩
         ·obtain ⟨r5, c36, h⟩ := zB h
          refine zr (zv [] 3 [1,71] [[pi p1.kind, pi p1.n, pi p1.scale, .s (.string p1.s), .ro (eValue.els p1.items)]] [(1, .one (.pv (.rp [[pi p1.kind, pi p1.n, pi p1.scale, .s (.string p1.s), .ro (eValue.els p1.items)]] 0 0))), (71, vi ((eValue.els p1.items).length : Int))] [] ?_)
          rw [eValue.len p1.items]
          refine zg [] 2 [1,73] (zt 73 b33 (zu [] 5 [1,78] [(qa1907 p1)] (zt 78 b34 (zv [] 5 [1,83] [(qa1907 p1)] [(1, .one (.pv (.rp [(qa1907 p1)] 0 0))), (83, vb (p1.scale == (0 : Int)))] [] (zt 83 b35 (zu [] 2 [83,85] [(qa1907 p1)] (za (c_ref1_characters _ _ c36) ?_)))))))
          exact zv [] 2 [2] [] [(2, vb r5)] [] (zd (hJ6 r5 h _ _ (zk [2])))
         ·refine zr (zv [] 3 [1,71] [[pi p1.kind, pi p1.n, pi p1.scale, .s (.string p1.s), .ro (eValue.els p1.items)]] [(1, .one (.pv (.rp [[pi p1.kind, pi p1.n, pi p1.scale, .s (.string p1.s), .ro (eValue.els p1.items)]] 0 0))), (71, vi ((eValue.els p1.items).length : Int))] [] ?_)
          rw [eValue.len p1.items]
          refine zg [] 2 [1,73] (zt 73 b33 (zu [] 5 [1,78] [(qa1907 p1)] (zt 78 b34 (zv [] 5 [1,83] [(qa1907 p1)] [(1, .one (.pv (.rp [(qa1907 p1)] 0 0))), (83, vb (p1.scale == (0 : Int)))] [] (zt 83 b35 (zg [] 5 [2] (zd ?_)))))))
          exact hJ6 false h _ _ (zk [2])
        ·refine zr (zv [] 3 [1,71] [[pi p1.kind, pi p1.n, pi p1.scale, .s (.string p1.s), .ro (eValue.els p1.items)]] [(1, .one (.pv (.rp [[pi p1.kind, pi p1.n, pi p1.scale, .s (.string p1.s), .ro (eValue.els p1.items)]] 0 0))), (71, vi ((eValue.els p1.items).length : Int))] [] ?_)
         rw [eValue.len p1.items]
         exact zg [] 2 [1,73] (zt 73 b33 (zu [] 5 [1,78] [(qa1907 p1)] (zt 78 b34 (zv [] 10 [2] [] [(2, vb false)] [] (zd (hJ6 false h _ _ (zk [2])))))))
       ·refine zr (zv [] 3 [1,71] [[pi p1.kind, pi p1.n, pi p1.scale, .s (.string p1.s), .ro (eValue.els p1.items)]] [(1, .one (.pv (.rp [[pi p1.kind, pi p1.n, pi p1.scale, .s (.string p1.s), .ro (eValue.els p1.items)]] 0 0))), (71, vi ((eValue.els p1.items).length : Int))] [] ?_)
        rw [eValue.len p1.items]
        exact zg [] 2 [1,73] (zt 73 b33 (zg [] 15 [2] (zd (hJ6 false h _ _ (zk [2])))))
      ·refine zq fun K37 hK37 => zr (zg [] 2 [1,3,14,88] (zd (hK37 _ _ (zC h (fun b38 h => ?_) (fun b38 h => ?_)))))
       ·refine zq fun K39 hK39 => ?_
        have hJ7 : ∀ (x7 : Bool), ref1_alone_j7 x7 = some r → ∀ fr1 st1, Sub 143 0 [] fr1 st1 [(2, vb x7)] [] → K39 fr1 st1 := by
         intro x7 h fr1 st1 hS
         unfold ref1_alone_j7 at h
         refine hK39 _ _ (XW.sub hS ?_)
         refine ze ?_
         obtain rfl := Option.some.inj h
         exact zf [vb x7] (.one (.rfl _ rfl))
        rcases zW h with ⟨b40, h⟩ | ⟨b40, h⟩
        ·obtain ⟨r6, c41, h⟩ := zB h
         rcases zW h with ⟨b42, h⟩ | ⟨b42, h⟩
         ·refine zr (zg [] 2 [1,91] (zt 91 b40 (zv [] 2 [1,91,93] [(qa1907 p1)] [(1, .one (.pv (.rp [(qa1907 p1)] 0 0))), (91, vb true), (93, vi p1.n)] [] (za (c_ref1_within _ _ _ _ c41) (zg [] 2 [1,96] (zt 96 b42 (zv [] 5 [2] [(qa1907 p1)] [(2, vb (p1.scale == (0 : Int)))] [] ?_)))))))
          exact zd (hJ7 (p1.scale == (0 : Int)) h _ _ (zk [2]))
         ·refine zr (zg [] 2 [1,91] (zt 91 b40 (zu [] 2 [1,91,93] [(qa1907 p1)] (zl 68 [vi p1.n, vi (-62135596800 : Int), vi (253402300799 : Int)] (vb r6) [(94, vb r6), (1, .one (.pv (.rp [(qa1907 p1)] 0 0))), (91, vb true), (93, vi p1.n)] (c_ref1_within _ _ _ _ c41) (zg [] 2 [1,96] (zt 96 b42 (zg [] 5 [2] ?_)))))))
          exact zd (hJ7 false h _ _ (zk [2]))
        ·exact zr (zg [] 2 [1,91] (zt 91 b40 (zv [] 10 [2] [] [(2, vb false)] [] (zd (hJ7 false h _ _ (zk [2]))))))
       ·refine zq fun K43 hK43 => zr (zg [] 2 [1,14,101] (zd (hK43 _ _ (zC h (fun b44 h => ?_) (fun b44 h => ?_)))))
        ·refine zq fun K45 hK45 => ?_
         have hJ8 : ∀ (x8 : Bool), ref1_alone_j8 x8 = some r → ∀ fr1 st1, Sub 143 0 [] fr1 st1 [(2, vb x8)] [] → K45 fr1 st1 := by
          intro x8 h fr1 st1 hS
          unfold ref1_alone_j8 at h
          refine hK45 _ _ (XW.sub hS ?_)
          refine ze ?_
          obtain rfl := Option.some.inj h
          exact zf [vb x8] (.one (.rfl _ rfl))
         rcases zW h with ⟨b46, h⟩ | ⟨b46, h⟩
         ·rcases zW h with ⟨b47, h⟩ | ⟨b47, h⟩
          ·rcases zW h with ⟨b48, h⟩ | ⟨b48, h⟩
           ·refine zr (zv [] 4 [1,106] [(qa1907 p1)] (qa1935 p1) [] (zt 106 b46 (zu [] 5 [1,111] [(qa1907 p1)] (zt 111 b47 (zu [] 5 [1,116] [(qa1907 p1)] (zt 116 b48 ?_))))))
            refine zv [] 3 [116,119] [[pi p1.kind, pi p1.n, pi p1.scale, .s (.string p1.s), .ro (eValue.els p1.items)]] [(116, vb true), (119, vi ((eValue.els p1.items).length : Int))] [] ?_
            rw [eValue.len p1.items]
            exact zg [] 3 [2] (zd (hJ8 (decide ((p1.items.length : Int) ≤ (64 : Int))) h _ _ (zk [2])))
           ·refine zr (zu [] 4 [1,106] [(qa1907 p1)] (zt 106 b46 (zv [] 5 [1,111] [(qa1907 p1)] [(1, .one (.pv (.rp [(qa1907 p1)] 0 0))), (111, vb (p1.n == (0 : Int)))] [] (zt 111 b47 (zu [] 5 [1,116] [(qa1907 p1)] (zt 116 b48 (zg [] 6 [2] ?_)))))))
            exact zd (hJ8 false h _ _ (zk [2]))
          ·exact zr (zv [] 4 [1,106] [(qa1907 p1)] (qa1935 p1) [] (zt 106 b46 (zu [] 5 [1,111] [(qa1907 p1)] (zt 111 b47 (zg [] 11 [2] (zd (hJ8 false h _ _ (zk [2]))))))))
         ·exact zr (zv [] 4 [1,106] [(qa1907 p1)] (qa1935 p1) [] (zt 106 b46 (zg [] 16 [2] (zd (hJ8 false h _ _ (zk [2]))))))
        ·refine zq fun K49 hK49 => zr (zv [] 2 [1,122] [] [(1, .one (.pv (.rp [(qa1907 p1)] 0 0))), (122, vb (p1.kind == (7 : Int)))] [] (zd (hK49 _ _ (zC h (fun b50 h => ?_) (fun b50 h => ?_)))))
         ·refine zq fun K51 hK51 => ?_
          have hJ9 : ∀ (x9 : Bool), ref1_alone_j9 x9 = some r → ∀ fr1 st1, Sub 143 0 [] fr1 st1 [(2, vb x9)] [] → K51 fr1 st1 := by
           intro x9 h fr1 st1 hS
           unfold ref1_alone_j9 at h
           refine hK51 _ _ (XW.sub hS ?_)
           refine ze ?_
           obtain rfl := Option.some.inj h
           exact zf [vb x9] (.one (.rfl _ rfl))
          rcases zW h with ⟨b52, h⟩ | ⟨b52, h⟩
          ·rcases zW h with ⟨b53, h⟩ | ⟨b53, h⟩
           ·rcases zW h with ⟨b54, h⟩ | ⟨b54, h⟩
            ·refine zr (zu [] 4 [1,127] [(qa1907 p1)] (zt 127 b52 (zu [] 5 [1,132] [(qa1907 p1)] (zt 132 b53 (zv [] 5 [1,137] [(qa1907 p1)] [(1, .one (.pv (.rp [(qa1907 p1)] 0 0))), (137, vb (p1.scale == (0 : Int)))] [] (zt 137 b54 ?_))))))
             refine zv [] 3 [137,140] [[pi p1.kind, pi p1.n, pi p1.scale, .s (.string p1.s), .ro (eValue.els p1.items)]] [(137, vb true), (140, vi ((eValue.els p1.items).length : Int))] [] ?_
             rw [eValue.len p1.items]
             exact zg [] 3 [2] (zd (hJ9 (decide ((0 : Int) < (p1.items.length : Int))) h _ _ (zk [2])))
            ·refine zr (zu [] 4 [1,127] [(qa1907 p1)] (zt 127 b52 (zv [] 5 [1,132] [(qa1907 p1)] [(1, .one (.pv (.rp [(qa1907 p1)] 0 0))), (132, vb (p1.n == (0 : Int)))] [] (zt 132 b53 (zu [] 5 [1,137] [(qa1907 p1)] (zt 137 b54 (zg [] 6 [2] ?_)))))))
             exact zd (hJ9 false h _ _ (zk [2]))
           ·exact zr (zu [] 4 [1,127] [(qa1907 p1)] (zt 127 b52 (zu [] 5 [1,132] [(qa1907 p1)] (zt 132 b53 (zv [] 11 [2] [] [(2, vb false)] [] (zd (hJ9 false h _ _ (zk [2]))))))))
          ·exact zr (zu [] 4 [1,127] [(qa1907 p1)] (zt 127 b52 (zg [] 16 [2] (zd (hJ9 false h _ _ (zk [2]))))))
         ·refine zs (hK4 _ _ (zq fun K55 hK55 => zr (zg [] 1 [2] (zd (hK55 _ _ (ze ?_))))))
          obtain rfl := Option.some.inj h
          exact zf [vb false] (.one (.rfl _ rfl))
 rcases zW h with ⟨b3, h⟩ | ⟨b3, h⟩
 ·refine zr (zu [] 4 [1,7] [[pi p1.kind, pi p1.n, pi p1.scale, .s (.string p1.s), .ro (eValue.els p1.items)]] (zt 7 b3 (zv [] 3 [1,7,10] [[pi p1.kind, pi p1.n, pi p1.scale, .s (.string p1.s), .ro (eValue.els p1.items)]] [(1, .one (.pv (.rp [[pi p1.kind, pi p1.n, pi p1.scale, .s (.string p1.s), .ro (eValue.els p1.items)]] 0 0))), (7, vb true), (10, vi ((eValue.els p1.items).length : Int))] [] ?_)))
  rw [eValue.len p1.items]
  exact zg [] 3 [1,3] (zd (hJ1 ((p1.items.length : Int) == (0 : Int)) h _ _ (zk [1,3])))
 ·exact zr (zu [] 4 [1,7] [(qa1907 p1)] (zt 7 b3 (zv [] 6 [1,3] [] [(1, .one (.pv (.rp [(qa1907 p1)] 0 0))), (3, vb false)] [] (zd (hJ1 false h _ _ (zk [1,3]))))))

def ref1_sound_j3 (z3 : Int) : Option (Bool × Int) :=
    some (true, z3)

def ref1_sound_l1 (q_ref1_sound : GValue → Int → Int → Option (Bool × Int)) (p1 : GValue) (p2 : Int) : Nat → Int → Int → Option (Bool × Int)
  | 0, _, _ => none
  | k1 + 1, z2, x2 =>
    ift (decide (x2 < (p1.items.length : Int)))
      (bnd (at? p1.items x2) fun e1 =>
       bnd (q_ref1_sound e1 (IntKind.i64.wrap (p2 + (1 : Int))) z2) fun r2 =>
       ift (!r2.1)
         (some (false, r2.2))
         ((ref1_sound_l1 q_ref1_sound p1 p2 k1) r2.2 (IntKind.i64.wrap (x2 + (1 : Int)))))
      (ref1_sound_j3 z2)

def ref1_sound_j2 (q_ref1_sound : GValue → Int → Int → Option (Bool × Int)) (p1 : GValue) (p2 : Int) (z1 : Int) (x1 : Bool) : Option (Bool × Int) :=
    ift x1
      (some (false, z1))
      (ref1_sound_l1 q_ref1_sound p1 p2 BIG z1 (0 : Int))

def ref1_sound_j1 (q_ref1_sound : GValue → Int → Int → Option (Bool × Int)) (p1 : GValue) (p2 : Int) (z1 : Int) : Option (Bool × Int) :=
    ift (decide ((4 : Int) < p2))
      (ref1_sound_j2 q_ref1_sound p1 p2 z1 true)
      (ift (decide ((256 : Int) < z1))
         (ref1_sound_j2 q_ref1_sound p1 p2 z1 true)
         (bnd (ref1_alone p1) fun r1 =>
          ref1_sound_j2 q_ref1_sound p1 p2 z1 (!r1)))

def ref1_sound : Nat → GValue → Int → Int → Option (Bool × Int)
  | 0, _, _, _ => none
  | k0 + 1, p1, p2, p3 =>
    ift (p1.kind != (0 : Int))
      (ref1_sound_j1 (ref1_sound k0) p1 p2 (IntKind.i64.wrap (p3 + (1 : Int))))
      (ref1_sound_j1 (ref1_sound k0) p1 p2 p3)

abbrev qa1941 (p1 : GValue) : List CV := [ci p1.kind, ci p1.n, ci p1.scale, cst p1.s, cl eValue p1.items]
abbrev qa1944 (p1 : GValue) : List PV := [pi p1.kind, pi p1.n, pi p1.scale, .s (.string p1.s), .ro (eValue.els p1.items)]
abbrev qa1951 (e1 : GValue) : List CV := [ci e1.kind, ci e1.n, ci e1.scale, cst e1.s, cl eValue e1.items]
abbrev qa1965 (p1 : GValue) (p2 : Int) : Fr := [(1, vi p2), (2, .one (.pt 0 0 0 0)), (3, .one (.pv (.rp [(qa1944 p1)] 0 0))), (18, vb (decide ((4 : Int) < p2)))]

theorem c_ref1_sound : ∀ (k0 : Nat) (p1 : GValue) (p2 : Int) (p3 : Int) (r : (Bool × Int)), ref1_sound k0 p1 p2 p3 = some r → MC Tryd.prog 32 [.ag (qa1941 p1), vi p2, .one (.pt 0 0 0 0)] [.box [ci p3]] (vb r.1) [.box [ci r.2]]
 | 0, _, _, _, r, h => by rw [ref1_sound.eq_1] at h; cases h
 | k0 + 1, p1, p2, p3, r, h => by
  rw [ref1_sound.eq_2] at h
  refine MC.of 1 (n := 46) (fn := Tryd.f32) (c := cd Tryd.f32 []) (by kernel_rfl) (by kernel_rfl) (by kernel_rfl) (Nat.le_of_ble_eq_true rfl) rfl (zq fun K1 hK1 => zr (zg [] 2 [1,2,3] (zd (hK1 _ _ (zq fun K2 hK2 => ?_)))))
  have hJ1 : ∀ (z1 : Int), ref1_sound_j1 (ref1_sound k0) p1 p2 z1 = some r → ∀ fr1 st1, Sub 46 1 [] fr1 st1 [(1, vi p2), (2, .one (.pt 0 0 0 0)), (3, .one (.pv (.rp [(qa1944 p1)] 0 0)))] [.box [ci z1]] → K2 fr1 st1 := by
   intro z1 h fr1 st1 hS
   unfold ref1_sound_j1 at h
   refine hK2 _ _ (XW.sub hS ?_)
   refine zq fun K5 hK5 => zq fun K6 hK6 => ?_
   have hJ2 : ∀ (x1 : Bool), ref1_sound_j2 (ref1_sound k0) p1 p2 z1 x1 = some r → ∀ fr1 st1, Sub 46 1 [] fr1 st1 [(1, vi p2), (2, .one (.pt 0 0 0 0)), (3, .one (.pv (.rp [(qa1944 p1)] 0 0))), (28, vb x1)] [.box [ci z1]] → K6 fr1 st1 := by
    intro x1 h fr1 st1 hS
    unfold ref1_sound_j2 at h
    refine hK6 _ _ (XW.sub hS ?_)
    refine zC h (fun b10 h => ?_) (fun b10 h => ?_)
    ·refine zq fun K11 hK11 => zr (zv [] 1 [6] [] [(6, vb false)] [.box [ci z1]] (zd (hK11 _ _ (ze ?_))))
     obtain rfl := Option.some.inj h
     exact FinM.fin (.inr rfl) [] [vb false] [] (by kernel_rfl) trivial (by kernel_rfl) (by kernel_rfl) (.one (.rfl _ rfl))
    ·refine zs (hK5 _ _ (zq fun K12 hK12 => ?_))
     have hJ3 : ∀ (z3 : Int), ref1_sound_j3 z3 = some r → ∀ fr1 st1, Sub 46 1 [] fr1 st1 [] [.box [ci z3]] → K12 fr1 st1 := by
      intro z3 h fr1 st1 hS
      unfold ref1_sound_j3 at h
      refine hK12 _ _ (XW.sub hS ?_)
      refine zq fun K24 hK24 => zr (zv [] 1 [6] [] [(6, vb true)] [.box [ci z3]] (zd (hK24 _ _ (ze ?_))))
      obtain rfl := Option.some.inj h
      exact FinM.fin (.inr rfl) [] [vb true] [] (by kernel_rfl) trivial (by kernel_rfl) (by kernel_rfl) (.one (.rfl _ rfl))
     refine zq fun K13 hK13 => zr (zv [] 3 [1,2,3,31] [[pi p1.kind, pi p1.n, pi p1.scale, .s (.string p1.s), .ro (eValue.els p1.items)]] [(1, vi p2), (2, .one (.pt 0 0 0 0)), (3, .one (.pv (.rp [[pi p1.kind, pi p1.n, pi p1.scale, .s (.string p1.s), .ro (eValue.els p1.items)]] 0 0))), (31, vi ((eValue.els p1.items).length : Int))] [.box [ci z1]] ?_)
     rw [eValue.len p1.items]
     refine zg [] 1 [1,2,3,31,32] (zd (hK13 _ _ (zb 0 (XW.rounds' BIG (x := cd Tryd.f32 [1,1,1,0,1,0,0]) (by kernel_rfl) fun Q1 hQ1 => ?_))))
     have hL1 : ∀ (k1 : Nat) (z2 : Int) (x2 : Int), ref1_sound_l1 (ref1_sound k0) p1 p2 k1 z2 x2 = some r → XR Tryd.prog 46 1 [] (cd Tryd.f32 [1,1,1,0,1,0,0]) Q1 k1 [(1, vi p2), (2, .one (.pt 0 0 0 0)), (3, .one (.pv (.rp [(qa1944 p1)] 0 0))), (31, vi (p1.items.length : Int)), (32, vi x2)] [.box [ci z2]] := by
      intro k1
      induction k1 with
      | zero => intro z2 x2 h; rw [ref1_sound_l1.eq_1] at h; cases h
      | succ k1 ih1 =>
       intro z2 x2 h
       rw [ref1_sound_l1.eq_2] at h
       refine zq fun K14 hK14 => zr (zg [] 1 [1,2,3,31,32,33] (zd (hK14 _ _ (zq fun K15 hK15 => zC h (fun b16 h => ?_) (fun b16 h => ?_)))))
       ·refine zs (hK15 _ _ (zq fun K17 hK17 => zb 1 (zq fun K18 hK18 => zr (zg [] 2 [1,2,3,7,31,32] (zd ?_)))))
        refine hK18 _ _ (zq fun K19 hK19 => ?_)
        obtain ⟨e1, a20, h⟩ := zB h
        obtain ⟨r2, c21, h⟩ := zB h
        refine zr ?_
        refine zp [] 8 [1,2,3,31,32,39,41,42] [(qa1944 p1), [pi e1.kind, pi e1.n, pi e1.scale, .s (.string e1.s), .ro (eValue.els e1.items)]] [(1, vi p2), (2, .one (.pt 0 0 0 0)), (3, .one (.pv (.rp [(qa1944 p1)] 0 0))), (31, vi (p1.items.length : Int)), (32, vi x2), (39, .ag (qa1951 e1)), (41, vi (IntKind.i64.wrap (p2 + (1 : Int)))), (42, .one (.pt 0 0 0 0))] [.box [ci z2]] [([(qa1944 p1)] : List (List PV))[0]? = some (qa1944 p1), 0 ≤ x2 ∧ x2 < ((eValue.els p1.items).length : Int) ∧ elemsOk 5 (eValue.els p1.items), (eValue.els p1.items)[x2.toNat]? = some [pi e1.kind, pi e1.n, pi e1.scale, .s (.string e1.s), .ro (eValue.els e1.items)]] (⟨rfl, eValue.inb a20, ((eValue.get a20).trans (by cases e1; rfl)), trivial⟩) ?_
        refine XO.calm 32 [.ag (qa1951 e1), vi (IntKind.i64.wrap (p2 + (1 : Int))), .one (.pt 0 0 0 0)] [.box [ci z2]] [.box [ci r2.2]] (vb r2.1) [0] [(43, vb r2.1), (1, vi p2), (2, .one (.pt 0 0 0 0)), (3, .one (.pv (.rp [(qa1944 p1)] 0 0))), (31, vi (p1.items.length : Int)), (32, vi x2), (39, .ag (qa1951 e1)), (41, vi (IntKind.i64.wrap (p2 + (1 : Int)))), (42, .one (.pt 0 0 0 0))] [.box [ci r2.2]] (by kernel_rfl) (c_ref1_sound k0 _ _ _ _ c21) (by kernel_rfl) (by kernel_rfl) (by kernel_rfl) (by kernel_rfl) ?_
        refine zg [] 1 [1,2,3,31,32,44] (zd (hK19 _ _ (zC h (fun b22 h => ?_) (fun b22 h => ?_))))
        ·refine zq fun K23 hK23 => zr (zv [] 1 [6] [] [(6, vb false)] [.box [ci r2.2]] (zd (hK23 _ _ (ze (hQ1 _ _ _ ?_)))))
         obtain rfl := Option.some.inj h
         exact FinM.fin (.inr rfl) [] [vb false] [] (by kernel_rfl) trivial (by kernel_rfl) (by kernel_rfl) (.one (.rfl _ rfl))
        ·exact zs (hK17 _ _ (zr (zg [] 2 [1,2,3,31,32] (zd (XR.sub (zk [1,2,3,31,32]) (ih1 r2.2 (IntKind.i64.wrap (x2 + (1 : Int))) h))))))
       ·exact zx 0 (hQ1 _ _ _ (hJ3 z2 h _ _ (zk [])))
     exact XR.sub (zk [1,2,3,31,32]) (hL1 BIG z1 (0 : Int) h)
   rcases zW h with ⟨b7, h⟩ | ⟨b7, h⟩
   ·exact zr (zg [] 3 [1,2,3,18] (zt 18 b7 (zg [] 10 [1,2,3,28] (zd (hJ2 true h _ _ (zk [1,2,3,28]))))))
   ·rcases zW h with ⟨b8, h⟩ | ⟨b8, h⟩
    ·exact zr (zv [] 3 [1,2,3,18] [] (qa1965 p1 p2) [.box [ci z1]] (zt 18 b7 (zg [] 6 [1,2,3,24] (zt 24 b8 (zg [] 4 [1,2,3,28] (zd (hJ2 true h _ _ (zk [1,2,3,28]))))))))
    ·obtain ⟨r1, c9, h⟩ := zB h
     refine zr (zv [] 3 [1,2,3,18] [] (qa1965 p1 p2) [.box [ci z1]] (zt 18 b7 (zg [] 6 [1,2,3,24] (zt 24 b8 (zu [] 1 [1,2,3,24,25] [(qa1944 p1)] ?_)))))
     exact zl 79 [.ag (qa1941 p1)] (vb r1) [(26, vb r1), (1, vi p2), (2, .one (.pt 0 0 0 0)), (3, .one (.pv (.rp [(qa1944 p1)] 0 0))), (24, vb false), (25, .ag (qa1941 p1))] (c_ref1_alone _ _ c9) (zg [] 2 [1,2,3,28] (zd (hJ2 (!r1) h _ _ (zk [1,2,3,28]))))
  refine zq fun K3 hK3 => zr (zu [] 3 [1,2,3,10] [(qa1944 p1)] (zd (hK3 _ _ (zC h (fun b4 h => ?_) (fun b4 h => ?_)))))
  ·exact zr (zv [] 6 [1,2,3] [] [(1, vi p2), (2, .one (.pt 0 0 0 0)), (3, .one (.pv (.rp [(qa1944 p1)] 0 0)))] [.box [ci (IntKind.i64.wrap (p3 + (1 : Int)))]] (zd (hJ1 (IntKind.i64.wrap (p3 + (1 : Int))) h _ _ (zk [1,2,3]))))
  ·exact zs (hJ1 p3 h _ _ (zk [1,2,3]))

def ref1_Sound (p1 : GValue) : Option Bool :=
    bnd (ref1_sound BIG p1 (1 : Int) (0 : Int)) fun r1 =>
    some r1.1

abbrev qa1968 (p1 : GValue) : List CV := [ci p1.kind, ci p1.n, ci p1.scale, cst p1.s, cl eValue p1.items]

theorem c_ref1_Sound (p1 : GValue) (r : Bool) (h : ref1_Sound p1 = some r) : PC Tryd.prog 11 [.ag (qa1968 p1)] (vb r) := by
 unfold ref1_Sound at h
 refine zF 6 Tryd.f11 (zq fun K1 hK1 => zr (zg [3] 2 [1] (zd (hK1 _ _ (zq fun K2 hK2 => zr ?_)))))
 refine zg [3] 2 [1,3] (zd (hK2 _ _ (zq fun K3 hK3 => ?_)))
 obtain ⟨r1, c4, h⟩ := zB h
 refine zr (zv [3] 1 [3,4] [[pi p1.kind, pi p1.n, pi p1.scale, .s (.string p1.s), .ro (eValue.els p1.items)]] [(3, .one (.pt 0 0 0 0)), (4, .ag (qa1968 p1))] [.box [ci (0 : Int)]] ?_)
 refine XO.calm 32 [.ag (qa1968 p1), vi (1 : Int), .one (.pt 0 0 0 0)] [.box [ci (0 : Int)]] [.box [ci r1.2]] (vb r1.1) [0] [(5, vb r1.1), (3, .one (.pt 0 0 0 0)), (4, .ag (qa1968 p1))] [.box [ci r1.2]] (by kernel_rfl) (c_ref1_sound BIG _ _ _ _ c4) (by kernel_rfl) (by kernel_rfl) (by kernel_rfl) (by kernel_rfl) (zg [3] 1 [2] (zd (hK3 _ _ (ze ?_))))
 obtain rfl := Option.some.inj h
 exact zf [vb r1.1] (.one (.rfl _ rfl))

def ref1_wideOf_j1 (rec1 : List Int → Int → Option RWide) (l1 : List Int) (x1 : Int) (x2 : Int) : Option RWide :=
    grd (l1.length + 1 ≤ 4294967296) <|
    rec1 (l1 ++ [x2]) (IntKind.i64.wrap (x1.tdiv (10 : Int)))

def ref1_wideOf_j2 (p1 : Int) (l2 : List Int) : Option RWide :=
    some (RWide.mk (decide (p1 < (0 : Int))) l2)

def ref1_wideOf_l1 (p1 : Int) : Nat → List Int → Int → Option RWide
  | 0, _, _ => none
  | k1 + 1, l1, x1 =>
    ift (x1 != (0 : Int))
      (ift (decide ((x1.tmod (10 : Int)) < (0 : Int)))
         (ref1_wideOf_j1 (ref1_wideOf_l1 p1 k1) l1 x1 (IntKind.i64.wrap (0 - (x1.tmod (10 : Int)))))
         (ref1_wideOf_j1 (ref1_wideOf_l1 p1 k1) l1 x1 (x1.tmod (10 : Int))))
      (ref1_wideOf_j2 p1 l1)

def ref1_wideOf (p1 : Int) : Option RWide :=
    ref1_wideOf_l1 p1 BIG [] p1

abbrev qa1978 : List CV := [cb false, .pv (.s (.slice none 0 0))]

theorem c_ref1_wideOf (p1 : Int) (r : RWide) (h : ref1_wideOf p1 = some r) : PC Tryd.prog 55 [vi p1] (.ag [cb r.below, cl eI r.d]) := by
 unfold ref1_wideOf at h
 refine zF 25 Tryd.f55 (zq fun K1 hK1 => zr (zg [2] 1 [0,2] (zd (hK1 _ _ (zq fun K2 hK2 => zr ?_)))))
 refine zg [2] 1 [0,2,3] (zd (hK2 _ _ (zq fun K3 hK3 => ?_)))
 have hJ2 : ∀ (l2 : List Int), ref1_wideOf_j2 p1 l2 = some r → ∀ fr1 st1, Sub 25 0 [] fr1 st1 [(0, vi p1), (2, .one (.pt 0 0 0 0)), (3, .one (.sl 1 1 0 l2.length))] [.box qa1978, .arr 1 (eI.els l2)] → K3 fr1 st1 := by
  intro l2 h fr1 st1 hS
  unfold ref1_wideOf_j2 at h
  refine hK3 _ _ (XW.sub hS ?_)
  refine zq fun K14 hK14 => zr (zg [2] 5 [2] (zd (hK14 _ _ (ze ?_))))
  obtain rfl := Option.some.inj h
  exact zf [.ag [cb (decide (p1 < (0 : Int))), .sl 1 1 0 l2.length]] (.ag (.cons (.rfl _ rfl) (.cons (cf_sl eI l2 rfl rfl rfl) .nil)))
 refine zq fun K4 hK4 => zr (zv [2] 2 [0,2,3,4] [] [(0, vi p1), (2, .one (.pt 0 0 0 0)), (3, .one (.pv (.s (.slice none 0 0)))), (4, vi p1)] [.box [cb false, .pv (.s (.slice none 0 0))]] (zd (hK4 _ _ (zb 0 (XW.sub (Sub.list (t := 3) (sz := 1) rfl) (XW.rounds' BIG (x := cd Tryd.f55 [1,1,0,1,0,0]) (by kernel_rfl) fun Q1 hQ1 => ?_))))))
 have hL1 : ∀ (k1 : Nat) (l1 : List Int) (x1 : Int), ref1_wideOf_l1 p1 k1 l1 x1 = some r → XR Tryd.prog 25 0 [] (cd Tryd.f55 [1,1,0,1,0,0]) Q1 k1 [(0, vi p1), (2, .one (.pt 0 0 0 0)), (3, .one (.sl 1 1 0 l1.length)), (4, vi x1)] [.box qa1978, .arr 1 (eI.els l1)] := by
  intro k1
  induction k1 with
  | zero => intro l1 x1 h; rw [ref1_wideOf_l1.eq_1] at h; cases h
  | succ k1 ih1 =>
   intro l1 x1 h
   rw [ref1_wideOf_l1.eq_2] at h
   refine zq fun K5 hK5 => zq fun K6 hK6 => zr (zg [2] 2 [0,2,3,4,8] (zd (hK6 _ _ (zC h (fun b7 h => ?_) (fun b7 h => ?_)))))
   ·refine zs (hK5 _ _ (zq fun K8 hK8 => zb 1 (zq fun K9 hK9 => zr (zo [2] 3 [0,2,3,4,5] [] [(10 : Int) ≠ 0] (⟨by decide, trivial⟩) (zd ?_)))))
    refine hK9 _ _ (zq fun K10 hK10 => ?_)
    have hJ1 : ∀ (x2 : Int), ref1_wideOf_j1 (ref1_wideOf_l1 p1 k1) l1 x1 x2 = some r → ∀ fr1 st1, Sub 25 0 [] fr1 st1 [(0, vi p1), (2, .one (.pt 0 0 0 0)), (3, .one (.sl 1 1 0 l1.length)), (4, vi x1), (5, vi x2)] [.box qa1978, .arr 1 (eI.els l1)] → K10 fr1 st1 := by
     intro x2 h fr1 st1 hS
     unfold ref1_wideOf_j1 at h
     refine hK10 _ _ (XW.sub hS ?_)
     obtain ⟨g13, h⟩ := zG h
     refine zr (zp [2] 4 [0,2,4,20] [] [(0, vi p1), (2, .one (.pt 0 0 0 0)), (4, vi x1), (20, .one (.sl 1 1 0 (l1.length + (eI.els [x2]).length)))] [.box [cb false, .pv (.s (.slice none 0 0))], .arr 1 (eI.els l1 ++ eI.els [x2])] [elemsOk 1 (eI.els [x2]), l1.length = (eI.els l1).length, l1.length + (eI.els [x2]).length ≤ 4294967296] (⟨eI.ok _, (eI.len l1).symm, g13, trivial⟩) ?_)
     rw [show l1.length + (eI.els [x2]).length = (l1 ++ [x2]).length from eI.lapp _ _]
     rw [show eI.els l1 ++ eI.els [x2] = eI.els (l1 ++ [x2]) from eI.app2 _ _]
     exact zg [2] 1 [0,2,3,4] (zd (hK8 _ _ (zr (zo [2] 3 [0,2,3,4] [] [(10 : Int) ≠ 0] (⟨by decide, trivial⟩) (zd (XR.sub (zk [0,2,3,4]) (ih1 (l1 ++ [x2]) (IntKind.i64.wrap (x1.tdiv (10 : Int))) h)))))))
    refine zq fun K11 hK11 => zr (zv [2] 2 [0,2,3,4,5,14] [] [(0, vi p1), (2, .one (.pt 0 0 0 0)), (3, .one (.sl 1 1 0 l1.length)), (4, vi x1), (5, vi (x1.tmod (10 : Int))), (14, vb (decide ((x1.tmod (10 : Int)) < (0 : Int))))] [.box qa1978, .arr 1 (eI.els l1)] (zd (hK11 _ _ (zC h (fun b12 h => ?_) (fun b12 h => ?_)))))
    ·exact zr (zg [2] 3 [0,2,3,4,5] (zd (hJ1 (IntKind.i64.wrap (0 - (x1.tmod (10 : Int)))) h _ _ (zk [0,2,3,4,5]))))
    ·exact zs (hJ1 (x1.tmod (10 : Int)) h _ _ (zk [0,2,3,4,5]))
   ·exact zx 0 (hQ1 _ _ _ (hJ2 l1 h _ _ (zk [0,2,3])))
 exact XR.sub (zk [0,2,3,4]) (hL1 BIG [] p1 h)

def ref1_tens (p1 : RWide) (p2 : Int) : Option RWide :=
    ift ((p1.d.length : Int) == (0 : Int))
      (some p1)
      (grd (0 ≤ p2 ∧ p2 ≤ p2 ∧ p2 ≤ 4294967296) <|
       grd ((List.replicate p2.toNat (0 : Int)).length + p1.d.length ≤ 4294967296) <|
       some (RWide.mk p1.below ((List.replicate p2.toNat (0 : Int)) ++ p1.d)))

abbrev qa1987 (p1 : RWide) : List PV := [.s (.bool p1.below), .ro (eI.els p1.d)]

theorem c_ref1_tens (p1 : RWide) (p2 : Int) (r : RWide) (h : ref1_tens p1 p2 = some r) : PC Tryd.prog 56 [.ag [cb p1.below, cl eI p1.d], vi p2] (.ag [cb r.below, cl eI r.d]) := by
 unfold ref1_tens at h
 refine zF 18 Tryd.f56 (zq fun K1 hK1 => zr (zg [4] 2 [1,2,4] (zd (hK1 _ _ (zq fun K2 hK2 => zq fun K3 hK3 => ?_)))))
 refine zr (zv [4] 3 [1,2,4,7] [[.s (.bool p1.below), .ro (eI.els p1.d)]] [(1, vi p2), (2, .one (.pv (.rp [[.s (.bool p1.below), .ro (eI.els p1.d)]] 0 0))), (4, .one (.pt 0 0 0 0)), (7, vi ((eI.els p1.d).length : Int))] [.box [cb false, .pv (.s (.slice none 0 0))]] ?_)
 rw [eI.len p1.d]
 refine zg [4] 1 [1,2,4,8] (zd (hK3 _ _ (zC h (fun b4 h => ?_) (fun b4 h => ?_))))
 ·refine zq fun K5 hK5 => zr (zu [4] 2 [4] [(qa1987 p1)] (zd (hK5 _ _ (ze ?_))))
  obtain rfl := Option.some.inj h
  exact zf [.ag [cb p1.below, cl eI p1.d]] (.ag (.cons (.rfl _ rfl) (.cons (.rfl _ rfl) .nil)))
 ·refine zs (hK2 _ _ (zq fun K6 hK6 => ?_))
  obtain ⟨g8, h⟩ := zG h
  obtain ⟨g9, h⟩ := zG h
  refine XW.sub (Sub.dead 1) ?_
  refine XW.drwG 7 [1, 2] [([], []), ([], []), ([], []), ([1], [1]), ([], []), ([], []), ([1], [1])] [(16, .one (.sl 1 1 0 (((List.replicate p2.toNat (0 : Int)) ++ p1.d).length))), (15, vl eI p1.d), (14, .one (.pv (.rp [(qa1987 p1)] 0 1))), (13, .j), (12, vi p2), (11, vb p1.below), (10, .one (.pv (.rp [(qa1987 p1)] 0 0))), (1, vi p2), (2, .one (.pv (.rp [(qa1987 p1)] 0 0))), (4, .one (.pt 0 0 0 0)), (8, vb ((p1.d.length : Int) == (0 : Int)))] [.box [cb false, .pv (.s (.slice none 0 0))], .arr 1 (eI.els ((List.replicate p2.toNat (0 : Int)) ++ p1.d))] (by kernel_rfl) (by kernel_rfl) ?_ ?_
  ·refine zgv 3 [(qa1987 p1)] [(12, vi p2), (11, vb p1.below), (10, .one (.pv (.rp [(qa1987 p1)] 0 0))), (1, vi p2), (2, .one (.pv (.rp [(qa1987 p1)] 0 0))), (4, .one (.pt 0 0 0 0)), (8, vb ((p1.d.length : Int) == (0 : Int)))] ?_
   refine GY.new false 1 [] [(13, .one (.sl 1 1 0 p2.toNat)), (12, vi p2), (11, vb p1.below), (10, .one (.pv (.rp [[.s (.bool p1.below), .ro (eI.els p1.d)]] 0 0))), (1, vi p2), (2, .one (.pv (.rp [[.s (.bool p1.below), .ro (eI.els p1.d)]] 0 0))), (4, .one (.pt 0 0 0 0)), (8, vb ((p1.d.length : Int) == (0 : Int)))] [1] [.box [cb false, .pv (.s (.slice none 0 0))], .arr 1 (List.replicate p2.toNat [pi (0 : Int)])] [0 ≤ p2, p2 ≤ p2, p2 ≤ 4294967296] (by kernel_rfl) (by kernel_rfl) (⟨g8.1, g8.2.1, g8.2.2, trivial⟩) ?_
   rw [show List.replicate p2.toNat [pi (0 : Int)] = eI.els (List.replicate p2.toNat (0 : Int)) from eI.rep _ (0 : Int)]
   refine zgv 2 [(qa1987 p1)] [(15, vl eI p1.d), (14, .one (.pv (.rp [(qa1987 p1)] 0 1))), (13, .one (.sl 1 1 0 p2.toNat)), (12, vi p2), (11, vb p1.below), (10, .one (.pv (.rp [(qa1987 p1)] 0 0))), (1, vi p2), (2, .one (.pv (.rp [(qa1987 p1)] 0 0))), (4, .one (.pt 0 0 0 0)), (8, vb ((p1.d.length : Int) == (0 : Int)))] ?_
   refine GY.wr [] [(16, .one (.sl 1 1 0 (p2.toNat + (eI.els p1.d).length))), (15, vl eI p1.d), (14, .one (.pv (.rp [[.s (.bool p1.below), .ro (eI.els p1.d)]] 0 1))), (13, .j), (12, vi p2), (11, vb p1.below), (10, .one (.pv (.rp [[.s (.bool p1.below), .ro (eI.els p1.d)]] 0 0))), (1, vi p2), (2, .one (.pv (.rp [[.s (.bool p1.below), .ro (eI.els p1.d)]] 0 0))), (4, .one (.pt 0 0 0 0)), (8, vb ((p1.d.length : Int) == (0 : Int)))] [1] [.box [cb false, .pv (.s (.slice none 0 0))], .arr 1 (eI.els (List.replicate p2.toNat (0 : Int)) ++ eI.els p1.d)] [elemsOk 1 (eI.els p1.d), p2.toNat = (eI.els (List.replicate p2.toNat (0 : Int))).length, p2.toNat + (eI.els p1.d).length ≤ 4294967296] (by kernel_rfl) (by kernel_rfl) (⟨eI.ok _, (by simp [Enc.len]), (by simp [Enc.len] at *; omega), trivial⟩) ?_
   rw [show p2.toNat + (eI.els p1.d).length = ((List.replicate p2.toNat (0 : Int)) ++ p1.d).length from (by simp [Enc.len] <;> omega)]
   rw [show eI.els (List.replicate p2.toNat (0 : Int)) ++ eI.els p1.d = eI.els ((List.replicate p2.toNat (0 : Int)) ++ p1.d) from eI.app2 _ _]
   exact GY.done (by kernel_rfl) (by kernel_rfl)
  refine zv [4] 2 [4] [] [(4, .one (.pt 0 0 0 0))] [.box [cb p1.below, .sl 1 1 0 (((List.replicate p2.toNat (0 : Int)) ++ p1.d).length)], .arr 1 (eI.els ((List.replicate p2.toNat (0 : Int)) ++ p1.d))] (zd (hK6 _ _ (ze ?_)))
  obtain rfl := Option.some.inj h
  exact zf [.ag [cb p1.below, .sl 1 1 0 (((List.replicate p2.toNat (0 : Int)) ++ p1.d).length)]] (.ag (.cons (.rfl _ rfl) (.cons (cf_sl eI ((List.replicate p2.toNat (0 : Int)) ++ p1.d) rfl rfl rfl) .nil)))

def ref1_cut_j3 (x3 : List Int) (z1 : Bool) : Option RWide :=
    some (RWide.mk z1 x3)

def ref1_cut_j2 (p1 : Bool) (x3 : List Int) : Option RWide :=
    ift p1
      (ref1_cut_j3 x3 (decide ((0 : Int) < (x3.length : Int))))
      (ref1_cut_j3 x3 false)

def ref1_cut_j1 (rec1 : List Int → Option RWide) (p1 : Bool) (x1 : List Int) (x2 : Bool) : Option RWide :=
    ift x2
      (grd (0 ≤ (0 : Int) ∧ (0 : Int) ≤ (IntKind.i64.wrap ((x1.length : Int) - (1 : Int))) ∧ (IntKind.i64.wrap ((x1.length : Int) - (1 : Int))) ≤ (x1.length : Int)) <|
       rec1 ((x1.drop (0 : Int).toNat).take ((IntKind.i64.wrap ((x1.length : Int) - (1 : Int))).toNat - (0 : Int).toNat)))
      (ref1_cut_j2 p1 x1)

def ref1_cut_l1 (p1 : Bool) : Nat → List Int → Option RWide
  | 0, _ => none
  | k1 + 1, x1 =>
    ift (decide ((0 : Int) < (x1.length : Int)))
      (bnd (at? x1 (IntKind.i64.wrap ((x1.length : Int) - (1 : Int)))) fun e1 =>
       ref1_cut_j1 (ref1_cut_l1 p1 k1) p1 x1 (e1 == (0 : Int)))
      (ref1_cut_j1 (ref1_cut_l1 p1 k1) p1 x1 false)

def ref1_cut (p1 : Bool) (p2 : (List Int)) : Option RWide :=
    ref1_cut_l1 p1 BIG p2

abbrev qa1998 : List CV := [cb false, .pv (.s (.slice none 0 0))]

theorem c_ref1_cut (p1 : Bool) (p2 : (List Int)) (r : RWide) (h : ref1_cut p1 p2 = some r) : PC Tryd.prog 102 [vb p1, vl eI p2] (.ag [cb r.below, cl eI r.d]) := by
 unfold ref1_cut at h
 refine zF 30 Tryd.f102 (zq fun K1 hK1 => zr (zg [4] 1 [0,1,4] (zd (hK1 _ _ (zq fun K2 hK2 => ?_)))))
 have hJ2 : ∀ (x3 : List Int), ref1_cut_j2 p1 x3 = some r → ∀ fr1 st1, Sub 30 0 [] fr1 st1 [(0, vb p1), (1, vl eI x3), (4, .one (.pt 0 0 0 0))] [.box qa1998] → K2 fr1 st1 := by
  intro x3 h fr1 st1 hS
  unfold ref1_cut_j2 at h
  refine hK2 _ _ (XW.sub hS ?_)
  refine zq fun K9 hK9 => ?_
  have hJ3 : ∀ (z1 : Bool), ref1_cut_j3 x3 z1 = some r → ∀ fr1 st1, Sub 30 0 [] fr1 st1 [(4, .one (.pt 0 0 0 0))] [.box [cb z1, cl eI x3]] → K9 fr1 st1 := by
   intro z1 h fr1 st1 hS
   unfold ref1_cut_j3 at h
   refine hK9 _ _ (XW.sub hS ?_)
   refine ze ?_
   obtain rfl := Option.some.inj h
   exact zf [.ag [cb z1, cl eI x3]] (.ag (.cons (.rfl _ rfl) (.cons (.rfl _ rfl) .nil)))
  rcases zW h with ⟨b10, h⟩ | ⟨b10, h⟩
  ·refine zr (zg [4] 2 [1,4,23] (zt 23 b10 (zv [4] 2 [1,4,23,25] [] [(1, vl eI x3), (4, .one (.pt 0 0 0 0)), (23, vb true), (25, vi ((eI.els x3).length : Int))] [.box [cb false, .pv (.s (.slice none 0 0))]] ?_)))
   rw [eI.len x3]
   exact zg [4] 5 [4] (zd (hJ3 (decide ((0 : Int) < (x3.length : Int))) h _ _ (zk [4])))
  ·exact zr (zg [4] 2 [1,4,23] (zt 23 b10 (zv [4] 7 [4] [] [(4, .one (.pt 0 0 0 0))] [.box [cb false, cl eI x3]] (zd (hJ3 false h _ _ (zk [4]))))))
 refine zb 0 (XW.rounds' BIG (x := cd Tryd.f102 [1,0,0,0]) (by kernel_rfl) fun Q1 hQ1 => ?_)
 have hL1 : ∀ (k1 : Nat) (x1 : List Int), ref1_cut_l1 p1 k1 x1 = some r → XR Tryd.prog 30 0 [] (cd Tryd.f102 [1,0,0,0]) Q1 k1 [(0, vb p1), (1, vl eI x1), (4, .one (.pt 0 0 0 0))] [.box qa1998] := by
  intro k1
  induction k1 with
  | zero => intro x1 h; rw [ref1_cut_l1.eq_1] at h; cases h
  | succ k1 ih1 =>
   intro x1 h
   rw [ref1_cut_l1.eq_2] at h
   refine zq fun K3 hK3 => zq fun K4 hK4 => ?_
   have hJ1 : ∀ (x2 : Bool), ref1_cut_j1 (ref1_cut_l1 p1 k1) p1 x1 x2 = some r → ∀ fr1 st1, Sub 30 0 [] fr1 st1 [(0, vb p1), (1, vl eI x1), (4, .one (.pt 0 0 0 0)), (16, vb x2)] [.box qa1998] → K4 fr1 st1 := by
    intro x2 h fr1 st1 hS
    unfold ref1_cut_j1 at h
    refine hK4 _ _ (XW.sub hS ?_)
    refine zC h (fun b7 h => ?_) (fun b7 h => ?_)
    ·refine zs (hK3 _ _ (zb 1 ?_))
     obtain ⟨g8, h⟩ := zG h
     refine zr (zv [4] 3 [0,4,17,19] [] [(0, vb p1), (4, .one (.pt 0 0 0 0)), (17, vl eI x1), (19, vi ((eI.els x1).length : Int))] [.box [cb false, .pv (.s (.slice none 0 0))]] ?_)
     rw [eI.len x1]
     refine zp [4] 2 [0,4,21] [] [(0, vb p1), (4, .one (.pt 0 0 0 0)), (21, .one (.pv (.ro (((eI.els x1).drop (0 : Int).toNat).take ((IntKind.i64.wrap ((x1.length : Int) - (1 : Int))).toNat - (0 : Int).toNat)))))] [.box [cb false, .pv (.s (.slice none 0 0))]] [(0 ≤ (0 : Int) ∧ (0 : Int) ≤ (IntKind.i64.wrap ((x1.length : Int) - (1 : Int))) ∧ (IntKind.i64.wrap ((x1.length : Int) - (1 : Int))) ≤ ((eI.els x1).length : Int)) ∧ elemsOk 1 (eI.els x1)] (⟨eI.cutOk g8, trivial⟩) ?_
     rw [show ((eI.els x1).drop (0 : Int).toNat).take ((IntKind.i64.wrap ((x1.length : Int) - (1 : Int))).toNat - (0 : Int).toNat) = eI.els ((x1.drop (0 : Int).toNat).take ((IntKind.i64.wrap ((x1.length : Int) - (1 : Int))).toNat - (0 : Int).toNat)) from eI.cut _ _ _]
     exact zg [4] 1 [0,1,4] (zd (XR.sub (zk [0,1,4]) (ih1 ((x1.drop (0 : Int).toNat).take ((IntKind.i64.wrap ((x1.length : Int) - (1 : Int))).toNat - (0 : Int).toNat)) h)))
    ·exact zx 0 (hQ1 _ _ _ (hJ2 x1 h _ _ (zk [0,1,4])))
   rcases zW h with ⟨b5, h⟩ | ⟨b5, h⟩
   ·obtain ⟨e1, a6, h⟩ := zB h
    refine zr (zv [4] 2 [0,1,4,6] [] [(0, vb p1), (1, vl eI x1), (4, .one (.pt 0 0 0 0)), (6, vi ((eI.els x1).length : Int))] [.box [cb false, .pv (.s (.slice none 0 0))]] ?_)
    rw [eI.len x1]
    refine zg [4] 2 [0,1,4,8] (zt 8 b5 (zv [4] 3 [0,1,4,8,9,11] [] [(0, vb p1), (1, vl eI x1), (4, .one (.pt 0 0 0 0)), (8, vb true), (9, vl eI x1), (11, vi ((eI.els x1).length : Int))] [.box [cb false, .pv (.s (.slice none 0 0))]] ?_))
    rw [eI.len x1]
    exact zo [4] 5 [0,1,4,16] [[pi e1]] [0 ≤ (IntKind.i64.wrap ((x1.length : Int) - (1 : Int))) ∧ (IntKind.i64.wrap ((x1.length : Int) - (1 : Int))) < ((eI.els x1).length : Int) ∧ elemsOk 1 (eI.els x1), (eI.els x1)[(IntKind.i64.wrap ((x1.length : Int) - (1 : Int))).toNat]? = some [pi e1]] (⟨eI.inb a6, (eI.get a6), trivial⟩) (zd (hJ1 (e1 == (0 : Int)) h _ _ (zk [0,1,4,16])))
   ·refine zr (zv [4] 2 [0,1,4,6] [] [(0, vb p1), (1, vl eI x1), (4, .one (.pt 0 0 0 0)), (6, vi ((eI.els x1).length : Int))] [.box [cb false, .pv (.s (.slice none 0 0))]] ?_)
    rw [eI.len x1]
    exact zg [4] 2 [0,1,4,8] (zt 8 b5 (zg [4] 8 [0,1,4,16] (zd (hJ1 false h _ _ (zk [0,1,4,16])))))
 exact XR.sub (zk [0,1,4]) (hL1 BIG p2 h)

def ref1_most_j1 : Option Int :=
    some (0 : Int)

def ref1_most_l1 (p1 : (List Int)) (p2 : (List Int)) : Nat → Int → Option Int
  | 0, _ => none
  | k1 + 1, x1 =>
    ift (decide ((0 : Int) ≤ x1))
      (bnd (at? p1 x1) fun e1 =>
       bnd (at? p2 x1) fun e2 =>
       ift (e1 != e2)
         (some (IntKind.i64.wrap (e1 - e2)))
         ((ref1_most_l1 p1 p2 k1) (IntKind.i64.wrap (x1 - (1 : Int)))))
      (ref1_most_j1)

def ref1_most (p1 : (List Int)) (p2 : (List Int)) : Option Int :=
    ift ((p1.length : Int) != (p2.length : Int))
      (some (IntKind.i64.wrap ((p1.length : Int) - (p2.length : Int))))
      (ref1_most_l1 p1 p2 BIG (IntKind.i64.wrap ((p1.length : Int) - (1 : Int))))

abbrev qa2012 (p1 : (List Int)) (p2 : (List Int)) (x1 : Int) (e1 : Int) (e2 : Int) : Fr := [(39, vi e2), (38, .one (.pv (.rp (eI.els p2) x1.toNat 0))), (37, vi x1), (36, vl eI p2), (35, vi e1), (34, .one (.pv (.rp (eI.els p1) x1.toNat 0))), (33, vi x1), (32, vl eI p1), (0, vl eI p1), (1, vl eI p2), (5, vi x1), (31, vb (e1 != e2))]

theorem c_ref1_most (p1 : (List Int)) (p2 : (List Int)) (r : Int) (h : ref1_most p1 p2 = some r) : PC Tryd.prog 100 [vl eI p1, vl eI p2] (vi r) := by
 unfold ref1_most at h
 refine zF 41 Tryd.f100 (zq fun K1 hK1 => zr (zg [] 1 [0,1] (zd (hK1 _ _ (zq fun K2 hK2 => zq fun K3 hK3 => ?_)))))
 refine zr (zv [] 2 [0,1,7] [] [(0, vl eI p1), (1, vl eI p2), (7, vi ((eI.els p1).length : Int))] [] ?_)
 rw [eI.len p1]
 refine zv [] 2 [0,1,7,9] [] [(0, vl eI p1), (1, vl eI p2), (7, vi (p1.length : Int)), (9, vi ((eI.els p2).length : Int))] [] ?_
 rw [eI.len p2]
 refine zg [] 1 [0,1,10] (zd (hK3 _ _ (zC h (fun b4 h => ?_) (fun b4 h => ?_))))
 ·refine zq fun K5 hK5 => zr (zv [] 2 [1,12] [] [(1, vl eI p2), (12, vi ((eI.els p1).length : Int))] [] ?_)
  rw [eI.len p1]
  refine zv [] 2 [12,14] [] [(12, vi (p1.length : Int)), (14, vi ((eI.els p2).length : Int))] [] ?_
  rw [eI.len p2]
  refine zg [] 2 [4] (zd (hK5 _ _ (ze ?_)))
  obtain rfl := Option.some.inj h
  exact zf [vi (IntKind.i64.wrap ((p1.length : Int) - (p2.length : Int)))] (.one (.rfl _ rfl))
 ·refine zs (hK2 _ _ (zq fun K6 hK6 => ?_))
  have hJ1 : ∀ (_ : Unit), ref1_most_j1 = some r → ∀ fr1 st1, Sub 41 0 [] fr1 st1 [] [] → K6 fr1 st1 := by
   intro _ h fr1 st1 hS
   unfold ref1_most_j1 at h
   refine hK6 _ _ (XW.sub hS ?_)
   refine zq fun K17 hK17 => zr (zg [] 1 [4] (zd (hK17 _ _ (ze ?_))))
   obtain rfl := Option.some.inj h
   exact zf [vi (0 : Int)] (.one (.rfl _ rfl))
  refine zq fun K7 hK7 => zr (zv [] 2 [0,1,17] [] [(0, vl eI p1), (1, vl eI p2), (17, vi ((eI.els p1).length : Int))] [] ?_)
  rw [eI.len p1]
  refine zg [] 2 [0,1,5] (zd (hK7 _ _ (zb 0 (XW.rounds' BIG (x := cd Tryd.f100 [1,1,0,1,0,0]) (by kernel_rfl) fun Q1 hQ1 => ?_))))
  have hL1 : ∀ (k1 : Nat) (x1 : Int), ref1_most_l1 p1 p2 k1 x1 = some r → XR Tryd.prog 41 0 [] (cd Tryd.f100 [1,1,0,1,0,0]) Q1 k1 [(0, vl eI p1), (1, vl eI p2), (5, vi x1)] [] := by
   intro k1
   induction k1 with
   | zero => intro x1 h; rw [ref1_most_l1.eq_1] at h; cases h
   | succ k1 ih1 =>
    intro x1 h
    rw [ref1_most_l1.eq_2] at h
    refine zq fun K8 hK8 => zq fun K9 hK9 => zr (zg [] 2 [0,1,5,20] (zd (hK9 _ _ (zC h (fun b10 h => ?_) (fun b10 h => ?_)))))
    ·refine zs (hK8 _ _ (zq fun K11 hK11 => zb 1 (zq fun K12 hK12 => ?_)))
     obtain ⟨e1, a13, h⟩ := zB h
     obtain ⟨e2, a14, h⟩ := zB h
     refine zw 8 [(30, vi e2), (29, .one (.pv (.rp (eI.els p2) x1.toNat 0))), (28, vi x1), (27, vl eI p2), (26, vi e1), (25, .one (.pv (.rp (eI.els p1) x1.toNat 0))), (24, vi x1), (23, vl eI p1), (0, vl eI p1), (1, vl eI p2), (5, vi x1), (20, vb (decide ((0 : Int) ≤ x1)))] ?_ ?_
     ·exact zyo 8 [[pi e1], [pi e2]] [0 ≤ x1 ∧ x1 < ((eI.els p1).length : Int) ∧ elemsOk 1 (eI.els p1), (eI.els p1)[x1.toNat]? = some [pi e1], 0 ≤ x1 ∧ x1 < ((eI.els p2).length : Int) ∧ elemsOk 1 (eI.els p2), (eI.els p2)[x1.toNat]? = some [pi e2]] (⟨eI.inb a13, (eI.get a13), eI.inb a14, (eI.get a14), trivial⟩) zyd
     refine zg [] 1 [0,1,5,31] (zd (hK12 _ _ (zC h (fun b15 h => ?_) (fun b15 h => ?_))))
     ·refine zq fun K16 hK16 => zw 8 (qa2012 p1 p2 x1 e1 e2) ?_ ?_
      ·exact zyp 8 [[pi e1], [pi e2]] (qa2012 p1 p2 x1 e1 e2) [0 ≤ x1 ∧ x1 < ((eI.els p1).length : Int) ∧ elemsOk 1 (eI.els p1), (eI.els p1)[x1.toNat]? = some [pi e1], 0 ≤ x1 ∧ x1 < ((eI.els p2).length : Int) ∧ elemsOk 1 (eI.els p2), (eI.els p2)[x1.toNat]? = some [pi e2]] (⟨eI.inb a13, (eI.get a13), eI.inb a14, (eI.get a14), trivial⟩) zyd
      refine zv [] 2 [4] [] [(4, vi (IntKind.i64.wrap (e1 - e2)))] [] (zd (hK16 _ _ (ze (hQ1 _ _ _ ?_))))
      obtain rfl := Option.some.inj h
      exact zf [vi (IntKind.i64.wrap (e1 - e2))] (.one (.rfl _ rfl))
     ·exact zs (hK11 _ _ (zr (zg [] 3 [0,1,5] (zd (XR.sub (zk [0,1,5]) (ih1 (IntKind.i64.wrap (x1 - (1 : Int))) h))))))
    ·exact zx 0 (hQ1 _ _ _ (hJ1 () h _ _ (zk [])))
  exact XR.sub (zk [0,1,5]) (hL1 BIG (IntKind.i64.wrap ((p1.length : Int) - (1 : Int))) h)

def ref1_minus_j2 (rec1 : List Int → Int → Int → Option (List Int)) (l1 : List Int) (x2 : Int) (x4 : Int) (x5 : Int) : Option (List Int) :=
    grd (l1.length + 1 ≤ 4294967296) <|
    rec1 (l1 ++ [x5]) x4 (IntKind.i64.wrap (x2 + (1 : Int)))

def ref1_minus_j1 (rec1 : List Int → Int → Int → Option (List Int)) (l1 : List Int) (x2 : Int) (x3 : Int) : Option (List Int) :=
    ift (decide (x3 < (0 : Int)))
      (ref1_minus_j2 rec1 l1 x2 (1 : Int) (IntKind.i64.wrap (x3 + (10 : Int))))
      (ref1_minus_j2 rec1 l1 x2 (0 : Int) x3)

def ref1_minus_j3 (l2 : List Int) : Option (List Int) :=
    bnd (ref1_cut false l2) fun r1 =>
    some r1.d

def ref1_minus_l1 (p1 : (List Int)) (p2 : (List Int)) : Nat → List Int → Int → Int → Option (List Int)
  | 0, _, _, _ => none
  | k1 + 1, l1, x1, x2 =>
    ift (decide (x2 < (p1.length : Int)))
      (bnd (at? p1 x2) fun e1 =>
       ift (decide (x2 < (p2.length : Int)))
         (bnd (at? p2 x2) fun e2 =>
          ref1_minus_j1 (ref1_minus_l1 p1 p2 k1) l1 x2 (IntKind.i64.wrap ((IntKind.i64.wrap (e1 - x1)) - e2)))
         (ref1_minus_j1 (ref1_minus_l1 p1 p2 k1) l1 x2 (IntKind.i64.wrap (e1 - x1))))
      (ref1_minus_j3 l1)

def ref1_minus (p1 : (List Int)) (p2 : (List Int)) : Option (List Int) :=
    ref1_minus_l1 p1 p2 BIG [] (0 : Int) (0 : Int)


theorem c_ref1_minus (p1 : (List Int)) (p2 : (List Int)) (r : (List Int)) (h : ref1_minus p1 p2 = some r) : PC Tryd.prog 119 [vl eI p1, vl eI p2] (vl eI r) := by
 unfold ref1_minus at h
 refine zF 42 Tryd.f119 (zq fun K1 hK1 => zr (zg [] 1 [0,1] (zd (hK1 _ _ (zq fun K2 hK2 => zr ?_)))))
 refine zg [] 1 [0,1,5] (zd (hK2 _ _ (zq fun K3 hK3 => zr (zv [] 1 [0,1,5,6] [] [(0, vl eI p1), (1, vl eI p2), (5, .one (.pv (.s (.slice none 0 0)))), (6, vi (0 : Int))] [] (zd (hK3 _ _ ?_))))))
 refine zq fun K4 hK4 => ?_
 have hJ3 : ∀ (l2 : List Int), ref1_minus_j3 l2 = some r → ∀ fr1 st1, Sub 42 0 [] fr1 st1 [(5, .one (.sl 0 1 0 l2.length))] [.arr 1 (eI.els l2)] → K4 fr1 st1 := by
  intro l2 h fr1 st1 hS
  unfold ref1_minus_j3 at h
  refine hK4 _ _ (XW.sub hS ?_)
  refine zq fun K22 hK22 => ?_
  obtain ⟨r1, c23, h⟩ := zB h
  refine zr (zv [] 1 [39] [] [(39, .one (.sl 0 1 0 l2.length))] [.arr 1 (eI.els l2)] (XO.sub (Sub.kill (fr' := [(39, vl eI l2)]) 0 (Nat.zero_le _) (by kernel_rfl) ⟨.one (cf_sl eI l2 rfl rfl rfl), trivial⟩) (za (c_ref1_cut _ _ _ c23) (zg [] 2 [4] (zd (hK22 _ _ (ze ?_)))))))
  obtain rfl := Option.some.inj h
  exact zf [vl eI r1.d] (.one (.rfl _ rfl))
 refine zq fun K5 hK5 => zr (zv [] 2 [0,1,5,6,10] [] [(0, vl eI p1), (1, vl eI p2), (5, .one (.pv (.s (.slice none 0 0)))), (6, vi (0 : Int)), (10, vi ((eI.els p1).length : Int))] [] ?_)
 rw [eI.len p1]
 refine zv [] 1 [0,1,5,6,10,11] [] [(0, vl eI p1), (1, vl eI p2), (5, .one (.pv (.s (.slice none 0 0)))), (6, vi (0 : Int)), (10, vi (p1.length : Int)), (11, vi (0 : Int))] [] (zd (hK5 _ _ (zb 0 (XW.sub (Sub.list (t := 5) (sz := 1) rfl) (XW.rounds' BIG (x := cd Tryd.f119 [1,1,1,0,1,0,0]) (by kernel_rfl) fun Q1 hQ1 => ?_)))))
 have hL1 : ∀ (k1 : Nat) (l1 : List Int) (x1 : Int) (x2 : Int), ref1_minus_l1 p1 p2 k1 l1 x1 x2 = some r → XR Tryd.prog 42 0 [] (cd Tryd.f119 [1,1,1,0,1,0,0]) Q1 k1 [(0, vl eI p1), (1, vl eI p2), (5, .one (.sl 0 1 0 l1.length)), (6, vi x1), (10, vi (p1.length : Int)), (11, vi x2)] [.arr 1 (eI.els l1)] := by
  intro k1
  induction k1 with
  | zero => intro l1 x1 x2 h; rw [ref1_minus_l1.eq_1] at h; cases h
  | succ k1 ih1 =>
   intro l1 x1 x2 h
   rw [ref1_minus_l1.eq_2] at h
   refine zq fun K6 hK6 => zr (zg [] 1 [0,1,5,6,10,11,12] (zd (hK6 _ _ (zq fun K7 hK7 => zC h (fun b8 h => ?_) (fun b8 h => ?_)))))
   ·refine zs (hK7 _ _ (zq fun K9 hK9 => zb 1 (zq fun K10 hK10 => zr (zg [] 2 [0,1,5,6,7,10,11] (zd ?_)))))
    refine hK10 _ _ (zq fun K11 hK11 => ?_)
    obtain ⟨e1, a12, h⟩ := zB h
    refine zr (zp [] 7 [0,1,5,7,8,10,11] [[pi e1]] [(0, vl eI p1), (1, vl eI p2), (5, .one (.sl 0 1 0 l1.length)), (7, vi x2), (8, vi (IntKind.i64.wrap (e1 - x1))), (10, vi (p1.length : Int)), (11, vi x2)] [.arr 1 (eI.els l1)] [0 ≤ x2 ∧ x2 < ((eI.els p1).length : Int) ∧ elemsOk 1 (eI.els p1), (eI.els p1)[x2.toNat]? = some [pi e1]] (⟨eI.inb a12, (eI.get a12), trivial⟩) (zd (hK11 _ _ (zq fun K13 hK13 => ?_))))
    have hJ1 : ∀ (x3 : Int), ref1_minus_j1 (ref1_minus_l1 p1 p2 k1) l1 x2 x3 = some r → ∀ fr1 st1, Sub 42 0 [] fr1 st1 [(0, vl eI p1), (1, vl eI p2), (5, .one (.sl 0 1 0 l1.length)), (8, vi x3), (10, vi (p1.length : Int)), (11, vi x2)] [.arr 1 (eI.els l1)] → K13 fr1 st1 := by
     intro x3 h fr1 st1 hS
     unfold ref1_minus_j1 at h
     refine hK13 _ _ (XW.sub hS ?_)
     refine zq fun K17 hK17 => zr (zg [] 1 [0,1,5,6,8,10,11] (zd (hK17 _ _ (zq fun K18 hK18 => ?_))))
     have hJ2 : ∀ (x4 : Int) (x5 : Int), ref1_minus_j2 (ref1_minus_l1 p1 p2 k1) l1 x2 x4 x5 = some r → ∀ fr1 st1, Sub 42 0 [] fr1 st1 [(0, vl eI p1), (1, vl eI p2), (5, .one (.sl 0 1 0 l1.length)), (6, vi x4), (8, vi x5), (10, vi (p1.length : Int)), (11, vi x2)] [.arr 1 (eI.els l1)] → K18 fr1 st1 := by
      intro x4 x5 h fr1 st1 hS
      unfold ref1_minus_j2 at h
      refine hK18 _ _ (XW.sub hS ?_)
      obtain ⟨g21, h⟩ := zG h
      refine zr (zp [] 4 [0,1,6,10,11,37] [] [(0, vl eI p1), (1, vl eI p2), (6, vi x4), (10, vi (p1.length : Int)), (11, vi x2), (37, .one (.sl 0 1 0 (l1.length + (eI.els [x5]).length)))] [.arr 1 (eI.els l1 ++ eI.els [x5])] [elemsOk 1 (eI.els [x5]), l1.length = (eI.els l1).length, l1.length + (eI.els [x5]).length ≤ 4294967296] (⟨eI.ok _, (eI.len l1).symm, g21, trivial⟩) ?_)
      rw [show l1.length + (eI.els [x5]).length = (l1 ++ [x5]).length from eI.lapp _ _]
      rw [show eI.els l1 ++ eI.els [x5] = eI.els (l1 ++ [x5]) from eI.app2 _ _]
      exact zg [] 1 [0,1,5,6,10,11] (zd (hK9 _ _ (zr (zg [] 2 [0,1,5,6,10,11] (zd (XR.sub (zk [0,1,5,6,10,11]) (ih1 (l1 ++ [x5]) x4 (IntKind.i64.wrap (x2 + (1 : Int))) h)))))))
     refine zq fun K19 hK19 => zr (zg [] 2 [0,1,5,6,8,10,11,31] (zd (hK19 _ _ (zC h (fun b20 h => ?_) (fun b20 h => ?_)))))
     ·exact zr (zv [] 4 [0,1,5,6,8,10,11] [] [(0, vl eI p1), (1, vl eI p2), (5, .one (.sl 0 1 0 l1.length)), (6, vi (1 : Int)), (8, vi (IntKind.i64.wrap (x3 + (10 : Int)))), (10, vi (p1.length : Int)), (11, vi x2)] [.arr 1 (eI.els l1)] (zd (hJ2 (1 : Int) (IntKind.i64.wrap (x3 + (10 : Int))) h _ _ (zk [0,1,5,6,8,10,11]))))
     ·exact zs (hJ2 (0 : Int) x3 h _ _ (zk [0,1,5,6,8,10,11]))
    refine zq fun K14 hK14 => zr (zv [] 3 [0,1,5,7,8,10,11,20,22] [] [(0, vl eI p1), (1, vl eI p2), (5, .one (.sl 0 1 0 l1.length)), (7, vi x2), (8, vi (IntKind.i64.wrap (e1 - x1))), (10, vi (p1.length : Int)), (11, vi x2), (20, vi x2), (22, vi ((eI.els p2).length : Int))] [.arr 1 (eI.els l1)] ?_)
    rw [eI.len p2]
    refine zg [] 1 [0,1,5,7,8,10,11,23] (zd (hK14 _ _ (zC h (fun b15 h => ?_) (fun b15 h => ?_))))
    ·obtain ⟨e2, a16, h⟩ := zB h
     exact zr (zo [] 7 [0,1,5,8,10,11] [[pi e2]] [0 ≤ x2 ∧ x2 < ((eI.els p2).length : Int) ∧ elemsOk 1 (eI.els p2), (eI.els p2)[x2.toNat]? = some [pi e2]] (⟨eI.inb a16, (eI.get a16), trivial⟩) (zd (hJ1 (IntKind.i64.wrap ((IntKind.i64.wrap (e1 - x1)) - e2)) h _ _ (zk [0,1,5,8,10,11]))))
    ·exact zs (hJ1 (IntKind.i64.wrap (e1 - x1)) h _ _ (zk [0,1,5,8,10,11]))
   ·exact zx 0 (hQ1 _ _ _ (hJ3 l1 h _ _ (zk [5])))
 exact XR.sub (zk [0,1,5,6,10,11]) (hL1 BIG [] (0 : Int) (0 : Int) h)

def ref1_divide_j1 (rec1 : List Int → List Int → Int → Option ((List Int) × (List Int))) (x2 : Int) (l3 : List Int) (x4 : List Int) : Option ((List Int) × (List Int)) :=
    rec1 l3 x4 (IntKind.i64.wrap (x2 - (1 : Int)))

def ref1_divide_l2 (rec1 : List Int → List Int → Int → Option ((List Int) × (List Int))) (p2 : (List Int)) (x2 : Int) : Nat → List Int → List Int → Option ((List Int) × (List Int))
  | 0, _, _ => none
  | k2 + 1, l2, x3 =>
    bnd (ref1_most x3 p2) fun r2 =>
    ift (decide ((0 : Int) ≤ r2))
      (bnd (ref1_minus x3 p2) fun r3 =>
       bnd (at? l2 x2) fun e2 =>
       (ref1_divide_l2 rec1 p2 x2 k2) (l2.set x2.toNat (IntKind.i64.wrap (e2 + (1 : Int)))) r3)
      (ref1_divide_j1 rec1 x2 l2 x3)

def ref1_divide_j2 (l4 : List Int) (x5 : List Int) : Option ((List Int) × (List Int)) :=
    bnd (ref1_cut false l4) fun r4 =>
    some (r4.d, x5)

def ref1_divide_l1 (p1 : (List Int)) (p2 : (List Int)) : Nat → List Int → List Int → Int → Option ((List Int) × (List Int))
  | 0, _, _, _ => none
  | k1 + 1, l1, x1, x2 =>
    ift (decide ((0 : Int) ≤ x2))
      (bnd (at? p1 x2) fun e1 =>
       grd ([e1].length + x1.length ≤ 4294967296) <|
       bnd (ref1_cut false ([e1] ++ x1)) fun r1 =>
       ref1_divide_l2 (ref1_divide_l1 p1 p2 k1) p2 x2 BIG l1 r1.d)
      (ref1_divide_j2 l1 x1)

def ref1_divide (p1 : (List Int)) (p2 : (List Int)) : Option ((List Int) × (List Int)) :=
    grd (0 ≤ (p1.length : Int) ∧ (p1.length : Int) ≤ (p1.length : Int) ∧ (p1.length : Int) ≤ 4294967296) <|
    ref1_divide_l1 p1 p2 BIG (List.replicate (p1.length : Int).toNat (0 : Int)) [] (IntKind.i64.wrap ((p1.length : Int) - (1 : Int)))


theorem c_ref1_divide (p1 : (List Int)) (p2 : (List Int)) (r : ((List Int) × (List Int))) (h : ref1_divide p1 p2 = some r) : PC Tryd.prog 99 [vl eI p1, vl eI p2] (.tp [vl eI r.1, vl eI r.2]) := by
 unfold ref1_divide at h
 refine zF 43 Tryd.f99 (zq fun K1 hK1 => zr (zg [21] 2 [0,1,5] (zd (hK1 _ _ (zq fun K2 hK2 => ?_)))))
 obtain ⟨g4, h⟩ := zG h
 refine zr (zv [21] 2 [0,1,5,8] [] [(0, vl eI p1), (1, vl eI p2), (5, .one (.pv (.s (.slice none 0 0)))), (8, vi ((eI.els p1).length : Int))] [] ?_)
 rw [eI.len p1]
 refine zp [21] 1 [0,1,5,9] [] [(0, vl eI p1), (1, vl eI p2), (5, .one (.pv (.s (.slice none 0 0)))), (9, .one (.sl 0 1 0 ((p1.length : Int).toNat)))] [.arr 1 (List.replicate (p1.length : Int).toNat [pi (0 : Int)])] [0 ≤ (p1.length : Int), (p1.length : Int) ≤ (p1.length : Int), (p1.length : Int) ≤ 4294967296] (⟨g4.1, g4.2.1, g4.2.2, trivial⟩) ?_
 rw [show List.replicate (p1.length : Int).toNat [pi (0 : Int)] = eI.els (List.replicate (p1.length : Int).toNat (0 : Int)) from eI.rep _ (0 : Int)]
 refine zg [21] 1 [0,1,4,5] (zd (hK2 _ _ (zq fun K5 hK5 => ?_)))
 have hJ2 : ∀ (l4 : List Int) (x5 : List Int), ref1_divide_j2 l4 x5 = some r → ∀ fr1 st1, Sub 43 0 [] fr1 st1 [(4, .one (.sl 0 1 0 l4.length)), (5, vl eI x5)] [.arr 1 (eI.els l4)] → K5 fr1 st1 := by
  intro l4 x5 h fr1 st1 hS
  unfold ref1_divide_j2 at h
  refine hK5 _ _ (XW.sub hS ?_)
  refine zq fun K22 hK22 => ?_
  obtain ⟨r4, c23, h⟩ := zB h
  refine zr (zv [21] 1 [5,39] [] [(5, vl eI x5), (39, .one (.sl 0 1 0 l4.length))] [.arr 1 (eI.els l4)] (XO.sub (Sub.kill (fr' := [(5, vl eI x5), (39, vl eI l4)]) 0 (Nat.zero_le _) (by kernel_rfl) ⟨.one (.rfl _ rfl), .one (cf_sl eI l4 rfl rfl rfl), trivial⟩) (za (c_ref1_cut _ _ _ c23) (zg [21] 4 [4,5] (zd (hK22 _ _ (ze ?_)))))))
  obtain rfl := Option.some.inj h
  exact zf [vl eI r4.d, vl eI x5] (.tpc (.one (.rfl _ rfl)) (.tpc (.one (.rfl _ rfl)) (.tp0)))
 refine zq fun K6 hK6 => zr (zv [21] 2 [0,1,4,5,11] [] [(0, vl eI p1), (1, vl eI p2), (4, .one (.sl 0 1 0 ((p1.length : Int).toNat))), (5, .one (.pv (.s (.slice none 0 0)))), (11, vi ((eI.els p1).length : Int))] [.arr 1 (eI.els (List.replicate (p1.length : Int).toNat (0 : Int)))] ?_)
 rw [eI.len p1]
 refine zg [21] 2 [0,1,4,5,6] (zd (hK6 _ _ (zb 0 (XW.rounds' BIG (x := cd Tryd.f99 [1,1,0,1,0,0]) (by kernel_rfl) fun Q1 hQ1 => ?_))))
 have hL1 : ∀ (k1 : Nat) (l1 : List Int) (x1 : List Int) (x2 : Int), ref1_divide_l1 p1 p2 k1 l1 x1 x2 = some r → XR Tryd.prog 43 0 [] (cd Tryd.f99 [1,1,0,1,0,0]) Q1 k1 [(0, vl eI p1), (1, vl eI p2), (4, .one (.sl 0 1 0 l1.length)), (5, vl eI x1), (6, vi x2)] [.arr 1 (eI.els l1)] := by
  intro k1
  induction k1 with
  | zero => intro l1 x1 x2 h; rw [ref1_divide_l1.eq_1] at h; cases h
  | succ k1 ih1 =>
   intro l1 x1 x2 h
   rw [ref1_divide_l1.eq_2] at h
   refine zq fun K7 hK7 => zq fun K8 hK8 => zr (zg [21] 2 [0,1,4,5,6,14] (zd (hK8 _ _ (zC h (fun b9 h => ?_) (fun b9 h => ?_)))))
   ·refine zs (hK7 _ _ (zq fun K10 hK10 => ?_))
    have hJ1 : ∀ (l3 : List Int) (x4 : List Int), ref1_divide_j1 (ref1_divide_l1 p1 p2 k1) x2 l3 x4 = some r → ∀ fr1 st1, Sub 43 0 [] fr1 st1 [(0, vl eI p1), (1, vl eI p2), (4, .one (.sl 0 1 0 l3.length)), (5, vl eI x4), (6, vi x2)] [.arr 1 (eI.els l3)] → K10 fr1 st1 := by
     intro l3 x4 h fr1 st1 hS
     unfold ref1_divide_j1 at h
     refine hK10 _ _ (XW.sub hS ?_)
     exact zr (zg [21] 3 [0,1,4,5,6] (zd (XR.sub (zk [0,1,4,5,6]) (ih1 l3 x4 (IntKind.i64.wrap (x2 - (1 : Int))) h))))
    refine zb 1 (zq fun K11 hK11 => ?_)
    obtain ⟨e1, a12, h⟩ := zB h
    obtain ⟨g13, h⟩ := zG h
    obtain ⟨r1, c14, h⟩ := zB h
    refine zr (zp [21] 7 [0,1,4,6,23] [[pi e1]] [(0, vl eI p1), (1, vl eI p2), (4, .one (.sl 0 1 0 l1.length)), (6, vi x2), (23, .one (.sl 1 1 0 (1 + (eI.els x1).length)))] [.arr 1 (eI.els l1), .arr 1 (eI.els [e1] ++ eI.els x1)] [0 ≤ x2 ∧ x2 < ((eI.els p1).length : Int) ∧ elemsOk 1 (eI.els p1), (eI.els p1)[x2.toNat]? = some [pi e1], elemsOk 1 (eI.els x1), 1 = (eI.els [e1]).length, 1 + (eI.els x1).length ≤ 4294967296] (⟨eI.inb a12, (eI.get a12), eI.ok _, (by simp [Enc.len]), (by simp [Enc.len] at *; omega), trivial⟩) ?_)
    rw [show 1 + (eI.els x1).length = ([e1] ++ x1).length from (by simp [Enc.len] <;> omega)]
    rw [show eI.els [e1] ++ eI.els x1 = eI.els ([e1] ++ x1) from eI.app2 _ _]
    refine XO.sub (Sub.kill (fr' := [(0, vl eI p1), (1, vl eI p2), (4, .one (.sl 0 1 0 l1.length)), (6, vi x2), (23, vl eI ([e1] ++ x1))]) 1 (Nat.zero_le _) (by kernel_rfl) ⟨.one (.rfl _ rfl), .one (.rfl _ rfl), .one (.rfl _ rfl), .one (.rfl _ rfl), .one (cf_sl eI ([e1] ++ x1) rfl rfl rfl), trivial⟩) (za (c_ref1_cut _ _ _ c14) (zg [21] 2 [0,1,4,5,6] (zd (hK11 _ _ (zb 2 (XW.rounds' BIG (x := cd Tryd.f99 [1,1,0,1,0,0,1,0,0,1,0,0]) (by kernel_rfl) fun Q2 hQ2 => ?_))))))
    have hL2 : ∀ (k2 : Nat) (l2 : List Int) (x3 : List Int), ref1_divide_l2 (ref1_divide_l1 p1 p2 k1) p2 x2 k2 l2 x3 = some r → XR Tryd.prog 43 0 [] (cd Tryd.f99 [1,1,0,1,0,0,1,0,0,1,0,0]) Q2 k2 [(0, vl eI p1), (1, vl eI p2), (4, .one (.sl 0 1 0 l2.length)), (5, vl eI x3), (6, vi x2)] [.arr 1 (eI.els l2), .dead] := by
     intro k2
     induction k2 with
     | zero => intro l2 x3 h; rw [ref1_divide_l2.eq_1] at h; cases h
     | succ k2 ih2 =>
      intro l2 x3 h
      rw [ref1_divide_l2.eq_2] at h
      refine zq fun K15 hK15 => zq fun K16 hK16 => ?_
      obtain ⟨r2, c17, h⟩ := zB h
      refine zr (zg [21] 2 [0,1,4,5,6,26,27] (za (c_ref1_most _ _ _ c17) (zv [21] 1 [0,1,4,5,6,29] [] [(0, vl eI p1), (1, vl eI p2), (4, .one (.sl 0 1 0 l2.length)), (5, vl eI x3), (6, vi x2), (29, vb (decide ((0 : Int) ≤ r2)))] [.arr 1 (eI.els l2), .dead] (zd (hK16 _ _ (zC h (fun b18 h => ?_) (fun b18 h => ?_)))))))
      ·refine zs (hK15 _ _ (zb 3 (zq fun K19 hK19 => ?_)))
       obtain ⟨r3, c20, h⟩ := zB h
       refine zr (zg [21] 2 [0,1,4,6,30,31] (za (c_ref1_minus _ _ _ c20) (zv [21] 1 [0,1,4,5,6] [] [(0, vl eI p1), (1, vl eI p2), (4, .one (.sl 0 1 0 l2.length)), (5, vl eI r3), (6, vi x2)] [.arr 1 (eI.els l2), .dead] (zd (hK19 _ _ ?_)))))
       obtain ⟨e2, a21, h⟩ := zB h
       refine zr (zp [21] 7 [0,1,4,5,6] [[pi e2], [pi e2]] [(0, vl eI p1), (1, vl eI p2), (4, .one (.sl 0 1 0 l2.length)), (5, vl eI r3), (6, vi x2)] [.arr 1 ((eI.els l2).set (0 + x2.toNat) [pi (IntKind.i64.wrap (e2 + (1 : Int)))]), .dead] [0 ≤ x2 ∧ x2 < ((l2.length : Nat) : Int), (eI.els l2)[(0 + x2.toNat)]? = some [pi e2], 0 ≤ x2 ∧ x2 < ((l2.length : Nat) : Int), (eI.els l2)[(0 + x2.toNat)]? = some [pi e2]] (⟨Enc.inb' a21, (eI.get0 a21), Enc.inb' a21, (eI.get0 a21), trivial⟩) ?_)
       rw [show (eI.els l2).set (0 + x2.toNat) [pi (IntKind.i64.wrap (e2 + (1 : Int)))] = eI.els (l2.set x2.toNat (IntKind.i64.wrap (e2 + (1 : Int)))) from eI.set0 _ _ (IntKind.i64.wrap (e2 + (1 : Int)))]
       exact zd (XR.sub (Sub.trans (Sub.pick (fr' := [(0, vl eI p1), (1, vl eI p2), (4, .one (.sl 0 1 0 l2.length)), (5, vl eI r3), (6, vi x2)]) [0,1,4,5,6] (by kernel_rfl)) (Sub.frame (fr' := [(0, vl eI p1), (1, vl eI p2), (4, .one (.sl 0 1 0 (l2.set x2.toNat (IntKind.i64.wrap (e2 + (1 : Int)))).length)), (5, vl eI r3), (6, vi x2)]) ⟨.rfl _, .rfl _, ALe.of_eq (show (.one (.sl 0 1 0 l2.length) : AV) = .one (.sl 0 1 0 (l2.set x2.toNat (IntKind.i64.wrap (e2 + (1 : Int)))).length) from by simp), .rfl _, .rfl _, trivial⟩)) (ih2 (l2.set x2.toNat (IntKind.i64.wrap (e2 + (1 : Int)))) r3 h))
      ·exact zx 2 (hQ2 _ _ _ (hJ1 l2 x3 h _ _ (Sub.trans (Sub.pick (fr' := [(0, vl eI p1), (1, vl eI p2), (4, .one (.sl 0 1 0 l2.length)), (5, vl eI x3), (6, vi x2)]) [0,1,4,5,6] (by kernel_rfl)) (Sub.take (fr' := [(0, vl eI p1), (1, vl eI p2), (4, .one (.sl 0 1 0 l2.length)), (5, vl eI x3), (6, vi x2)]) 1 (Nat.zero_le _) (by kernel_rfl) (by kernel_rfl)))))
    exact XR.sub (zk [0,1,4,5,6]) (hL2 BIG l1 r1.d h)
   ·exact zx 0 (hQ1 _ _ _ (hJ2 l1 x1 h _ _ (zk [4,5])))
 exact XR.sub (Sub.trans (Sub.pick (fr' := [(0, vl eI p1), (1, vl eI p2), (4, .one (.sl 0 1 0 ((p1.length : Int).toNat))), (5, .one (.pv (.s (.slice none 0 0)))), (6, vi (IntKind.i64.wrap ((p1.length : Int) - (1 : Int))))]) [0,1,4,5,6] (by kernel_rfl)) (Sub.frame (fr' := [(0, vl eI p1), (1, vl eI p2), (4, .one (.sl 0 1 0 (List.replicate (p1.length : Int).toNat (0 : Int)).length)), (5, vl eI []), (6, vi (IntKind.i64.wrap ((p1.length : Int) - (1 : Int))))]) ⟨.rfl _, .rfl _, ALe.of_eq (show (.one (.sl 0 1 0 ((p1.length : Int).toNat)) : AV) = .one (.sl 0 1 0 (List.replicate (p1.length : Int).toNat (0 : Int)).length) from by simp), .one .nl, .rfl _, trivial⟩)) (hL1 BIG (List.replicate (p1.length : Int).toNat (0 : Int)) [] (IntKind.i64.wrap ((p1.length : Int) - (1 : Int))) h)

def ref1_plus_j3 (rec1 : List Int → Int → Int → Option (List Int)) (l1 : List Int) (x2 : Int) (x5 : Int) : Option (List Int) :=
    grd (l1.length + 1 ≤ 4294967296) <|
    rec1 (l1 ++ [(x5.tmod (10 : Int))]) (IntKind.i64.wrap (x5.tdiv (10 : Int))) (IntKind.i64.wrap (x2 + (1 : Int)))

def ref1_plus_j2 (rec1 : List Int → Int → Int → Option (List Int)) (p2 : (List Int)) (l1 : List Int) (x2 : Int) (x4 : Int) : Option (List Int) :=
    ift (decide (x2 < (p2.length : Int)))
      (bnd (at? p2 x2) fun e2 =>
       ref1_plus_j3 rec1 l1 x2 (IntKind.i64.wrap (x4 + e2)))
      (ref1_plus_j3 rec1 l1 x2 x4)

def ref1_plus_j4 (l2 : List Int) : Option (List Int) :=
    some l2

def ref1_plus_j1 (rec1 : List Int → Int → Int → Option (List Int)) (p1 : (List Int)) (p2 : (List Int)) (l1 : List Int) (x1 : Int) (x2 : Int) (x3 : Bool) : Option (List Int) :=
    ift x3
      (ift (decide (x2 < (p1.length : Int)))
         (bnd (at? p1 x2) fun e1 =>
          ref1_plus_j2 rec1 p2 l1 x2 (IntKind.i64.wrap (x1 + e1)))
         (ref1_plus_j2 rec1 p2 l1 x2 x1))
      (ref1_plus_j4 l1)

def ref1_plus_l1 (p1 : (List Int)) (p2 : (List Int)) : Nat → List Int → Int → Int → Option (List Int)
  | 0, _, _, _ => none
  | k1 + 1, l1, x1, x2 =>
    ift (decide (x2 < (p1.length : Int)))
      (ref1_plus_j1 (ref1_plus_l1 p1 p2 k1) p1 p2 l1 x1 x2 true)
      (ift (decide (x2 < (p2.length : Int)))
         (ref1_plus_j1 (ref1_plus_l1 p1 p2 k1) p1 p2 l1 x1 x2 true)
         (ref1_plus_j1 (ref1_plus_l1 p1 p2 k1) p1 p2 l1 x1 x2 (decide ((0 : Int) < x1))))

def ref1_plus (p1 : (List Int)) (p2 : (List Int)) : Option (List Int) :=
    ref1_plus_l1 p1 p2 BIG [] (0 : Int) (0 : Int)


theorem c_ref1_plus (p1 : (List Int)) (p2 : (List Int)) (r : (List Int)) (h : ref1_plus p1 p2 = some r) : PC Tryd.prog 101 [vl eI p1, vl eI p2] (vl eI r) := by
 unfold ref1_plus at h
 refine zF 54 Tryd.f101 (zq fun K1 hK1 => zr (zg [] 1 [0,1] (zd (hK1 _ _ (zq fun K2 hK2 => zr ?_)))))
 refine zg [] 1 [0,1,5] (zd (hK2 _ _ (zq fun K3 hK3 => zr (zv [] 1 [0,1,5,6] [] [(0, vl eI p1), (1, vl eI p2), (5, .one (.pv (.s (.slice none 0 0)))), (6, vi (0 : Int))] [] (zd (hK3 _ _ ?_))))))
 refine zq fun K4 hK4 => ?_
 have hJ4 : ∀ (l2 : List Int), ref1_plus_j4 l2 = some r → ∀ fr1 st1, Sub 54 0 [] fr1 st1 [(5, .one (.sl 0 1 0 l2.length))] [.arr 1 (eI.els l2)] → K4 fr1 st1 := by
  intro l2 h fr1 st1 hS
  unfold ref1_plus_j4 at h
  refine hK4 _ _ (XW.sub hS ?_)
  refine zq fun K23 hK23 => zr (zg [] 2 [4] (zd (hK23 _ _ (ze ?_))))
  obtain rfl := Option.some.inj h
  exact zf [.one (.sl 0 1 0 l2.length)] (.one (cf_sl eI l2 rfl rfl rfl))
 refine zq fun K5 hK5 => zr (zv [] 1 [0,1,5,6,7] [] [(0, vl eI p1), (1, vl eI p2), (5, .one (.pv (.s (.slice none 0 0)))), (6, vi (0 : Int)), (7, vi (0 : Int))] [] (zd (hK5 _ _ (zb 0 (XW.sub (Sub.list (t := 5) (sz := 1) rfl) (XW.rounds' BIG (x := cd Tryd.f101 [1,1,1,0,1,0,0]) (by kernel_rfl) fun Q1 hQ1 => ?_))))))
 have hL1 : ∀ (k1 : Nat) (l1 : List Int) (x1 : Int) (x2 : Int), ref1_plus_l1 p1 p2 k1 l1 x1 x2 = some r → XR Tryd.prog 54 0 [] (cd Tryd.f101 [1,1,1,0,1,0,0]) Q1 k1 [(0, vl eI p1), (1, vl eI p2), (5, .one (.sl 0 1 0 l1.length)), (6, vi x1), (7, vi x2)] [.arr 1 (eI.els l1)] := by
  intro k1
  induction k1 with
  | zero => intro l1 x1 x2 h; rw [ref1_plus_l1.eq_1] at h; cases h
  | succ k1 ih1 =>
   intro l1 x1 x2 h
   rw [ref1_plus_l1.eq_2] at h
   refine zq fun K6 hK6 => zq fun K7 hK7 => ?_
   have hJ1 : ∀ (x3 : Bool), ref1_plus_j1 (ref1_plus_l1 p1 p2 k1) p1 p2 l1 x1 x2 x3 = some r → ∀ fr1 st1, Sub 54 0 [] fr1 st1 [(0, vl eI p1), (1, vl eI p2), (5, .one (.sl 0 1 0 l1.length)), (6, vi x1), (7, vi x2), (22, vb x3)] [.arr 1 (eI.els l1)] → K7 fr1 st1 := by
    intro x3 h fr1 st1 hS
    unfold ref1_plus_j1 at h
    refine hK7 _ _ (XW.sub hS ?_)
    refine zC h (fun b10 h => ?_) (fun b10 h => ?_)
    ·refine zs (hK6 _ _ (zq fun K11 hK11 => zb 1 (zq fun K12 hK12 => zr (zg [] 2 [0,1,5,7,8] (zd ?_)))))
     refine hK12 _ _ (zq fun K13 hK13 => ?_)
     have hJ2 : ∀ (x4 : Int), ref1_plus_j2 (ref1_plus_l1 p1 p2 k1) p2 l1 x2 x4 = some r → ∀ fr1 st1, Sub 54 0 [] fr1 st1 [(0, vl eI p1), (1, vl eI p2), (5, .one (.sl 0 1 0 l1.length)), (7, vi x2), (8, vi x4)] [.arr 1 (eI.els l1)] → K13 fr1 st1 := by
      intro x4 h fr1 st1 hS
      unfold ref1_plus_j2 at h
      refine hK13 _ _ (XW.sub hS ?_)
      refine zq fun K17 hK17 => ?_
      have hJ3 : ∀ (x5 : Int), ref1_plus_j3 (ref1_plus_l1 p1 p2 k1) l1 x2 x5 = some r → ∀ fr1 st1, Sub 54 0 [] fr1 st1 [(0, vl eI p1), (1, vl eI p2), (5, .one (.sl 0 1 0 l1.length)), (7, vi x2), (8, vi x5)] [.arr 1 (eI.els l1)] → K17 fr1 st1 := by
       intro x5 h fr1 st1 hS
       unfold ref1_plus_j3 at h
       refine hK17 _ _ (XW.sub hS ?_)
       refine zq fun K21 hK21 => ?_
       obtain ⟨g22, h⟩ := zG h
       refine zr (zp [] 5 [0,1,7,8,50] [] [(0, vl eI p1), (1, vl eI p2), (7, vi x2), (8, vi x5), (50, .one (.sl 0 1 0 (l1.length + (eI.els [(x5.tmod (10 : Int))]).length)))] [.arr 1 (eI.els l1 ++ eI.els [(x5.tmod (10 : Int))])] [(10 : Int) ≠ 0, elemsOk 1 (eI.els [(x5.tmod (10 : Int))]), l1.length = (eI.els l1).length, l1.length + (eI.els [(x5.tmod (10 : Int))]).length ≤ 4294967296] (⟨by decide, eI.ok _, (eI.len l1).symm, g22, trivial⟩) ?_)
       rw [show l1.length + (eI.els [(x5.tmod (10 : Int))]).length = (l1 ++ [(x5.tmod (10 : Int))]).length from eI.lapp _ _]
       rw [show eI.els l1 ++ eI.els [(x5.tmod (10 : Int))] = eI.els (l1 ++ [(x5.tmod (10 : Int))]) from eI.app2 _ _]
       refine zg [] 1 [0,1,5,7,8] (zd (hK21 _ _ (zr (zo [] 3 [0,1,5,6,7] [] [(10 : Int) ≠ 0] (⟨by decide, trivial⟩) (zd (hK11 _ _ (zr ?_)))))))
       exact zv [] 3 [0,1,5,6,7] [] [(0, vl eI p1), (1, vl eI p2), (5, .one (.sl 0 1 0 ((l1 ++ [(x5.tmod (10 : Int))]).length))), (6, vi (IntKind.i64.wrap (x5.tdiv (10 : Int)))), (7, vi (IntKind.i64.wrap (x2 + (1 : Int))))] [.arr 1 (eI.els (l1 ++ [(x5.tmod (10 : Int))]))] (zd (XR.sub (zk [0,1,5,6,7]) (ih1 (l1 ++ [(x5.tmod (10 : Int))]) (IntKind.i64.wrap (x5.tdiv (10 : Int))) (IntKind.i64.wrap (x2 + (1 : Int))) h)))
      refine zq fun K18 hK18 => zr (zv [] 3 [0,1,5,7,8,36,38] [] [(0, vl eI p1), (1, vl eI p2), (5, .one (.sl 0 1 0 l1.length)), (7, vi x2), (8, vi x4), (36, vi x2), (38, vi ((eI.els p2).length : Int))] [.arr 1 (eI.els l1)] ?_)
      rw [eI.len p2]
      refine zg [] 1 [0,1,5,7,8,39] (zd (hK18 _ _ (zC h (fun b19 h => ?_) (fun b19 h => ?_))))
      ·obtain ⟨e2, a20, h⟩ := zB h
       exact zr (zo [] 7 [0,1,5,7,8] [[pi e2]] [0 ≤ x2 ∧ x2 < ((eI.els p2).length : Int) ∧ elemsOk 1 (eI.els p2), (eI.els p2)[x2.toNat]? = some [pi e2]] (⟨eI.inb a20, (eI.get a20), trivial⟩) (zd (hJ3 (IntKind.i64.wrap (x4 + e2)) h _ _ (zk [0,1,5,7,8]))))
      ·exact zs (hJ3 x4 h _ _ (zk [0,1,5,7,8]))
     refine zq fun K14 hK14 => zr (zv [] 3 [0,1,5,7,8,26,28] [] [(0, vl eI p1), (1, vl eI p2), (5, .one (.sl 0 1 0 l1.length)), (7, vi x2), (8, vi x1), (26, vi x2), (28, vi ((eI.els p1).length : Int))] [.arr 1 (eI.els l1)] ?_)
     rw [eI.len p1]
     refine zg [] 1 [0,1,5,7,8,29] (zd (hK14 _ _ (zC h (fun b15 h => ?_) (fun b15 h => ?_))))
     ·obtain ⟨e1, a16, h⟩ := zB h
      exact zr (zo [] 7 [0,1,5,7,8] [[pi e1]] [0 ≤ x2 ∧ x2 < ((eI.els p1).length : Int) ∧ elemsOk 1 (eI.els p1), (eI.els p1)[x2.toNat]? = some [pi e1]] (⟨eI.inb a16, (eI.get a16), trivial⟩) (zd (hJ2 (IntKind.i64.wrap (x1 + e1)) h _ _ (zk [0,1,5,7,8]))))
     ·exact zs (hJ2 x1 h _ _ (zk [0,1,5,7,8]))
    ·exact zx 0 (hQ1 _ _ _ (hJ4 l1 h _ _ (zk [5])))
   rcases zW h with ⟨b8, h⟩ | ⟨b8, h⟩
   ·refine zr (zv [] 3 [0,1,5,6,7,9,11] [] [(0, vl eI p1), (1, vl eI p2), (5, .one (.sl 0 1 0 l1.length)), (6, vi x1), (7, vi x2), (9, vi x2), (11, vi ((eI.els p1).length : Int))] [.arr 1 (eI.els l1)] ?_)
    rw [eI.len p1]
    exact zg [] 2 [0,1,5,6,7,13] (zt 13 b8 (zg [] 9 [0,1,5,6,7,22] (zd (hJ1 true h _ _ (zk [0,1,5,6,7,22])))))
   ·rcases zW h with ⟨b9, h⟩ | ⟨b9, h⟩
    ·refine zr (zv [] 3 [0,1,5,6,7,9,11] [] [(0, vl eI p1), (1, vl eI p2), (5, .one (.sl 0 1 0 l1.length)), (6, vi x1), (7, vi x2), (9, vi x2), (11, vi ((eI.els p1).length : Int))] [.arr 1 (eI.els l1)] ?_)
     rw [eI.len p1]
     refine zg [] 2 [0,1,5,6,7,13] (zt 13 b8 (zv [] 3 [0,1,5,6,7,13,14,16] [] [(0, vl eI p1), (1, vl eI p2), (5, .one (.sl 0 1 0 l1.length)), (6, vi x1), (7, vi x2), (13, vb false), (14, vi x2), (16, vi ((eI.els p2).length : Int))] [.arr 1 (eI.els l1)] ?_))
     rw [eI.len p2]
     exact zg [] 3 [0,1,5,6,7,19] (zt 19 b9 (zg [] 3 [0,1,5,6,7,22] (zd (hJ1 true h _ _ (zk [0,1,5,6,7,22])))))
    ·refine zr (zv [] 3 [0,1,5,6,7,9,11] [] [(0, vl eI p1), (1, vl eI p2), (5, .one (.sl 0 1 0 l1.length)), (6, vi x1), (7, vi x2), (9, vi x2), (11, vi ((eI.els p1).length : Int))] [.arr 1 (eI.els l1)] ?_)
     rw [eI.len p1]
     refine zg [] 2 [0,1,5,6,7,13] (zt 13 b8 (zv [] 3 [0,1,5,6,7,13,14,16] [] [(0, vl eI p1), (1, vl eI p2), (5, .one (.sl 0 1 0 l1.length)), (6, vi x1), (7, vi x2), (13, vb false), (14, vi x2), (16, vi ((eI.els p2).length : Int))] [.arr 1 (eI.els l1)] ?_))
     rw [eI.len p2]
     exact zg [] 3 [0,1,5,6,7,19] (zt 19 b9 (zg [] 3 [0,1,5,6,7,22] (zd (hJ1 (decide ((0 : Int) < x1)) h _ _ (zk [0,1,5,6,7,22])))))
 exact XR.sub (zk [0,1,5,6,7]) (hL1 BIG [] (0 : Int) (0 : Int) h)

def ref1_even_j2 (p1 : RWide) (p2 : RWide) (x2 : List Int) : Option RWide :=
    bnd (ref1_cut (!(p1.below == p2.below)) x2) fun r5 =>
    some r5

def ref1_even_j1 (p1 : RWide) (p2 : RWide) (r1 : ((List Int) × (List Int))) (x1 : Bool) : Option RWide :=
    ift x1
      (bnd (ref1_plus r1.1 [(1 : Int)]) fun r4 =>
       ref1_even_j2 p1 p2 r4)
      (ref1_even_j2 p1 p2 r1.1)

def ref1_even (p1 : RWide) (p2 : RWide) : Option RWide :=
    bnd (ref1_divide p1.d p2.d) fun r1 =>
    bnd (ref1_plus r1.2 r1.2) fun r2 =>
    bnd (ref1_most r2 p2.d) fun r3 =>
    ift (decide ((0 : Int) < r3))
      (ref1_even_j1 p1 p2 r1 true)
      (ift (r3 == (0 : Int))
         (ift (decide ((0 : Int) < (r1.1.length : Int)))
            (bnd (at? r1.1 (0 : Int)) fun e1 =>
             ref1_even_j1 p1 p2 r1 ((e1.tmod (2 : Int)) == (1 : Int)))
            (ref1_even_j1 p1 p2 r1 false))
         (ref1_even_j1 p1 p2 r1 false))

abbrev qa2054 (p1 : RWide) : List PV := [.s (.bool p1.below), .ro (eI.els p1.d)]
abbrev qa2055 (p2 : RWide) : List PV := [.s (.bool p2.below), .ro (eI.els p2.d)]
abbrev qa2056 : List CV := [cb false, .pv (.s (.slice none 0 0))]
abbrev qa2069 (p1 : RWide) (p2 : RWide) (r1 : ((List Int) × (List Int))) (r3 : Int) : Fr := [(2, .one (.pv (.rp [(qa2054 p1)] 0 0))), (3, .one (.pv (.rp [(qa2055 p2)] 0 0))), (4, .one (.pt 0 0 0 0)), (5, vl eI r1.1), (7, vi r3), (24, vb (decide ((0 : Int) < r3)))]

theorem c_ref1_even (p1 : RWide) (p2 : RWide) (r : RWide) (h : ref1_even p1 p2 = some r) : PC Tryd.prog 54 [.ag [cb p1.below, cl eI p1.d], .ag [cb p2.below, cl eI p2.d]] (.ag [cb r.below, cl eI r.d]) := by
 unfold ref1_even at h
 refine zF 50 Tryd.f54 (zq fun K1 hK1 => zr (zg [4] 3 [2,3,4] (zd (hK1 _ _ (zq fun K2 hK2 => ?_)))))
 obtain ⟨r1, c3, h⟩ := zB h
 refine zr (zu [4] 4 [2,3,4,10,12] [(qa2054 p1), (qa2055 p2)] (zl 99 [vl eI p1.d, vl eI p2.d] (.tp [vl eI r1.1, vl eI r1.2]) [(13, .tp [vl eI r1.1, vl eI r1.2]), (2, .one (.pv (.rp [(qa2054 p1)] 0 0))), (3, .one (.pv (.rp [(qa2055 p2)] 0 0))), (4, .one (.pt 0 0 0 0)), (10, vl eI p1.d), (12, vl eI p2.d)] (c_ref1_divide _ _ _ c3) (zg [4] 5 [2,3,4,5,6] (zd (hK2 _ _ (zq fun K4 hK4 => ?_))))))
 obtain ⟨r2, c5, h⟩ := zB h
 obtain ⟨r3, c6, h⟩ := zB h
 refine zw 5 [(20, vl eI p2.d), (19, .one (.pv (.rp [(qa2055 p2)] 0 1))), (18, vl eI r2), (17, vl eI r1.2), (16, vl eI r1.2), (2, .one (.pv (.rp [(qa2054 p1)] 0 0))), (3, .one (.pv (.rp [(qa2055 p2)] 0 0))), (4, .one (.pt 0 0 0 0)), (5, vl eI r1.1), (6, vl eI r1.2)] ?_ ?_
 ·exact zyg 2 (DX.cal 101 [vl eI r1.2, vl eI r1.2] (vl eI r2) [(18, vl eI r2), (17, vl eI r1.2), (16, vl eI r1.2), (2, .one (.pv (.rp [(qa2054 p1)] 0 0))), (3, .one (.pv (.rp [(qa2055 p2)] 0 0))), (4, .one (.pt 0 0 0 0)), (5, vl eI r1.1), (6, vl eI r1.2)] (by kernel_rfl) (c_ref1_plus _ _ _ c5) rfl rfl (by kernel_rfl) (zyu 2 [(qa2055 p2)] zyd))
 refine za (c_ref1_most _ _ _ c6) (zv [4] 1 [2,3,4,5,7] [] [(2, .one (.pv (.rp [(qa2054 p1)] 0 0))), (3, .one (.pv (.rp [(qa2055 p2)] 0 0))), (4, .one (.pt 0 0 0 0)), (5, vl eI r1.1), (7, vi r3)] [.box qa2056] (zd (hK4 _ _ (zq fun K7 hK7 => ?_))))
 have hJ2 : ∀ (x2 : List Int), ref1_even_j2 p1 p2 x2 = some r → ∀ fr1 st1, Sub 50 0 [] fr1 st1 [(2, .one (.pv (.rp [(qa2054 p1)] 0 0))), (3, .one (.pv (.rp [(qa2055 p2)] 0 0))), (4, .one (.pt 0 0 0 0)), (5, vl eI x2)] [.box qa2056] → K7 fr1 st1 := by
  intro x2 h fr1 st1 hS
  unfold ref1_even_j2 at h
  refine hK7 _ _ (XW.sub hS ?_)
  refine zq fun K15 hK15 => ?_
  obtain ⟨r5, c16, h⟩ := zB h
  refine zr (zu [4] 6 [4,47,48] [(qa2054 p1), (qa2055 p2)] (za (c_ref1_cut _ _ _ c16) (zv [4] 1 [4] [] [(4, .one (.pt 0 0 0 0))] [.box [cb r5.below, cl eI r5.d]] (zd (hK15 _ _ (ze ?_))))))
  obtain rfl := Option.some.inj h
  exact zf [.ag [cb r5.below, cl eI r5.d]] (.ag (.cons (.rfl _ rfl) (.cons (.rfl _ rfl) .nil)))
 refine zq fun K8 hK8 => ?_
 have hJ1 : ∀ (x1 : Bool), ref1_even_j1 p1 p2 r1 x1 = some r → ∀ fr1 st1, Sub 50 0 [] fr1 st1 [(2, .one (.pv (.rp [(qa2054 p1)] 0 0))), (3, .one (.pv (.rp [(qa2055 p2)] 0 0))), (4, .one (.pt 0 0 0 0)), (5, vl eI r1.1), (39, vb x1)] [.box qa2056] → K8 fr1 st1 := by
  intro x1 h fr1 st1 hS
  unfold ref1_even_j1 at h
  refine hK8 _ _ (XW.sub hS ?_)
  refine zC h (fun b13 h => ?_) (fun b13 h => ?_)
  ·obtain ⟨r4, c14, h⟩ := zB h
   exact zr (zg [4] 2 [2,3,4,40,41] (za (c_ref1_plus _ _ _ c14) (zv [4] 1 [2,3,4,5] [] [(2, .one (.pv (.rp [(qa2054 p1)] 0 0))), (3, .one (.pv (.rp [(qa2055 p2)] 0 0))), (4, .one (.pt 0 0 0 0)), (5, vl eI r4)] [.box qa2056] (zd (hJ2 r4 h _ _ (zk [2,3,4,5]))))))
  ·exact zs (hJ2 r1.1 h _ _ (zk [2,3,4,5]))
 rcases zW h with ⟨b9, h⟩ | ⟨b9, h⟩
 ·exact zr (zg [4] 3 [2,3,4,5,7,24] (zt 24 b9 (zg [4] 15 [2,3,4,5,39] (zd (hJ1 true h _ _ (zk [2,3,4,5,39]))))))
 ·rcases zW h with ⟨b10, h⟩ | ⟨b10, h⟩
  ·rcases zW h with ⟨b11, h⟩ | ⟨b11, h⟩
   ·obtain ⟨e1, a12, h⟩ := zB h
    refine zr (zv [4] 3 [2,3,4,5,7,24] [] (qa2069 p1 p2 r1 r3) [.box qa2056] (zt 24 b9 (zg [4] 3 [2,3,4,5,24,27] (zt 27 b10 ?_))))
    refine zv [4] 2 [2,3,4,5,24,27,29] [] [(2, .one (.pv (.rp [[.s (.bool p1.below), .ro (eI.els p1.d)]] 0 0))), (3, .one (.pv (.rp [[.s (.bool p2.below), .ro (eI.els p2.d)]] 0 0))), (4, .one (.pt 0 0 0 0)), (5, vl eI r1.1), (24, vb false), (27, vb true), (29, vi ((eI.els r1.1).length : Int))] [.box [cb false, .pv (.s (.slice none 0 0))]] ?_
    rw [eI.len r1.1]
    exact zg [4] 3 [2,3,4,5,24,32] (zt 32 b11 (zo [4] 7 [2,3,4,5,39] [[pi e1]] [0 ≤ (0 : Int) ∧ (0 : Int) < ((eI.els r1.1).length : Int) ∧ elemsOk 1 (eI.els r1.1), (eI.els r1.1)[(0 : Int).toNat]? = some [pi e1], (2 : Int) ≠ 0] (⟨eI.inb a12, (eI.get a12), by decide, trivial⟩) (zd (hJ1 ((e1.tmod (2 : Int)) == (1 : Int)) h _ _ (zk [2,3,4,5,39])))))
   ·refine zr (zv [4] 3 [2,3,4,5,7,24] [] (qa2069 p1 p2 r1 r3) [.box qa2056] (zt 24 b9 (zg [4] 3 [2,3,4,5,24,27] (zt 27 b10 ?_))))
    refine zv [4] 2 [2,3,4,5,24,27,29] [] [(2, .one (.pv (.rp [[.s (.bool p1.below), .ro (eI.els p1.d)]] 0 0))), (3, .one (.pv (.rp [[.s (.bool p2.below), .ro (eI.els p2.d)]] 0 0))), (4, .one (.pt 0 0 0 0)), (5, vl eI r1.1), (24, vb false), (27, vb true), (29, vi ((eI.els r1.1).length : Int))] [.box [cb false, .pv (.s (.slice none 0 0))]] ?_
    rw [eI.len r1.1]
    exact zg [4] 3 [2,3,4,5,24,32] (zt 32 b11 (zg [4] 7 [2,3,4,5,39] (zd (hJ1 false h _ _ (zk [2,3,4,5,39])))))
  ·exact zr (zv [4] 3 [2,3,4,5,7,24] [] (qa2069 p1 p2 r1 r3) [.box qa2056] (zt 24 b9 (zg [4] 3 [2,3,4,5,24,27] (zt 27 b10 (zg [4] 12 [2,3,4,5,39] (zd (hJ1 false h _ _ (zk [2,3,4,5,39]))))))))

def ref1_small_j2 (x4 : Int) : Option (Int × Bool) :=
    some (x4, true)

def ref1_small_j1 (p1 : RWide) (x3 : Int) : Option (Int × Bool) :=
    ift p1.below
      (ref1_small_j2 (IntKind.i64.wrap (0 - x3)))
      (ref1_small_j2 x3)

def ref1_small_l1 (p1 : RWide) : Nat → Int → Int → Option (Int × Bool)
  | 0, _, _ => none
  | k1 + 1, x1, x2 =>
    ift (decide ((0 : Int) ≤ x2))
      (bnd (at? p1.d x2) fun e1 =>
       (ref1_small_l1 p1 k1) (IntKind.i64.wrap ((IntKind.i64.wrap ((10 : Int) * x1)) + e1)) (IntKind.i64.wrap (x2 - (1 : Int))))
      (ref1_small_j1 p1 x1)

def ref1_small (p1 : RWide) : Option (Int × Bool) :=
    ift (decide ((18 : Int) < (p1.d.length : Int)))
      (some ((0 : Int), false))
      (ref1_small_l1 p1 BIG (0 : Int) (IntKind.i64.wrap ((p1.d.length : Int) - (1 : Int))))

abbrev qa2071 (p1 : RWide) : List PV := [.s (.bool p1.below), .ro (eI.els p1.d)]

theorem c_ref1_small (p1 : RWide) (r : (Int × Bool)) (h : ref1_small p1 = some r) : PC Tryd.prog 98 [.ag [cb p1.below, cl eI p1.d]] (.tp [vi r.1, vb r.2]) := by
 unfold ref1_small at h
 refine zF 31 Tryd.f98 (zq fun K1 hK1 => zr (zg [] 3 [1] (zd (hK1 _ _ (zq fun K2 hK2 => zq fun K3 hK3 => ?_)))))
 refine zr (zv [] 3 [1,8] [[.s (.bool p1.below), .ro (eI.els p1.d)]] [(1, .one (.pv (.rp [[.s (.bool p1.below), .ro (eI.els p1.d)]] 0 0))), (8, vi ((eI.els p1.d).length : Int))] [] ?_)
 rw [eI.len p1.d]
 refine zg [] 1 [1,9] (zd (hK3 _ _ (zC h (fun b4 h => ?_) (fun b4 h => ?_))))
 ·refine zq fun K5 hK5 => zr (zg [] 2 [2,3] (zd (hK5 _ _ (ze ?_))))
  obtain rfl := Option.some.inj h
  exact zf [vi (0 : Int), vb false] (.tpc (.one (.rfl _ rfl)) (.tpc (.one (.rfl _ rfl)) (.tp0)))
 ·refine zs (hK2 _ _ (zq fun K6 hK6 => zr (zv [] 1 [1,4] [] [(1, .one (.pv (.rp [(qa2071 p1)] 0 0))), (4, vi (0 : Int))] [] (zd (hK6 _ _ (zq fun K7 hK7 => ?_))))))
  have hJ1 : ∀ (x3 : Int), ref1_small_j1 p1 x3 = some r → ∀ fr1 st1, Sub 31 0 [] fr1 st1 [(1, .one (.pv (.rp [(qa2071 p1)] 0 0))), (4, vi x3)] [] → K7 fr1 st1 := by
   intro x3 h fr1 st1 hS
   unfold ref1_small_j1 at h
   refine hK7 _ _ (XW.sub hS ?_)
   refine zq fun K14 hK14 => ?_
   have hJ2 : ∀ (x4 : Int), ref1_small_j2 x4 = some r → ∀ fr1 st1, Sub 31 0 [] fr1 st1 [(4, vi x4)] [] → K14 fr1 st1 := by
    intro x4 h fr1 st1 hS
    unfold ref1_small_j2 at h
    refine hK14 _ _ (XW.sub hS ?_)
    refine zq fun K17 hK17 => zr (zg [] 3 [2,3] (zd (hK17 _ _ (ze ?_))))
    obtain rfl := Option.some.inj h
    exact zf [vi x4, vb true] (.tpc (.one (.rfl _ rfl)) (.tpc (.one (.rfl _ rfl)) (.tp0)))
   refine zq fun K15 hK15 => zr (zu [] 2 [4,27] [(qa2071 p1)] (zd (hK15 _ _ (zC h (fun b16 h => ?_) (fun b16 h => ?_)))))
   ·exact zr (zg [] 3 [4] (zd (hJ2 (IntKind.i64.wrap (0 - x3)) h _ _ (zk [4]))))
   ·exact zs (hJ2 x3 h _ _ (zk [4]))
  refine zq fun K8 hK8 => zr (zv [] 3 [1,4,12] [[.s (.bool p1.below), .ro (eI.els p1.d)]] [(1, .one (.pv (.rp [[.s (.bool p1.below), .ro (eI.els p1.d)]] 0 0))), (4, vi (0 : Int)), (12, vi ((eI.els p1.d).length : Int))] [] ?_)
  rw [eI.len p1.d]
  refine zg [] 2 [1,4,5] (zd (hK8 _ _ (zb 0 (XW.rounds' BIG (x := cd Tryd.f98 [1,1,1,0,1,0,0]) (by kernel_rfl) fun Q1 hQ1 => ?_))))
  have hL1 : ∀ (k1 : Nat) (x1 : Int) (x2 : Int), ref1_small_l1 p1 k1 x1 x2 = some r → XR Tryd.prog 31 0 [] (cd Tryd.f98 [1,1,1,0,1,0,0]) Q1 k1 [(1, .one (.pv (.rp [(qa2071 p1)] 0 0))), (4, vi x1), (5, vi x2)] [] := by
   intro k1
   induction k1 with
   | zero => intro x1 x2 h; rw [ref1_small_l1.eq_1] at h; cases h
   | succ k1 ih1 =>
    intro x1 x2 h
    rw [ref1_small_l1.eq_2] at h
    refine zq fun K9 hK9 => zq fun K10 hK10 => zr (zg [] 2 [1,4,5,15] (zd (hK10 _ _ (zC h (fun b11 h => ?_) (fun b11 h => ?_)))))
    ·refine zs (hK9 _ _ (zq fun K12 hK12 => zb 1 ?_))
     obtain ⟨e1, a13, h⟩ := zB h
     refine zr (zo [] 9 [1,4,5] [(qa2071 p1), [pi e1]] [([(qa2071 p1)] : List (List PV))[0]? = some (qa2071 p1), 0 ≤ x2 ∧ x2 < ((eI.els p1.d).length : Int) ∧ elemsOk 1 (eI.els p1.d), (eI.els p1.d)[x2.toNat]? = some [pi e1]] (⟨rfl, eI.inb a13, (eI.get a13), trivial⟩) (zd (hK12 _ _ (zr (zv [] 3 [1,4,5] [] [(1, .one (.pv (.rp [(qa2071 p1)] 0 0))), (4, vi (IntKind.i64.wrap ((IntKind.i64.wrap ((10 : Int) * x1)) + e1))), (5, vi (IntKind.i64.wrap (x2 - (1 : Int))))] [] (zd ?_))))))
     exact XR.sub (zk [1,4,5]) (ih1 (IntKind.i64.wrap ((IntKind.i64.wrap ((10 : Int) * x1)) + e1)) (IntKind.i64.wrap (x2 - (1 : Int))) h)
    ·exact zx 0 (hQ1 _ _ _ (hJ1 x1 h _ _ (zk [1,4])))
  exact XR.sub (zk [1,4,5]) (hL1 BIG (0 : Int) (IntKind.i64.wrap ((p1.d.length : Int) - (1 : Int))) h)

def ref1_number (p1 : Int) (p2 : RWide) (p3 : Int) : Option GValue :=
    bnd (ref1_small p2) fun r1 =>
    ift (!r1.2)
      (some (GValue.mk (0 : Int) (0 : Int) (0 : Int) ByteArray.empty []))
      (bnd (ref1_Sound (GValue.mk p1 r1.1 p3 ByteArray.empty [])) fun r2 =>
       ift (!r2)
         (some (GValue.mk (0 : Int) (0 : Int) (0 : Int) ByteArray.empty []))
         (some (GValue.mk p1 r1.1 p3 ByteArray.empty [])))

abbrev qa2082 : List CV := [ci (0 : Int), ci (0 : Int), ci (0 : Int), cst ByteArray.empty, .pv (.s (.slice none 0 0))]
abbrev qa2083 (p1 : Int) (p3 : Int) (r1 : (Int × Bool)) : List CV := [ci p1, ci r1.1, ci p3, cst ByteArray.empty, .pv (.s (.slice none 0 0))]

theorem c_ref1_number (p1 : Int) (p2 : RWide) (p3 : Int) (r : GValue) (h : ref1_number p1 p2 p3 = some r) : PC Tryd.prog 53 [vi p1, .ag [cb p2.below, cl eI p2.d], vi p3] (.ag [ci r.kind, ci r.n, ci r.scale, cst r.s, cl eValue r.items]) := by
 unfold ref1_number at h
 refine zF 27 Tryd.f53 (zq fun K1 hK1 => zr (zg [6, 9] 2 [0,2,4,6] (zd (hK1 _ _ (zq fun K2 hK2 => ?_)))))
 obtain ⟨r1, c3, h⟩ := zB h
 refine zr (zu [6, 9] 1 [0,2,6,11] [[.s (.bool p2.below), .ro (eI.els p2.d)]] (zl 98 [.ag [cb p2.below, cl eI p2.d]] (.tp [vi r1.1, vb r1.2]) [(12, .tp [vi r1.1, vb r1.2]), (0, vi p1), (2, vi p3), (6, .one (.pt 0 0 0 0)), (11, .ag [cb p2.below, cl eI p2.d])] (c_ref1_small _ _ c3) (zg [6, 9] 5 [0,2,6,7,8] (zd (hK2 _ _ (zq fun K4 hK4 => zq fun K5 hK5 => ?_))))))
 refine zr (zg [6, 9] 2 [0,2,6,7,16] (zd (hK5 _ _ (zC h (fun b6 h => ?_) (fun b6 h => ?_)))))
 ·refine zq fun K7 hK7 => zr (zv [6, 9] 2 [6] [] [(6, .one (.pt 0 0 0 0))] [.box qa2082] (zd (hK7 _ _ (ze ?_))))
  obtain rfl := Option.some.inj h
  exact zf [.ag qa2082] (.ag (.cons (.rfl _ rfl) (.cons (.rfl _ rfl) (.cons (.rfl _ rfl) (.cons (.rfl _ rfl) (.cons (.nl) .nil))))))
 ·refine zs (hK4 _ _ (zq fun K8 hK8 => zr (zg [6, 9] 6 [6,9] (zd (hK8 _ _ (zq fun K9 hK9 => ?_))))))
  refine zq fun K10 hK10 => ?_
  obtain ⟨r2, c11, h⟩ := zB h
  refine zr (zg [6, 9] 1 [6,9,22] (zl 11 [.ag (qa2083 p1 p3 r1)] (vb r2) [(23, vb r2), (6, .one (.pt 0 0 0 0)), (9, .one (.pt 1 0 0 0)), (22, .ag (qa2083 p1 p3 r1))] (PC.le (c_ref1_Sound _ _ c11) ⟨ALe.agc ⟨.rfl _, .rfl _, .rfl _, .rfl _, .nl, trivial⟩, trivial⟩) ?_))
  refine zv [6, 9] 1 [6,9,24] [] [(6, .one (.pt 0 0 0 0)), (9, .one (.pt 1 0 0 0)), (24, vb (!r2))] [.box qa2082, .box (qa2083 p1 p3 r1)] (zd (hK10 _ _ (zC h (fun b12 h => ?_) (fun b12 h => ?_))))
  ·refine zq fun K13 hK13 => zr (zg [6, 9] 2 [6] (zd (hK13 _ _ (ze ?_))))
   obtain rfl := Option.some.inj h
   exact zf [.ag qa2082] (.ag (.cons (.rfl _ rfl) (.cons (.rfl _ rfl) (.cons (.rfl _ rfl) (.cons (.rfl _ rfl) (.cons (.nl) .nil))))))
  ·refine zs (hK9 _ _ (zq fun K14 hK14 => zr (zg [6, 9] 2 [6] (zd (hK14 _ _ (ze ?_))))))
   obtain rfl := Option.some.inj h
   exact zf [.ag (qa2083 p1 p3 r1)] (.ag (.cons (.rfl _ rfl) (.cons (.rfl _ rfl) (.cons (.rfl _ rfl) (.cons (.rfl _ rfl) (.cons (.nl) .nil))))))

def ref1_mulWide_j1 (rec1 : List Int → Int → Option RWide) (x1 : Int) (l3 : List Int) : Option RWide :=
    rec1 l3 (IntKind.i64.wrap (x1 + (1 : Int)))

def ref1_mulWide_l2 (rec1 : List Int → Int → Option RWide) (p2 : RWide) (x1 : Int) (e1 : Int) : Nat → List Int → Int → Option RWide
  | 0, _, _ => none
  | k2 + 1, l2, x2 =>
    ift (decide (x2 < (p2.d.length : Int)))
      (bnd (at? p2.d x2) fun e2 =>
       bnd (at? l2 (IntKind.i64.wrap (x1 + x2))) fun e3 =>
       (ref1_mulWide_l2 rec1 p2 x1 e1 k2) (l2.set (IntKind.i64.wrap (x1 + x2)).toNat (IntKind.i64.wrap (e3 + (IntKind.i64.wrap (e1 * e2))))) (IntKind.i64.wrap (x2 + (1 : Int))))
      (ref1_mulWide_j1 rec1 x1 l2)

def ref1_mulWide_j3 (p1 : RWide) (p2 : RWide) (l6 : List Int) : Option RWide :=
    bnd (ref1_cut (!(p1.below == p2.below)) l6) fun r1 =>
    some r1

def ref1_mulWide_l3 (p1 : RWide) (p2 : RWide) : Nat → List Int → Int → Option RWide
  | 0, _, _ => none
  | k3 + 1, l5, x3 =>
    bnd (some (decide ((IntKind.i64.wrap (x3 + (1 : Int))) < ((l5.length : Nat) : Int)))) fun y2 =>
    ift y2
      (bnd (at? l5 (IntKind.i64.wrap (x3 + (1 : Int)))) fun e4 =>
       bnd (at? l5 x3) fun e5 =>
       bnd (at? (l5.set (IntKind.i64.wrap (x3 + (1 : Int))).toNat (IntKind.i64.wrap (e4 + (IntKind.i64.wrap (e5.tdiv (10 : Int)))))) x3) fun e6 =>
       (ref1_mulWide_l3 p1 p2 k3) ((l5.set (IntKind.i64.wrap (x3 + (1 : Int))).toNat (IntKind.i64.wrap (e4 + (IntKind.i64.wrap (e5.tdiv (10 : Int)))))).set x3.toNat (e6.tmod (10 : Int))) (IntKind.i64.wrap (x3 + (1 : Int))))
      (ref1_mulWide_j3 p1 p2 l5)

def ref1_mulWide_j2 (p1 : RWide) (p2 : RWide) (l4 : List Int) : Option RWide :=
    ref1_mulWide_l3 p1 p2 BIG l4 (0 : Int)

def ref1_mulWide_l1 (p1 : RWide) (p2 : RWide) : Nat → List Int → Int → Option RWide
  | 0, _, _ => none
  | k1 + 1, l1, x1 =>
    ift (decide (x1 < (p1.d.length : Int)))
      (bnd (at? p1.d x1) fun e1 =>
       ref1_mulWide_l2 (ref1_mulWide_l1 p1 p2 k1) p2 x1 e1 BIG l1 (0 : Int))
      (ref1_mulWide_j2 p1 p2 l1)

def ref1_mulWide (p1 : RWide) (p2 : RWide) : Option RWide :=
    bnd (some (IntKind.i64.wrap ((IntKind.i64.wrap ((p1.d.length : Int) + (p2.d.length : Int))) + (1 : Int)))) fun y1 =>
    grd (0 ≤ y1 ∧ y1 ≤ y1 ∧ y1 ≤ 4294967296) <|
    ref1_mulWide_l1 p1 p2 BIG (List.replicate y1.toNat (0 : Int)) (0 : Int)

abbrev qa2092 (p1 : RWide) : List PV := [.s (.bool p1.below), .ro (eI.els p1.d)]
abbrev qa2093 (p2 : RWide) : List PV := [.s (.bool p2.below), .ro (eI.els p2.d)]
abbrev qa2094 : List CV := [cb false, .pv (.s (.slice none 0 0))]

theorem c_ref1_mulWide (p1 : RWide) (p2 : RWide) (r : RWide) (h : ref1_mulWide p1 p2 = some r) : PC Tryd.prog 57 [.ag [cb p1.below, cl eI p1.d], .ag [cb p2.below, cl eI p2.d]] (.ag [cb r.below, cl eI r.d]) := by
 unfold ref1_mulWide at h
 refine zF 81 Tryd.f57 (zq fun K1 hK1 => zr (zg [4] 3 [2,3,4] (zd (hK1 _ _ (zq fun K2 hK2 => ?_)))))
 obtain ⟨y1, hy3, h⟩ := zB h
 obtain ⟨g5, h⟩ := zG h
 refine zr (zv [4] 3 [2,3,4,13] [[.s (.bool p1.below), .ro (eI.els p1.d)]] [(2, .one (.pv (.rp [[.s (.bool p1.below), .ro (eI.els p1.d)]] 0 0))), (3, .one (.pv (.rp [[.s (.bool p2.below), .ro (eI.els p2.d)]] 0 0))), (4, .one (.pt 0 0 0 0)), (13, vi ((eI.els p1.d).length : Int))] [.box [cb false, .pv (.s (.slice none 0 0))]] ?_)
 rw [eI.len p1.d]
 refine zv [4] 3 [2,3,4,13,16] [[.s (.bool p2.below), .ro (eI.els p2.d)]] [(2, .one (.pv (.rp [[.s (.bool p1.below), .ro (eI.els p1.d)]] 0 0))), (3, .one (.pv (.rp [[.s (.bool p2.below), .ro (eI.els p2.d)]] 0 0))), (4, .one (.pt 0 0 0 0)), (13, vi (p1.d.length : Int)), (16, vi ((eI.els p2.d).length : Int))] [.box [cb false, .pv (.s (.slice none 0 0))]] ?_
 rw [eI.len p2.d]
 refine zv [4] 2 [2,3,4,18] [] [(2, .one (.pv (.rp [[.s (.bool p1.below), .ro (eI.els p1.d)]] 0 0))), (3, .one (.pv (.rp [[.s (.bool p2.below), .ro (eI.els p2.d)]] 0 0))), (4, .one (.pt 0 0 0 0)), (18, vi (IntKind.i64.wrap ((IntKind.i64.wrap ((p1.d.length : Int) + (p2.d.length : Int))) + (1 : Int))))] [.box [cb false, .pv (.s (.slice none 0 0))]] ?_
 rw [show (IntKind.i64.wrap ((IntKind.i64.wrap ((p1.d.length : Int) + (p2.d.length : Int))) + (1 : Int))) = y1 from Option.some.inj hy3]
 refine zp [4] 1 [2,3,4,19] [] [(2, .one (.pv (.rp [[.s (.bool p1.below), .ro (eI.els p1.d)]] 0 0))), (3, .one (.pv (.rp [[.s (.bool p2.below), .ro (eI.els p2.d)]] 0 0))), (4, .one (.pt 0 0 0 0)), (19, .one (.sl 1 1 0 y1.toNat))] [.box [cb false, .pv (.s (.slice none 0 0))], .arr 1 (List.replicate y1.toNat [pi (0 : Int)])] [0 ≤ y1, y1 ≤ y1, y1 ≤ 4294967296] (⟨g5.1, g5.2.1, g5.2.2, trivial⟩) ?_
 rw [show List.replicate y1.toNat [pi (0 : Int)] = eI.els (List.replicate y1.toNat (0 : Int)) from eI.rep _ (0 : Int)]
 refine zg [4] 1 [2,3,4,5] (zd (hK2 _ _ (zq fun K6 hK6 => ?_)))
 have hJ2 : ∀ (l4 : List Int), ref1_mulWide_j2 p1 p2 l4 = some r → ∀ fr1 st1, Sub 81 0 [] fr1 st1 [(2, .one (.pv (.rp [(qa2092 p1)] 0 0))), (3, .one (.pv (.rp [(qa2093 p2)] 0 0))), (4, .one (.pt 0 0 0 0)), (5, .one (.sl 1 1 0 l4.length))] [.box qa2094, .arr 1 (eI.els l4)] → K6 fr1 st1 := by
  intro l4 h fr1 st1 hS
  unfold ref1_mulWide_j2 at h
  refine hK6 _ _ (XW.sub hS ?_)
  refine zq fun K22 hK22 => ?_
  have hJ3 : ∀ (l6 : List Int), ref1_mulWide_j3 p1 p2 l6 = some r → ∀ fr1 st1, Sub 81 0 [] fr1 st1 [(2, .one (.pv (.rp [(qa2092 p1)] 0 0))), (3, .one (.pv (.rp [(qa2093 p2)] 0 0))), (4, .one (.pt 0 0 0 0)), (5, .one (.sl 1 1 0 l6.length))] [.box qa2094, .arr 1 (eI.els l6)] → K22 fr1 st1 := by
   intro l6 h fr1 st1 hS
   unfold ref1_mulWide_j3 at h
   refine hK22 _ _ (XW.sub hS ?_)
   refine zq fun K33 hK33 => ?_
   obtain ⟨r1, c34, h⟩ := zB h
   refine zr (zv [4] 6 [4,78,79] [(qa2092 p1), (qa2093 p2)] [(4, .one (.pt 0 0 0 0)), (78, vb (!(p1.below == p2.below))), (79, .one (.sl 1 1 0 l6.length))] [.box qa2094, .arr 1 (eI.els l6)] (XO.sub (Sub.kill (fr' := [(4, .one (.pt 0 0 0 0)), (78, vb (!(p1.below == p2.below))), (79, vl eI l6)]) 1 (Nat.zero_le _) (by kernel_rfl) ⟨.one (.rfl _ rfl), .one (.rfl _ rfl), .one (cf_sl eI l6 rfl rfl rfl), trivial⟩) (za (c_ref1_cut _ _ _ c34) (zg [4] 1 [4] (zd (hK33 _ _ (ze ?_)))))))
   obtain rfl := Option.some.inj h
   exact zf [.ag [cb r1.below, cl eI r1.d]] (.ag (.cons (.rfl _ rfl) (.cons (.rfl _ rfl) .nil)))
  refine zq fun K23 hK23 => zr (zg [4] 1 [2,3,4,5,10] (zd (hK23 _ _ (zb 4 (XW.rounds' BIG (x := cd Tryd.f57 [1,1,1,0,1,0,0]) (by kernel_rfl) fun Q3 hQ3 => ?_)))))
  have hL3 : ∀ (k3 : Nat) (l5 : List Int) (x3 : Int), ref1_mulWide_l3 p1 p2 k3 l5 x3 = some r → XR Tryd.prog 81 0 [] (cd Tryd.f57 [1,1,1,0,1,0,0]) Q3 k3 [(2, .one (.pv (.rp [(qa2092 p1)] 0 0))), (3, .one (.pv (.rp [(qa2093 p2)] 0 0))), (4, .one (.pt 0 0 0 0)), (5, .one (.sl 1 1 0 l5.length)), (10, vi x3)] [.box qa2094, .arr 1 (eI.els l5)] := by
   intro k3
   induction k3 with
   | zero => intro l5 x3 h; rw [ref1_mulWide_l3.eq_1] at h; cases h
   | succ k3 ih3 =>
    intro l5 x3 h
    rw [ref1_mulWide_l3.eq_2] at h
    refine zq fun K24 hK24 => zq fun K25 hK25 => ?_
    obtain ⟨y2, hy26, h⟩ := zB h
    refine zr (zv [4] 5 [2,3,4,5,10,53] [] [(2, .one (.pv (.rp [[.s (.bool p1.below), .ro (eI.els p1.d)]] 0 0))), (3, .one (.pv (.rp [[.s (.bool p2.below), .ro (eI.els p2.d)]] 0 0))), (4, .one (.pt 0 0 0 0)), (5, .one (.sl 1 1 0 l5.length)), (10, vi x3), (53, vb (decide ((IntKind.i64.wrap (x3 + (1 : Int))) < ((l5.length : Nat) : Int))))] [.box [cb false, .pv (.s (.slice none 0 0))], .arr 1 (eI.els l5)] ?_)
    rw [show (decide ((IntKind.i64.wrap (x3 + (1 : Int))) < ((l5.length : Nat) : Int))) = y2 from Option.some.inj hy26]
    refine zd (hK25 _ _ (zC h (fun b27 h => ?_) (fun b27 h => ?_)))
    ·refine zs (hK24 _ _ (zq fun K28 hK28 => zb 5 (zq fun K29 hK29 => ?_)))
     obtain ⟨e4, a30, h⟩ := zB h
     obtain ⟨e5, a31, h⟩ := zB h
     refine zw 10 [(65, vi (IntKind.i64.wrap (e5.tdiv (10 : Int)))), (64, vi e5), (63, .one (.pt 1 1 (0 + x3.toNat) 0)), (62, vi x3), (61, .one (.sl 1 1 0 l5.length)), (60, vi e4), (59, .one (.pt 1 1 (0 + (IntKind.i64.wrap (x3 + (1 : Int))).toNat) 0)), (58, vi (IntKind.i64.wrap (x3 + (1 : Int)))), (57, vi x3), (56, .one (.sl 1 1 0 l5.length)), (2, .one (.pv (.rp [(qa2092 p1)] 0 0))), (3, .one (.pv (.rp [(qa2093 p2)] 0 0))), (4, .one (.pt 0 0 0 0)), (5, .one (.sl 1 1 0 l5.length)), (10, vi x3), (53, vb y2)] ?_ ?_
     ·exact zyo 10 [[pi e4], [pi e5]] [0 ≤ (IntKind.i64.wrap (x3 + (1 : Int))) ∧ (IntKind.i64.wrap (x3 + (1 : Int))) < ((l5.length : Nat) : Int), (eI.els l5)[(0 + (IntKind.i64.wrap (x3 + (1 : Int))).toNat)]? = some [pi e4], 0 ≤ x3 ∧ x3 < ((l5.length : Nat) : Int), (eI.els l5)[(0 + x3.toNat)]? = some [pi e5], (10 : Int) ≠ 0] (⟨Enc.inb' a30, (eI.get0 a30), Enc.inb' a31, (eI.get0 a31), by decide, trivial⟩) zyd
     refine zp [4] 3 [2,3,4,5,10] [[pi e4]] [(2, .one (.pv (.rp [[.s (.bool p1.below), .ro (eI.els p1.d)]] 0 0))), (3, .one (.pv (.rp [[.s (.bool p2.below), .ro (eI.els p2.d)]] 0 0))), (4, .one (.pt 0 0 0 0)), (5, .one (.sl 1 1 0 l5.length)), (10, vi x3)] [.box [cb false, .pv (.s (.slice none 0 0))], .arr 1 ((eI.els l5).set (0 + (IntKind.i64.wrap (x3 + (1 : Int))).toNat) [pi (IntKind.i64.wrap (e4 + (IntKind.i64.wrap (e5.tdiv (10 : Int)))))])] [0 ≤ (IntKind.i64.wrap (x3 + (1 : Int))) ∧ (IntKind.i64.wrap (x3 + (1 : Int))) < ((l5.length : Nat) : Int), (eI.els l5)[(0 + (IntKind.i64.wrap (x3 + (1 : Int))).toNat)]? = some [pi e4]] (⟨Enc.inb' a30, (eI.get0 a30), trivial⟩) ?_
     rw [show (eI.els l5).set (0 + (IntKind.i64.wrap (x3 + (1 : Int))).toNat) [pi (IntKind.i64.wrap (e4 + (IntKind.i64.wrap (e5.tdiv (10 : Int)))))] = eI.els (l5.set (IntKind.i64.wrap (x3 + (1 : Int))).toNat (IntKind.i64.wrap (e4 + (IntKind.i64.wrap (e5.tdiv (10 : Int)))))) from eI.set0 _ _ (IntKind.i64.wrap (e4 + (IntKind.i64.wrap (e5.tdiv (10 : Int)))))]
     refine zd (hK29 _ _ ?_)
     obtain ⟨e6, a32, h⟩ := zB h
     refine zr ?_
     refine zp [4] 7 [2,3,4,5,10] [[pi e6], [pi e6]] [(2, .one (.pv (.rp [[.s (.bool p1.below), .ro (eI.els p1.d)]] 0 0))), (3, .one (.pv (.rp [[.s (.bool p2.below), .ro (eI.els p2.d)]] 0 0))), (4, .one (.pt 0 0 0 0)), (5, .one (.sl 1 1 0 l5.length)), (10, vi x3)] [.box [cb false, .pv (.s (.slice none 0 0))], .arr 1 ((eI.els (l5.set (IntKind.i64.wrap (x3 + (1 : Int))).toNat (IntKind.i64.wrap (e4 + (IntKind.i64.wrap (e5.tdiv (10 : Int))))))).set (0 + x3.toNat) [pi (e6.tmod (10 : Int))])] [0 ≤ x3 ∧ x3 < ((l5.length : Nat) : Int), (eI.els (l5.set (IntKind.i64.wrap (x3 + (1 : Int))).toNat (IntKind.i64.wrap (e4 + (IntKind.i64.wrap (e5.tdiv (10 : Int)))))))[(0 + x3.toNat)]? = some [pi e6], (10 : Int) ≠ 0, 0 ≤ x3 ∧ x3 < ((l5.length : Nat) : Int), (eI.els (l5.set (IntKind.i64.wrap (x3 + (1 : Int))).toNat (IntKind.i64.wrap (e4 + (IntKind.i64.wrap (e5.tdiv (10 : Int)))))))[(0 + x3.toNat)]? = some [pi e6]] (⟨(by have := Enc.inb' a32; simpa using this), (eI.get0 a32), by decide, (by have := Enc.inb' a32; simpa using this), (eI.get0 a32), trivial⟩) ?_
     rw [show (eI.els (l5.set (IntKind.i64.wrap (x3 + (1 : Int))).toNat (IntKind.i64.wrap (e4 + (IntKind.i64.wrap (e5.tdiv (10 : Int))))))).set (0 + x3.toNat) [pi (e6.tmod (10 : Int))] = eI.els ((l5.set (IntKind.i64.wrap (x3 + (1 : Int))).toNat (IntKind.i64.wrap (e4 + (IntKind.i64.wrap (e5.tdiv (10 : Int)))))).set x3.toNat (e6.tmod (10 : Int))) from eI.set0 _ _ (e6.tmod (10 : Int))]
     refine zd (hK28 _ _ (zr (zg [4] 3 [2,3,4,5,10] (zd ?_))))
     exact XR.sub (Sub.trans (Sub.pick (fr' := [(2, .one (.pv (.rp [[.s (.bool p1.below), .ro (eI.els p1.d)]] 0 0))), (3, .one (.pv (.rp [[.s (.bool p2.below), .ro (eI.els p2.d)]] 0 0))), (4, .one (.pt 0 0 0 0)), (5, .one (.sl 1 1 0 l5.length)), (10, vi (IntKind.i64.wrap (x3 + (1 : Int))))]) [2,3,4,5,10] (by kernel_rfl)) (Sub.frame (fr' := [(2, .one (.pv (.rp [[.s (.bool p1.below), .ro (eI.els p1.d)]] 0 0))), (3, .one (.pv (.rp [[.s (.bool p2.below), .ro (eI.els p2.d)]] 0 0))), (4, .one (.pt 0 0 0 0)), (5, .one (.sl 1 1 0 ((l5.set (IntKind.i64.wrap (x3 + (1 : Int))).toNat (IntKind.i64.wrap (e4 + (IntKind.i64.wrap (e5.tdiv (10 : Int)))))).set x3.toNat (e6.tmod (10 : Int))).length)), (10, vi (IntKind.i64.wrap (x3 + (1 : Int))))]) ⟨.rfl _, .rfl _, .rfl _, ALe.of_eq (show (.one (.sl 1 1 0 l5.length) : AV) = .one (.sl 1 1 0 ((l5.set (IntKind.i64.wrap (x3 + (1 : Int))).toNat (IntKind.i64.wrap (e4 + (IntKind.i64.wrap (e5.tdiv (10 : Int)))))).set x3.toNat (e6.tmod (10 : Int))).length) from by simp), .rfl _, trivial⟩)) (ih3 ((l5.set (IntKind.i64.wrap (x3 + (1 : Int))).toNat (IntKind.i64.wrap (e4 + (IntKind.i64.wrap (e5.tdiv (10 : Int)))))).set x3.toNat (e6.tmod (10 : Int))) (IntKind.i64.wrap (x3 + (1 : Int))) h)
    ·exact zx 4 (hQ3 _ _ _ (hJ3 l5 h _ _ (zk [2,3,4,5])))
  exact XR.sub (zk [2,3,4,5,10]) (hL3 BIG l4 (0 : Int) h)
 refine zq fun K7 hK7 => zr (zv [4] 3 [2,3,4,5,21,22] [[.s (.bool p1.below), .ro (eI.els p1.d)]] [(2, .one (.pv (.rp [[.s (.bool p1.below), .ro (eI.els p1.d)]] 0 0))), (3, .one (.pv (.rp [[.s (.bool p2.below), .ro (eI.els p2.d)]] 0 0))), (4, .one (.pt 0 0 0 0)), (5, .one (.sl 1 1 0 y1.toNat)), (21, vl eI p1.d), (22, vi ((eI.els p1.d).length : Int))] [.box [cb false, .pv (.s (.slice none 0 0))], .arr 1 (eI.els (List.replicate y1.toNat (0 : Int)))] ?_)
 rw [eI.len p1.d]
 refine zg [4] 1 [2,3,4,5,21,22,23] (zd (hK7 _ _ (zb 0 (XW.rounds' BIG (x := cd Tryd.f57 [1,1,0,1,0,0]) (by kernel_rfl) fun Q1 hQ1 => ?_))))
 have hL1 : ∀ (k1 : Nat) (l1 : List Int) (x1 : Int), ref1_mulWide_l1 p1 p2 k1 l1 x1 = some r → XR Tryd.prog 81 0 [] (cd Tryd.f57 [1,1,0,1,0,0]) Q1 k1 [(2, .one (.pv (.rp [(qa2092 p1)] 0 0))), (3, .one (.pv (.rp [(qa2093 p2)] 0 0))), (4, .one (.pt 0 0 0 0)), (5, .one (.sl 1 1 0 l1.length)), (21, vl eI p1.d), (22, vi (p1.d.length : Int)), (23, vi x1)] [.box qa2094, .arr 1 (eI.els l1)] := by
  intro k1
  induction k1 with
  | zero => intro l1 x1 h; rw [ref1_mulWide_l1.eq_1] at h; cases h
  | succ k1 ih1 =>
   intro l1 x1 h
   rw [ref1_mulWide_l1.eq_2] at h
   refine zq fun K8 hK8 => zr (zg [4] 1 [2,3,4,5,21,22,23,24] (zd (hK8 _ _ (zq fun K9 hK9 => zC h (fun b10 h => ?_) (fun b10 h => ?_)))))
   ·refine zs (hK9 _ _ (zq fun K11 hK11 => ?_))
    have hJ1 : ∀ (l3 : List Int), ref1_mulWide_j1 (ref1_mulWide_l1 p1 p2 k1) x1 l3 = some r → ∀ fr1 st1, Sub 81 0 [] fr1 st1 [(2, .one (.pv (.rp [(qa2092 p1)] 0 0))), (3, .one (.pv (.rp [(qa2093 p2)] 0 0))), (4, .one (.pt 0 0 0 0)), (5, .one (.sl 1 1 0 l3.length)), (21, vl eI p1.d), (22, vi (p1.d.length : Int)), (23, vi x1)] [.box qa2094, .arr 1 (eI.els l3)] → K11 fr1 st1 := by
     intro l3 h fr1 st1 hS
     unfold ref1_mulWide_j1 at h
     refine hK11 _ _ (XW.sub hS ?_)
     exact zr (zg [4] 2 [2,3,4,5,21,22,23] (zd (XR.sub (zk [2,3,4,5,21,22,23]) (ih1 l3 (IntKind.i64.wrap (x1 + (1 : Int))) h))))
    refine zb 1 (zq fun K12 hK12 => ?_)
    obtain ⟨e1, a13, h⟩ := zB h
    refine zr (zo [4] 5 [2,3,4,5,6,7,21,22,23] [[pi e1]] [0 ≤ x1 ∧ x1 < ((eI.els p1.d).length : Int) ∧ elemsOk 1 (eI.els p1.d), (eI.els p1.d)[x1.toNat]? = some [pi e1]] (⟨eI.inb a13, (eI.get a13), trivial⟩) (zd (hK12 _ _ (zq fun K14 hK14 => zr ?_))))
    refine zv [4] 3 [2,3,4,5,6,7,21,22,23,29,30] [[.s (.bool p2.below), .ro (eI.els p2.d)]] [(2, .one (.pv (.rp [[.s (.bool p1.below), .ro (eI.els p1.d)]] 0 0))), (3, .one (.pv (.rp [[.s (.bool p2.below), .ro (eI.els p2.d)]] 0 0))), (4, .one (.pt 0 0 0 0)), (5, .one (.sl 1 1 0 l1.length)), (6, vi x1), (7, vi e1), (21, vl eI p1.d), (22, vi (p1.d.length : Int)), (23, vi x1), (29, vl eI p2.d), (30, vi ((eI.els p2.d).length : Int))] [.box [cb false, .pv (.s (.slice none 0 0))], .arr 1 (eI.els l1)] ?_
    rw [eI.len p2.d]
    refine zg [4] 1 [2,3,4,5,6,7,21,22,23,29,30,31] (zd (hK14 _ _ (zb 2 (XW.rounds' BIG (x := cd Tryd.f57 [1,1,0,1,0,0,1,1,0,0,1,1,0,0]) (by kernel_rfl) fun Q2 hQ2 => ?_))))
    have hL2 : ∀ (k2 : Nat) (l2 : List Int) (x2 : Int), ref1_mulWide_l2 (ref1_mulWide_l1 p1 p2 k1) p2 x1 e1 k2 l2 x2 = some r → XR Tryd.prog 81 0 [] (cd Tryd.f57 [1,1,0,1,0,0,1,1,0,0,1,1,0,0]) Q2 k2 [(2, .one (.pv (.rp [(qa2092 p1)] 0 0))), (3, .one (.pv (.rp [(qa2093 p2)] 0 0))), (4, .one (.pt 0 0 0 0)), (5, .one (.sl 1 1 0 l2.length)), (6, vi x1), (7, vi e1), (21, vl eI p1.d), (22, vi (p1.d.length : Int)), (23, vi x1), (29, vl eI p2.d), (30, vi (p2.d.length : Int)), (31, vi x2)] [.box qa2094, .arr 1 (eI.els l2)] := by
     intro k2
     induction k2 with
     | zero => intro l2 x2 h; rw [ref1_mulWide_l2.eq_1] at h; cases h
     | succ k2 ih2 =>
      intro l2 x2 h
      rw [ref1_mulWide_l2.eq_2] at h
      refine zq fun K15 hK15 => zr (zg [4] 1 [2,3,4,5,6,7,21,22,23,29,30,31,32] (zd (hK15 _ _ (zq fun K16 hK16 => zC h (fun b17 h => ?_) (fun b17 h => ?_)))))
      ·refine zs (hK16 _ _ (zq fun K18 hK18 => zb 3 (zq fun K19 hK19 => ?_)))
       obtain ⟨e2, a20, h⟩ := zB h
       refine zr (zo [4] 5 [2,3,4,5,6,7,8,9,21,22,23,29,30,31] [[pi e2]] [0 ≤ x2 ∧ x2 < ((eI.els p2.d).length : Int) ∧ elemsOk 1 (eI.els p2.d), (eI.els p2.d)[x2.toNat]? = some [pi e2]] (⟨eI.inb a20, (eI.get a20), trivial⟩) (zd (hK19 _ _ ?_)))
       obtain ⟨e3, a21, h⟩ := zB h
       refine zr ?_
       refine zp [4] 12 [2,3,4,5,6,7,21,22,23,29,30,31] [[pi e3], [pi e3]] [(2, .one (.pv (.rp [[.s (.bool p1.below), .ro (eI.els p1.d)]] 0 0))), (3, .one (.pv (.rp [[.s (.bool p2.below), .ro (eI.els p2.d)]] 0 0))), (4, .one (.pt 0 0 0 0)), (5, .one (.sl 1 1 0 l2.length)), (6, vi x1), (7, vi e1), (21, vl eI p1.d), (22, vi (p1.d.length : Int)), (23, vi x1), (29, vl eI p2.d), (30, vi (p2.d.length : Int)), (31, vi x2)] [.box [cb false, .pv (.s (.slice none 0 0))], .arr 1 ((eI.els l2).set (0 + (IntKind.i64.wrap (x1 + x2)).toNat) [pi (IntKind.i64.wrap (e3 + (IntKind.i64.wrap (e1 * e2))))])] [0 ≤ (IntKind.i64.wrap (x1 + x2)) ∧ (IntKind.i64.wrap (x1 + x2)) < ((l2.length : Nat) : Int), (eI.els l2)[(0 + (IntKind.i64.wrap (x1 + x2)).toNat)]? = some [pi e3], 0 ≤ (IntKind.i64.wrap (x1 + x2)) ∧ (IntKind.i64.wrap (x1 + x2)) < ((l2.length : Nat) : Int), (eI.els l2)[(0 + (IntKind.i64.wrap (x1 + x2)).toNat)]? = some [pi e3]] (⟨Enc.inb' a21, (eI.get0 a21), Enc.inb' a21, (eI.get0 a21), trivial⟩) ?_
       rw [show (eI.els l2).set (0 + (IntKind.i64.wrap (x1 + x2)).toNat) [pi (IntKind.i64.wrap (e3 + (IntKind.i64.wrap (e1 * e2))))] = eI.els (l2.set (IntKind.i64.wrap (x1 + x2)).toNat (IntKind.i64.wrap (e3 + (IntKind.i64.wrap (e1 * e2))))) from eI.set0 _ _ (IntKind.i64.wrap (e3 + (IntKind.i64.wrap (e1 * e2))))]
       refine zd (hK18 _ _ (zr (zg [4] 2 [2,3,4,5,6,7,21,22,23,29,30,31] (zd ?_))))
       exact XR.sub (Sub.trans (Sub.pick (fr' := [(2, .one (.pv (.rp [[.s (.bool p1.below), .ro (eI.els p1.d)]] 0 0))), (3, .one (.pv (.rp [[.s (.bool p2.below), .ro (eI.els p2.d)]] 0 0))), (4, .one (.pt 0 0 0 0)), (5, .one (.sl 1 1 0 l2.length)), (6, vi x1), (7, vi e1), (21, vl eI p1.d), (22, vi (p1.d.length : Int)), (23, vi x1), (29, vl eI p2.d), (30, vi (p2.d.length : Int)), (31, vi (IntKind.i64.wrap (x2 + (1 : Int))))]) [2,3,4,5,6,7,21,22,23,29,30,31] (by kernel_rfl)) (Sub.frame (fr' := [(2, .one (.pv (.rp [[.s (.bool p1.below), .ro (eI.els p1.d)]] 0 0))), (3, .one (.pv (.rp [[.s (.bool p2.below), .ro (eI.els p2.d)]] 0 0))), (4, .one (.pt 0 0 0 0)), (5, .one (.sl 1 1 0 (l2.set (IntKind.i64.wrap (x1 + x2)).toNat (IntKind.i64.wrap (e3 + (IntKind.i64.wrap (e1 * e2))))).length)), (6, vi x1), (7, vi e1), (21, vl eI p1.d), (22, vi (p1.d.length : Int)), (23, vi x1), (29, vl eI p2.d), (30, vi (p2.d.length : Int)), (31, vi (IntKind.i64.wrap (x2 + (1 : Int))))]) ⟨.rfl _, .rfl _, .rfl _, ALe.of_eq (show (.one (.sl 1 1 0 l2.length) : AV) = .one (.sl 1 1 0 (l2.set (IntKind.i64.wrap (x1 + x2)).toNat (IntKind.i64.wrap (e3 + (IntKind.i64.wrap (e1 * e2))))).length) from by simp), .rfl _, .rfl _, .rfl _, .rfl _, .rfl _, .rfl _, .rfl _, .rfl _, trivial⟩)) (ih2 (l2.set (IntKind.i64.wrap (x1 + x2)).toNat (IntKind.i64.wrap (e3 + (IntKind.i64.wrap (e1 * e2))))) (IntKind.i64.wrap (x2 + (1 : Int))) h)
      ·exact zx 2 (hQ2 _ _ _ (hJ1 l2 h _ _ (zk [2,3,4,5,21,22,23])))
    exact XR.sub (zk [2,3,4,5,6,7,21,22,23,29,30,31]) (hL2 BIG l1 (0 : Int) h)
   ·exact zx 0 (hQ1 _ _ _ (hJ2 l1 h _ _ (zk [2,3,4,5])))
 exact XR.sub (Sub.trans (Sub.pick (fr' := [(2, .one (.pv (.rp [[.s (.bool p1.below), .ro (eI.els p1.d)]] 0 0))), (3, .one (.pv (.rp [[.s (.bool p2.below), .ro (eI.els p2.d)]] 0 0))), (4, .one (.pt 0 0 0 0)), (5, .one (.sl 1 1 0 y1.toNat)), (21, vl eI p1.d), (22, vi (p1.d.length : Int)), (23, vi (0 : Int))]) [2,3,4,5,21,22,23] (by kernel_rfl)) (Sub.frame (fr' := [(2, .one (.pv (.rp [[.s (.bool p1.below), .ro (eI.els p1.d)]] 0 0))), (3, .one (.pv (.rp [[.s (.bool p2.below), .ro (eI.els p2.d)]] 0 0))), (4, .one (.pt 0 0 0 0)), (5, .one (.sl 1 1 0 (List.replicate y1.toNat (0 : Int)).length)), (21, vl eI p1.d), (22, vi (p1.d.length : Int)), (23, vi (0 : Int))]) ⟨.rfl _, .rfl _, .rfl _, ALe.of_eq (show (.one (.sl 1 1 0 y1.toNat) : AV) = .one (.sl 1 1 0 (List.replicate y1.toNat (0 : Int)).length) from by simp), .rfl _, .rfl _, .rfl _, trivial⟩)) (hL1 BIG (List.replicate y1.toNat (0 : Int)) (0 : Int) h)

def value_logic_1_j1 (x1 : Bool) : Option Bool :=
    some x1

def value_logic_1 (p1 : GValue) : Option Bool :=
    ift (p1.kind == (1 : Int))
      (bnd (value_Sound p1) fun r1 =>
       value_logic_1_j1 r1)
      (value_logic_1_j1 false)

abbrev qa2164 (p1 : GValue) : List PV := [pi p1.kind, pi p1.n, pi p1.scale, .s (.string p1.s), .ro (eValue.els p1.items)]

theorem c_value_logic_1 (p1 : GValue) (r : Bool) (h : value_logic_1 p1 = some r) : PC Tryd.prog 103 [.ag [ci p1.kind, ci p1.n, ci p1.scale, cst p1.s, cl eValue p1.items]] (vb r) := by
 unfold value_logic_1 at h
 refine zF 10 Tryd.f103 (zq fun K1 hK1 => zr (zg [] 2 [1] (zd (hK1 _ _ (zq fun K2 hK2 => ?_)))))
 have hJ1 : ∀ (x1 : Bool), value_logic_1_j1 x1 = some r → ∀ fr1 st1, Sub 10 0 [] fr1 st1 [(2, vb x1)] [] → K2 fr1 st1 := by
  intro x1 h fr1 st1 hS
  unfold value_logic_1_j1 at h
  refine hK2 _ _ (XW.sub hS ?_)
  refine ze ?_
  obtain rfl := Option.some.inj h
  exact zf [vb x1] (.one (.rfl _ rfl))
 rcases zW h with ⟨b3, h⟩ | ⟨b3, h⟩
 ·obtain ⟨r1, c4, h⟩ := zB h
  exact zr (zu [] 4 [1,6] [(qa2164 p1)] (zt 6 b3 (zv [] 1 [6,7] [(qa2164 p1)] [(6, vb true), (7, .ag [ci p1.kind, ci p1.n, ci p1.scale, cst p1.s, cl eValue p1.items])] [] (za (c_value_Sound _ _ c4) (zg [] 2 [2] (zd (hJ1 r1 h _ _ (zk [2]))))))))
 ·exact zr (zv [] 4 [1,6] [(qa2164 p1)] [(1, .one (.pv (.rp [(qa2164 p1)] 0 0))), (6, vb (p1.kind == (1 : Int)))] [] (zt 6 b3 (zg [] 4 [2] (zd (hJ1 false h _ _ (zk [2]))))))

def value_logic_2_of_value_logic_1_j1 (x1 : Bool) : Option (Bool × Unit) :=
    some (x1, ())

def value_logic_2_of_value_logic_1 (p1 : GValue) (p2 : Int) : Option (Bool × Unit) :=
    bnd (value_logic_1 p1) fun r1 =>
    ift r1
      (value_logic_2_of_value_logic_1_j1 (p1.n == p2))
      (value_logic_2_of_value_logic_1_j1 false)

abbrev qa2167 (p1 : GValue) : List CV := [ci p1.kind, ci p1.n, ci p1.scale, cst p1.s, cl eValue p1.items]
abbrev qa2170 (p1 : GValue) : List PV := [pi p1.kind, pi p1.n, pi p1.scale, .s (.string p1.s), .ro (eValue.els p1.items)]
abbrev qa2172 : St := [.box [.pv (.fn 103 [])]]

theorem c_value_logic_2_of_value_logic_1 (p1 : GValue) (p2 : Int) (r : (Bool × Unit)) (h : value_logic_2_of_value_logic_1 p1 p2 = some r) : MC Tryd.prog 104 [.ag (qa2167 p1), .one (.pt 0 0 0 0), .one (.pv (.rp [[pi p2]] 0 0))] qa2172 (vb r.1) qa2172 := by
 unfold value_logic_2_of_value_logic_1 at h
 refine MC.of 1 (n := 14) (fn := Tryd.f104) (c := cd Tryd.f104 []) (by kernel_rfl) (by kernel_rfl) (by kernel_rfl) (Nat.le_of_ble_eq_true rfl) rfl (zq fun K1 hK1 => zr (zv [] 2 [1,2,3] [] [(1, .one (.pt 0 0 0 0)), (2, .one (.pv (.rp [[pi p2]] 0 0))), (3, .one (.pv (.rp [(qa2170 p1)] 0 0)))] qa2172 (zd (hK1 _ _ (zq fun K2 hK2 => ?_)))))
 have hJ1 : ∀ (x1 : Bool), value_logic_2_of_value_logic_1_j1 x1 = some r → ∀ fr1 st1, Sub 14 1 [] fr1 st1 [(4, vb x1)] qa2172 → K2 fr1 st1 := by
  intro x1 h fr1 st1 hS
  unfold value_logic_2_of_value_logic_1_j1 at h
  refine hK2 _ _ (XW.sub hS ?_)
  refine ze ?_
  obtain rfl := Option.some.inj h
  exact FinM.fin (.inr rfl) [] [vb x1] [] (by kernel_rfl) trivial (by kernel_rfl) (by kernel_rfl) (.one (.rfl _ rfl))
 obtain ⟨r1, c3, h⟩ := zB h
 rcases zW h with ⟨b4, h⟩ | ⟨b4, h⟩
 ·exact zr (zu [] 2 [2,3,5,6] [(qa2170 p1)] (za (c_value_logic_1 _ _ c3) (zv [] 1 [2,3,8] [] [(2, .one (.pv (.rp [[pi p2]] 0 0))), (3, .one (.pv (.rp [(qa2170 p1)] 0 0))), (8, vb r1)] qa2172 (zt 8 b4 (zu [] 6 [4] [(qa2170 p1), [pi p2]] (zd (hJ1 (p1.n == p2) h _ _ (zk [4]))))))))
 ·exact zr (zu [] 2 [2,3,5,6] [(qa2170 p1)] (zl 103 [.ag (qa2167 p1)] (vb r1) [(7, vb r1), (2, .one (.pv (.rp [[pi p2]] 0 0))), (3, .one (.pv (.rp [(qa2170 p1)] 0 0))), (5, .one (.pv (.fn 103 []))), (6, .ag (qa2167 p1))] (c_value_logic_1 _ _ c3) (zg [] 1 [2,3,8] (zt 8 b4 (zg [] 6 [4] (zd (hJ1 false h _ _ (zk [4]))))))))

def value_truth_j1 (z1 : Int) : Option GValue :=
    some (GValue.mk (1 : Int) z1 (0 : Int) ByteArray.empty [])

def value_truth (p1 : Bool) : Option GValue :=
    ift p1
      (value_truth_j1 (1 : Int))
      (value_truth_j1 (0 : Int))

abbrev qa2178 : List CV := [ci (0 : Int), ci (0 : Int), ci (0 : Int), cst ByteArray.empty, .pv (.s (.slice none 0 0))]
abbrev qa2179 (z1 : Int) : List CV := [ci (1 : Int), ci z1, ci (0 : Int), cst ByteArray.empty, .pv (.s (.slice none 0 0))]

theorem c_value_truth (p1 : Bool) (r : GValue) (h : value_truth p1 = some r) : PC Tryd.prog 76 [vb p1] (.ag [ci r.kind, ci r.n, ci r.scale, cst r.s, cl eValue r.items]) := by
 unfold value_truth at h
 refine zF 8 Tryd.f76 (zq fun K1 hK1 => zr (zg [2, 3] 1 [0,2] (zd (hK1 _ _ (zq fun K2 hK2 => zr ?_)))))
 refine zg [2, 3] 3 [0,2,3] (zd (hK2 _ _ (zq fun K3 hK3 => ?_)))
 have hJ1 : ∀ (z1 : Int), value_truth_j1 z1 = some r → ∀ fr1 st1, Sub 8 0 [] fr1 st1 [(2, .one (.pt 0 0 0 0)), (3, .one (.pt 1 0 0 0))] [.box qa2178, .box (qa2179 z1)] → K3 fr1 st1 := by
  intro z1 h fr1 st1 hS
  unfold value_truth_j1 at h
  refine hK3 _ _ (XW.sub hS ?_)
  refine zq fun K6 hK6 => zr (zg [2, 3] 2 [2] (zd (hK6 _ _ (ze ?_))))
  obtain rfl := Option.some.inj h
  exact zf [.ag (qa2179 z1)] (.ag (.cons (.rfl _ rfl) (.cons (.rfl _ rfl) (.cons (.rfl _ rfl) (.cons (.rfl _ rfl) (.cons (.nl) .nil))))))
 refine zq fun K4 hK4 => zr (zv [2, 3] 1 [2,3,5] [] [(2, .one (.pt 0 0 0 0)), (3, .one (.pt 1 0 0 0)), (5, vb p1)] [.box qa2178, .box [ci (1 : Int), ci (0 : Int), ci (0 : Int), cst ByteArray.empty, .pv (.s (.slice none 0 0))]] (zd (hK4 _ _ (zC h (fun b5 h => ?_) (fun b5 h => ?_)))))
 ·exact zr (zg [2, 3] 2 [2,3] (zd (hJ1 (1 : Int) h _ _ (zk [2,3]))))
 ·exact zs (hJ1 (0 : Int) h _ _ (zk [2,3]))

def value_logic_j2 (p3 : Int) (x2 : Bool) : Option GValue :=
    ift x2
      (some (GValue.mk (0 : Int) (0 : Int) (0 : Int) ByteArray.empty []))
      (bnd (value_truth (p3 == (0 : Int))) fun r6 =>
       some r6)

def value_logic_j1 (p1 : GValue) (p2 : GValue) (p3 : Int) (x1 : Bool) : Option GValue :=
    ift x1
      (bnd (value_truth (p3 == (1 : Int))) fun r3 =>
       some r3)
      (bnd (value_logic_1 p1) fun r4 =>
       ift (!r4)
         (value_logic_j2 p3 true)
         (bnd (value_logic_1 p2) fun r5 =>
          value_logic_j2 p3 (!r5)))

def value_logic (p1 : GValue) (p2 : GValue) (p3 : Int) : Option GValue :=
    bnd (value_logic_2_of_value_logic_1 p1 p3) fun r1 =>
    ift r1.1
      (value_logic_j1 p1 p2 p3 true)
      (bnd (value_logic_2_of_value_logic_1 p2 p3) fun r2 =>
       value_logic_j1 p1 p2 p3 r2.1)

abbrev qa2184 (p1 : GValue) : List CV := [ci p1.kind, ci p1.n, ci p1.scale, cst p1.s, cl eValue p1.items]
abbrev qa2185 (p2 : GValue) : List CV := [ci p2.kind, ci p2.n, ci p2.scale, cst p2.s, cl eValue p2.items]
abbrev qa2187 (p1 : GValue) : List PV := [pi p1.kind, pi p1.n, pi p1.scale, .s (.string p1.s), .ro (eValue.els p1.items)]
abbrev qa2188 (p2 : GValue) : List PV := [pi p2.kind, pi p2.n, pi p2.scale, .s (.string p2.s), .ro (eValue.els p2.items)]
abbrev qa2190 : List CV := [ci (0 : Int), ci (0 : Int), ci (0 : Int), cst ByteArray.empty, .pv (.s (.slice none 0 0))]
abbrev qa2191 : List CV := [.pv (.fn 103 [])]
abbrev qa2194 (r6 : GValue) : List CV := [ci r6.kind, ci r6.n, ci r6.scale, cst r6.s, cl eValue r6.items]
abbrev qa2196 : St := [.box qa2190, .box qa2191]
abbrev qa2204 (p1 : GValue) (p2 : GValue) (p3 : Int) : Fr := [(3, .one (.pv (.rp [(qa2187 p1)] 0 0))), (4, .one (.pv (.rp [(qa2188 p2)] 0 0))), (5, .one (.pv (.rp [[pi p3]] 0 0))), (6, .one (.pt 0 0 0 0)), (7, .one (.pt 1 0 0 0)), (8, .one (.fn 104 [.pt 1 0 0 0, .pv (.rp [[pi p3]] 0 0)])), (11, .one (.fn 104 [.pt 1 0 0 0, .pv (.rp [[pi p3]] 0 0)])), (12, .ag (qa2184 p1))]
abbrev qa2206 (p1 : GValue) (p2 : GValue) (p3 : Int) (r1 : (Bool × Unit)) : Fr := [(13, vb r1.1), (3, .one (.pv (.rp [(qa2187 p1)] 0 0))), (4, .one (.pv (.rp [(qa2188 p2)] 0 0))), (5, .one (.pv (.rp [[pi p3]] 0 0))), (6, .one (.pt 0 0 0 0)), (7, .one (.pt 1 0 0 0)), (8, .one (.fn 104 [.pt 1 0 0 0, .pv (.rp [[pi p3]] 0 0)])), (11, .one (.fn 104 [.pt 1 0 0 0, .pv (.rp [[pi p3]] 0 0)])), (12, .ag (qa2184 p1))]

theorem c_value_logic (p1 : GValue) (p2 : GValue) (p3 : Int) (r : GValue) (h : value_logic p1 p2 p3 = some r) : PC Tryd.prog 58 [.ag (qa2184 p1), .ag (qa2185 p2), vi p3] (.ag [ci r.kind, ci r.n, ci r.scale, cst r.s, cl eValue r.items]) := by
 unfold value_logic at h
 refine zF 37 Tryd.f58 (zq fun K1 hK1 => zr (zg [6, 7] 4 [3,4,5,6] (zd (hK1 _ _ (zq fun K2 hK2 => zr ?_)))))
 refine zg [6, 7] 2 [3,4,5,6,7] (zd (hK2 _ _ (zq fun K3 hK3 => zr (zv [6, 7] 2 [3,4,5,6,7,8] [] [(3, .one (.pv (.rp [(qa2187 p1)] 0 0))), (4, .one (.pv (.rp [(qa2188 p2)] 0 0))), (5, .one (.pv (.rp [[pi p3]] 0 0))), (6, .one (.pt 0 0 0 0)), (7, .one (.pt 1 0 0 0)), (8, .one (.fn 104 [.pt 1 0 0 0, .pv (.rp [[pi p3]] 0 0)]))] qa2196 (zd ?_)))))
 refine hK3 _ _ (zq fun K4 hK4 => zb 0 (zq fun K5 hK5 => ?_))
 have hJ1 : ∀ (x1 : Bool), value_logic_j1 p1 p2 p3 x1 = some r → ∀ fr1 st1, Sub 37 0 [] fr1 st1 [(3, .one (.pv (.rp [(qa2187 p1)] 0 0))), (4, .one (.pv (.rp [(qa2188 p2)] 0 0))), (5, .one (.pv (.rp [[pi p3]] 0 0))), (6, .one (.pt 0 0 0 0)), (7, .one (.pt 1 0 0 0)), (10, vb x1)] qa2196 → K5 fr1 st1 := by
  intro x1 h fr1 st1 hS
  unfold value_logic_j1 at h
  refine hK5 _ _ (XW.sub hS ?_)
  refine zC h (fun b9 h => ?_) (fun b9 h => ?_)
  ·refine zq fun K10 hK10 => ?_
   obtain ⟨r3, c11, h⟩ := zB h
   refine zr (zu [6, 7] 2 [6,20] [[pi p3]] (za (c_value_truth _ _ c11) (zv [6, 7] 1 [6] [] [(6, .one (.pt 0 0 0 0))] [.box [ci r3.kind, ci r3.n, ci r3.scale, cst r3.s, cl eValue r3.items], .box qa2191] (zd (hK10 _ _ (ze ?_))))))
   obtain rfl := Option.some.inj h
   exact zf [.ag [ci r3.kind, ci r3.n, ci r3.scale, cst r3.s, cl eValue r3.items]] (.ag (.cons (.rfl _ rfl) (.cons (.rfl _ rfl) (.cons (.rfl _ rfl) (.cons (.rfl _ rfl) (.cons (.rfl _ rfl) .nil))))))
  ·refine zq fun K12 hK12 => ?_
   have hJ2 : ∀ (x2 : Bool), value_logic_j2 p3 x2 = some r → ∀ fr1 st1, Sub 37 0 [] fr1 st1 [(5, .one (.pv (.rp [[pi p3]] 0 0))), (6, .one (.pt 0 0 0 0)), (22, vb x2)] qa2196 → K12 fr1 st1 := by
    intro x2 h fr1 st1 hS
    unfold value_logic_j2 at h
    refine hK12 _ _ (XW.sub hS ?_)
    refine zC h (fun b16 h => ?_) (fun b16 h => ?_)
    ·refine zq fun K17 hK17 => zr (zg [6, 7] 2 [6] (zd (hK17 _ _ (ze ?_))))
     obtain rfl := Option.some.inj h
     exact zf [.ag qa2190] (.ag (.cons (.rfl _ rfl) (.cons (.rfl _ rfl) (.cons (.rfl _ rfl) (.cons (.rfl _ rfl) (.cons (.nl) .nil))))))
    ·refine zs (hK4 _ _ (zq fun K18 hK18 => ?_))
     obtain ⟨r6, c19, h⟩ := zB h
     refine zr (zu [6, 7] 2 [6,35] [[pi p3]] (zl 76 [vb (p3 == (0 : Int))] (.ag (qa2194 r6)) [(36, .ag (qa2194 r6)), (6, .one (.pt 0 0 0 0)), (35, vb (p3 == (0 : Int)))] (c_value_truth _ _ c19) (zg [6, 7] 1 [6] (zd (hK18 _ _ (ze ?_))))))
     obtain rfl := Option.some.inj h
     exact zf [.ag (qa2194 r6)] (.ag (.cons (.rfl _ rfl) (.cons (.rfl _ rfl) (.cons (.rfl _ rfl) (.cons (.rfl _ rfl) (.cons (.rfl _ rfl) .nil))))))
   obtain ⟨r4, c13, h⟩ := zB h
   rcases zW h with ⟨b14, h⟩ | ⟨b14, h⟩
   ·exact zr (zu [6, 7] 2 [4,5,6,7,23,24] [(qa2187 p1)] (za (c_value_logic_1 _ _ c13) (zv [6, 7] 2 [4,5,6,7,27] [] [(4, .one (.pv (.rp [(qa2188 p2)] 0 0))), (5, .one (.pv (.rp [[pi p3]] 0 0))), (6, .one (.pt 0 0 0 0)), (7, .one (.pt 1 0 0 0)), (27, vb (!r4))] qa2196 (zt 27 b14 (zg [6, 7] 6 [5,6,22] (zd (hJ2 true h _ _ (zk [5,6,22]))))))))
   ·obtain ⟨r5, c15, h⟩ := zB h
    refine zr (zu [6, 7] 2 [4,5,6,7,23,24] [(qa2187 p1)] (zl 103 [.ag (qa2184 p1)] (vb r4) [(25, vb r4), (4, .one (.pv (.rp [(qa2188 p2)] 0 0))), (5, .one (.pv (.rp [[pi p3]] 0 0))), (6, .one (.pt 0 0 0 0)), (7, .one (.pt 1 0 0 0)), (23, .one (.pv (.fn 103 []))), (24, .ag (qa2184 p1))] (c_value_logic_1 _ _ c13) (zg [6, 7] 2 [4,5,6,7,27] (zt 27 b14 ?_))))
    exact zu [6, 7] 2 [5,6,27,28,29] [(qa2188 p2)] (zl 103 [.ag (qa2185 p2)] (vb r5) [(30, vb r5), (5, .one (.pv (.rp [[pi p3]] 0 0))), (6, .one (.pt 0 0 0 0)), (27, vb false), (28, .one (.pv (.fn 103 []))), (29, .ag (qa2185 p2))] (c_value_logic_1 _ _ c15) (zg [6, 7] 3 [5,6,22] (zd (hJ2 (!r5) h _ _ (zk [5,6,22])))))
 obtain ⟨r1, c6, h⟩ := zB h
 rcases zW h with ⟨b7, h⟩ | ⟨b7, h⟩
 ·refine zr ?_
  refine zv [6, 7] 2 [3,4,5,6,7,8,11,12] [(qa2187 p1)] (qa2204 p1 p2 p3) qa2196 ?_
  refine XO.calm 104 [.ag (qa2184 p1), .one (.pt 0 0 0 0), .one (.pv (.rp [[pi p3]] 0 0))] [.box qa2191] [.box qa2191] (vb r1.1) [1] (qa2206 p1 p2 p3 r1) qa2196 (by kernel_rfl) (c_value_logic_2_of_value_logic_1 _ _ _ c6) (by kernel_rfl) (by kernel_rfl) (by kernel_rfl) (by kernel_rfl) ?_
  exact zg [6, 7] 1 [3,4,5,6,7,8,14] (zt 14 b7 (zg [6, 7] 5 [3,4,5,6,7,10] (zd (hJ1 true h _ _ (zk [3,4,5,6,7,10])))))
 ·obtain ⟨r2, c8, h⟩ := zB h
  refine zr ?_
  refine zv [6, 7] 2 [3,4,5,6,7,8,11,12] [(qa2187 p1)] (qa2204 p1 p2 p3) qa2196 ?_
  refine XO.calm 104 [.ag (qa2184 p1), .one (.pt 0 0 0 0), .one (.pv (.rp [[pi p3]] 0 0))] [.box qa2191] [.box qa2191] (vb r1.1) [1] (qa2206 p1 p2 p3 r1) qa2196 (by kernel_rfl) (c_value_logic_2_of_value_logic_1 _ _ _ c6) (by kernel_rfl) (by kernel_rfl) (by kernel_rfl) (by kernel_rfl) ?_
  refine zg [6, 7] 1 [3,4,5,6,7,8,14] (zt 14 b7 ?_)
  refine zv [6, 7] 2 [3,4,5,6,7,14,15,16] [(qa2188 p2)] [(3, .one (.pv (.rp [(qa2187 p1)] 0 0))), (4, .one (.pv (.rp [(qa2188 p2)] 0 0))), (5, .one (.pv (.rp [[pi p3]] 0 0))), (6, .one (.pt 0 0 0 0)), (7, .one (.pt 1 0 0 0)), (14, vb false), (15, .one (.fn 104 [.pt 1 0 0 0, .pv (.rp [[pi p3]] 0 0)])), (16, .ag (qa2185 p2))] qa2196 ?_
  refine XO.calm 104 [.ag (qa2185 p2), .one (.pt 0 0 0 0), .one (.pv (.rp [[pi p3]] 0 0))] [.box qa2191] [.box qa2191] (vb r2.1) [1] [(17, vb r2.1), (3, .one (.pv (.rp [(qa2187 p1)] 0 0))), (4, .one (.pv (.rp [(qa2188 p2)] 0 0))), (5, .one (.pv (.rp [[pi p3]] 0 0))), (6, .one (.pt 0 0 0 0)), (7, .one (.pt 1 0 0 0)), (14, vb false), (15, .one (.fn 104 [.pt 1 0 0 0, .pv (.rp [[pi p3]] 0 0)])), (16, .ag (qa2185 p2))] qa2196 (by kernel_rfl) (c_value_logic_2_of_value_logic_1 _ _ _ c8) (by kernel_rfl) (by kernel_rfl) (by kernel_rfl) (by kernel_rfl) ?_
  exact zg [6, 7] 2 [3,4,5,6,7,10] (zd (hJ1 r2.1 h _ _ (zk [3,4,5,6,7,10])))

def value_kindOf (p1 : GValue) : Option GType :=
    some (GType.mk p1.kind p1.scale [])


theorem c_value_kindOf (p1 : GValue) (r : GType) (h : value_kindOf p1 = some r) : PC Tryd.prog 60 [.ag [ci p1.kind, ci p1.n, ci p1.scale, cst p1.s, cl eValue p1.items]] (.ag [ci r.kind, ci r.scale, cl eField r.fields]) := by
 unfold value_kindOf at h
 refine zF 8 Tryd.f60 (zq fun K1 hK1 => zr (zg [2] 2 [1,2] (zd (hK1 _ _ (zq fun K2 hK2 => zr ?_)))))
 refine zu [2] 6 [2] [[pi p1.kind, pi p1.n, pi p1.scale, .s (.string p1.s), .ro (eValue.els p1.items)], [pi p1.kind, pi p1.n, pi p1.scale, .s (.string p1.s), .ro (eValue.els p1.items)]] (zd (hK2 _ _ (ze ?_)))
 obtain rfl := Option.some.inj h
 exact zf [.ag [ci p1.kind, ci p1.scale, .pv (.s (.slice none 0 0))]] (.ag (.cons (.rfl _ rfl) (.cons (.rfl _ rfl) (.cons (.nl) .nil))))

def value_result_1_s_j1 (x1 : Bool) : Option Bool :=
    some x1

def value_result_1_s (p1 : Int) (p2 : Int) (p3 : Int) (p4 : Int) (p5 : (List GField)) (p6 : Int) (p7 : Int) (p8 : (List GField)) : Option Bool :=
    ift (p3 == p1)
      (value_result_1_s_j1 (p6 == p2))
      (value_result_1_s_j1 false)


theorem c_value_result_1_s (p1 : Int) (p2 : Int) (p3 : Int) (p4 : Int) (p5 : (List GField)) (p6 : Int) (p7 : Int) (p8 : (List GField)) (r : Bool) (h : value_result_1_s p1 p2 p3 p4 p5 p6 p7 p8 = some r) : PC Tryd.prog 105 [vi p1, vi p2, .one (.pv (.rp [[pi p3, pi p4, .ro (eField.els p5)]] 0 0)), .one (.pv (.rp [[pi p6, pi p7, .ro (eField.els p8)]] 0 0))] (vb r) := by
 unfold value_result_1_s at h
 refine zF 17 Tryd.f105 (zq fun K1 hK1 => zr (zg [] 1 [0,1,2,3] (zd (hK1 _ _ (zq fun K2 hK2 => ?_)))))
 have hJ1 : ∀ (x1 : Bool), value_result_1_s_j1 x1 = some r → ∀ fr1 st1, Sub 17 0 [] fr1 st1 [(6, vb x1)] [] → K2 fr1 st1 := by
  intro x1 h fr1 st1 hS
  unfold value_result_1_s_j1 at h
  refine hK2 _ _ (XW.sub hS ?_)
  refine ze ?_
  obtain rfl := Option.some.inj h
  exact zf [vb x1] (.one (.rfl _ rfl))
 rcases zW h with ⟨b3, h⟩ | ⟨b3, h⟩
 ·exact zr (zu [] 5 [1,3,11] [[pi p3, pi p4, .ro (eField.els p5)]] (zt 11 b3 (zv [] 6 [6] [[pi p6, pi p7, .ro (eField.els p8)]] [(6, vb (p6 == p2))] [] (zd (hJ1 (p6 == p2) h _ _ (zk [6]))))))
 ·exact zr (zu [] 5 [1,3,11] [[pi p3, pi p4, .ro (eField.els p5)]] (zt 11 b3 (zg [] 6 [6] (zd (hJ1 false h _ _ (zk [6]))))))

def value_number_j1 (x1 : Bool) : Option Bool :=
    some x1

def value_number (p1 : GType) : Option Bool :=
    ift (p1.kind == (2 : Int))
      (value_number_j1 true)
      (value_number_j1 (p1.kind == (3 : Int)))

abbrev qa2219 (p1 : GType) : List PV := [pi p1.kind, pi p1.scale, .ro (eField.els p1.fields)]

theorem c_value_number (p1 : GType) (r : Bool) (h : value_number p1 = some r) : PC Tryd.prog 106 [.ag [ci p1.kind, ci p1.scale, cl eField p1.fields]] (vb r) := by
 unfold value_number at h
 refine zF 11 Tryd.f106 (zq fun K1 hK1 => zr (zg [] 2 [1] (zd (hK1 _ _ (zq fun K2 hK2 => ?_)))))
 have hJ1 : ∀ (x1 : Bool), value_number_j1 x1 = some r → ∀ fr1 st1, Sub 11 0 [] fr1 st1 [(2, vb x1)] [] → K2 fr1 st1 := by
  intro x1 h fr1 st1 hS
  unfold value_number_j1 at h
  refine hK2 _ _ (XW.sub hS ?_)
  refine ze ?_
  obtain rfl := Option.some.inj h
  exact zf [vb x1] (.one (.rfl _ rfl))
 rcases zW h with ⟨b3, h⟩ | ⟨b3, h⟩
 ·exact zr (zu [] 4 [1,6] [(qa2219 p1)] (zt 6 b3 (zv [] 5 [2] [] [(2, vb true)] [] (zd (hJ1 true h _ _ (zk [2]))))))
 ·exact zr (zu [] 4 [1,6] [(qa2219 p1)] (zt 6 b3 (zu [] 5 [2] [(qa2219 p1)] (zd (hJ1 (p1.kind == (3 : Int)) h _ _ (zk [2]))))))

def value_result_j5 (x5 : Int) : Option (GType × Bool) :=
    some ((GType.mk (3 : Int) x5 []), true)

def value_result_j4 (p1 : Int) (p2 : GType) (p3 : GType) (x4 : Bool) : Option (GType × Bool) :=
    ift x4
      (some ((GType.mk (0 : Int) (0 : Int) []), false))
      (ift (p1 == (3 : Int))
         (bnd (some (if (12 : Int) < (IntKind.i64.wrap (p2.scale + p3.scale)) then (12 : Int) else (IntKind.i64.wrap (p2.scale + p3.scale)))) fun y1 =>
          value_result_j5 y1)
         (ift (p1 == (4 : Int))
            (bnd (some (IntKind.i64.wrap ((if p3.scale > p2.scale then p3.scale else p2.scale) + (4 : Int)))) fun y2 =>
             value_result_j5 (if (12 : Int) < y2 then (12 : Int) else y2))
            (value_result_j5 (if p3.scale > p2.scale then p3.scale else p2.scale))))

def value_result_j3 (p1 : Int) (p2 : GType) (p3 : GType) (x3 : Bool) : Option (GType × Bool) :=
    ift x3
      (some ((GType.mk (2 : Int) (0 : Int) []), true))
      (bnd (value_number p2) fun r9 =>
       ift (!r9)
         (value_result_j4 p1 p2 p3 true)
         (bnd (value_number p3) fun r10 =>
          value_result_j4 p1 p2 p3 (!r10)))

def value_result_j2 (p1 : Int) (p2 : GType) (p3 : GType) (x2 : Bool) : Option (GType × Bool) :=
    ift x2
      (some ((GType.mk (5 : Int) (0 : Int) []), true))
      (ift (p1 == (2 : Int))
         (bnd (value_result_1_s (5 : Int) (5 : Int) p2.kind p2.scale p2.fields p3.kind p3.scale p3.fields) fun r6 =>
          ift r6
            (value_result_j3 p1 p2 p3 true)
            (bnd (value_result_1_s (2 : Int) (2 : Int) p2.kind p2.scale p2.fields p3.kind p3.scale p3.fields) fun r7 =>
             value_result_j3 p1 p2 p3 r7))
         (bnd (value_result_1_s (2 : Int) (2 : Int) p2.kind p2.scale p2.fields p3.kind p3.scale p3.fields) fun r8 =>
          value_result_j3 p1 p2 p3 r8))

def value_result_j1 (p1 : Int) (p2 : GType) (p3 : GType) (x1 : Bool) : Option (GType × Bool) :=
    ift x1
      (bnd (value_result_1_s (1 : Int) (1 : Int) p2.kind p2.scale p2.fields p3.kind p3.scale p3.fields) fun r1 =>
       some ((GType.mk (1 : Int) (0 : Int) []), r1))
      (ift (p1 == (1 : Int))
         (bnd (value_result_1_s (5 : Int) (2 : Int) p2.kind p2.scale p2.fields p3.kind p3.scale p3.fields) fun r2 =>
          ift r2
            (value_result_j2 p1 p2 p3 true)
            (bnd (value_result_1_s (2 : Int) (5 : Int) p2.kind p2.scale p2.fields p3.kind p3.scale p3.fields) fun r3 =>
             ift r3
               (value_result_j2 p1 p2 p3 true)
               (ift (p1 == (2 : Int))
                  (bnd (value_result_1_s (5 : Int) (2 : Int) p2.kind p2.scale p2.fields p3.kind p3.scale p3.fields) fun r4 =>
                   value_result_j2 p1 p2 p3 r4)
                  (value_result_j2 p1 p2 p3 false))))
         (ift (p1 == (2 : Int))
            (bnd (value_result_1_s (5 : Int) (2 : Int) p2.kind p2.scale p2.fields p3.kind p3.scale p3.fields) fun r5 =>
             value_result_j2 p1 p2 p3 r5)
            (value_result_j2 p1 p2 p3 false)))

def value_result (p1 : Int) (p2 : GType) (p3 : GType) : Option (GType × Bool) :=
    ift (p1 == (6 : Int))
      (value_result_j1 p1 p2 p3 true)
      (value_result_j1 p1 p2 p3 (p1 == (7 : Int)))

abbrev qa2221 (p2 : GType) : List CV := [ci p2.kind, ci p2.scale, cl eField p2.fields]
abbrev qa2224 (p2 : GType) : List PV := [pi p2.kind, pi p2.scale, .ro (eField.els p2.fields)]
abbrev qa2225 (p3 : GType) : List PV := [pi p3.kind, pi p3.scale, .ro (eField.els p3.fields)]
abbrev qa2226 : List CV := [ci (0 : Int), ci (0 : Int), .pv (.s (.slice none 0 0))]
abbrev qa2234 : St := [.box qa2226]
abbrev qa2248 (p1 : Int) (p2 : GType) (p3 : GType) (r2 : Bool) : Fr := [(26, vb r2), (0, vi p1), (4, .one (.pv (.rp [(qa2224 p2)] 0 0))), (5, .one (.pv (.rp [(qa2225 p3)] 0 0))), (6, .one (.pt 0 0 0 0)), (8, .one (.fn 105 [.pv (.rp [(qa2224 p2)] 0 0), .pv (.rp [(qa2225 p3)] 0 0)])), (24, vb true), (25, .one (.fn 105 [.pv (.rp [(qa2224 p2)] 0 0), .pv (.rp [(qa2225 p3)] 0 0)]))]
abbrev qa2249 (p1 : Int) (p2 : GType) (p3 : GType) : Fr := [(0, vi p1), (4, .one (.pv (.rp [(qa2224 p2)] 0 0))), (5, .one (.pv (.rp [(qa2225 p3)] 0 0))), (6, .one (.pt 0 0 0 0)), (8, .one (.fn 105 [.pv (.rp [(qa2224 p2)] 0 0), .pv (.rp [(qa2225 p3)] 0 0)])), (24, vb (p1 == (1 : Int)))]

theorem c_value_result (p1 : Int) (p2 : GType) (p3 : GType) (r : (GType × Bool)) (h : value_result p1 p2 p3 = some r) : PC Tryd.prog 59 [vi p1, .ag (qa2221 p2), .ag [ci p3.kind, ci p3.scale, cl eField p3.fields]] (.tp [.ag [ci r.1.kind, ci r.1.scale, cl eField r.1.fields], vb r.2]) := by
 unfold value_result at h
 refine zF 84 Tryd.f59 (zq fun K1 hK1 => zr (zg [6] 4 [0,4,5,6] (zd (hK1 _ _ (zq fun K2 hK2 => zr ?_)))))
 refine zg [6] 2 [0,4,5,6,8] (zd (hK2 _ _ (zq fun K3 hK3 => zb 0 (zq fun K4 hK4 => ?_))))
 have hJ1 : ∀ (x1 : Bool), value_result_j1 p1 p2 p3 x1 = some r → ∀ fr1 st1, Sub 84 0 [] fr1 st1 [(0, vi p1), (4, .one (.pv (.rp [(qa2224 p2)] 0 0))), (5, .one (.pv (.rp [(qa2225 p3)] 0 0))), (6, .one (.pt 0 0 0 0)), (8, .one (.fn 105 [.pv (.rp [(qa2224 p2)] 0 0), .pv (.rp [(qa2225 p3)] 0 0)])), (11, vb x1)] qa2234 → K4 fr1 st1 := by
  intro x1 h fr1 st1 hS
  unfold value_result_j1 at h
  refine hK4 _ _ (XW.sub hS ?_)
  refine zC h (fun b6 h => ?_) (fun b6 h => ?_)
  ·refine zq fun K7 hK7 => ?_
   obtain ⟨r1, c8, h⟩ := zB h
   refine zr (zg [6] 2 [6,18,19] (za (c_value_result_1_s _ _ _ _ _ _ _ _ _ c8) (zv [6] 2 [6,7] [] [(6, .one (.pt 0 0 0 0)), (7, vb r1)] [.box [ci (1 : Int), ci (0 : Int), .pv (.s (.slice none 0 0))]] (zd (hK7 _ _ (ze ?_))))))
   obtain rfl := Option.some.inj h
   exact zf [.ag [ci (1 : Int), ci (0 : Int), .pv (.s (.slice none 0 0))], vb r1] (.tpc (.ag (.cons (.rfl _ rfl) (.cons (.rfl _ rfl) (.cons (.nl) .nil)))) (.tpc (.one (.rfl _ rfl)) (.tp0)))
  ·refine zq fun K9 hK9 => ?_
   have hJ2 : ∀ (x2 : Bool), value_result_j2 p1 p2 p3 x2 = some r → ∀ fr1 st1, Sub 84 0 [] fr1 st1 [(0, vi p1), (4, .one (.pv (.rp [(qa2224 p2)] 0 0))), (5, .one (.pv (.rp [(qa2225 p3)] 0 0))), (6, .one (.pt 0 0 0 0)), (8, .one (.fn 105 [.pv (.rp [(qa2224 p2)] 0 0), .pv (.rp [(qa2225 p3)] 0 0)])), (21, vb x2)] qa2234 → K9 fr1 st1 := by
    intro x2 h fr1 st1 hS
    unfold value_result_j2 at h
    refine hK9 _ _ (XW.sub hS ?_)
    refine zC h (fun b19 h => ?_) (fun b19 h => ?_)
    ·refine zq fun K20 hK20 => zr (zg [6] 3 [6,7] (zd (hK20 _ _ (ze ?_))))
     obtain rfl := Option.some.inj h
     exact zf [.ag [ci (5 : Int), ci (0 : Int), .pv (.s (.slice none 0 0))], vb true] (.tpc (.ag (.cons (.rfl _ rfl) (.cons (.rfl _ rfl) (.cons (.nl) .nil)))) (.tpc (.one (.rfl _ rfl)) (.tp0)))
    ·refine zq fun K21 hK21 => ?_
     have hJ3 : ∀ (x3 : Bool), value_result_j3 p1 p2 p3 x3 = some r → ∀ fr1 st1, Sub 84 0 [] fr1 st1 [(0, vi p1), (4, .one (.pv (.rp [(qa2224 p2)] 0 0))), (5, .one (.pv (.rp [(qa2225 p3)] 0 0))), (6, .one (.pt 0 0 0 0)), (41, vb x3)] qa2234 → K21 fr1 st1 := by
      intro x3 h fr1 st1 hS
      unfold value_result_j3 at h
      refine hK21 _ _ (XW.sub hS ?_)
      refine zC h (fun b27 h => ?_) (fun b27 h => ?_)
      ·refine zq fun K28 hK28 => zr (zg [6] 3 [6,7] (zd (hK28 _ _ (ze ?_))))
       obtain rfl := Option.some.inj h
       exact zf [.ag [ci (2 : Int), ci (0 : Int), .pv (.s (.slice none 0 0))], vb true] (.tpc (.ag (.cons (.rfl _ rfl) (.cons (.rfl _ rfl) (.cons (.nl) .nil)))) (.tpc (.one (.rfl _ rfl)) (.tp0)))
      ·refine zq fun K29 hK29 => ?_
       have hJ4 : ∀ (x4 : Bool), value_result_j4 p1 p2 p3 x4 = some r → ∀ fr1 st1, Sub 84 0 [] fr1 st1 [(0, vi p1), (4, .one (.pv (.rp [(qa2224 p2)] 0 0))), (5, .one (.pv (.rp [(qa2225 p3)] 0 0))), (6, .one (.pt 0 0 0 0)), (53, vb x4)] qa2234 → K29 fr1 st1 := by
        intro x4 h fr1 st1 hS
        unfold value_result_j4 at h
        refine hK29 _ _ (XW.sub hS ?_)
        refine zC h (fun b33 h => ?_) (fun b33 h => ?_)
        ·refine zq fun K34 hK34 => zr (zg [6] 3 [6,7] (zd (hK34 _ _ (ze ?_))))
         obtain rfl := Option.some.inj h
         exact zf [.ag qa2226, vb false] (.tpc (.ag (.cons (.rfl _ rfl) (.cons (.rfl _ rfl) (.cons (.nl) .nil)))) (.tpc (.one (.rfl _ rfl)) (.tp0)))
        ·refine zs (hK3 _ _ (zq fun K35 hK35 => zr (zu [6] 6 [0,4,5,6,9] [(qa2224 p2), (qa2225 p3)] (zd (hK35 _ _ (zq fun K36 hK36 => ?_))))))
         have hJ5 : ∀ (x5 : Int), value_result_j5 x5 = some r → ∀ fr1 st1, Sub 84 0 [] fr1 st1 [(6, .one (.pt 0 0 0 0)), (9, vi x5)] qa2234 → K36 fr1 st1 := by
          intro x5 h fr1 st1 hS
          unfold value_result_j5 at h
          refine hK36 _ _ (XW.sub hS ?_)
          refine zq fun K44 hK44 => zr (zg [6] 4 [6,7] (zd (hK44 _ _ (ze ?_))))
          obtain rfl := Option.some.inj h
          exact zf [.ag [ci (3 : Int), ci x5, .pv (.s (.slice none 0 0))], vb true] (.tpc (.ag (.cons (.rfl _ rfl) (.cons (.rfl _ rfl) (.cons (.nl) .nil)))) (.tpc (.one (.rfl _ rfl)) (.tp0)))
         refine zq fun K37 hK37 => zr (zv [6] 1 [4,5,6,9,68] [] [(4, .one (.pv (.rp [(qa2224 p2)] 0 0))), (5, .one (.pv (.rp [(qa2225 p3)] 0 0))), (6, .one (.pt 0 0 0 0)), (9, vi (if p3.scale > p2.scale then p3.scale else p2.scale)), (68, vi p1)] qa2234 (zd (hK37 _ _ (zb 1 (zq fun K38 hK38 => zr ?_)))))
         refine zg [6] 2 [4,5,6,9,68,69] (zd (hK38 _ _ (zC h (fun b39 h => ?_) (fun b39 h => ?_))))
         ·obtain ⟨y1, hy40, h⟩ := zB h
          refine zr (zv [6] 6 [6,76] [[pi p2.kind, pi p2.scale, .ro (eField.els p2.fields)], [pi p3.kind, pi p3.scale, .ro (eField.els p3.fields)]] [(6, .one (.pt 0 0 0 0)), (76, vi (if (12 : Int) < (IntKind.i64.wrap (p2.scale + p3.scale)) then (12 : Int) else (IntKind.i64.wrap (p2.scale + p3.scale))))] [.box [ci (0 : Int), ci (0 : Int), .pv (.s (.slice none 0 0))]] ?_)
          rw [show (if (12 : Int) < (IntKind.i64.wrap (p2.scale + p3.scale)) then (12 : Int) else (IntKind.i64.wrap (p2.scale + p3.scale))) = y1 from Option.some.inj hy40]
          exact zg [6] 1 [6,9] (zd (hJ5 y1 h _ _ (zk [6,9])))
         ·refine zq fun K41 hK41 => zr (zg [6] 2 [6,9,77] (zd (hK41 _ _ (zC h (fun b42 h => ?_) (fun b42 h => ?_)))))
          ·obtain ⟨y2, hy43, h⟩ := zB h
           refine zr (zv [6] 2 [6,80] [] [(6, .one (.pt 0 0 0 0)), (80, vi (IntKind.i64.wrap ((if p3.scale > p2.scale then p3.scale else p2.scale) + (4 : Int))))] [.box [ci (0 : Int), ci (0 : Int), .pv (.s (.slice none 0 0))]] ?_)
           rw [show (IntKind.i64.wrap ((if p3.scale > p2.scale then p3.scale else p2.scale) + (4 : Int))) = y2 from Option.some.inj hy43]
           exact zg [6] 2 [6,9] (zd (hJ5 (if (12 : Int) < y2 then (12 : Int) else y2) h _ _ (zk [6,9])))
          ·exact zs (hJ5 (if p3.scale > p2.scale then p3.scale else p2.scale) h _ _ (zk [6,9]))
       obtain ⟨r9, c30, h⟩ := zB h
       rcases zW h with ⟨b31, h⟩ | ⟨b31, h⟩
       ·exact zr (zu [6] 1 [0,4,5,6,54] [(qa2224 p2)] (zl 106 [.ag (qa2221 p2)] (vb r9) [(55, vb r9), (0, vi p1), (4, .one (.pv (.rp [(qa2224 p2)] 0 0))), (5, .one (.pv (.rp [(qa2225 p3)] 0 0))), (6, .one (.pt 0 0 0 0)), (54, .ag (qa2221 p2))] (c_value_number _ _ c30) (zg [6] 2 [0,4,5,6,57] (zt 57 b31 (zg [6] 5 [0,4,5,6,53] (zd (hJ4 true h _ _ (zk [0,4,5,6,53]))))))))
       ·obtain ⟨r10, c32, h⟩ := zB h
        refine zr (zv [6] 1 [0,4,5,6,54] [(qa2224 p2)] [(0, vi p1), (4, .one (.pv (.rp [(qa2224 p2)] 0 0))), (5, .one (.pv (.rp [(qa2225 p3)] 0 0))), (6, .one (.pt 0 0 0 0)), (54, .ag (qa2221 p2))] qa2234 (za (c_value_number _ _ c30) (zg [6] 2 [0,4,5,6,57] (zt 57 b31 ?_))))
        exact zv [6] 1 [0,4,5,6,57,58] [(qa2225 p3)] [(0, vi p1), (4, .one (.pv (.rp [(qa2224 p2)] 0 0))), (5, .one (.pv (.rp [(qa2225 p3)] 0 0))), (6, .one (.pt 0 0 0 0)), (57, vb false), (58, .ag [ci p3.kind, ci p3.scale, cl eField p3.fields])] qa2234 (za (c_value_number _ _ c32) (zg [6] 3 [0,4,5,6,53] (zd (hJ4 (!r10) h _ _ (zk [0,4,5,6,53])))))
     rcases zW h with ⟨b22, h⟩ | ⟨b22, h⟩
     ·obtain ⟨r6, c23, h⟩ := zB h
      rcases zW h with ⟨b24, h⟩ | ⟨b24, h⟩
      ·refine zr (zg [6] 3 [0,4,5,6,8,44] (zt 44 b22 ?_))
       refine zv [6] 1 [0,4,5,6,8,44,45] [] [(0, vi p1), (4, .one (.pv (.rp [(qa2224 p2)] 0 0))), (5, .one (.pv (.rp [(qa2225 p3)] 0 0))), (6, .one (.pt 0 0 0 0)), (8, .one (.fn 105 [.pv (.rp [(qa2224 p2)] 0 0), .pv (.rp [(qa2225 p3)] 0 0)])), (44, vb true), (45, .one (.fn 105 [.pv (.rp [(qa2224 p2)] 0 0), .pv (.rp [(qa2225 p3)] 0 0)]))] qa2234 ?_
       exact za (c_value_result_1_s _ _ _ _ _ _ _ _ _ c23) (zg [6] 2 [0,4,5,6,8,48] (zt 48 b24 (zv [6] 4 [0,4,5,6,41] [] [(0, vi p1), (4, .one (.pv (.rp [(qa2224 p2)] 0 0))), (5, .one (.pv (.rp [(qa2225 p3)] 0 0))), (6, .one (.pt 0 0 0 0)), (41, vb true)] qa2234 (zd (hJ3 true h _ _ (zk [0,4,5,6,41]))))))
      ·obtain ⟨r7, c25, h⟩ := zB h
       refine zr (zg [6] 3 [0,4,5,6,8,44] (zt 44 b22 (zg [6] 1 [0,4,5,6,8,44,45] ?_)))
       refine zl 105 [vi (5 : Int), vi (5 : Int), .one (.pv (.rp [(qa2224 p2)] 0 0)), .one (.pv (.rp [(qa2225 p3)] 0 0))] (vb r6) [(46, vb r6), (0, vi p1), (4, .one (.pv (.rp [(qa2224 p2)] 0 0))), (5, .one (.pv (.rp [(qa2225 p3)] 0 0))), (6, .one (.pt 0 0 0 0)), (8, .one (.fn 105 [.pv (.rp [(qa2224 p2)] 0 0), .pv (.rp [(qa2225 p3)] 0 0)])), (44, vb true), (45, .one (.fn 105 [.pv (.rp [(qa2224 p2)] 0 0), .pv (.rp [(qa2225 p3)] 0 0)]))] (c_value_result_1_s _ _ _ _ _ _ _ _ _ c23) ?_
       refine zg [6] 2 [0,4,5,6,8,48] (zt 48 b24 (zg [6] 1 [0,4,5,6,48,49] ?_))
       refine zl 105 [vi (2 : Int), vi (2 : Int), .one (.pv (.rp [(qa2224 p2)] 0 0)), .one (.pv (.rp [(qa2225 p3)] 0 0))] (vb r7) [(50, vb r7), (0, vi p1), (4, .one (.pv (.rp [(qa2224 p2)] 0 0))), (5, .one (.pv (.rp [(qa2225 p3)] 0 0))), (6, .one (.pt 0 0 0 0)), (48, vb false), (49, .one (.fn 105 [.pv (.rp [(qa2224 p2)] 0 0), .pv (.rp [(qa2225 p3)] 0 0)]))] (c_value_result_1_s _ _ _ _ _ _ _ _ _ c25) ?_
       exact zg [6] 2 [0,4,5,6,41] (zd (hJ3 r7 h _ _ (zk [0,4,5,6,41])))
     ·obtain ⟨r8, c26, h⟩ := zB h
      refine zr (zg [6] 3 [0,4,5,6,8,44] (zt 44 b22 (zv [6] 5 [0,4,5,6,48,49] [] [(0, vi p1), (4, .one (.pv (.rp [(qa2224 p2)] 0 0))), (5, .one (.pv (.rp [(qa2225 p3)] 0 0))), (6, .one (.pt 0 0 0 0)), (48, vb false), (49, .one (.fn 105 [.pv (.rp [(qa2224 p2)] 0 0), .pv (.rp [(qa2225 p3)] 0 0)]))] qa2234 (za (c_value_result_1_s _ _ _ _ _ _ _ _ _ c26) (zg [6] 2 [0,4,5,6,41] ?_)))))
      exact zd (hJ3 r8 h _ _ (zk [0,4,5,6,41]))
   rcases zW h with ⟨b10, h⟩ | ⟨b10, h⟩
   ·obtain ⟨r2, c11, h⟩ := zB h
    rcases zW h with ⟨b12, h⟩ | ⟨b12, h⟩
    ·refine zr (zg [6] 3 [0,4,5,6,8,24] (zt 24 b10 (zg [6] 1 [0,4,5,6,8,24,25] ?_)))
     refine zl 105 [vi (5 : Int), vi (2 : Int), .one (.pv (.rp [(qa2224 p2)] 0 0)), .one (.pv (.rp [(qa2225 p3)] 0 0))] (vb r2) (qa2248 p1 p2 p3 r2) (c_value_result_1_s _ _ _ _ _ _ _ _ _ c11) ?_
     exact zg [6] 1 [0,4,5,6,8,24,27] (zt 27 b12 (zg [6] 13 [0,4,5,6,8,21] (zd (hJ2 true h _ _ (zk [0,4,5,6,8,21])))))
    ·obtain ⟨r3, c13, h⟩ := zB h
     rcases zW h with ⟨b14, h⟩ | ⟨b14, h⟩
     ·refine zr (zv [6] 3 [0,4,5,6,8,24] [] (qa2249 p1 p2 p3) qa2234 (zt 24 b10 (zg [6] 1 [0,4,5,6,8,24,25] (za (c_value_result_1_s _ _ _ _ _ _ _ _ _ c11) ?_))))
      refine zv [6] 1 [0,4,5,6,8,24,27] [] [(0, vi p1), (4, .one (.pv (.rp [(qa2224 p2)] 0 0))), (5, .one (.pv (.rp [(qa2225 p3)] 0 0))), (6, .one (.pt 0 0 0 0)), (8, .one (.fn 105 [.pv (.rp [(qa2224 p2)] 0 0), .pv (.rp [(qa2225 p3)] 0 0)])), (24, vb true), (27, vb r2)] qa2234 (zt 27 b12 (zg [6] 1 [0,4,5,6,8,24,27,28] (za (c_value_result_1_s _ _ _ _ _ _ _ _ _ c13) ?_)))
      exact zv [6] 3 [0,4,5,6,8,32] [] [(0, vi p1), (4, .one (.pv (.rp [(qa2224 p2)] 0 0))), (5, .one (.pv (.rp [(qa2225 p3)] 0 0))), (6, .one (.pt 0 0 0 0)), (8, .one (.fn 105 [.pv (.rp [(qa2224 p2)] 0 0), .pv (.rp [(qa2225 p3)] 0 0)])), (32, vb r3)] qa2234 (zt 32 b14 (zg [6] 8 [0,4,5,6,8,21] (zd (hJ2 true h _ _ (zk [0,4,5,6,8,21])))))
     ·rcases zW h with ⟨b15, h⟩ | ⟨b15, h⟩
      ·obtain ⟨r4, c16, h⟩ := zB h
       refine zr (zg [6] 3 [0,4,5,6,8,24] (zt 24 b10 ?_))
       refine zv [6] 1 [0,4,5,6,8,24,25] [] [(0, vi p1), (4, .one (.pv (.rp [(qa2224 p2)] 0 0))), (5, .one (.pv (.rp [(qa2225 p3)] 0 0))), (6, .one (.pt 0 0 0 0)), (8, .one (.fn 105 [.pv (.rp [(qa2224 p2)] 0 0), .pv (.rp [(qa2225 p3)] 0 0)])), (24, vb true), (25, .one (.fn 105 [.pv (.rp [(qa2224 p2)] 0 0), .pv (.rp [(qa2225 p3)] 0 0)]))] qa2234 ?_
       refine za (c_value_result_1_s _ _ _ _ _ _ _ _ _ c11) (zg [6] 1 [0,4,5,6,8,24,27] (zt 27 b12 ?_))
       refine zv [6] 1 [0,4,5,6,8,24,27,28] [] [(0, vi p1), (4, .one (.pv (.rp [(qa2224 p2)] 0 0))), (5, .one (.pv (.rp [(qa2225 p3)] 0 0))), (6, .one (.pt 0 0 0 0)), (8, .one (.fn 105 [.pv (.rp [(qa2224 p2)] 0 0), .pv (.rp [(qa2225 p3)] 0 0)])), (24, vb true), (27, vb false), (28, .one (.fn 105 [.pv (.rp [(qa2224 p2)] 0 0), .pv (.rp [(qa2225 p3)] 0 0)]))] qa2234 ?_
       refine za (c_value_result_1_s _ _ _ _ _ _ _ _ _ c13) (zg [6] 3 [0,4,5,6,8,32] (zt 32 b14 (zv [6] 3 [0,4,5,6,8,32,35] [] [(0, vi p1), (4, .one (.pv (.rp [(qa2224 p2)] 0 0))), (5, .one (.pv (.rp [(qa2225 p3)] 0 0))), (6, .one (.pt 0 0 0 0)), (8, .one (.fn 105 [.pv (.rp [(qa2224 p2)] 0 0), .pv (.rp [(qa2225 p3)] 0 0)])), (32, vb false), (35, vb (p1 == (2 : Int)))] qa2234 ?_)))
       refine zt 35 b15 (zg [6] 1 [0,4,5,6,8,32,35,36] (za (c_value_result_1_s _ _ _ _ _ _ _ _ _ c16) (zv [6] 3 [0,4,5,6,8,21] [] [(0, vi p1), (4, .one (.pv (.rp [(qa2224 p2)] 0 0))), (5, .one (.pv (.rp [(qa2225 p3)] 0 0))), (6, .one (.pt 0 0 0 0)), (8, .one (.fn 105 [.pv (.rp [(qa2224 p2)] 0 0), .pv (.rp [(qa2225 p3)] 0 0)])), (21, vb r4)] qa2234 (zd ?_))))
       exact hJ2 r4 h _ _ (zk [0,4,5,6,8,21])
      ·refine zr (zg [6] 3 [0,4,5,6,8,24] (zt 24 b10 (zg [6] 1 [0,4,5,6,8,24,25] ?_)))
       refine zl 105 [vi (5 : Int), vi (2 : Int), .one (.pv (.rp [(qa2224 p2)] 0 0)), .one (.pv (.rp [(qa2225 p3)] 0 0))] (vb r2) (qa2248 p1 p2 p3 r2) (c_value_result_1_s _ _ _ _ _ _ _ _ _ c11) ?_
       refine zg [6] 1 [0,4,5,6,8,24,27] (zt 27 b12 (zg [6] 1 [0,4,5,6,8,24,27,28] ?_))
       refine zl 105 [vi (2 : Int), vi (5 : Int), .one (.pv (.rp [(qa2224 p2)] 0 0)), .one (.pv (.rp [(qa2225 p3)] 0 0))] (vb r3) [(29, vb r3), (0, vi p1), (4, .one (.pv (.rp [(qa2224 p2)] 0 0))), (5, .one (.pv (.rp [(qa2225 p3)] 0 0))), (6, .one (.pt 0 0 0 0)), (8, .one (.fn 105 [.pv (.rp [(qa2224 p2)] 0 0), .pv (.rp [(qa2225 p3)] 0 0)])), (24, vb true), (27, vb false), (28, .one (.fn 105 [.pv (.rp [(qa2224 p2)] 0 0), .pv (.rp [(qa2225 p3)] 0 0)]))] (c_value_result_1_s _ _ _ _ _ _ _ _ _ c13) ?_
       exact zg [6] 3 [0,4,5,6,8,32] (zt 32 b14 (zg [6] 3 [0,4,5,6,8,32,35] (zt 35 b15 (zv [6] 5 [0,4,5,6,8,21] [] [(0, vi p1), (4, .one (.pv (.rp [(qa2224 p2)] 0 0))), (5, .one (.pv (.rp [(qa2225 p3)] 0 0))), (6, .one (.pt 0 0 0 0)), (8, .one (.fn 105 [.pv (.rp [(qa2224 p2)] 0 0), .pv (.rp [(qa2225 p3)] 0 0)])), (21, vb false)] qa2234 (zd (hJ2 false h _ _ (zk [0,4,5,6,8,21])))))))
   ·rcases zW h with ⟨b17, h⟩ | ⟨b17, h⟩
    ·obtain ⟨r5, c18, h⟩ := zB h
     refine zr (zg [6] 3 [0,4,5,6,8,24] (zt 24 b10 (zg [6] 11 [0,4,5,6,8,32,35] (zt 35 b17 ?_))))
     refine zv [6] 1 [0,4,5,6,8,32,35,36] [] [(0, vi p1), (4, .one (.pv (.rp [(qa2224 p2)] 0 0))), (5, .one (.pv (.rp [(qa2225 p3)] 0 0))), (6, .one (.pt 0 0 0 0)), (8, .one (.fn 105 [.pv (.rp [(qa2224 p2)] 0 0), .pv (.rp [(qa2225 p3)] 0 0)])), (32, vb false), (35, vb true), (36, .one (.fn 105 [.pv (.rp [(qa2224 p2)] 0 0), .pv (.rp [(qa2225 p3)] 0 0)]))] qa2234 ?_
     exact za (c_value_result_1_s _ _ _ _ _ _ _ _ _ c18) (zg [6] 3 [0,4,5,6,8,21] (zd (hJ2 r5 h _ _ (zk [0,4,5,6,8,21]))))
    ·refine zr (zv [6] 3 [0,4,5,6,8,24] [] (qa2249 p1 p2 p3) qa2234 (zt 24 b10 (zg [6] 11 [0,4,5,6,8,32,35] (zt 35 b17 (zg [6] 5 [0,4,5,6,8,21] (zd ?_))))))
     exact hJ2 false h _ _ (zk [0,4,5,6,8,21])
 rcases zW h with ⟨b5, h⟩ | ⟨b5, h⟩
 ·exact zr (zv [6] 3 [0,4,5,6,8,14] [] [(0, vi p1), (4, .one (.pv (.rp [(qa2224 p2)] 0 0))), (5, .one (.pv (.rp [(qa2225 p3)] 0 0))), (6, .one (.pt 0 0 0 0)), (8, .one (.fn 105 [.pv (.rp [(qa2224 p2)] 0 0), .pv (.rp [(qa2225 p3)] 0 0)])), (14, vb (p1 == (6 : Int)))] qa2234 (zt 14 b5 (zg [6] 4 [0,4,5,6,8,11] (zd (hJ1 true h _ _ (zk [0,4,5,6,8,11]))))))
 ·exact zr (zg [6] 3 [0,4,5,6,8,14] (zt 14 b5 (zv [6] 4 [0,4,5,6,8,11] [] [(0, vi p1), (4, .one (.pv (.rp [(qa2224 p2)] 0 0))), (5, .one (.pv (.rp [(qa2225 p3)] 0 0))), (6, .one (.pt 0 0 0 0)), (8, .one (.fn 105 [.pv (.rp [(qa2224 p2)] 0 0), .pv (.rp [(qa2225 p3)] 0 0)])), (11, vb (p1 == (7 : Int)))] qa2234 (zd (hJ1 (p1 == (7 : Int)) h _ _ (zk [0,4,5,6,8,11]))))))

def value_size (p1 : Int) : Option Int :=
    bnd (some (if (IntKind.i64.wrap (0 - p1)) > p1 then (IntKind.i64.wrap (0 - p1)) else p1)) fun y1 =>
    some (IntKind.u64.wrap y1)


theorem c_value_size (p1 : Int) (r : Int) (h : value_size p1 = some r) : PC Tryd.prog 124 [vi p1] (vk .u64 r) := by
 unfold value_size at h
 refine zF 8 Tryd.f124 (zq fun K1 hK1 => zr (zg [] 1 [0] (zd (hK1 _ _ (zq fun K2 hK2 => ?_)))))
 obtain ⟨y1, hy3, h⟩ := zB h
 refine zr (zv [] 4 [6] [] [(6, vi (if (IntKind.i64.wrap (0 - p1)) > p1 then (IntKind.i64.wrap (0 - p1)) else p1))] [] ?_)
 rw [show (if (IntKind.i64.wrap (0 - p1)) > p1 then (IntKind.i64.wrap (0 - p1)) else p1) = y1 from Option.some.inj hy3]
 refine zg [] 2 [2] (zd (hK2 _ _ (ze ?_)))
 obtain rfl := Option.some.inj h
 exact zf [vk .u64 (IntKind.u64.wrap y1)] (.one (.rfl _ rfl))

def value_product (p1 : Int) (p2 : Int) : Option GWide :=
    bnd (value_whole p1) fun r1 =>
    bnd (value_size p2) fun r2 =>
    bnd (value_wide_times (GWide.mk r1.neg (r1.size.1, r1.size.2.1, r1.size.2.2.1, r1.size.2.2.2)) r2) fun r3 =>
    some (GWide.mk (!(r3.neg == (decide (p2 < (0 : Int))))) (r3.size.1, r3.size.2.1, r3.size.2.2.1, r3.size.2.2.2))

abbrev qa2262 (r1 : GWide) : List CV := [cb r1.neg, ck .u64 r1.size.1, ck .u64 r1.size.2.1, ck .u64 r1.size.2.2.1, ck .u64 r1.size.2.2.2]
abbrev qa2263 (r3 : GWide) : List CV := [cb r3.neg, ck .u64 r3.size.1, ck .u64 r3.size.2.1, ck .u64 r3.size.2.2.1, ck .u64 r3.size.2.2.2]
abbrev qa2265 (p2 : Int) (r3 : GWide) : List CV := [cb (!(r3.neg == (decide (p2 < (0 : Int))))), ck .u64 r3.size.1, ck .u64 r3.size.2.1, ck .u64 r3.size.2.2.1, ck .u64 r3.size.2.2.2]

theorem c_value_product (p1 : Int) (p2 : Int) (r : GWide) (h : value_product p1 p2 = some r) : PC Tryd.prog 108 [vi p1, vi p2] (.ag [cb r.neg, ck .u64 r.size.1, ck .u64 r.size.2.1, ck .u64 r.size.2.2.1, ck .u64 r.size.2.2.2]) := by
 unfold value_product at h
 refine zF 18 Tryd.f108 (zq fun K1 hK1 => zr (zg [4, 5] 1 [0,1,4] (zd (hK1 _ _ (zq fun K2 hK2 => ?_)))))
 obtain ⟨r1, c3, h⟩ := zB h
 obtain ⟨r2, c4, h⟩ := zB h
 obtain ⟨r3, c5, h⟩ := zB h
 refine zr (zg [4, 5] 1 [1,4,6] (zl 46 [vi p1] (.ag (qa2262 r1)) [(7, .ag (qa2262 r1)), (1, vi p2), (4, .one (.pt 0 0 0 0)), (6, vi p1)] (c_value_whole _ _ c3) (zg [4, 5] 1 [1,4,7,8] (za (c_value_size _ _ c4) ?_))))
 refine zl 96 [.ag (qa2262 r1), vk .u64 r2] (.ag (qa2263 r3)) [(10, .ag (qa2263 r3)), (9, vk .u64 r2), (1, vi p2), (4, .one (.pt 0 0 0 0)), (7, .ag (qa2262 r1)), (8, vi p2)] (c_value_wide_times _ _ _ c5) (zg [4, 5] 2 [1,4,5] (zd (hK2 _ _ ?_)))
 refine zq fun K6 hK6 => zr (zg [4, 5] 7 [4,5] (zd (hK6 _ _ (zq fun K7 hK7 => zr (zv [4, 5] 2 [4] [] [(4, .one (.pt 0 0 0 0))] [.box (qa2265 p2 r3), .box (qa2265 p2 r3)] ?_)))))
 refine zd (hK7 _ _ (ze ?_))
 obtain rfl := Option.some.inj h
 exact zf [.ag (qa2265 p2 r3)] (.ag (.cons (.rfl _ rfl) (.cons (.rfl _ rfl) (.cons (.rfl _ rfl) (.cons (.rfl _ rfl) (.cons (.rfl _ rfl) .nil))))))

def value_wide_zero (p1 : GWide) : Option Bool :=
    bnd (some ((p1.size.1 == (0 : Int)) && ((p1.size.2.1 == (0 : Int)) && ((p1.size.2.2.1 == (0 : Int)) && ((p1.size.2.2.2 == (0 : Int)) && true))))) fun y1 =>
    some y1


theorem c_value_wide_zero (p1 : GWide) (r : Bool) (h : value_wide_zero p1 = some r) : PC Tryd.prog 109 [.ag [cb p1.neg, ck .u64 p1.size.1, ck .u64 p1.size.2.1, ck .u64 p1.size.2.2.1, ck .u64 p1.size.2.2.2]] (vb r) := by
 unfold value_wide_zero at h
 refine zF 7 Tryd.f109 (zq fun K1 hK1 => zr (zg [] 2 [1] (zd (hK1 _ _ (zq fun K2 hK2 => ?_)))))
 obtain ⟨y1, hy3, h⟩ := zB h
 refine zr (zv [] 4 [6] [[.s (.bool p1.neg), .s (.int .u64 p1.size.1), .s (.int .u64 p1.size.2.1), .s (.int .u64 p1.size.2.2.1), .s (.int .u64 p1.size.2.2.2)]] [(6, vb ((p1.size.1 == (0 : Int)) && ((p1.size.2.1 == (0 : Int)) && ((p1.size.2.2.1 == (0 : Int)) && ((p1.size.2.2.2 == (0 : Int)) && true)))))] [] ?_)
 rw [show ((p1.size.1 == (0 : Int)) && ((p1.size.2.1 == (0 : Int)) && ((p1.size.2.2.1 == (0 : Int)) && ((p1.size.2.2.2 == (0 : Int)) && true)))) = y1 from Option.some.inj hy3]
 refine zg [] 1 [2] (zd (hK2 _ _ (ze ?_)))
 obtain rfl := Option.some.inj h
 exact zf [vb y1] (.one (.rfl _ rfl))

def value_compute (p1 : Int) (p2 : GValue) (p3 : GValue) (p4 : GType) : Option GValue :=
    bnd (some (IntKind.i64.wrap ((if p3.scale > p2.scale then p3.scale else p2.scale) - p2.scale))) fun y1 =>
    bnd (value_scaled p2.n y1) fun r1 =>
    bnd (some (IntKind.i64.wrap ((if p3.scale > p2.scale then p3.scale else p2.scale) - p3.scale))) fun y2 =>
    bnd (value_scaled p3.n y2) fun r2 =>
    ift (p1 == (1 : Int))
      (bnd (value_wide_plus BIG (GWide.mk r1.neg (r1.size.1, r1.size.2.1, r1.size.2.2.1, r1.size.2.2.2)) (GWide.mk r2.neg (r2.size.1, r2.size.2.1, r2.size.2.2.1, r2.size.2.2.2))) fun r3 =>
       bnd (value_made p4.kind (GWide.mk r3.neg (r3.size.1, r3.size.2.1, r3.size.2.2.1, r3.size.2.2.2)) p4.scale) fun r4 =>
       some r4)
      (ift (p1 == (2 : Int))
         (bnd (value_wide_minus BIG (GWide.mk r1.neg (r1.size.1, r1.size.2.1, r1.size.2.2.1, r1.size.2.2.2)) (GWide.mk r2.neg (r2.size.1, r2.size.2.1, r2.size.2.2.1, r2.size.2.2.2))) fun r5 =>
          bnd (value_made p4.kind (GWide.mk r5.neg (r5.size.1, r5.size.2.1, r5.size.2.2.1, r5.size.2.2.2)) p4.scale) fun r6 =>
          some r6)
         (ift (p1 == (3 : Int))
            (bnd (value_product p2.n p3.n) fun r7 =>
             bnd (value_rescaled (GWide.mk r7.neg (r7.size.1, r7.size.2.1, r7.size.2.2.1, r7.size.2.2.2)) (IntKind.i64.wrap (p2.scale + p3.scale)) p4.scale) fun r8 =>
             bnd (value_made p4.kind (GWide.mk r8.neg (r8.size.1, r8.size.2.1, r8.size.2.2.1, r8.size.2.2.2)) p4.scale) fun r9 =>
             some r9)
            (bnd (value_wide_zero (GWide.mk r2.neg (r2.size.1, r2.size.2.1, r2.size.2.2.1, r2.size.2.2.2))) fun r10 =>
             ift r10
               (some (GValue.mk (0 : Int) (0 : Int) (0 : Int) ByteArray.empty []))
               (bnd (value_wide_quo (GWide.mk r1.neg (r1.size.1, r1.size.2.1, r1.size.2.2.1, r1.size.2.2.2)) (GWide.mk r2.neg (r2.size.1, r2.size.2.1, r2.size.2.2.1, r2.size.2.2.2))) fun r11 =>
                ift (p1 == (5 : Int))
                  (bnd (value_made p4.kind (GWide.mk r11.2.neg (r11.2.size.1, r11.2.size.2.1, r11.2.size.2.2.1, r11.2.size.2.2.2)) p4.scale) fun r12 =>
                   some r12)
                  (ift (p4.kind == (2 : Int))
                     (bnd (value_made p4.kind (GWide.mk r11.1.neg (r11.1.size.1, r11.1.size.2.1, r11.1.size.2.2.1, r11.1.size.2.2.2)) p4.scale) fun r13 =>
                      some r13)
                     (bnd (value_wide_shifted (GWide.mk r1.neg (r1.size.1, r1.size.2.1, r1.size.2.2.1, r1.size.2.2.2)) p4.scale) fun r14 =>
                      bnd (value_wide_rounded (GWide.mk r14.neg (r14.size.1, r14.size.2.1, r14.size.2.2.1, r14.size.2.2.2)) (GWide.mk r2.neg (r2.size.1, r2.size.2.1, r2.size.2.2.1, r2.size.2.2.2))) fun r15 =>
                      bnd (value_made p4.kind (GWide.mk r15.neg (r15.size.1, r15.size.2.1, r15.size.2.2.1, r15.size.2.2.2)) p4.scale) fun r16 =>
                      some r16))))))

abbrev qa2274 (p2 : GValue) : List PV := [pi p2.kind, pi p2.n, pi p2.scale, .s (.string p2.s), .ro (eValue.els p2.items)]
abbrev qa2275 (p3 : GValue) : List PV := [pi p3.kind, pi p3.n, pi p3.scale, .s (.string p3.s), .ro (eValue.els p3.items)]
abbrev qa2276 (p4 : GType) : List PV := [pi p4.kind, pi p4.scale, .ro (eField.els p4.fields)]
abbrev qa2277 : List CV := [ci (0 : Int), ci (0 : Int), ci (0 : Int), cst ByteArray.empty, .pv (.s (.slice none 0 0))]
abbrev qa2278 (r2 : GWide) : List CV := [cb r2.neg, ck .u64 r2.size.1, ck .u64 r2.size.2.1, ck .u64 r2.size.2.2.1, ck .u64 r2.size.2.2.2]
abbrev qa2279 (r1 : GWide) : List CV := [cb r1.neg, ck .u64 r1.size.1, ck .u64 r1.size.2.1, ck .u64 r1.size.2.2.1, ck .u64 r1.size.2.2.2]
abbrev qa2280 : List CV := [cb false, ck .u64 (0 : Int), ck .u64 (0 : Int), ck .u64 (0 : Int), ck .u64 (0 : Int)]
abbrev qa2281 (r3 : GWide) : List CV := [cb r3.neg, ck .u64 r3.size.1, ck .u64 r3.size.2.1, ck .u64 r3.size.2.2.1, ck .u64 r3.size.2.2.2]
abbrev qa2283 (r5 : GWide) : List CV := [cb r5.neg, ck .u64 r5.size.1, ck .u64 r5.size.2.1, ck .u64 r5.size.2.2.1, ck .u64 r5.size.2.2.2]
abbrev qa2286 (r7 : GWide) : List CV := [cb r7.neg, ck .u64 r7.size.1, ck .u64 r7.size.2.1, ck .u64 r7.size.2.2.1, ck .u64 r7.size.2.2.2]
abbrev qa2288 (r11 : (GWide × GWide)) : List CV := [cb r11.1.neg, ck .u64 r11.1.size.1, ck .u64 r11.1.size.2.1, ck .u64 r11.1.size.2.2.1, ck .u64 r11.1.size.2.2.2]
abbrev qa2289 (r11 : (GWide × GWide)) : List CV := [cb r11.2.neg, ck .u64 r11.2.size.1, ck .u64 r11.2.size.2.1, ck .u64 r11.2.size.2.2.1, ck .u64 r11.2.size.2.2.2]
abbrev qa2292 (r13 : GValue) : List CV := [ci r13.kind, ci r13.n, ci r13.scale, cst r13.s, cl eValue r13.items]
abbrev qa2293 (r15 : GWide) : List CV := [cb r15.neg, ck .u64 r15.size.1, ck .u64 r15.size.2.1, ck .u64 r15.size.2.2.1, ck .u64 r15.size.2.2.2]
abbrev qa2294 (r14 : GWide) : List CV := [cb r14.neg, ck .u64 r14.size.1, ck .u64 r14.size.2.1, ck .u64 r14.size.2.2.1, ck .u64 r14.size.2.2.2]
abbrev qa2298 (p1 : Int) (p2 : GValue) (p3 : GValue) (p4 : GType) (y1 : Int) (r1 : GWide) (y2 : Int) (r2 : GWide) : Fr := [(11, .one (.pt 2 0 0 0)), (10, .one (.pt 1 0 0 0)), (32, .ag (qa2278 r2)), (31, vi y2), (30, vi p3.scale), (29, .one (.pv (.rp [(qa2275 p3)] 0 2))), (28, vi (if p3.scale > p2.scale then p3.scale else p2.scale)), (27, vi p3.n), (26, .one (.pv (.rp [(qa2275 p3)] 0 1))), (25, .ag (qa2279 r1)), (24, vi y1), (23, vi p2.scale), (22, .one (.pv (.rp [(qa2274 p2)] 0 2))), (21, vi (if p3.scale > p2.scale then p3.scale else p2.scale)), (20, vi p2.n), (19, .one (.pv (.rp [(qa2274 p2)] 0 1))), (0, vi p1), (5, .one (.pv (.rp [(qa2274 p2)] 0 0))), (6, .one (.pv (.rp [(qa2275 p3)] 0 0))), (7, .one (.pv (.rp [(qa2276 p4)] 0 0))), (8, .one (.pt 0 0 0 0)), (9, vi (if p3.scale > p2.scale then p3.scale else p2.scale))]
abbrev qa2305 (r1 : GWide) (r2 : GWide) : St := [.box qa2277, .box (qa2279 r1), .box (qa2278 r2)]
abbrev qa2306 (p1 : Int) (p2 : GValue) (p3 : GValue) (p4 : GType) (r1 : GWide) (r2 : GWide) (r3 : GWide) : Fr := [(42, vi p4.scale), (41, .one (.pv (.rp [(qa2276 p4)] 0 1))), (40, .ag (qa2281 r3)), (39, .ag (qa2278 r2)), (38, .ag (qa2279 r1)), (37, vi p4.kind), (36, .one (.pv (.rp [(qa2276 p4)] 0 0))), (0, vi p1), (5, .one (.pv (.rp [(qa2274 p2)] 0 0))), (6, .one (.pv (.rp [(qa2275 p3)] 0 0))), (7, .one (.pv (.rp [(qa2276 p4)] 0 0))), (8, .one (.pt 0 0 0 0)), (10, .one (.pt 1 0 0 0)), (11, .one (.pt 2 0 0 0)), (33, vi p1), (34, vb (p1 == (1 : Int)))]
abbrev qa2308 (p1 : Int) (p2 : GValue) (p3 : GValue) (p4 : GType) (r1 : GWide) (r2 : GWide) (r5 : GWide) : Fr := [(52, vi p4.scale), (51, .one (.pv (.rp [(qa2276 p4)] 0 1))), (50, .ag (qa2283 r5)), (49, .ag (qa2278 r2)), (48, .ag (qa2279 r1)), (47, vi p4.kind), (46, .one (.pv (.rp [(qa2276 p4)] 0 0))), (0, vi p1), (5, .one (.pv (.rp [(qa2274 p2)] 0 0))), (6, .one (.pv (.rp [(qa2275 p3)] 0 0))), (7, .one (.pv (.rp [(qa2276 p4)] 0 0))), (8, .one (.pt 0 0 0 0)), (10, .one (.pt 1 0 0 0)), (11, .one (.pt 2 0 0 0)), (33, vi p1), (44, vb (p1 == (2 : Int)))]
abbrev qa2318 (p4 : GType) (r1 : GWide) (r2 : GWide) (r14 : GWide) (r15 : GWide) : Fr := [(111, vi p4.scale), (110, .one (.pv (.rp [(qa2276 p4)] 0 1))), (109, .ag (qa2293 r15)), (108, .ag (qa2278 r2)), (107, .ag (qa2294 r14)), (106, vi p4.scale), (105, .one (.pv (.rp [(qa2276 p4)] 0 1))), (104, .ag (qa2279 r1)), (103, vi p4.kind), (102, .one (.pv (.rp [(qa2276 p4)] 0 0))), (7, .one (.pv (.rp [(qa2276 p4)] 0 0))), (8, .one (.pt 0 0 0 0)), (10, .one (.pt 1 0 0 0)), (11, .one (.pt 2 0 0 0)), (12, .one (.pt 3 0 0 0)), (92, vb (p4.kind == (2 : Int)))]

theorem c_value_compute (p1 : Int) (p2 : GValue) (p3 : GValue) (p4 : GType) (r : GValue) (h : value_compute p1 p2 p3 p4 = some r) : PC Tryd.prog 61 [vi p1, .ag [ci p2.kind, ci p2.n, ci p2.scale, cst p2.s, cl eValue p2.items], .ag [ci p3.kind, ci p3.n, ci p3.scale, cst p3.s, cl eValue p3.items], .ag [ci p4.kind, ci p4.scale, cl eField p4.fields]] (.ag [ci r.kind, ci r.n, ci r.scale, cst r.s, cl eValue r.items]) := by
 unfold value_compute at h
 refine zF 113 Tryd.f61 (zq fun K1 hK1 => zr (zg [8, 10, 11, 12, 13] 4 [0,5,6,7,8] (zd (hK1 _ _ (zq fun K2 hK2 => zr ?_)))))
 refine zv [8, 10, 11, 12, 13] 6 [0,5,6,7,8,9] [(qa2274 p2), (qa2275 p3)] [(0, vi p1), (5, .one (.pv (.rp [(qa2274 p2)] 0 0))), (6, .one (.pv (.rp [(qa2275 p3)] 0 0))), (7, .one (.pv (.rp [(qa2276 p4)] 0 0))), (8, .one (.pt 0 0 0 0)), (9, vi (if p3.scale > p2.scale then p3.scale else p2.scale))] [.box qa2277] ?_
 refine zd (hK2 _ _ (zq fun K3 hK3 => ?_))
 obtain ⟨y1, hy4, h⟩ := zB h
 obtain ⟨r1, c5, h⟩ := zB h
 obtain ⟨y2, hy6, h⟩ := zB h
 obtain ⟨r2, c7, h⟩ := zB h
 refine XW.sub (Sub.dead 2) ?_
 refine XW.drwG 16 [1, 2, 3] [([], []), ([], []), ([], []), ([], []), ([], []), ([], []), ([], []), ([], []), ([], []), ([], []), ([], []), ([], []), ([], []), ([], []), ([1], [1]), ([2], [2])] (qa2298 p1 p2 p3 p4 y1 r1 y2 r2) [.box qa2277, .box qa2280, .box qa2280] (by kernel_rfl) (by kernel_rfl) ?_ ?_
 ·refine zgv 6 [[pi p2.kind, pi p2.n, pi p2.scale, .s (.string p2.s), .ro (eValue.els p2.items)], [pi p2.kind, pi p2.n, pi p2.scale, .s (.string p2.s), .ro (eValue.els p2.items)]] [(24, vi (IntKind.i64.wrap ((if p3.scale > p2.scale then p3.scale else p2.scale) - p2.scale))), (23, vi p2.scale), (22, .one (.pv (.rp [[pi p2.kind, pi p2.n, pi p2.scale, .s (.string p2.s), .ro (eValue.els p2.items)]] 0 2))), (21, vi (if p3.scale > p2.scale then p3.scale else p2.scale)), (20, vi p2.n), (19, .one (.pv (.rp [[pi p2.kind, pi p2.n, pi p2.scale, .s (.string p2.s), .ro (eValue.els p2.items)]] 0 1))), (0, vi p1), (5, .one (.pv (.rp [[pi p2.kind, pi p2.n, pi p2.scale, .s (.string p2.s), .ro (eValue.els p2.items)]] 0 0))), (6, .one (.pv (.rp [[pi p3.kind, pi p3.n, pi p3.scale, .s (.string p3.s), .ro (eValue.els p3.items)]] 0 0))), (7, .one (.pv (.rp [[pi p4.kind, pi p4.scale, .ro (eField.els p4.fields)]] 0 0))), (8, .one (.pt 0 0 0 0)), (9, vi (if p3.scale > p2.scale then p3.scale else p2.scale))] ?_
  rw [show (IntKind.i64.wrap ((if p3.scale > p2.scale then p3.scale else p2.scale) - p2.scale)) = y1 from Option.some.inj hy4]
  refine GY.cal 50 [vi p2.n, vi y1] (.ag (qa2279 r1)) [(25, .ag (qa2279 r1)), (24, vi y1), (23, vi p2.scale), (22, .one (.pv (.rp [(qa2274 p2)] 0 2))), (21, vi (if p3.scale > p2.scale then p3.scale else p2.scale)), (20, vi p2.n), (19, .one (.pv (.rp [(qa2274 p2)] 0 1))), (0, vi p1), (5, .one (.pv (.rp [(qa2274 p2)] 0 0))), (6, .one (.pv (.rp [(qa2275 p3)] 0 0))), (7, .one (.pv (.rp [(qa2276 p4)] 0 0))), (8, .one (.pt 0 0 0 0)), (9, vi (if p3.scale > p2.scale then p3.scale else p2.scale))] [] (by kernel_rfl) (by kernel_rfl) (c_value_scaled _ _ _ c5) rfl rfl (by kernel_rfl) (by kernel_rfl) (by kernel_rfl) ?_
  refine zgv 6 [[pi p3.kind, pi p3.n, pi p3.scale, .s (.string p3.s), .ro (eValue.els p3.items)], [pi p3.kind, pi p3.n, pi p3.scale, .s (.string p3.s), .ro (eValue.els p3.items)]] [(31, vi (IntKind.i64.wrap ((if p3.scale > p2.scale then p3.scale else p2.scale) - p3.scale))), (30, vi p3.scale), (29, .one (.pv (.rp [[pi p3.kind, pi p3.n, pi p3.scale, .s (.string p3.s), .ro (eValue.els p3.items)]] 0 2))), (28, vi (if p3.scale > p2.scale then p3.scale else p2.scale)), (27, vi p3.n), (26, .one (.pv (.rp [[pi p3.kind, pi p3.n, pi p3.scale, .s (.string p3.s), .ro (eValue.els p3.items)]] 0 1))), (25, .ag [cb r1.neg, ck .u64 r1.size.1, ck .u64 r1.size.2.1, ck .u64 r1.size.2.2.1, ck .u64 r1.size.2.2.2]), (24, vi y1), (23, vi p2.scale), (22, .one (.pv (.rp [[pi p2.kind, pi p2.n, pi p2.scale, .s (.string p2.s), .ro (eValue.els p2.items)]] 0 2))), (21, vi (if p3.scale > p2.scale then p3.scale else p2.scale)), (20, vi p2.n), (19, .one (.pv (.rp [[pi p2.kind, pi p2.n, pi p2.scale, .s (.string p2.s), .ro (eValue.els p2.items)]] 0 1))), (0, vi p1), (5, .one (.pv (.rp [[pi p2.kind, pi p2.n, pi p2.scale, .s (.string p2.s), .ro (eValue.els p2.items)]] 0 0))), (6, .one (.pv (.rp [[pi p3.kind, pi p3.n, pi p3.scale, .s (.string p3.s), .ro (eValue.els p3.items)]] 0 0))), (7, .one (.pv (.rp [[pi p4.kind, pi p4.scale, .ro (eField.els p4.fields)]] 0 0))), (8, .one (.pt 0 0 0 0)), (9, vi (if p3.scale > p2.scale then p3.scale else p2.scale))] ?_
  rw [show (IntKind.i64.wrap ((if p3.scale > p2.scale then p3.scale else p2.scale) - p3.scale)) = y2 from Option.some.inj hy6]
  refine GY.cal 50 [vi p3.n, vi y2] (.ag (qa2278 r2)) [(32, .ag (qa2278 r2)), (31, vi y2), (30, vi p3.scale), (29, .one (.pv (.rp [(qa2275 p3)] 0 2))), (28, vi (if p3.scale > p2.scale then p3.scale else p2.scale)), (27, vi p3.n), (26, .one (.pv (.rp [(qa2275 p3)] 0 1))), (25, .ag (qa2279 r1)), (24, vi y1), (23, vi p2.scale), (22, .one (.pv (.rp [(qa2274 p2)] 0 2))), (21, vi (if p3.scale > p2.scale then p3.scale else p2.scale)), (20, vi p2.n), (19, .one (.pv (.rp [(qa2274 p2)] 0 1))), (0, vi p1), (5, .one (.pv (.rp [(qa2274 p2)] 0 0))), (6, .one (.pv (.rp [(qa2275 p3)] 0 0))), (7, .one (.pv (.rp [(qa2276 p4)] 0 0))), (8, .one (.pt 0 0 0 0)), (9, vi (if p3.scale > p2.scale then p3.scale else p2.scale))] [] (by kernel_rfl) (by kernel_rfl) (c_value_scaled _ _ _ c7) rfl rfl (by kernel_rfl) (by kernel_rfl) (by kernel_rfl) ?_
  refine GY.new true 1 [] [(10, .one (.pt 1 0 0 0)), (32, .ag (qa2278 r2)), (31, vi y2), (30, vi p3.scale), (29, .one (.pv (.rp [(qa2275 p3)] 0 2))), (28, vi (if p3.scale > p2.scale then p3.scale else p2.scale)), (27, vi p3.n), (26, .one (.pv (.rp [(qa2275 p3)] 0 1))), (25, .ag (qa2279 r1)), (24, vi y1), (23, vi p2.scale), (22, .one (.pv (.rp [(qa2274 p2)] 0 2))), (21, vi (if p3.scale > p2.scale then p3.scale else p2.scale)), (20, vi p2.n), (19, .one (.pv (.rp [(qa2274 p2)] 0 1))), (0, vi p1), (5, .one (.pv (.rp [(qa2274 p2)] 0 0))), (6, .one (.pv (.rp [(qa2275 p3)] 0 0))), (7, .one (.pv (.rp [(qa2276 p4)] 0 0))), (8, .one (.pt 0 0 0 0)), (9, vi (if p3.scale > p2.scale then p3.scale else p2.scale))] [1] [.box qa2277, .box qa2280, .dead] [] (by kernel_rfl) (by kernel_rfl) trivial ?_
  refine GY.new true 2 [] (qa2298 p1 p2 p3 p4 y1 r1 y2 r2) [2] [.box qa2277, .box qa2280, .box qa2280] [] (by kernel_rfl) (by kernel_rfl) trivial ?_
  exact GY.done (by kernel_rfl) (by kernel_rfl)
 refine zg [8, 10, 11, 12, 13] 2 [0,5,6,7,8,10,11] (zd (hK3 _ _ (zq fun K8 hK8 => zq fun K9 hK9 => zr (zg [8, 10, 11, 12, 13] 1 [0,5,6,7,8,10,11,33] (zd ?_)))))
 refine hK9 _ _ (zb 0 (zq fun K10 hK10 => zr ?_))
 refine zv [8, 10, 11, 12, 13] 2 [0,5,6,7,8,10,11,33,34] [] [(0, vi p1), (5, .one (.pv (.rp [(qa2274 p2)] 0 0))), (6, .one (.pv (.rp [(qa2275 p3)] 0 0))), (7, .one (.pv (.rp [(qa2276 p4)] 0 0))), (8, .one (.pt 0 0 0 0)), (10, .one (.pt 1 0 0 0)), (11, .one (.pt 2 0 0 0)), (33, vi p1), (34, vb (p1 == (1 : Int)))] (qa2305 r1 r2) ?_
 refine zd (hK10 _ _ (zC h (fun b11 h => ?_) (fun b11 h => ?_)))
 ·refine zq fun K12 hK12 => ?_
  obtain ⟨r3, c13, h⟩ := zB h
  obtain ⟨r4, c14, h⟩ := zB h
  refine zw 7 (qa2306 p1 p2 p3 p4 r1 r2 r3) ?_ ?_
  ·refine zyu 4 [(qa2276 p4)] (zya (c_value_wide_plus BIG _ _ _ c13) ?_)
   refine zyv 2 [(qa2276 p4)] (qa2306 p1 p2 p3 p4 r1 r2 r3) ?_
   exact zyd
  refine za (c_value_made _ _ _ _ c14) (zg [8, 10, 11, 12, 13] 1 [8] (zd (hK12 _ _ (ze ?_))))
  obtain rfl := Option.some.inj h
  exact zf [.ag [ci r4.kind, ci r4.n, ci r4.scale, cst r4.s, cl eValue r4.items]] (.ag (.cons (.rfl _ rfl) (.cons (.rfl _ rfl) (.cons (.rfl _ rfl) (.cons (.rfl _ rfl) (.cons (.rfl _ rfl) .nil))))))
 ·refine zq fun K15 hK15 => zr ?_
  refine zv [8, 10, 11, 12, 13] 2 [0,5,6,7,8,10,11,33,44] [] [(0, vi p1), (5, .one (.pv (.rp [(qa2274 p2)] 0 0))), (6, .one (.pv (.rp [(qa2275 p3)] 0 0))), (7, .one (.pv (.rp [(qa2276 p4)] 0 0))), (8, .one (.pt 0 0 0 0)), (10, .one (.pt 1 0 0 0)), (11, .one (.pt 2 0 0 0)), (33, vi p1), (44, vb (p1 == (2 : Int)))] (qa2305 r1 r2) ?_
  refine zd (hK15 _ _ (zC h (fun b16 h => ?_) (fun b16 h => ?_)))
  ·refine zq fun K17 hK17 => ?_
   obtain ⟨r5, c18, h⟩ := zB h
   obtain ⟨r6, c19, h⟩ := zB h
   refine zw 7 (qa2308 p1 p2 p3 p4 r1 r2 r5) ?_ ?_
   ·refine zyu 4 [(qa2276 p4)] (zya (c_value_wide_minus BIG _ _ _ c18) ?_)
    refine zyv 2 [(qa2276 p4)] (qa2308 p1 p2 p3 p4 r1 r2 r5) ?_
    exact zyd
   refine za (c_value_made _ _ _ _ c19) (zg [8, 10, 11, 12, 13] 1 [8] (zd (hK17 _ _ (ze ?_))))
   obtain rfl := Option.some.inj h
   exact zf [.ag [ci r6.kind, ci r6.n, ci r6.scale, cst r6.s, cl eValue r6.items]] (.ag (.cons (.rfl _ rfl) (.cons (.rfl _ rfl) (.cons (.rfl _ rfl) (.cons (.rfl _ rfl) (.cons (.rfl _ rfl) .nil))))))
  ·refine zq fun K20 hK20 => zr ?_
   refine zv [8, 10, 11, 12, 13] 2 [0,5,6,7,8,10,11,54] [] [(0, vi p1), (5, .one (.pv (.rp [(qa2274 p2)] 0 0))), (6, .one (.pv (.rp [(qa2275 p3)] 0 0))), (7, .one (.pv (.rp [(qa2276 p4)] 0 0))), (8, .one (.pt 0 0 0 0)), (10, .one (.pt 1 0 0 0)), (11, .one (.pt 2 0 0 0)), (54, vb (p1 == (3 : Int)))] (qa2305 r1 r2) ?_
   refine zd (hK20 _ _ (zC h (fun b21 h => ?_) (fun b21 h => ?_)))
   ·refine zq fun K22 hK22 => ?_
    obtain ⟨r7, c23, h⟩ := zB h
    obtain ⟨r8, c24, h⟩ := zB h
    obtain ⟨r9, c25, h⟩ := zB h
    refine zw 17 [(72, vi p4.scale), (71, .one (.pv (.rp [(qa2276 p4)] 0 1))), (70, .ag [cb r8.neg, ck .u64 r8.size.1, ck .u64 r8.size.2.1, ck .u64 r8.size.2.2.1, ck .u64 r8.size.2.2.2]), (69, vi p4.scale), (68, .one (.pv (.rp [(qa2276 p4)] 0 1))), (67, vi (IntKind.i64.wrap (p2.scale + p3.scale))), (66, vi p3.scale), (65, .one (.pv (.rp [(qa2275 p3)] 0 2))), (64, vi p2.scale), (63, .one (.pv (.rp [(qa2274 p2)] 0 2))), (62, .ag (qa2286 r7)), (61, vi p3.n), (60, .one (.pv (.rp [(qa2275 p3)] 0 1))), (59, vi p2.n), (58, .one (.pv (.rp [(qa2274 p2)] 0 1))), (57, vi p4.kind), (56, .one (.pv (.rp [(qa2276 p4)] 0 0))), (0, vi p1), (5, .one (.pv (.rp [(qa2274 p2)] 0 0))), (6, .one (.pv (.rp [(qa2275 p3)] 0 0))), (7, .one (.pv (.rp [(qa2276 p4)] 0 0))), (8, .one (.pt 0 0 0 0)), (10, .one (.pt 1 0 0 0)), (11, .one (.pt 2 0 0 0)), (54, vb (p1 == (3 : Int)))] ?_ ?_
    ·refine zyu 6 [(qa2276 p4), (qa2274 p2), (qa2275 p3)] (zya (c_value_product _ _ _ c23) ?_)
     refine zyv 7 [(qa2274 p2), (qa2275 p3), (qa2276 p4)] [(69, vi p4.scale), (68, .one (.pv (.rp [(qa2276 p4)] 0 1))), (67, vi (IntKind.i64.wrap (p2.scale + p3.scale))), (66, vi p3.scale), (65, .one (.pv (.rp [(qa2275 p3)] 0 2))), (64, vi p2.scale), (63, .one (.pv (.rp [(qa2274 p2)] 0 2))), (62, .ag (qa2286 r7)), (61, vi p3.n), (60, .one (.pv (.rp [(qa2275 p3)] 0 1))), (59, vi p2.n), (58, .one (.pv (.rp [(qa2274 p2)] 0 1))), (57, vi p4.kind), (56, .one (.pv (.rp [(qa2276 p4)] 0 0))), (0, vi p1), (5, .one (.pv (.rp [(qa2274 p2)] 0 0))), (6, .one (.pv (.rp [(qa2275 p3)] 0 0))), (7, .one (.pv (.rp [(qa2276 p4)] 0 0))), (8, .one (.pt 0 0 0 0)), (10, .one (.pt 1 0 0 0)), (11, .one (.pt 2 0 0 0)), (54, vb (p1 == (3 : Int)))] ?_
     exact zya (c_value_rescaled _ _ _ _ c24) (zyu 2 [(qa2276 p4)] zyd)
    refine za (c_value_made _ _ _ _ c25) (zg [8, 10, 11, 12, 13] 1 [8] (zd (hK22 _ _ (ze ?_))))
    obtain rfl := Option.some.inj h
    exact zf [.ag [ci r9.kind, ci r9.n, ci r9.scale, cst r9.s, cl eValue r9.items]] (.ag (.cons (.rfl _ rfl) (.cons (.rfl _ rfl) (.cons (.rfl _ rfl) (.cons (.rfl _ rfl) (.cons (.rfl _ rfl) .nil))))))
   ·refine zs (hK8 _ _ (zq fun K26 hK26 => zq fun K27 hK27 => ?_))
    obtain ⟨r10, c28, h⟩ := zB h
    refine zr ?_
    refine zv [8, 10, 11, 12, 13] 1 [0,7,8,10,11,74] [] [(0, vi p1), (7, .one (.pv (.rp [(qa2276 p4)] 0 0))), (8, .one (.pt 0 0 0 0)), (10, .one (.pt 1 0 0 0)), (11, .one (.pt 2 0 0 0)), (74, .ag (qa2278 r2))] (qa2305 r1 r2) ?_
    refine za (c_value_wide_zero _ _ c28) (zd (hK27 _ _ (zC h (fun b29 h => ?_) (fun b29 h => ?_))))
    ·refine zq fun K30 hK30 => zr (zg [8, 10, 11, 12, 13] 2 [8] (zd (hK30 _ _ (ze ?_))))
     obtain rfl := Option.some.inj h
     exact zf [.ag qa2277] (.ag (.cons (.rfl _ rfl) (.cons (.rfl _ rfl) (.cons (.rfl _ rfl) (.cons (.rfl _ rfl) (.cons (.nl) .nil))))))
    ·refine zs (hK26 _ _ (zq fun K31 hK31 => ?_))
     obtain ⟨r11, c32, h⟩ := zB h
     refine zr ?_
     refine zv [8, 10, 11, 12, 13] 2 [0,7,8,10,11,78,79] [] [(0, vi p1), (7, .one (.pv (.rp [(qa2276 p4)] 0 0))), (8, .one (.pt 0 0 0 0)), (10, .one (.pt 1 0 0 0)), (11, .one (.pt 2 0 0 0)), (78, .ag (qa2279 r1)), (79, .ag (qa2278 r2))] (qa2305 r1 r2) ?_
     refine za (c_value_wide_quo _ _ _ c32) (zg [8, 10, 11, 12, 13] 7 [0,7,8,10,11,12,13] (zd (hK31 _ _ (zq fun K33 hK33 => zb 1 (zq fun K34 hK34 => zr ?_)))))
     refine zv [8, 10, 11, 12, 13] 3 [7,8,10,11,12,13,83] [] [(7, .one (.pv (.rp [(qa2276 p4)] 0 0))), (8, .one (.pt 0 0 0 0)), (10, .one (.pt 1 0 0 0)), (11, .one (.pt 2 0 0 0)), (12, .one (.pt 3 0 0 0)), (13, .one (.pt 4 0 0 0)), (83, vb (p1 == (5 : Int)))] [.box qa2277, .box (qa2279 r1), .box (qa2278 r2), .box (qa2288 r11), .box (qa2289 r11)] ?_
     refine zd (hK34 _ _ (zC h (fun b35 h => ?_) (fun b35 h => ?_)))
     ·refine zq fun K36 hK36 => ?_
      obtain ⟨r12, c37, h⟩ := zB h
      refine zr (zu [8, 10, 11, 12, 13] 5 [8,87,88,90] [(qa2276 p4), (qa2276 p4)] (za (c_value_made _ _ _ _ c37) ?_))
      refine zv [8, 10, 11, 12, 13] 1 [8] [] [(8, .one (.pt 0 0 0 0))] [.box [ci r12.kind, ci r12.n, ci r12.scale, cst r12.s, cl eValue r12.items], .box (qa2279 r1), .box (qa2278 r2), .box (qa2288 r11), .box (qa2289 r11)] (zd ?_)
      refine hK36 _ _ (ze ?_)
      obtain rfl := Option.some.inj h
      exact zf [.ag [ci r12.kind, ci r12.n, ci r12.scale, cst r12.s, cl eValue r12.items]] (.ag (.cons (.rfl _ rfl) (.cons (.rfl _ rfl) (.cons (.rfl _ rfl) (.cons (.rfl _ rfl) (.cons (.rfl _ rfl) .nil))))))
     ·refine zq fun K38 hK38 => zr (zu [8, 10, 11, 12, 13] 4 [7,8,10,11,12,92] [(qa2276 p4)] (zd (hK38 _ _ (zC h (fun b39 h => ?_) (fun b39 h => ?_)))))
      ·refine zq fun K40 hK40 => ?_
       obtain ⟨r13, c41, h⟩ := zB h
       refine zr (zu [8, 10, 11, 12, 13] 5 [8,97,98,100] [(qa2276 p4), (qa2276 p4)] ?_)
       refine zl 47 [vi p4.kind, .ag (qa2288 r11), vi p4.scale] (.ag (qa2292 r13)) [(101, .ag (qa2292 r13)), (8, .one (.pt 0 0 0 0)), (97, vi p4.kind), (98, .ag (qa2288 r11)), (100, vi p4.scale)] (c_value_made _ _ _ _ c41) (zg [8, 10, 11, 12, 13] 1 [8] (zd (hK40 _ _ (ze ?_))))
       obtain rfl := Option.some.inj h
       exact zf [.ag (qa2292 r13)] (.ag (.cons (.rfl _ rfl) (.cons (.rfl _ rfl) (.cons (.rfl _ rfl) (.cons (.rfl _ rfl) (.cons (.rfl _ rfl) .nil))))))
      ·refine zs (hK33 _ _ (zq fun K42 hK42 => ?_))
       obtain ⟨r14, c43, h⟩ := zB h
       obtain ⟨r15, c44, h⟩ := zB h
       obtain ⟨r16, c45, h⟩ := zB h
       refine zw 10 (qa2318 p4 r1 r2 r14 r15) ?_ ?_
       ·refine zyu 5 [(qa2276 p4), (qa2276 p4)] ?_
        refine DX.cal 51 [.ag (qa2279 r1), vi p4.scale] (.ag (qa2294 r14)) [(107, .ag (qa2294 r14)), (106, vi p4.scale), (105, .one (.pv (.rp [(qa2276 p4)] 0 1))), (104, .ag (qa2279 r1)), (103, vi p4.kind), (102, .one (.pv (.rp [(qa2276 p4)] 0 0))), (7, .one (.pv (.rp [(qa2276 p4)] 0 0))), (8, .one (.pt 0 0 0 0)), (10, .one (.pt 1 0 0 0)), (11, .one (.pt 2 0 0 0)), (12, .one (.pt 3 0 0 0)), (92, vb (p4.kind == (2 : Int)))] (by kernel_rfl) (c_value_wide_shifted _ _ _ c43) rfl rfl (by kernel_rfl) ?_
        refine zyg 1 (zya (c_value_wide_rounded _ _ _ c44) ?_)
        refine zyv 2 [(qa2276 p4)] (qa2318 p4 r1 r2 r14 r15) ?_
        exact zyd
       refine za (c_value_made _ _ _ _ c45) ?_
       refine zv [8, 10, 11, 12, 13] 1 [8] [] [(8, .one (.pt 0 0 0 0))] [.box [ci r16.kind, ci r16.n, ci r16.scale, cst r16.s, cl eValue r16.items], .box (qa2279 r1), .box (qa2278 r2), .box (qa2288 r11), .box (qa2289 r11)] (zd ?_)
       refine hK42 _ _ (ze ?_)
       obtain rfl := Option.some.inj h
       exact zf [.ag [ci r16.kind, ci r16.n, ci r16.scale, cst r16.s, cl eValue r16.items]] (.ag (.cons (.rfl _ rfl) (.cons (.rfl _ rfl) (.cons (.rfl _ rfl) (.cons (.rfl _ rfl) (.cons (.rfl _ rfl) .nil))))))

def value_Compute_j2 (p1 : Int) (p2 : GValue) (p3 : GValue) (x2 : Bool) : Option GValue :=
    ift x2
      (some (GValue.mk (0 : Int) (0 : Int) (0 : Int) ByteArray.empty []))
      (bnd (value_kindOf p2) fun r5 =>
       bnd (value_kindOf p3) fun r6 =>
       bnd (value_result p1 r5 r6) fun r7 =>
       ift (!r7.2)
         (some (GValue.mk (0 : Int) (0 : Int) (0 : Int) ByteArray.empty []))
         (bnd (value_compute p1 p2 p3 r7.1) fun r8 =>
          some r8))

def value_Compute_j1 (p1 : Int) (p2 : GValue) (p3 : GValue) (x1 : Bool) : Option GValue :=
    ift x1
      (some (GValue.mk (0 : Int) (0 : Int) (0 : Int) ByteArray.empty []))
      (ift (decide (p1 < (1 : Int)))
         (value_Compute_j2 p1 p2 p3 true)
         (value_Compute_j2 p1 p2 p3 (decide ((5 : Int) < p1))))

def value_Compute (p1 : Int) (p2 : GValue) (p3 : GValue) : Option GValue :=
    ift (p1 == (6 : Int))
      (bnd (value_logic p2 p3 (0 : Int)) fun r1 =>
       some r1)
      (ift (p1 == (7 : Int))
         (bnd (value_logic p2 p3 (1 : Int)) fun r2 =>
          some r2)
         (bnd (value_Sound p2) fun r3 =>
          ift (!r3)
            (value_Compute_j1 p1 p2 p3 true)
            (bnd (value_Sound p3) fun r4 =>
             ift (!r4)
               (value_Compute_j1 p1 p2 p3 true)
               (ift (p2.kind == (0 : Int))
                  (value_Compute_j1 p1 p2 p3 true)
                  (value_Compute_j1 p1 p2 p3 (p3.kind == (0 : Int)))))))

abbrev qa2321 (p2 : GValue) : List CV := [ci p2.kind, ci p2.n, ci p2.scale, cst p2.s, cl eValue p2.items]
abbrev qa2322 (p3 : GValue) : List CV := [ci p3.kind, ci p3.n, ci p3.scale, cst p3.s, cl eValue p3.items]
abbrev qa2324 (p2 : GValue) : List PV := [pi p2.kind, pi p2.n, pi p2.scale, .s (.string p2.s), .ro (eValue.els p2.items)]
abbrev qa2325 (p3 : GValue) : List PV := [pi p3.kind, pi p3.n, pi p3.scale, .s (.string p3.s), .ro (eValue.els p3.items)]
abbrev qa2326 : List CV := [ci (0 : Int), ci (0 : Int), ci (0 : Int), cst ByteArray.empty, .pv (.s (.slice none 0 0))]
abbrev qa2329 (r2 : GValue) : List CV := [ci r2.kind, ci r2.n, ci r2.scale, cst r2.s, cl eValue r2.items]
abbrev qa2330 (r7 : (GType × Bool)) : List CV := [ci r7.1.kind, ci r7.1.scale, cl eField r7.1.fields]
abbrev qa2331 (r6 : GType) : List CV := [ci r6.kind, ci r6.scale, cl eField r6.fields]
abbrev qa2332 (r5 : GType) : List CV := [ci r5.kind, ci r5.scale, cl eField r5.fields]
abbrev qa2334 (r8 : GValue) : List CV := [ci r8.kind, ci r8.n, ci r8.scale, cst r8.s, cl eValue r8.items]
abbrev qa2336 : St := [.box qa2326]
abbrev qa2341 (p1 : Int) (p2 : GValue) (p3 : GValue) (x2 : Bool) (r5 : GType) (r6 : GType) (r7 : (GType × Bool)) : Fr := [(7, .one (.pt 1 0 0 0)), (54, vb r7.2), (53, .ag (qa2330 r7)), (46, .tp [.ag (qa2330 r7), vb r7.2]), (52, .tp [.ag (qa2330 r7), vb r7.2]), (51, .ag (qa2331 r6)), (50, .ag (qa2322 p3)), (49, .ag (qa2332 r5)), (48, .ag (qa2321 p2)), (47, vi p1), (0, vi p1), (4, .one (.pv (.rp [(qa2324 p2)] 0 0))), (5, .one (.pv (.rp [(qa2325 p3)] 0 0))), (6, .one (.pt 0 0 0 0)), (44, vb x2)]
abbrev qa2354 (p1 : Int) (p2 : GValue) (p3 : GValue) : Fr := [(0, vi p1), (4, .one (.pv (.rp [(qa2324 p2)] 0 0))), (5, .one (.pv (.rp [(qa2325 p3)] 0 0))), (6, .one (.pt 0 0 0 0)), (20, .ag (qa2321 p2))]
abbrev qa2355 (p1 : Int) (p2 : GValue) (p3 : GValue) : Fr := [(0, vi p1), (4, .one (.pv (.rp [(qa2324 p2)] 0 0))), (5, .one (.pv (.rp [(qa2325 p3)] 0 0))), (6, .one (.pt 0 0 0 0)), (23, vb false), (24, .ag (qa2322 p3))]

theorem c_value_Compute (p1 : Int) (p2 : GValue) (p3 : GValue) (r : GValue) (h : value_Compute p1 p2 p3 = some r) : PC Tryd.prog 22 [vi p1, .ag (qa2321 p2), .ag (qa2322 p3)] (.ag [ci r.kind, ci r.n, ci r.scale, cst r.s, cl eValue r.items]) := by
 unfold value_Compute at h
 refine zF 63 Tryd.f22 (zq fun K1 hK1 => zr (zg [6, 7] 3 [0,4,5,6] (zd (hK1 _ _ (zq fun K2 hK2 => zq fun K3 hK3 => ?_)))))
 refine zr (zg [6, 7] 1 [0,4,5,6,9] (zd (hK3 _ _ (zb 0 (zq fun K4 hK4 => zr (zv [6, 7] 2 [0,4,5,6,9,10] [] [(0, vi p1), (4, .one (.pv (.rp [(qa2324 p2)] 0 0))), (5, .one (.pv (.rp [(qa2325 p3)] 0 0))), (6, .one (.pt 0 0 0 0)), (9, vi p1), (10, vb (p1 == (6 : Int)))] qa2336 ?_))))))
 refine zd (hK4 _ _ (zC h (fun b5 h => ?_) (fun b5 h => ?_)))
 ·refine zq fun K6 hK6 => ?_
  obtain ⟨r1, c7, h⟩ := zB h
  refine zr (zu [6, 7] 2 [6,12,13] [(qa2324 p2), (qa2325 p3)] (za (c_value_logic _ _ _ _ c7) (zv [6, 7] 1 [6] [] [(6, .one (.pt 0 0 0 0))] [.box [ci r1.kind, ci r1.n, ci r1.scale, cst r1.s, cl eValue r1.items]] (zd (hK6 _ _ (ze ?_))))))
  obtain rfl := Option.some.inj h
  exact zf [.ag [ci r1.kind, ci r1.n, ci r1.scale, cst r1.s, cl eValue r1.items]] (.ag (.cons (.rfl _ rfl) (.cons (.rfl _ rfl) (.cons (.rfl _ rfl) (.cons (.rfl _ rfl) (.cons (.rfl _ rfl) .nil))))))
 ·refine zq fun K8 hK8 => zr (zg [6, 7] 2 [0,4,5,6,15] (zd (hK8 _ _ (zC h (fun b9 h => ?_) (fun b9 h => ?_)))))
  ·refine zq fun K10 hK10 => ?_
   obtain ⟨r2, c11, h⟩ := zB h
   refine zr (zu [6, 7] 2 [6,17,18] [(qa2324 p2), (qa2325 p3)] ?_)
   refine zl 58 [.ag (qa2321 p2), .ag (qa2322 p3), vi (1 : Int)] (.ag (qa2329 r2)) [(19, .ag (qa2329 r2)), (6, .one (.pt 0 0 0 0)), (17, .ag (qa2321 p2)), (18, .ag (qa2322 p3))] (c_value_logic _ _ _ _ c11) (zg [6, 7] 1 [6] (zd (hK10 _ _ (ze ?_))))
   obtain rfl := Option.some.inj h
   exact zf [.ag (qa2329 r2)] (.ag (.cons (.rfl _ rfl) (.cons (.rfl _ rfl) (.cons (.rfl _ rfl) (.cons (.rfl _ rfl) (.cons (.rfl _ rfl) .nil))))))
  ·refine zs (hK2 _ _ (zq fun K12 hK12 => zq fun K13 hK13 => ?_))
   have hJ1 : ∀ (x1 : Bool), value_Compute_j1 p1 p2 p3 x1 = some r → ∀ fr1 st1, Sub 63 0 [] fr1 st1 [(0, vi p1), (4, .one (.pv (.rp [(qa2324 p2)] 0 0))), (5, .one (.pv (.rp [(qa2325 p3)] 0 0))), (6, .one (.pt 0 0 0 0)), (37, vb x1)] qa2336 → K13 fr1 st1 := by
    intro x1 h fr1 st1 hS
    unfold value_Compute_j1 at h
    refine hK13 _ _ (XW.sub hS ?_)
    refine zC h (fun b19 h => ?_) (fun b19 h => ?_)
    ·refine zq fun K20 hK20 => zr (zg [6, 7] 2 [6] (zd (hK20 _ _ (ze ?_))))
     obtain rfl := Option.some.inj h
     exact zf [.ag qa2326] (.ag (.cons (.rfl _ rfl) (.cons (.rfl _ rfl) (.cons (.rfl _ rfl) (.cons (.rfl _ rfl) (.cons (.nl) .nil))))))
    ·refine zs (hK12 _ _ (zq fun K21 hK21 => zq fun K22 hK22 => ?_))
     have hJ2 : ∀ (x2 : Bool), value_Compute_j2 p1 p2 p3 x2 = some r → ∀ fr1 st1, Sub 63 0 [] fr1 st1 [(0, vi p1), (4, .one (.pv (.rp [(qa2324 p2)] 0 0))), (5, .one (.pv (.rp [(qa2325 p3)] 0 0))), (6, .one (.pt 0 0 0 0)), (44, vb x2)] qa2336 → K22 fr1 st1 := by
      intro x2 h fr1 st1 hS
      unfold value_Compute_j2 at h
      refine hK22 _ _ (XW.sub hS ?_)
      refine zC h (fun b24 h => ?_) (fun b24 h => ?_)
      ·refine zq fun K25 hK25 => zr (zg [6, 7] 2 [6] (zd (hK25 _ _ (ze ?_))))
       obtain rfl := Option.some.inj h
       exact zf [.ag qa2326] (.ag (.cons (.rfl _ rfl) (.cons (.rfl _ rfl) (.cons (.rfl _ rfl) (.cons (.rfl _ rfl) (.cons (.nl) .nil))))))
      ·refine zs (hK21 _ _ (zq fun K26 hK26 => ?_))
       obtain ⟨r5, c27, h⟩ := zB h
       obtain ⟨r6, c28, h⟩ := zB h
       obtain ⟨r7, c29, h⟩ := zB h
       refine XW.sub (Sub.dead 1) ?_
       refine XW.drwG 11 [1, 2] [([], []), ([], []), ([], []), ([], []), ([], []), ([], []), ([], []), ([], []), ([], []), ([1], [1]), ([1], [1])] (qa2341 p1 p2 p3 x2 r5 r6 r7) [.box qa2326, .box (qa2330 r7)] (by kernel_rfl) (by kernel_rfl) ?_ ?_
       ·refine zgv 2 [(qa2324 p2)] [(48, .ag (qa2321 p2)), (47, vi p1), (0, vi p1), (4, .one (.pv (.rp [(qa2324 p2)] 0 0))), (5, .one (.pv (.rp [(qa2325 p3)] 0 0))), (6, .one (.pt 0 0 0 0)), (44, vb x2)] ?_
        refine GY.cal 60 [.ag (qa2321 p2)] (.ag (qa2332 r5)) [(49, .ag (qa2332 r5)), (48, .ag (qa2321 p2)), (47, vi p1), (0, vi p1), (4, .one (.pv (.rp [(qa2324 p2)] 0 0))), (5, .one (.pv (.rp [(qa2325 p3)] 0 0))), (6, .one (.pt 0 0 0 0)), (44, vb x2)] [] (by kernel_rfl) (by kernel_rfl) (c_value_kindOf _ _ c27) rfl rfl (by kernel_rfl) (by kernel_rfl) (by kernel_rfl) ?_
        refine zgv 1 [(qa2325 p3)] [(50, .ag (qa2322 p3)), (49, .ag (qa2332 r5)), (48, .ag (qa2321 p2)), (47, vi p1), (0, vi p1), (4, .one (.pv (.rp [(qa2324 p2)] 0 0))), (5, .one (.pv (.rp [(qa2325 p3)] 0 0))), (6, .one (.pt 0 0 0 0)), (44, vb x2)] ?_
        refine GY.cal 60 [.ag (qa2322 p3)] (.ag (qa2331 r6)) [(51, .ag (qa2331 r6)), (50, .ag (qa2322 p3)), (49, .ag (qa2332 r5)), (48, .ag (qa2321 p2)), (47, vi p1), (0, vi p1), (4, .one (.pv (.rp [(qa2324 p2)] 0 0))), (5, .one (.pv (.rp [(qa2325 p3)] 0 0))), (6, .one (.pt 0 0 0 0)), (44, vb x2)] [] (by kernel_rfl) (by kernel_rfl) (c_value_kindOf _ _ c28) rfl rfl (by kernel_rfl) (by kernel_rfl) (by kernel_rfl) ?_
        refine GY.cal 59 [vi p1, .ag (qa2332 r5), .ag (qa2331 r6)] (.tp [.ag (qa2330 r7), vb r7.2]) [(52, .tp [.ag (qa2330 r7), vb r7.2]), (51, .ag (qa2331 r6)), (50, .ag (qa2322 p3)), (49, .ag (qa2332 r5)), (48, .ag (qa2321 p2)), (47, vi p1), (0, vi p1), (4, .one (.pv (.rp [(qa2324 p2)] 0 0))), (5, .one (.pv (.rp [(qa2325 p3)] 0 0))), (6, .one (.pt 0 0 0 0)), (44, vb x2)] [] (by kernel_rfl) (by kernel_rfl) (c_value_result _ _ _ _ c29) rfl rfl (by kernel_rfl) (by kernel_rfl) (by kernel_rfl) ?_
        refine zgv 3 [] [(54, vb r7.2), (53, .ag (qa2330 r7)), (46, .tp [.ag (qa2330 r7), vb r7.2]), (52, .tp [.ag (qa2330 r7), vb r7.2]), (51, .ag (qa2331 r6)), (50, .ag (qa2322 p3)), (49, .ag (qa2332 r5)), (48, .ag (qa2321 p2)), (47, vi p1), (0, vi p1), (4, .one (.pv (.rp [(qa2324 p2)] 0 0))), (5, .one (.pv (.rp [(qa2325 p3)] 0 0))), (6, .one (.pt 0 0 0 0)), (44, vb x2)] ?_
        refine GY.new true 1 [] (qa2341 p1 p2 p3 x2 r5 r6 r7) [1] [.box qa2326, .box [ci (0 : Int), ci (0 : Int), .pv (.s (.slice none 0 0))]] [] (by kernel_rfl) (by kernel_rfl) trivial ?_
        refine GY.wr [] (qa2341 p1 p2 p3 x2 r5 r6 r7) [1] [.box qa2326, .box (qa2330 r7)] [] (by kernel_rfl) (by kernel_rfl) trivial ?_
        exact GY.done (by kernel_rfl) (by kernel_rfl)
       refine zg [6, 7] 1 [0,4,5,6,7,8] (zd (hK26 _ _ (zq fun K30 hK30 => zq fun K31 hK31 => zr (zv [6, 7] 2 [0,4,5,6,7,56] [] [(0, vi p1), (4, .one (.pv (.rp [(qa2324 p2)] 0 0))), (5, .one (.pv (.rp [(qa2325 p3)] 0 0))), (6, .one (.pt 0 0 0 0)), (7, .one (.pt 1 0 0 0)), (56, vb (!r7.2))] [.box qa2326, .box (qa2330 r7)] (zd ?_)))))
       refine hK31 _ _ (zC h (fun b32 h => ?_) (fun b32 h => ?_))
       ·refine zq fun K33 hK33 => zr (zg [6, 7] 2 [6] (zd (hK33 _ _ (ze ?_))))
        obtain rfl := Option.some.inj h
        exact zf [.ag qa2326] (.ag (.cons (.rfl _ rfl) (.cons (.rfl _ rfl) (.cons (.rfl _ rfl) (.cons (.rfl _ rfl) (.cons (.nl) .nil))))))
       ·refine zs (hK30 _ _ (zq fun K34 hK34 => ?_))
        obtain ⟨r8, c35, h⟩ := zB h
        refine zr (zu [6, 7] 4 [6,58,59,60,61] [(qa2324 p2), (qa2325 p3)] ?_)
        refine zl 61 [vi p1, .ag (qa2321 p2), .ag (qa2322 p3), .ag (qa2330 r7)] (.ag (qa2334 r8)) [(62, .ag (qa2334 r8)), (6, .one (.pt 0 0 0 0)), (58, vi p1), (59, .ag (qa2321 p2)), (60, .ag (qa2322 p3)), (61, .ag (qa2330 r7))] (c_value_compute _ _ _ _ _ c35) ?_
        refine zg [6, 7] 1 [6] (zd (hK34 _ _ (ze ?_)))
        obtain rfl := Option.some.inj h
        exact zf [.ag (qa2334 r8)] (.ag (.cons (.rfl _ rfl) (.cons (.rfl _ rfl) (.cons (.rfl _ rfl) (.cons (.rfl _ rfl) (.cons (.rfl _ rfl) .nil))))))
     rcases zW h with ⟨b23, h⟩ | ⟨b23, h⟩
     ·exact zr (zg [6, 7] 3 [0,4,5,6,41] (zt 41 b23 (zv [6, 7] 3 [0,4,5,6,44] [] [(0, vi p1), (4, .one (.pv (.rp [(qa2324 p2)] 0 0))), (5, .one (.pv (.rp [(qa2325 p3)] 0 0))), (6, .one (.pt 0 0 0 0)), (44, vb true)] qa2336 (zd (hJ2 true h _ _ (zk [0,4,5,6,44]))))))
     ·exact zr (zg [6, 7] 3 [0,4,5,6,41] (zt 41 b23 (zg [6, 7] 3 [0,4,5,6,44] (zd (hJ2 (decide ((5 : Int) < p1)) h _ _ (zk [0,4,5,6,44]))))))
   obtain ⟨r3, c14, h⟩ := zB h
   rcases zW h with ⟨b15, h⟩ | ⟨b15, h⟩
   ·refine zr (zu [6, 7] 1 [0,4,5,6,20] [(qa2324 p2)] (zl 9 [.ag (qa2321 p2)] (vb r3) [(21, vb r3), (0, vi p1), (4, .one (.pv (.rp [(qa2324 p2)] 0 0))), (5, .one (.pv (.rp [(qa2325 p3)] 0 0))), (6, .one (.pt 0 0 0 0)), (20, .ag (qa2321 p2))] (c_value_Sound _ _ c14) ?_))
    exact zg [6, 7] 2 [0,4,5,6,23] (zt 23 b15 (zg [6, 7] 14 [0,4,5,6,37] (zd (hJ1 true h _ _ (zk [0,4,5,6,37])))))
   ·obtain ⟨r4, c16, h⟩ := zB h
    rcases zW h with ⟨b17, h⟩ | ⟨b17, h⟩
    ·refine zr (zv [6, 7] 1 [0,4,5,6,20] [(qa2324 p2)] (qa2354 p1 p2 p3) qa2336 (za (c_value_Sound _ _ c14) ?_))
     refine zg [6, 7] 2 [0,4,5,6,23] (zt 23 b15 ?_)
     refine zv [6, 7] 1 [0,4,5,6,23,24] [(qa2325 p3)] (qa2355 p1 p2 p3) qa2336 (za (c_value_Sound _ _ c16) ?_)
     exact zg [6, 7] 3 [0,4,5,6,28] (zt 28 b17 (zv [6, 7] 9 [0,4,5,6,37] [] [(0, vi p1), (4, .one (.pv (.rp [(qa2324 p2)] 0 0))), (5, .one (.pv (.rp [(qa2325 p3)] 0 0))), (6, .one (.pt 0 0 0 0)), (37, vb true)] qa2336 (zd (hJ1 true h _ _ (zk [0,4,5,6,37])))))
    ·rcases zW h with ⟨b18, h⟩ | ⟨b18, h⟩
     ·refine zr (zu [6, 7] 1 [0,4,5,6,20] [(qa2324 p2)] (za (c_value_Sound _ _ c14) (zv [6, 7] 2 [0,4,5,6,23] [] [(0, vi p1), (4, .one (.pv (.rp [(qa2324 p2)] 0 0))), (5, .one (.pv (.rp [(qa2325 p3)] 0 0))), (6, .one (.pt 0 0 0 0)), (23, vb (!r3))] qa2336 (zt 23 b15 ?_))))
      refine zu [6, 7] 1 [0,4,5,6,23,24] [(qa2325 p3)] (za (c_value_Sound _ _ c16) (zv [6, 7] 3 [0,4,5,6,28] [] [(0, vi p1), (4, .one (.pv (.rp [(qa2324 p2)] 0 0))), (5, .one (.pv (.rp [(qa2325 p3)] 0 0))), (6, .one (.pt 0 0 0 0)), (28, vb (!r4))] qa2336 (zt 28 b17 ?_)))
      exact zu [6, 7] 5 [0,4,5,6,33] [(qa2324 p2)] (zt 33 b18 (zg [6, 7] 4 [0,4,5,6,37] (zd (hJ1 true h _ _ (zk [0,4,5,6,37])))))
     ·refine zr (zv [6, 7] 1 [0,4,5,6,20] [(qa2324 p2)] (qa2354 p1 p2 p3) qa2336 (za (c_value_Sound _ _ c14) ?_))
      refine zg [6, 7] 2 [0,4,5,6,23] (zt 23 b15 ?_)
      refine zv [6, 7] 1 [0,4,5,6,23,24] [(qa2325 p3)] (qa2355 p1 p2 p3) qa2336 (za (c_value_Sound _ _ c16) ?_)
      refine zg [6, 7] 3 [0,4,5,6,28] (zt 28 b17 (zv [6, 7] 5 [0,4,5,6,33] [(qa2324 p2)] [(0, vi p1), (4, .one (.pv (.rp [(qa2324 p2)] 0 0))), (5, .one (.pv (.rp [(qa2325 p3)] 0 0))), (6, .one (.pt 0 0 0 0)), (33, vb (p2.kind == (0 : Int)))] qa2336 (zt 33 b18 ?_)))
      exact zu [6, 7] 4 [0,4,5,6,37] [(qa2325 p3)] (zd (hJ1 (p3.kind == (0 : Int)) h _ _ (zk [0,4,5,6,37])))


end Go.Proofs.YtdkmclmdemngfaaDoor
