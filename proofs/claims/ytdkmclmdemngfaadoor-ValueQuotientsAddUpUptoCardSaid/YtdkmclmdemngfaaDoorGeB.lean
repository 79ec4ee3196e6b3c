/- Printed by a program: what the functions compute, and the proofs of their contracts. Printed by a program: what the functions compute, and the proofs of their contracts. Printed by a program: what the functions compute, and the proofs of their contracts. -/
import Derived.Test.YtdkmclmdemngfaaDoorGeA
namespace Go.Proofs.YtdkmclmdemngfaaDoor
open Go.SX Go
set_option linter.unusedVariables false
set_option linter.unusedSimpArgs false
set_option maxRecDepth 100000
set_option maxHeartbeats 8000000

def law1_exactly_j2 : Option Bool :=
    some true

def law1_exactly_l1 (q_law1_exactly : GValue → GValue → Option Bool) (p1 : GValue) (p2 : GValue) : Nat → Int → Option Bool
  | 0, _ => none
  | k1 + 1, x2 =>
    ift (decide (x2 < (p1.items.length : Int)))
      (bnd (at? p1.items x2) fun e1 =>
       bnd (at? p2.items x2) fun e2 =>
       bnd (q_law1_exactly e1 e2) fun r1 =>
       ift (!r1)
         (some false)
         ((law1_exactly_l1 q_law1_exactly p1 p2 k1) (IntKind.i64.wrap (x2 + (1 : Int)))))
      (law1_exactly_j2)

def law1_exactly_j1 (q_law1_exactly : GValue → GValue → Option Bool) (p1 : GValue) (p2 : GValue) (x1 : Bool) : Option Bool :=
    ift x1
      (some false)
      (law1_exactly_l1 q_law1_exactly p1 p2 BIG (0 : Int))

def law1_exactly : Nat → GValue → GValue → Option Bool
  | 0, _, _ => none
  | k0 + 1, p1, p2 =>
    ift (p1.kind != p2.kind)
      (law1_exactly_j1 (law1_exactly k0) p1 p2 true)
      (ift (p1.n != p2.n)
         (law1_exactly_j1 (law1_exactly k0) p1 p2 true)
         (ift (p1.scale != p2.scale)
            (law1_exactly_j1 (law1_exactly k0) p1 p2 true)
            (ift (!(p1.s.toList == p2.s.toList))
               (law1_exactly_j1 (law1_exactly k0) p1 p2 true)
               (law1_exactly_j1 (law1_exactly k0) p1 p2 ((p1.items.length : Int) != (p2.items.length : Int))))))

abbrev qa1882 (p1 : GValue) : List PV := [pi p1.kind, pi p1.n, pi p1.scale, .s (.string p1.s), .ro (eValue.els p1.items)]
abbrev qa1883 (p2 : GValue) : List PV := [pi p2.kind, pi p2.n, pi p2.scale, .s (.string p2.s), .ro (eValue.els p2.items)]
abbrev qa1884 (e2 : GValue) : List CV := [ci e2.kind, ci e2.n, ci e2.scale, cst e2.s, cl eValue e2.items]
abbrev qa1885 (e1 : GValue) : List CV := [ci e1.kind, ci e1.n, ci e1.scale, cst e1.s, cl eValue e1.items]
abbrev qa1890 (p1 : GValue) (p2 : GValue) (x2 : Int) (e1 : GValue) (e2 : GValue) : Fr := [(56, .ag (qa1884 e2)), (55, .one (.pv (.rp (eValue.els p2.items) x2.toNat 0))), (54, vi x2), (53, vl eValue p2.items), (52, .one (.pv (.rp [(qa1883 p2)] 0 4))), (51, .ag (qa1885 e1)), (50, .one (.pv (.rp (eValue.els p1.items) x2.toNat 0))), (49, vi x2), (48, vl eValue p1.items), (47, .one (.pv (.rp [(qa1882 p1)] 0 4))), (2, .one (.pv (.rp [(qa1882 p1)] 0 0))), (3, .one (.pv (.rp [(qa1883 p2)] 0 0))), (5, vi x2), (43, vi (p1.items.length : Int)), (44, vi x2)]
abbrev qa1893 (p1 : GValue) (p2 : GValue) : Fr := [(2, .one (.pv (.rp [(qa1882 p1)] 0 0))), (3, .one (.pv (.rp [(qa1883 p2)] 0 0))), (40, vb true)]
abbrev qa1894 (p1 : GValue) (p2 : GValue) : Fr := [(2, .one (.pv (.rp [(qa1882 p1)] 0 0))), (3, .one (.pv (.rp [(qa1883 p2)] 0 0))), (25, vb (p1.scale != p2.scale))]

theorem c_law1_exactly : ∀ (k0 : Nat) (p1 : GValue) (p2 : GValue) (r : Bool), law1_exactly k0 p1 p2 = some r → PC Tryd.prog 19 [.ag [ci p1.kind, ci p1.n, ci p1.scale, cst p1.s, cl eValue p1.items], .ag [ci p2.kind, ci p2.n, ci p2.scale, cst p2.s, cl eValue p2.items]] (vb r)
 | 0, _, _, r, h => by rw [law1_exactly.eq_1] at h; cases h
 | k0 + 1, p1, p2, r, h => by
  rw [law1_exactly.eq_2] at h
  refine zF 60 Tryd.f19 (zq fun K1 hK1 => zr (zg [] 3 [2,3] (zd (hK1 _ _ (zq fun K2 hK2 => zq fun K3 hK3 => ?_)))))
  have hJ1 : ∀ (x1 : Bool), law1_exactly_j1 (law1_exactly k0) p1 p2 x1 = some r → ∀ fr1 st1, Sub 60 0 [] fr1 st1 [(2, .one (.pv (.rp [(qa1882 p1)] 0 0))), (3, .one (.pv (.rp [(qa1883 p2)] 0 0))), (40, vb x1)] [] → K3 fr1 st1 := by
   intro x1 h fr1 st1 hS
   unfold law1_exactly_j1 at h
   refine hK3 _ _ (XW.sub hS ?_)
   refine zC h (fun b8 h => ?_) (fun b8 h => ?_)
   ·refine zq fun K9 hK9 => zr (zg [] 1 [4] (zd (hK9 _ _ (ze ?_))))
    obtain rfl := Option.some.inj h
    exact zf [vb false] (.one (.rfl _ rfl))
   ·refine zs (hK2 _ _ (zq fun K10 hK10 => ?_))
    have hJ2 : ∀ (_ : Unit), law1_exactly_j2 = some r → ∀ fr1 st1, Sub 60 0 [] fr1 st1 [] [] → K10 fr1 st1 := by
     intro _ h fr1 st1 hS
     unfold law1_exactly_j2 at h
     refine hK10 _ _ (XW.sub hS ?_)
     refine zq fun K23 hK23 => zr (zg [] 1 [4] (zd (hK23 _ _ (ze ?_))))
     obtain rfl := Option.some.inj h
     exact zf [vb true] (.one (.rfl _ rfl))
    refine zq fun K11 hK11 => zr (zv [] 3 [2,3,43] [[pi p1.kind, pi p1.n, pi p1.scale, .s (.string p1.s), .ro (eValue.els p1.items)]] [(2, .one (.pv (.rp [[pi p1.kind, pi p1.n, pi p1.scale, .s (.string p1.s), .ro (eValue.els p1.items)]] 0 0))), (3, .one (.pv (.rp [[pi p2.kind, pi p2.n, pi p2.scale, .s (.string p2.s), .ro (eValue.els p2.items)]] 0 0))), (43, vi ((eValue.els p1.items).length : Int))] [] ?_)
    rw [eValue.len p1.items]
    refine zg [] 1 [2,3,43,44] (zd (hK11 _ _ (zb 0 (XW.rounds' BIG (x := cd Tryd.f19 [1,1,0,1,0,0]) (by kernel_rfl) fun Q1 hQ1 => ?_))))
    have hL1 : ∀ (k1 : Nat) (x2 : Int), law1_exactly_l1 (law1_exactly k0) p1 p2 k1 x2 = some r → XR Tryd.prog 60 0 [] (cd Tryd.f19 [1,1,0,1,0,0]) Q1 k1 [(2, .one (.pv (.rp [(qa1882 p1)] 0 0))), (3, .one (.pv (.rp [(qa1883 p2)] 0 0))), (43, vi (p1.items.length : Int)), (44, vi x2)] [] := by
     intro k1
     induction k1 with
     | zero => intro x2 h; rw [law1_exactly_l1.eq_1] at h; cases h
     | succ k1 ih1 =>
      intro x2 h
      rw [law1_exactly_l1.eq_2] at h
      refine zq fun K12 hK12 => zr (zg [] 1 [2,3,43,44,45] (zd (hK12 _ _ (zq fun K13 hK13 => zC h (fun b14 h => ?_) (fun b14 h => ?_)))))
      ·refine zs (hK13 _ _ (zq fun K15 hK15 => zb 1 (zq fun K16 hK16 => zr (zg [] 2 [2,3,5,43,44] (zd ?_)))))
       refine hK16 _ _ (zq fun K17 hK17 => ?_)
       obtain ⟨e1, a18, h⟩ := zB h
       obtain ⟨e2, a19, h⟩ := zB h
       obtain ⟨r1, c20, h⟩ := zB h
       refine zw 10 (qa1890 p1 p2 x2 e1 e2) ?_ ?_
       ·refine zyp 10 [(qa1882 p1), [pi e1.kind, pi e1.n, pi e1.scale, .s (.string e1.s), .ro (eValue.els e1.items)], (qa1883 p2), [pi e2.kind, pi e2.n, pi e2.scale, .s (.string e2.s), .ro (eValue.els e2.items)]] (qa1890 p1 p2 x2 e1 e2) [([(qa1882 p1)] : List (List PV))[0]? = some (qa1882 p1), 0 ≤ x2 ∧ x2 < ((eValue.els p1.items).length : Int) ∧ elemsOk 5 (eValue.els p1.items), (eValue.els p1.items)[x2.toNat]? = some [pi e1.kind, pi e1.n, pi e1.scale, .s (.string e1.s), .ro (eValue.els e1.items)], ([(qa1883 p2)] : List (List PV))[0]? = some (qa1883 p2), 0 ≤ x2 ∧ x2 < ((eValue.els p2.items).length : Int) ∧ elemsOk 5 (eValue.els p2.items), (eValue.els p2.items)[x2.toNat]? = some [pi e2.kind, pi e2.n, pi e2.scale, .s (.string e2.s), .ro (eValue.els e2.items)]] (⟨rfl, eValue.inb a18, ((eValue.get a18).trans (by cases e1; rfl)), rfl, eValue.inb a19, ((eValue.get a19).trans (by cases e2; rfl)), trivial⟩) ?_
        exact zyd
       refine zl 19 [.ag (qa1885 e1), .ag (qa1884 e2)] (vb r1) [(57, vb r1), (56, .ag (qa1884 e2)), (55, .one (.pv (.rp (eValue.els p2.items) x2.toNat 0))), (54, vi x2), (53, vl eValue p2.items), (52, .one (.pv (.rp [(qa1883 p2)] 0 4))), (51, .ag (qa1885 e1)), (50, .one (.pv (.rp (eValue.els p1.items) x2.toNat 0))), (49, vi x2), (48, vl eValue p1.items), (47, .one (.pv (.rp [(qa1882 p1)] 0 4))), (2, .one (.pv (.rp [(qa1882 p1)] 0 0))), (3, .one (.pv (.rp [(qa1883 p2)] 0 0))), (5, vi x2), (43, vi (p1.items.length : Int)), (44, vi x2)] (c_law1_exactly k0 _ _ _ c20) ?_
       refine zg [] 1 [2,3,43,44,58] (zd (hK17 _ _ (zC h (fun b21 h => ?_) (fun b21 h => ?_))))
       ·refine zq fun K22 hK22 => zr (zg [] 1 [4] (zd (hK22 _ _ (ze (hQ1 _ _ _ ?_)))))
        obtain rfl := Option.some.inj h
        exact zf [vb false] (.one (.rfl _ rfl))
       ·exact zs (hK15 _ _ (zr (zv [] 2 [2,3,43,44] [] [(2, .one (.pv (.rp [(qa1882 p1)] 0 0))), (3, .one (.pv (.rp [(qa1883 p2)] 0 0))), (43, vi (p1.items.length : Int)), (44, vi (IntKind.i64.wrap (x2 + (1 : Int))))] [] (zd (XR.sub (zk [2,3,43,44]) (ih1 (IntKind.i64.wrap (x2 + (1 : Int))) h))))))
      ·exact zx 0 (hQ1 _ _ _ (hJ2 () h _ _ (zk [])))
    exact XR.sub (zk [2,3,43,44]) (hL1 BIG (0 : Int) h)
  rcases zW h with ⟨b4, h⟩ | ⟨b4, h⟩
  ·exact zr (zu [] 6 [2,3,11] [(qa1882 p1), (qa1883 p2)] (zt 11 b4 (zv [] 29 [2,3,40] [] (qa1893 p1 p2) [] (zd (hJ1 true h _ _ (zk [2,3,40]))))))
  ·rcases zW h with ⟨b5, h⟩ | ⟨b5, h⟩
   ·refine zr (zu [] 6 [2,3,11] [(qa1882 p1), (qa1883 p2)] (zt 11 b4 (zu [] 7 [2,3,18] [(qa1882 p1), (qa1883 p2)] (zt 18 b5 ?_))))
    exact zv [] 22 [2,3,40] [] (qa1893 p1 p2) [] (zd (hJ1 true h _ _ (zk [2,3,40])))
   ·rcases zW h with ⟨b6, h⟩ | ⟨b6, h⟩
    ·refine zr (zu [] 6 [2,3,11] [(qa1882 p1), (qa1883 p2)] (zt 11 b4 (zu [] 7 [2,3,18] [(qa1882 p1), (qa1883 p2)] (zt 18 b5 ?_))))
     exact zv [] 7 [2,3,25] [(qa1882 p1), (qa1883 p2)] (qa1894 p1 p2) [] (zt 25 b6 (zg [] 15 [2,3,40] (zd (hJ1 true h _ _ (zk [2,3,40])))))
    ·rcases zW h with ⟨b7, h⟩ | ⟨b7, h⟩
     ·refine zr (zu [] 6 [2,3,11] [(qa1882 p1), (qa1883 p2)] (zt 11 b4 ?_))
      refine zv [] 7 [2,3,18] [(qa1882 p1), (qa1883 p2)] [(2, .one (.pv (.rp [(qa1882 p1)] 0 0))), (3, .one (.pv (.rp [(qa1883 p2)] 0 0))), (18, vb (p1.n != p2.n))] [] (zt 18 b5 ?_)
      refine zu [] 7 [2,3,25] [(qa1882 p1), (qa1883 p2)] (zt 25 b6 (zu [] 7 [2,3,32] [(qa1882 p1), (qa1883 p2)] (zt 32 b7 ?_)))
      exact zv [] 8 [2,3,40] [] (qa1893 p1 p2) [] (zd (hJ1 true h _ _ (zk [2,3,40])))
     ·refine zr (zu [] 6 [2,3,11] [(qa1882 p1), (qa1883 p2)] (zt 11 b4 (zu [] 7 [2,3,18] [(qa1882 p1), (qa1883 p2)] (zt 18 b5 ?_))))
      refine zv [] 7 [2,3,25] [(qa1882 p1), (qa1883 p2)] (qa1894 p1 p2) [] (zt 25 b6 ?_)
      refine zu [] 7 [2,3,32] [[pi p1.kind, pi p1.n, pi p1.scale, .s (.string p1.s), .ro (eValue.els p1.items)], [pi p2.kind, pi p2.n, pi p2.scale, .s (.string p2.s), .ro (eValue.els p2.items)]] (zt 32 b7 (zv [] 3 [2,3,32,35] [[pi p1.kind, pi p1.n, pi p1.scale, .s (.string p1.s), .ro (eValue.els p1.items)]] [(2, .one (.pv (.rp [[pi p1.kind, pi p1.n, pi p1.scale, .s (.string p1.s), .ro (eValue.els p1.items)]] 0 0))), (3, .one (.pv (.rp [[pi p2.kind, pi p2.n, pi p2.scale, .s (.string p2.s), .ro (eValue.els p2.items)]] 0 0))), (32, vb false), (35, vi ((eValue.els p1.items).length : Int))] [] ?_))
      rw [eValue.len p1.items]
      refine zv [] 3 [2,3,32,35,38] [[pi p2.kind, pi p2.n, pi p2.scale, .s (.string p2.s), .ro (eValue.els p2.items)]] [(2, .one (.pv (.rp [[pi p1.kind, pi p1.n, pi p1.scale, .s (.string p1.s), .ro (eValue.els p1.items)]] 0 0))), (3, .one (.pv (.rp [[pi p2.kind, pi p2.n, pi p2.scale, .s (.string p2.s), .ro (eValue.els p2.items)]] 0 0))), (32, vb false), (35, vi (p1.items.length : Int)), (38, vi ((eValue.els p2.items).length : Int))] [] ?_
      rw [eValue.len p2.items]
      exact zg [] 2 [2,3,40] (zd (hJ1 ((p1.items.length : Int) != (p2.items.length : Int)) h _ _ (zk [2,3,40])))

def ref1_isNumber_j1 (x1 : Bool) : Option Bool :=
    some x1

def ref1_isNumber (p1 : Int) : Option Bool :=
    ift (p1 == (2 : Int))
      (ref1_isNumber_j1 true)
      (ref1_isNumber_j1 (p1 == (3 : Int)))


def ref1_within_j1 (x1 : Bool) : Option Bool :=
    some x1

def ref1_within (p1 : Int) (p2 : Int) (p3 : Int) : Option Bool :=
    ift (decide (p2 ≤ p1))
      (ref1_within_j1 (decide (p1 ≤ p3)))
      (ref1_within_j1 false)


def value_logic_1_j1 (x1 : Bool) : Option Bool :=
    some x1

def value_logic_1 (p1 : GValue) : Option Bool :=
    ift (p1.kind == (1 : Int))
      (bnd (value_Sound p1) fun r1 =>
       value_logic_1_j1 r1)
      (value_logic_1_j1 false)

abbrev qa2164 (p1 : GValue) : List PV := [pi p1.kind, pi p1.n, pi p1.scale, .s (.string p1.s), .ro (eValue.els p1.items)]

theorem c_value_logic_1 (p1 : GValue) (r : Bool) (h : value_logic_1 p1 = some r) : PC Tryd.prog 103 [.ag [ci p1.kind, ci p1.n, ci p1.scale, cst p1.s, cl eValue p1.items]] (vb r) := by
 unfold value_logic_1 at h
 refine zF 10 Tryd.f103 (zq fun K1 hK1 => zr (zg [] 2 [1] (zd (hK1 _ _ (zq fun K2 hK2 => ?_)))))
 have hJ1 : ∀ (x1 : Bool), value_logic_1_j1 x1 = some r → ∀ fr1 st1, Sub 10 0 [] fr1 st1 [(2, vb x1)] [] → K2 fr1 st1 := by
  intro x1 h fr1 st1 hS
  unfold value_logic_1_j1 at h
  refine hK2 _ _ (XW.sub hS ?_)
  refine ze ?_
  obtain rfl := Option.some.inj h
  exact zf [vb x1] (.one (.rfl _ rfl))
 rcases zW h with ⟨b3, h⟩ | ⟨b3, h⟩
 ·obtain ⟨r1, c4, h⟩ := zB h
  exact zr (zu [] 4 [1,6] [(qa2164 p1)] (zt 6 b3 (zv [] 1 [6,7] [(qa2164 p1)] [(6, vb true), (7, .ag [ci p1.kind, ci p1.n, ci p1.scale, cst p1.s, cl eValue p1.items])] [] (za (c_value_Sound _ _ c4) (zg [] 2 [2] (zd (hJ1 r1 h _ _ (zk [2]))))))))
 ·exact zr (zv [] 4 [1,6] [(qa2164 p1)] [(1, .one (.pv (.rp [(qa2164 p1)] 0 0))), (6, vb (p1.kind == (1 : Int)))] [] (zt 6 b3 (zg [] 4 [2] (zd (hJ1 false h _ _ (zk [2]))))))

def value_logic_2_of_value_logic_1_j1 (x1 : Bool) : Option (Bool × Unit) :=
    some (x1, ())

def value_logic_2_of_value_logic_1 (p1 : GValue) (p2 : Int) : Option (Bool × Unit) :=
    bnd (value_logic_1 p1) fun r1 =>
    ift r1
      (value_logic_2_of_value_logic_1_j1 (p1.n == p2))
      (value_logic_2_of_value_logic_1_j1 false)

abbrev qa2167 (p1 : GValue) : List CV := [ci p1.kind, ci p1.n, ci p1.scale, cst p1.s, cl eValue p1.items]
abbrev qa2170 (p1 : GValue) : List PV := [pi p1.kind, pi p1.n, pi p1.scale, .s (.string p1.s), .ro (eValue.els p1.items)]
abbrev qa2172 : St := [.box [.pv (.fn 103 [])]]

theorem c_value_logic_2_of_value_logic_1 (p1 : GValue) (p2 : Int) (r : (Bool × Unit)) (h : value_logic_2_of_value_logic_1 p1 p2 = some r) : MC Tryd.prog 104 [.ag (qa2167 p1), .one (.pt 0 0 0 0), .one (.pv (.rp [[pi p2]] 0 0))] qa2172 (vb r.1) qa2172 := by
 unfold value_logic_2_of_value_logic_1 at h
 refine MC.of 1 (n := 14) (fn := Tryd.f104) (c := cd Tryd.f104 []) (by kernel_rfl) (by kernel_rfl) (by kernel_rfl) (Nat.le_of_ble_eq_true rfl) rfl (zq fun K1 hK1 => zr (zv [] 2 [1,2,3] [] [(1, .one (.pt 0 0 0 0)), (2, .one (.pv (.rp [[pi p2]] 0 0))), (3, .one (.pv (.rp [(qa2170 p1)] 0 0)))] qa2172 (zd (hK1 _ _ (zq fun K2 hK2 => ?_)))))
 have hJ1 : ∀ (x1 : Bool), value_logic_2_of_value_logic_1_j1 x1 = some r → ∀ fr1 st1, Sub 14 1 [] fr1 st1 [(4, vb x1)] qa2172 → K2 fr1 st1 := by
  intro x1 h fr1 st1 hS
  unfold value_logic_2_of_value_logic_1_j1 at h
  refine hK2 _ _ (XW.sub hS ?_)
  refine ze ?_
  obtain rfl := Option.some.inj h
  exact FinM.fin (.inr rfl) [] [vb x1] [] (by kernel_rfl) trivial (by kernel_rfl) (by kernel_rfl) (.one (.rfl _ rfl))
 obtain ⟨r1, c3, h⟩ := zB h
 rcases zW h with ⟨b4, h⟩ | ⟨b4, h⟩
 ·exact zr (zu [] 2 [2,3,5,6] [(qa2170 p1)] (za (c_value_logic_1 _ _ c3) (zv [] 1 [2,3,8] [] [(2, .one (.pv (.rp [[pi p2]] 0 0))), (3, .one (.pv (.rp [(qa2170 p1)] 0 0))), (8, vb r1)] qa2172 (zt 8 b4 (zu [] 6 [4] [(qa2170 p1), [pi p2]] (zd (hJ1 (p1.n == p2) h _ _ (zk [4]))))))))
 ·exact zr (zu [] 2 [2,3,5,6] [(qa2170 p1)] (zl 103 [.ag (qa2167 p1)] (vb r1) [(7, vb r1), (2, .one (.pv (.rp [[pi p2]] 0 0))), (3, .one (.pv (.rp [(qa2170 p1)] 0 0))), (5, .one (.pv (.fn 103 []))), (6, .ag (qa2167 p1))] (c_value_logic_1 _ _ c3) (zg [] 1 [2,3,8] (zt 8 b4 (zg [] 6 [4] (zd (hJ1 false h _ _ (zk [4]))))))))

def value_truth_j1 (z1 : Int) : Option GValue :=
    some (GValue.mk (1 : Int) z1 (0 : Int) ByteArray.empty [])

def value_truth (p1 : Bool) : Option GValue :=
    ift p1
      (value_truth_j1 (1 : Int))
      (value_truth_j1 (0 : Int))

abbrev qa2178 : List CV := [ci (0 : Int), ci (0 : Int), ci (0 : Int), cst ByteArray.empty, .pv (.s (.slice none 0 0))]
abbrev qa2179 (z1 : Int) : List CV := [ci (1 : Int), ci z1, ci (0 : Int), cst ByteArray.empty, .pv (.s (.slice none 0 0))]

theorem c_value_truth (p1 : Bool) (r : GValue) (h : value_truth p1 = some r) : PC Tryd.prog 76 [vb p1] (.ag [ci r.kind, ci r.n, ci r.scale, cst r.s, cl eValue r.items]) := by
 unfold value_truth at h
 refine zF 8 Tryd.f76 (zq fun K1 hK1 => zr (zg [2, 3] 1 [0,2] (zd (hK1 _ _ (zq fun K2 hK2 => zr ?_)))))
 refine zg [2, 3] 3 [0,2,3] (zd (hK2 _ _ (zq fun K3 hK3 => ?_)))
 have hJ1 : ∀ (z1 : Int), value_truth_j1 z1 = some r → ∀ fr1 st1, Sub 8 0 [] fr1 st1 [(2, .one (.pt 0 0 0 0)), (3, .one (.pt 1 0 0 0))] [.box qa2178, .box (qa2179 z1)] → K3 fr1 st1 := by
  intro z1 h fr1 st1 hS
  unfold value_truth_j1 at h
  refine hK3 _ _ (XW.sub hS ?_)
  refine zq fun K6 hK6 => zr (zg [2, 3] 2 [2] (zd (hK6 _ _ (ze ?_))))
  obtain rfl := Option.some.inj h
  exact zf [.ag (qa2179 z1)] (.ag (.cons (.rfl _ rfl) (.cons (.rfl _ rfl) (.cons (.rfl _ rfl) (.cons (.rfl _ rfl) (.cons (.nl) .nil))))))
 refine zq fun K4 hK4 => zr (zv [2, 3] 1 [2,3,5] [] [(2, .one (.pt 0 0 0 0)), (3, .one (.pt 1 0 0 0)), (5, vb p1)] [.box qa2178, .box [ci (1 : Int), ci (0 : Int), ci (0 : Int), cst ByteArray.empty, .pv (.s (.slice none 0 0))]] (zd (hK4 _ _ (zC h (fun b5 h => ?_) (fun b5 h => ?_)))))
 ·exact zr (zg [2, 3] 2 [2,3] (zd (hJ1 (1 : Int) h _ _ (zk [2,3]))))
 ·exact zs (hJ1 (0 : Int) h _ _ (zk [2,3]))

def value_logic_j2 (p3 : Int) (x2 : Bool) : Option GValue :=
    ift x2
      (some (GValue.mk (0 : Int) (0 : Int) (0 : Int) ByteArray.empty []))
      (bnd (value_truth (p3 == (0 : Int))) fun r6 =>
       some r6)

def value_logic_j1 (p1 : GValue) (p2 : GValue) (p3 : Int) (x1 : Bool) : Option GValue :=
    ift x1
      (bnd (value_truth (p3 == (1 : Int))) fun r3 =>
       some r3)
      (bnd (value_logic_1 p1) fun r4 =>
       ift (!r4)
         (value_logic_j2 p3 true)
         (bnd (value_logic_1 p2) fun r5 =>
          value_logic_j2 p3 (!r5)))

def value_logic (p1 : GValue) (p2 : GValue) (p3 : Int) : Option GValue :=
    bnd (value_logic_2_of_value_logic_1 p1 p3) fun r1 =>
    ift r1.1
      (value_logic_j1 p1 p2 p3 true)
      (bnd (value_logic_2_of_value_logic_1 p2 p3) fun r2 =>
       value_logic_j1 p1 p2 p3 r2.1)

abbrev qa2184 (p1 : GValue) : List CV := [ci p1.kind, ci p1.n, ci p1.scale, cst p1.s, cl eValue p1.items]
abbrev qa2185 (p2 : GValue) : List CV := [ci p2.kind, ci p2.n, ci p2.scale, cst p2.s, cl eValue p2.items]
abbrev qa2187 (p1 : GValue) : List PV := [pi p1.kind, pi p1.n, pi p1.scale, .s (.string p1.s), .ro (eValue.els p1.items)]
abbrev qa2188 (p2 : GValue) : List PV := [pi p2.kind, pi p2.n, pi p2.scale, .s (.string p2.s), .ro (eValue.els p2.items)]
abbrev qa2190 : List CV := [ci (0 : Int), ci (0 : Int), ci (0 : Int), cst ByteArray.empty, .pv (.s (.slice none 0 0))]
abbrev qa2191 : List CV := [.pv (.fn 103 [])]
abbrev qa2194 (r6 : GValue) : List CV := [ci r6.kind, ci r6.n, ci r6.scale, cst r6.s, cl eValue r6.items]
abbrev qa2196 : St := [.box qa2190, .box qa2191]
abbrev qa2204 (p1 : GValue) (p2 : GValue) (p3 : Int) : Fr := [(3, .one (.pv (.rp [(qa2187 p1)] 0 0))), (4, .one (.pv (.rp [(qa2188 p2)] 0 0))), (5, .one (.pv (.rp [[pi p3]] 0 0))), (6, .one (.pt 0 0 0 0)), (7, .one (.pt 1 0 0 0)), (8, .one (.fn 104 [.pt 1 0 0 0, .pv (.rp [[pi p3]] 0 0)])), (11, .one (.fn 104 [.pt 1 0 0 0, .pv (.rp [[pi p3]] 0 0)])), (12, .ag (qa2184 p1))]
abbrev qa2206 (p1 : GValue) (p2 : GValue) (p3 : Int) (r1 : (Bool × Unit)) : Fr := [(13, vb r1.1), (3, .one (.pv (.rp [(qa2187 p1)] 0 0))), (4, .one (.pv (.rp [(qa2188 p2)] 0 0))), (5, .one (.pv (.rp [[pi p3]] 0 0))), (6, .one (.pt 0 0 0 0)), (7, .one (.pt 1 0 0 0)), (8, .one (.fn 104 [.pt 1 0 0 0, .pv (.rp [[pi p3]] 0 0)])), (11, .one (.fn 104 [.pt 1 0 0 0, .pv (.rp [[pi p3]] 0 0)])), (12, .ag (qa2184 p1))]

theorem c_value_logic (p1 : GValue) (p2 : GValue) (p3 : Int) (r : GValue) (h : value_logic p1 p2 p3 = some r) : PC Tryd.prog 58 [.ag (qa2184 p1), .ag (qa2185 p2), vi p3] (.ag [ci r.kind, ci r.n, ci r.scale, cst r.s, cl eValue r.items]) := by
 unfold value_logic at h
 refine zF 37 Tryd.f58 (zq fun K1 hK1 => zr (zg [6, 7] 4 [3,4,5,6] (zd (hK1 _ _ (zq fun K2 hK2 => zr ?_)))))
 refine zg [6, 7] 2 [3,4,5,6,7] (zd (hK2 _ _ (zq fun K3 hK3 => zr (zv [6, 7] 2 [3,4,5,6,7,8] [] [(3, .one (.pv (.rp [(qa2187 p1)] 0 0))), (4, .one (.pv (.rp [(qa2188 p2)] 0 0))), (5, .one (.pv (.rp [[pi p3]] 0 0))), (6, .one (.pt 0 0 0 0)), (7, .one (.pt 1 0 0 0)), (8, .one (.fn 104 [.pt 1 0 0 0, .pv (.rp [[pi p3]] 0 0)]))] qa2196 (zd ?_)))))
 refine hK3 _ _ (zq fun K4 hK4 => zb 0 (zq fun K5 hK5 => ?_))
 have hJ1 : ∀ (x1 : Bool), value_logic_j1 p1 p2 p3 x1 = some r → ∀ fr1 st1, Sub 37 0 [] fr1 st1 [(3, .one (.pv (.rp [(qa2187 p1)] 0 0))), (4, .one (.pv (.rp [(qa2188 p2)] 0 0))), (5, .one (.pv (.rp [[pi p3]] 0 0))), (6, .one (.pt 0 0 0 0)), (7, .one (.pt 1 0 0 0)), (10, vb x1)] qa2196 → K5 fr1 st1 := by
  intro x1 h fr1 st1 hS
  unfold value_logic_j1 at h
  refine hK5 _ _ (XW.sub hS ?_)
  refine zC h (fun b9 h => ?_) (fun b9 h => ?_)
  ·refine zq fun K10 hK10 => ?_
   obtain ⟨r3, c11, h⟩ := zB h
   refine zr (zu [6, 7] 2 [6,20] [[pi p3]] (za (c_value_truth _ _ c11) (zv [6, 7] 1 [6] [] [(6, .one (.pt 0 0 0 0))] [.box [ci r3.kind, ci r3.n, ci r3.scale, cst r3.s, cl eValue r3.items], .box qa2191] (zd (hK10 _ _ (ze ?_))))))
   obtain rfl := Option.some.inj h
   exact zf [.ag [ci r3.kind, ci r3.n, ci r3.scale, cst r3.s, cl eValue r3.items]] (.ag (.cons (.rfl _ rfl) (.cons (.rfl _ rfl) (.cons (.rfl _ rfl) (.cons (.rfl _ rfl) (.cons (.rfl _ rfl) .nil))))))
  ·refine zq fun K12 hK12 => ?_
   have hJ2 : ∀ (x2 : Bool), value_logic_j2 p3 x2 = some r → ∀ fr1 st1, Sub 37 0 [] fr1 st1 [(5, .one (.pv (.rp [[pi p3]] 0 0))), (6, .one (.pt 0 0 0 0)), (22, vb x2)] qa2196 → K12 fr1 st1 := by
    intro x2 h fr1 st1 hS
    unfold value_logic_j2 at h
    refine hK12 _ _ (XW.sub hS ?_)
    refine zC h (fun b16 h => ?_) (fun b16 h => ?_)
    ·refine zq fun K17 hK17 => zr (zg [6, 7] 2 [6] (zd (hK17 _ _ (ze ?_))))
     obtain rfl := Option.some.inj h
     exact zf [.ag qa2190] (.ag (.cons (.rfl _ rfl) (.cons (.rfl _ rfl) (.cons (.rfl _ rfl) (.cons (.rfl _ rfl) (.cons (.nl) .nil))))))
    ·refine zs (hK4 _ _ (zq fun K18 hK18 => ?_))
     obtain ⟨r6, c19, h⟩ := zB h
     refine zr (zu [6, 7] 2 [6,35] [[pi p3]] (zl 76 [vb (p3 == (0 : Int))] (.ag (qa2194 r6)) [(36, .ag (qa2194 r6)), (6, .one (.pt 0 0 0 0)), (35, vb (p3 == (0 : Int)))] (c_value_truth _ _ c19) (zg [6, 7] 1 [6] (zd (hK18 _ _ (ze ?_))))))
     obtain rfl := Option.some.inj h
     exact zf [.ag (qa2194 r6)] (.ag (.cons (.rfl _ rfl) (.cons (.rfl _ rfl) (.cons (.rfl _ rfl) (.cons (.rfl _ rfl) (.cons (.rfl _ rfl) .nil))))))
   obtain ⟨r4, c13, h⟩ := zB h
   rcases zW h with ⟨b14, h⟩ | ⟨b14, h⟩
   ·exact zr (zu [6, 7] 2 [4,5,6,7,23,24] [(qa2187 p1)] (za (c_value_logic_1 _ _ c13) (zv [6, 7] 2 [4,5,6,7,27] [] [(4, .one (.pv (.rp [(qa2188 p2)] 0 0))), (5, .one (.pv (.rp [[pi p3]] 0 0))), (6, .one (.pt 0 0 0 0)), (7, .one (.pt 1 0 0 0)), (27, vb (!r4))] qa2196 (zt 27 b14 (zg [6, 7] 6 [5,6,22] (zd (hJ2 true h _ _ (zk [5,6,22]))))))))
   ·obtain ⟨r5, c15, h⟩ := zB h
    refine zr (zu [6, 7] 2 [4,5,6,7,23,24] [(qa2187 p1)] (zl 103 [.ag (qa2184 p1)] (vb r4) [(25, vb r4), (4, .one (.pv (.rp [(qa2188 p2)] 0 0))), (5, .one (.pv (.rp [[pi p3]] 0 0))), (6, .one (.pt 0 0 0 0)), (7, .one (.pt 1 0 0 0)), (23, .one (.pv (.fn 103 []))), (24, .ag (qa2184 p1))] (c_value_logic_1 _ _ c13) (zg [6, 7] 2 [4,5,6,7,27] (zt 27 b14 ?_))))
    exact zu [6, 7] 2 [5,6,27,28,29] [(qa2188 p2)] (zl 103 [.ag (qa2185 p2)] (vb r5) [(30, vb r5), (5, .one (.pv (.rp [[pi p3]] 0 0))), (6, .one (.pt 0 0 0 0)), (27, vb false), (28, .one (.pv (.fn 103 []))), (29, .ag (qa2185 p2))] (c_value_logic_1 _ _ c15) (zg [6, 7] 3 [5,6,22] (zd (hJ2 (!r5) h _ _ (zk [5,6,22])))))
 obtain ⟨r1, c6, h⟩ := zB h
 rcases zW h with ⟨b7, h⟩ | ⟨b7, h⟩
 ·refine zr ?_
  refine zv [6, 7] 2 [3,4,5,6,7,8,11,12] [(qa2187 p1)] (qa2204 p1 p2 p3) qa2196 ?_
  refine XO.calm 104 [.ag (qa2184 p1), .one (.pt 0 0 0 0), .one (.pv (.rp [[pi p3]] 0 0))] [.box qa2191] [.box qa2191] (vb r1.1) [1] (qa2206 p1 p2 p3 r1) qa2196 (by kernel_rfl) (c_value_logic_2_of_value_logic_1 _ _ _ c6) (by kernel_rfl) (by kernel_rfl) (by kernel_rfl) (by kernel_rfl) ?_
  exact zg [6, 7] 1 [3,4,5,6,7,8,14] (zt 14 b7 (zg [6, 7] 5 [3,4,5,6,7,10] (zd (hJ1 true h _ _ (zk [3,4,5,6,7,10])))))
 ·obtain ⟨r2, c8, h⟩ := zB h
  refine zr ?_
  refine zv [6, 7] 2 [3,4,5,6,7,8,11,12] [(qa2187 p1)] (qa2204 p1 p2 p3) qa2196 ?_
  refine XO.calm 104 [.ag (qa2184 p1), .one (.pt 0 0 0 0), .one (.pv (.rp [[pi p3]] 0 0))] [.box qa2191] [.box qa2191] (vb r1.1) [1] (qa2206 p1 p2 p3 r1) qa2196 (by kernel_rfl) (c_value_logic_2_of_value_logic_1 _ _ _ c6) (by kernel_rfl) (by kernel_rfl) (by kernel_rfl) (by kernel_rfl) ?_
  refine zg [6, 7] 1 [3,4,5,6,7,8,14] (zt 14 b7 ?_)
  refine zv [6, 7] 2 [3,4,5,6,7,14,15,16] [(qa2188 p2)] [(3, .one (.pv (.rp [(qa2187 p1)] 0 0))), (4, .one (.pv (.rp [(qa2188 p2)] 0 0))), (5, .one (.pv (.rp [[pi p3]] 0 0))), (6, .one (.pt 0 0 0 0)), (7, .one (.pt 1 0 0 0)), (14, vb false), (15, .one (.fn 104 [.pt 1 0 0 0, .pv (.rp [[pi p3]] 0 0)])), (16, .ag (qa2185 p2))] qa2196 ?_
  refine XO.calm 104 [.ag (qa2185 p2), .one (.pt 0 0 0 0), .one (.pv (.rp [[pi p3]] 0 0))] [.box qa2191] [.box qa2191] (vb r2.1) [1] [(17, vb r2.1), (3, .one (.pv (.rp [(qa2187 p1)] 0 0))), (4, .one (.pv (.rp [(qa2188 p2)] 0 0))), (5, .one (.pv (.rp [[pi p3]] 0 0))), (6, .one (.pt 0 0 0 0)), (7, .one (.pt 1 0 0 0)), (14, vb false), (15, .one (.fn 104 [.pt 1 0 0 0, .pv (.rp [[pi p3]] 0 0)])), (16, .ag (qa2185 p2))] qa2196 (by kernel_rfl) (c_value_logic_2_of_value_logic_1 _ _ _ c8) (by kernel_rfl) (by kernel_rfl) (by kernel_rfl) (by kernel_rfl) ?_
  exact zg [6, 7] 2 [3,4,5,6,7,10] (zd (hJ1 r2.1 h _ _ (zk [3,4,5,6,7,10])))

def value_kindOf (p1 : GValue) : Option GType :=
    some (GType.mk p1.kind p1.scale [])


theorem c_value_kindOf (p1 : GValue) (r : GType) (h : value_kindOf p1 = some r) : PC Tryd.prog 60 [.ag [ci p1.kind, ci p1.n, ci p1.scale, cst p1.s, cl eValue p1.items]] (.ag [ci r.kind, ci r.scale, cl eField r.fields]) := by
 unfold value_kindOf at h
 refine zF 8 Tryd.f60 (zq fun K1 hK1 => zr (zg [2] 2 [1,2] (zd (hK1 _ _ (zq fun K2 hK2 => zr ?_)))))
 refine zu [2] 6 [2] [[pi p1.kind, pi p1.n, pi p1.scale, .s (.string p1.s), .ro (eValue.els p1.items)], [pi p1.kind, pi p1.n, pi p1.scale, .s (.string p1.s), .ro (eValue.els p1.items)]] (zd (hK2 _ _ (ze ?_)))
 obtain rfl := Option.some.inj h
 exact zf [.ag [ci p1.kind, ci p1.scale, .pv (.s (.slice none 0 0))]] (.ag (.cons (.rfl _ rfl) (.cons (.rfl _ rfl) (.cons (.nl) .nil))))

def value_result_1_s_j1 (x1 : Bool) : Option Bool :=
    some x1

def value_result_1_s (p1 : Int) (p2 : Int) (p3 : Int) (p4 : Int) (p5 : (List GField)) (p6 : Int) (p7 : Int) (p8 : (List GField)) : Option Bool :=
    ift (p3 == p1)
      (value_result_1_s_j1 (p6 == p2))
      (value_result_1_s_j1 false)


theorem c_value_result_1_s (p1 : Int) (p2 : Int) (p3 : Int) (p4 : Int) (p5 : (List GField)) (p6 : Int) (p7 : Int) (p8 : (List GField)) (r : Bool) (h : value_result_1_s p1 p2 p3 p4 p5 p6 p7 p8 = some r) : PC Tryd.prog 105 [vi p1, vi p2, .one (.pv (.rp [[pi p3, pi p4, .ro (eField.els p5)]] 0 0)), .one (.pv (.rp [[pi p6, pi p7, .ro (eField.els p8)]] 0 0))] (vb r) := by
 unfold value_result_1_s at h
 refine zF 17 Tryd.f105 (zq fun K1 hK1 => zr (zg [] 1 [0,1,2,3] (zd (hK1 _ _ (zq fun K2 hK2 => ?_)))))
 have hJ1 : ∀ (x1 : Bool), value_result_1_s_j1 x1 = some r → ∀ fr1 st1, Sub 17 0 [] fr1 st1 [(6, vb x1)] [] → K2 fr1 st1 := by
  intro x1 h fr1 st1 hS
  unfold value_result_1_s_j1 at h
  refine hK2 _ _ (XW.sub hS ?_)
  refine ze ?_
  obtain rfl := Option.some.inj h
  exact zf [vb x1] (.one (.rfl _ rfl))
 rcases zW h with ⟨b3, h⟩ | ⟨b3, h⟩
 ·exact zr (zu [] 5 [1,3,11] [[pi p3, pi p4, .ro (eField.els p5)]] (zt 11 b3 (zv [] 6 [6] [[pi p6, pi p7, .ro (eField.els p8)]] [(6, vb (p6 == p2))] [] (zd (hJ1 (p6 == p2) h _ _ (zk [6]))))))
 ·exact zr (zu [] 5 [1,3,11] [[pi p3, pi p4, .ro (eField.els p5)]] (zt 11 b3 (zg [] 6 [6] (zd (hJ1 false h _ _ (zk [6]))))))

def value_number_j1 (x1 : Bool) : Option Bool :=
    some x1

def value_number (p1 : GType) : Option Bool :=
    ift (p1.kind == (2 : Int))
      (value_number_j1 true)
      (value_number_j1 (p1.kind == (3 : Int)))

abbrev qa2219 (p1 : GType) : List PV := [pi p1.kind, pi p1.scale, .ro (eField.els p1.fields)]

theorem c_value_number (p1 : GType) (r : Bool) (h : value_number p1 = some r) : PC Tryd.prog 106 [.ag [ci p1.kind, ci p1.scale, cl eField p1.fields]] (vb r) := by
 unfold value_number at h
 refine zF 11 Tryd.f106 (zq fun K1 hK1 => zr (zg [] 2 [1] (zd (hK1 _ _ (zq fun K2 hK2 => ?_)))))
 have hJ1 : ∀ (x1 : Bool), value_number_j1 x1 = some r → ∀ fr1 st1, Sub 11 0 [] fr1 st1 [(2, vb x1)] [] → K2 fr1 st1 := by
  intro x1 h fr1 st1 hS
  unfold value_number_j1 at h
  refine hK2 _ _ (XW.sub hS ?_)
  refine ze ?_
  obtain rfl := Option.some.inj h
  exact zf [vb x1] (.one (.rfl _ rfl))
 rcases zW h with ⟨b3, h⟩ | ⟨b3, h⟩
 ·exact zr (zu [] 4 [1,6] [(qa2219 p1)] (zt 6 b3 (zv [] 5 [2] [] [(2, vb true)] [] (zd (hJ1 true h _ _ (zk [2]))))))
 ·exact zr (zu [] 4 [1,6] [(qa2219 p1)] (zt 6 b3 (zu [] 5 [2] [(qa2219 p1)] (zd (hJ1 (p1.kind == (3 : Int)) h _ _ (zk [2]))))))

def value_result_j5 (x5 : Int) : Option (GType × Bool) :=
    some ((GType.mk (3 : Int) x5 []), true)

def value_result_j4 (p1 : Int) (p2 : GType) (p3 : GType) (x4 : Bool) : Option (GType × Bool) :=
    ift x4
      (some ((GType.mk (0 : Int) (0 : Int) []), false))
      (ift (p1 == (3 : Int))
         (bnd (some (if (12 : Int) < (IntKind.i64.wrap (p2.scale + p3.scale)) then (12 : Int) else (IntKind.i64.wrap (p2.scale + p3.scale)))) fun y1 =>
          value_result_j5 y1)
         (ift (p1 == (4 : Int))
            (bnd (some (IntKind.i64.wrap ((if p3.scale > p2.scale then p3.scale else p2.scale) + (4 : Int)))) fun y2 =>
             value_result_j5 (if (12 : Int) < y2 then (12 : Int) else y2))
            (value_result_j5 (if p3.scale > p2.scale then p3.scale else p2.scale))))

def value_result_j3 (p1 : Int) (p2 : GType) (p3 : GType) (x3 : Bool) : Option (GType × Bool) :=
    ift x3
      (some ((GType.mk (2 : Int) (0 : Int) []), true))
      (bnd (value_number p2) fun r9 =>
       ift (!r9)
         (value_result_j4 p1 p2 p3 true)
         (bnd (value_number p3) fun r10 =>
          value_result_j4 p1 p2 p3 (!r10)))

def value_result_j2 (p1 : Int) (p2 : GType) (p3 : GType) (x2 : Bool) : Option (GType × Bool) :=
    ift x2
      (some ((GType.mk (5 : Int) (0 : Int) []), true))
      (ift (p1 == (2 : Int))
         (bnd (value_result_1_s (5 : Int) (5 : Int) p2.kind p2.scale p2.fields p3.kind p3.scale p3.fields) fun r6 =>
          ift r6
            (value_result_j3 p1 p2 p3 true)
            (bnd (value_result_1_s (2 : Int) (2 : Int) p2.kind p2.scale p2.fields p3.kind p3.scale p3.fields) fun r7 =>
             value_result_j3 p1 p2 p3 r7))
         (bnd (value_result_1_s (2 : Int) (2 : Int) p2.kind p2.scale p2.fields p3.kind p3.scale p3.fields) fun r8 =>
          value_result_j3 p1 p2 p3 r8))

def value_result_j1 (p1 : Int) (p2 : GType) (p3 : GType) (x1 : Bool) : Option (GType × Bool) :=
    ift x1
      (bnd (value_result_1_s (1 : Int) (1 : Int) p2.kind p2.scale p2.fields p3.kind p3.scale p3.fields) fun r1 =>
       some ((GType.mk (1 : Int) (0 : Int) []), r1))
      (ift (p1 == (1 : Int))
         (bnd (value_result_1_s (5 : Int) (2 : Int) p2.kind p2.scale p2.fields p3.kind p3.scale p3.fields) fun r2 =>
          ift r2
            (value_result_j2 p1 p2 p3 true)
            (bnd (value_result_1_s (2 : Int) (5 : Int) p2.kind p2.scale p2.fields p3.kind p3.scale p3.fields) fun r3 =>
             ift r3
               (value_result_j2 p1 p2 p3 true)
               (ift (p1 == (2 : Int))
                  (bnd (value_result_1_s (5 : Int) (2 : Int) p2.kind p2.scale p2.fields p3.kind p3.scale p3.fields) fun r4 =>
                   value_result_j2 p1 p2 p3 r4)
                  (value_result_j2 p1 p2 p3 false))))
         (ift (p1 == (2 : Int))
            (bnd (value_result_1_s (5 : Int) (2 : Int) p2.kind p2.scale p2.fields p3.kind p3.scale p3.fields) fun r5 =>
             value_result_j2 p1 p2 p3 r5)
            (value_result_j2 p1 p2 p3 false)))

def value_result (p1 : Int) (p2 : GType) (p3 : GType) : Option (GType × Bool) :=
    ift (p1 == (6 : Int))
      (value_result_j1 p1 p2 p3 true)
      (value_result_j1 p1 p2 p3 (p1 == (7 : Int)))

abbrev qa2221 (p2 : GType) : List CV := [ci p2.kind, ci p2.scale, cl eField p2.fields]
abbrev qa2224 (p2 : GType) : List PV := [pi p2.kind, pi p2.scale, .ro (eField.els p2.fields)]
abbrev qa2225 (p3 : GType) : List PV := [pi p3.kind, pi p3.scale, .ro (eField.els p3.fields)]
abbrev qa2226 : List CV := [ci (0 : Int), ci (0 : Int), .pv (.s (.slice none 0 0))]
abbrev qa2234 : St := [.box qa2226]
abbrev qa2248 (p1 : Int) (p2 : GType) (p3 : GType) (r2 : Bool) : Fr := [(26, vb r2), (0, vi p1), (4, .one (.pv (.rp [(qa2224 p2)] 0 0))), (5, .one (.pv (.rp [(qa2225 p3)] 0 0))), (6, .one (.pt 0 0 0 0)), (8, .one (.fn 105 [.pv (.rp [(qa2224 p2)] 0 0), .pv (.rp [(qa2225 p3)] 0 0)])), (24, vb true), (25, .one (.fn 105 [.pv (.rp [(qa2224 p2)] 0 0), .pv (.rp [(qa2225 p3)] 0 0)]))]
abbrev qa2249 (p1 : Int) (p2 : GType) (p3 : GType) : Fr := [(0, vi p1), (4, .one (.pv (.rp [(qa2224 p2)] 0 0))), (5, .one (.pv (.rp [(qa2225 p3)] 0 0))), (6, .one (.pt 0 0 0 0)), (8, .one (.fn 105 [.pv (.rp [(qa2224 p2)] 0 0), .pv (.rp [(qa2225 p3)] 0 0)])), (24, vb (p1 == (1 : Int)))]

theorem c_value_result (p1 : Int) (p2 : GType) (p3 : GType) (r : (GType × Bool)) (h : value_result p1 p2 p3 = some r) : PC Tryd.prog 59 [vi p1, .ag (qa2221 p2), .ag [ci p3.kind, ci p3.scale, cl eField p3.fields]] (.tp [.ag [ci r.1.kind, ci r.1.scale, cl eField r.1.fields], vb r.2]) := by
 unfold value_result at h
 refine zF 84 Tryd.f59 (zq fun K1 hK1 => zr (zg [6] 4 [0,4,5,6] (zd (hK1 _ _ (zq fun K2 hK2 => zr ?_)))))
 refine zg [6] 2 [0,4,5,6,8] (zd (hK2 _ _ (zq fun K3 hK3 => zb 0 (zq fun K4 hK4 => ?_))))
 have hJ1 : ∀ (x1 : Bool), value_result_j1 p1 p2 p3 x1 = some r → ∀ fr1 st1, Sub 84 0 [] fr1 st1 [(0, vi p1), (4, .one (.pv (.rp [(qa2224 p2)] 0 0))), (5, .one (.pv (.rp [(qa2225 p3)] 0 0))), (6, .one (.pt 0 0 0 0)), (8, .one (.fn 105 [.pv (.rp [(qa2224 p2)] 0 0), .pv (.rp [(qa2225 p3)] 0 0)])), (11, vb x1)] qa2234 → K4 fr1 st1 := by
  intro x1 h fr1 st1 hS
  unfold value_result_j1 at h
  refine hK4 _ _ (XW.sub hS ?_)
  refine zC h (fun b6 h => ?_) (fun b6 h => ?_)
  ·refine zq fun K7 hK7 => ?_
   obtain ⟨r1, c8, h⟩ := zB h
   refine zr (zg [6] 2 [6,18,19] (za (c_value_result_1_s _ _ _ _ _ _ _ _ _ c8) (zv [6] 2 [6,7] [] [(6, .one (.pt 0 0 0 0)), (7, vb r1)] [.box [ci (1 : Int), ci (0 : Int), .pv (.s (.slice none 0 0))]] (zd (hK7 _ _ (ze ?_))))))
   obtain rfl := Option.some.inj h
   exact zf [.ag [ci (1 : Int), ci (0 : Int), .pv (.s (.slice none 0 0))], vb r1] (.tpc (.ag (.cons (.rfl _ rfl) (.cons (.rfl _ rfl) (.cons (.nl) .nil)))) (.tpc (.one (.rfl _ rfl)) (.tp0)))
  ·refine zq fun K9 hK9 => ?_
   have hJ2 : ∀ (x2 : Bool), value_result_j2 p1 p2 p3 x2 = some r → ∀ fr1 st1, Sub 84 0 [] fr1 st1 [(0, vi p1), (4, .one (.pv (.rp [(qa2224 p2)] 0 0))), (5, .one (.pv (.rp [(qa2225 p3)] 0 0))), (6, .one (.pt 0 0 0 0)), (8, .one (.fn 105 [.pv (.rp [(qa2224 p2)] 0 0), .pv (.rp [(qa2225 p3)] 0 0)])), (21, vb x2)] qa2234 → K9 fr1 st1 := by
    intro x2 h fr1 st1 hS
    unfold value_result_j2 at h
    refine hK9 _ _ (XW.sub hS ?_)
    refine zC h (fun b19 h => ?_) (fun b19 h => ?_)
    ·refine zq fun K20 hK20 => zr (zg [6] 3 [6,7] (zd (hK20 _ _ (ze ?_))))
     obtain rfl := Option.some.inj h
     exact zf [.ag [ci (5 : Int), ci (0 : Int), .pv (.s (.slice none 0 0))], vb true] (.tpc (.ag (.cons (.rfl _ rfl) (.cons (.rfl _ rfl) (.cons (.nl) .nil)))) (.tpc (.one (.rfl _ rfl)) (.tp0)))
    ·refine zq fun K21 hK21 => ?_
     have hJ3 : ∀ (x3 : Bool), value_result_j3 p1 p2 p3 x3 = some r → ∀ fr1 st1, Sub 84 0 [] fr1 st1 [(0, vi p1), (4, .one (.pv (.rp [(qa2224 p2)] 0 0))), (5, .one (.pv (.rp [(qa2225 p3)] 0 0))), (6, .one (.pt 0 0 0 0)), (41, vb x3)] qa2234 → K21 fr1 st1 := by
      intro x3 h fr1 st1 hS
      unfold value_result_j3 at h
      refine hK21 _ _ (XW.sub hS ?_)
      refine zC h (fun b27 h => ?_) (fun b27 h => ?_)
      ·refine zq fun K28 hK28 => zr (zg [6] 3 [6,7] (zd (hK28 _ _ (ze ?_))))
       obtain rfl := Option.some.inj h
       exact zf [.ag [ci (2 : Int), ci (0 : Int), .pv (.s (.slice none 0 0))], vb true] (.tpc (.ag (.cons (.rfl _ rfl) (.cons (.rfl _ rfl) (.cons (.nl) .nil)))) (.tpc (.one (.rfl _ rfl)) (.tp0)))
      ·refine zq fun K29 hK29 => ?_
       have hJ4 : ∀ (x4 : Bool), value_result_j4 p1 p2 p3 x4 = some r → ∀ fr1 st1, Sub 84 0 [] fr1 st1 [(0, vi p1), (4, .one (.pv (.rp [(qa2224 p2)] 0 0))), (5, .one (.pv (.rp [(qa2225 p3)] 0 0))), (6, .one (.pt 0 0 0 0)), (53, vb x4)] qa2234 → K29 fr1 st1 := by
        intro x4 h fr1 st1 hS
        unfold value_result_j4 at h
        refine hK29 _ _ (XW.sub hS ?_)
        refine zC h (fun b33 h => ?_) (fun b33 h => ?_)
        ·refine zq fun K34 hK34 => zr (zg [6] 3 [6,7] (zd (hK34 _ _ (ze ?_))))
         obtain rfl := Option.some.inj h
         exact zf [.ag qa2226, vb false] (.tpc (.ag (.cons (.rfl _ rfl) (.cons (.rfl _ rfl) (.cons (.nl) .nil)))) (.tpc (.one (.rfl _ rfl)) (.tp0)))
        ·refine zs (hK3 _ _ (zq fun K35 hK35 => zr (zu [6] 6 [0,4,5,6,9] [(qa2224 p2), (qa2225 p3)] (zd (hK35 _ _ (zq fun K36 hK36 => ?_))))))
         have hJ5 : ∀ (x5 : Int), value_result_j5 x5 = some r → ∀ fr1 st1, Sub 84 0 [] fr1 st1 [(6, .one (.pt 0 0 0 0)), (9, vi x5)] qa2234 → K36 fr1 st1 := by
          intro x5 h fr1 st1 hS
          unfold value_result_j5 at h
          refine hK36 _ _ (XW.sub hS ?_)
          refine zq fun K44 hK44 => zr (zg [6] 4 [6,7] (zd (hK44 _ _ (ze ?_))))
          obtain rfl := Option.some.inj h
          exact zf [.ag [ci (3 : Int), ci x5, .pv (.s (.slice none 0 0))], vb true] (.tpc (.ag (.cons (.rfl _ rfl) (.cons (.rfl _ rfl) (.cons (.nl) .nil)))) (.tpc (.one (.rfl _ rfl)) (.tp0)))
         refine zq fun K37 hK37 => zr (zv [6] 1 [4,5,6,9,68] [] [(4, .one (.pv (.rp [(qa2224 p2)] 0 0))), (5, .one (.pv (.rp [(qa2225 p3)] 0 0))), (6, .one (.pt 0 0 0 0)), (9, vi (if p3.scale > p2.scale then p3.scale else p2.scale)), (68, vi p1)] qa2234 (zd (hK37 _ _ (zb 1 (zq fun K38 hK38 => zr ?_)))))
         refine zg [6] 2 [4,5,6,9,68,69] (zd (hK38 _ _ (zC h (fun b39 h => ?_) (fun b39 h => ?_))))
         ·obtain ⟨y1, hy40, h⟩ := zB h
          refine zr (zv [6] 6 [6,76] [[pi p2.kind, pi p2.scale, .ro (eField.els p2.fields)], [pi p3.kind, pi p3.scale, .ro (eField.els p3.fields)]] [(6, .one (.pt 0 0 0 0)), (76, vi (if (12 : Int) < (IntKind.i64.wrap (p2.scale + p3.scale)) then (12 : Int) else (IntKind.i64.wrap (p2.scale + p3.scale))))] [.box [ci (0 : Int), ci (0 : Int), .pv (.s (.slice none 0 0))]] ?_)
          rw [show (if (12 : Int) < (IntKind.i64.wrap (p2.scale + p3.scale)) then (12 : Int) else (IntKind.i64.wrap (p2.scale + p3.scale))) = y1 from Option.some.inj hy40]
          exact zg [6] 1 [6,9] (zd (hJ5 y1 h _ _ (zk [6,9])))
         ·refine zq fun K41 hK41 => zr (zg [6] 2 [6,9,77] (zd (hK41 _ _ (zC h (fun b42 h => ?_) (fun b42 h => ?_)))))
          ·obtain ⟨y2, hy43, h⟩ := zB h
           refine zr (zv [6] 2 [6,80] [] [(6, .one (.pt 0 0 0 0)), (80, vi (IntKind.i64.wrap ((if p3.scale > p2.scale then p3.scale else p2.scale) + (4 : Int))))] [.box [ci (0 : Int), ci (0 : Int), .pv (.s (.slice none 0 0))]] ?_)
           rw [show (IntKind.i64.wrap ((if p3.scale > p2.scale then p3.scale else p2.scale) + (4 : Int))) = y2 from Option.some.inj hy43]
           exact zg [6] 2 [6,9] (zd (hJ5 (if (12 : Int) < y2 then (12 : Int) else y2) h _ _ (zk [6,9])))
          ·exact zs (hJ5 (if p3.scale > p2.scale then p3.scale else p2.scale) h _ _ (zk [6,9]))
       obtain ⟨r9, c30, h⟩ := zB h
       rcases zW h with ⟨b31, h⟩ | ⟨b31, h⟩
       ·exact zr (zu [6] 1 [0,4,5,6,54] [(qa2224 p2)] (zl 106 [.ag (qa2221 p2)] (vb r9) [(55, vb r9), (0, vi p1), (4, .one (.pv (.rp [(qa2224 p2)] 0 0))), (5, .one (.pv (.rp [(qa2225 p3)] 0 0))), (6, .one (.pt 0 0 0 0)), (54, .ag (qa2221 p2))] (c_value_number _ _ c30) (zg [6] 2 [0,4,5,6,57] (zt 57 b31 (zg [6] 5 [0,4,5,6,53] (zd (hJ4 true h _ _ (zk [0,4,5,6,53]))))))))
       ·obtain ⟨r10, c32, h⟩ := zB h
        refine zr (zv [6] 1 [0,4,5,6,54] [(qa2224 p2)] [(0, vi p1), (4, .one (.pv (.rp [(qa2224 p2)] 0 0))), (5, .one (.pv (.rp [(qa2225 p3)] 0 0))), (6, .one (.pt 0 0 0 0)), (54, .ag (qa2221 p2))] qa2234 (za (c_value_number _ _ c30) (zg [6] 2 [0,4,5,6,57] (zt 57 b31 ?_))))
        exact zv [6] 1 [0,4,5,6,57,58] [(qa2225 p3)] [(0, vi p1), (4, .one (.pv (.rp [(qa2224 p2)] 0 0))), (5, .one (.pv (.rp [(qa2225 p3)] 0 0))), (6, .one (.pt 0 0 0 0)), (57, vb false), (58, .ag [ci p3.kind, ci p3.scale, cl eField p3.fields])] qa2234 (za (c_value_number _ _ c32) (zg [6] 3 [0,4,5,6,53] (zd (hJ4 (!r10) h _ _ (zk [0,4,5,6,53])))))
     rcases zW h with ⟨b22, h⟩ | ⟨b22, h⟩
     ·obtain ⟨r6, c23, h⟩ := zB h
      rcases zW h with ⟨b24, h⟩ | ⟨b24, h⟩
      ·refine zr (zg [6] 3 [0,4,5,6,8,44] (zt 44 b22 ?_))
       refine zv [6] 1 [0,4,5,6,8,44,45] [] [(0, vi p1), (4, .one (.pv (.rp [(qa2224 p2)] 0 0))), (5, .one (.pv (.rp [(qa2225 p3)] 0 0))), (6, .one (.pt 0 0 0 0)), (8, .one (.fn 105 [.pv (.rp [(qa2224 p2)] 0 0), .pv (.rp [(qa2225 p3)] 0 0)])), (44, vb true), (45, .one (.fn 105 [.pv (.rp [(qa2224 p2)] 0 0), .pv (.rp [(qa2225 p3)] 0 0)]))] qa2234 ?_
       exact za (c_value_result_1_s _ _ _ _ _ _ _ _ _ c23) (zg [6] 2 [0,4,5,6,8,48] (zt 48 b24 (zv [6] 4 [0,4,5,6,41] [] [(0, vi p1), (4, .one (.pv (.rp [(qa2224 p2)] 0 0))), (5, .one (.pv (.rp [(qa2225 p3)] 0 0))), (6, .one (.pt 0 0 0 0)), (41, vb true)] qa2234 (zd (hJ3 true h _ _ (zk [0,4,5,6,41]))))))
      ·obtain ⟨r7, c25, h⟩ := zB h
       refine zr (zg [6] 3 [0,4,5,6,8,44] (zt 44 b22 (zg [6] 1 [0,4,5,6,8,44,45] ?_)))
       refine zl 105 [vi (5 : Int), vi (5 : Int), .one (.pv (.rp [(qa2224 p2)] 0 0)), .one (.pv (.rp [(qa2225 p3)] 0 0))] (vb r6) [(46, vb r6), (0, vi p1), (4, .one (.pv (.rp [(qa2224 p2)] 0 0))), (5, .one (.pv (.rp [(qa2225 p3)] 0 0))), (6, .one (.pt 0 0 0 0)), (8, .one (.fn 105 [.pv (.rp [(qa2224 p2)] 0 0), .pv (.rp [(qa2225 p3)] 0 0)])), (44, vb true), (45, .one (.fn 105 [.pv (.rp [(qa2224 p2)] 0 0), .pv (.rp [(qa2225 p3)] 0 0)]))] (c_value_result_1_s _ _ _ _ _ _ _ _ _ c23) ?_
       refine zg [6] 2 [0,4,5,6,8,48] (zt 48 b24 (zg [6] 1 [0,4,5,6,48,49] ?_))
       refine zl 105 [vi (2 : Int), vi (2 : Int), .one (.pv (.rp [(qa2224 p2)] 0 0)), .one (.pv (.rp [(qa2225 p3)] 0 0))] (vb r7) [(50, vb r7), (0, vi p1), (4, .one (.pv (.rp [(qa2224 p2)] 0 0))), (5, .one (.pv (.rp [(qa2225 p3)] 0 0))), (6, .one (.pt 0 0 0 0)), (48, vb false), (49, .one (.fn 105 [.pv (.rp [(qa2224 p2)] 0 0), .pv (.rp [(qa2225 p3)] 0 0)]))] (c_value_result_1_s _ _ _ _ _ _ _ _ _ c25) ?_
       exact zg [6] 2 [0,4,5,6,41] (zd (hJ3 r7 h _ _ (zk [0,4,5,6,41])))
     ·obtain ⟨r8, c26, h⟩ := zB h
      refine zr (zg [6] 3 [0,4,5,6,8,44] (zt 44 b22 (zv [6] 5 [0,4,5,6,48,49] [] [(0, vi p1), (4, .one (.pv (.rp [(qa2224 p2)] 0 0))), (5, .one (.pv (.rp [(qa2225 p3)] 0 0))), (6, .one (.pt 0 0 0 0)), (48, vb false), (49, .one (.fn 105 [.pv (.rp [(qa2224 p2)] 0 0), .pv (.rp [(qa2225 p3)] 0 0)]))] qa2234 (za (c_value_result_1_s _ _ _ _ _ _ _ _ _ c26) (zg [6] 2 [0,4,5,6,41] ?_)))))
      exact zd (hJ3 r8 h _ _ (zk [0,4,5,6,41]))
   rcases zW h with ⟨b10, h⟩ | ⟨b10, h⟩
   ·obtain ⟨r2, c11, h⟩ := zB h
    rcases zW h with ⟨b12, h⟩ | ⟨b12, h⟩
    ·refine zr (zg [6] 3 [0,4,5,6,8,24] (zt 24 b10 (zg [6] 1 [0,4,5,6,8,24,25] ?_)))
     refine zl 105 [vi (5 : Int), vi (2 : Int), .one (.pv (.rp [(qa2224 p2)] 0 0)), .one (.pv (.rp [(qa2225 p3)] 0 0))] (vb r2) (qa2248 p1 p2 p3 r2) (c_value_result_1_s _ _ _ _ _ _ _ _ _ c11) ?_
     exact zg [6] 1 [0,4,5,6,8,24,27] (zt 27 b12 (zg [6] 13 [0,4,5,6,8,21] (zd (hJ2 true h _ _ (zk [0,4,5,6,8,21])))))
    ·obtain ⟨r3, c13, h⟩ := zB h
     rcases zW h with ⟨b14, h⟩ | ⟨b14, h⟩
     ·refine zr (zv [6] 3 [0,4,5,6,8,24] [] (qa2249 p1 p2 p3) qa2234 (zt 24 b10 (zg [6] 1 [0,4,5,6,8,24,25] (za (c_value_result_1_s _ _ _ _ _ _ _ _ _ c11) ?_))))
      refine zv [6] 1 [0,4,5,6,8,24,27] [] [(0, vi p1), (4, .one (.pv (.rp [(qa2224 p2)] 0 0))), (5, .one (.pv (.rp [(qa2225 p3)] 0 0))), (6, .one (.pt 0 0 0 0)), (8, .one (.fn 105 [.pv (.rp [(qa2224 p2)] 0 0), .pv (.rp [(qa2225 p3)] 0 0)])), (24, vb true), (27, vb r2)] qa2234 (zt 27 b12 (zg [6] 1 [0,4,5,6,8,24,27,28] (za (c_value_result_1_s _ _ _ _ _ _ _ _ _ c13) ?_)))
      exact zv [6] 3 [0,4,5,6,8,32] [] [(0, vi p1), (4, .one (.pv (.rp [(qa2224 p2)] 0 0))), (5, .one (.pv (.rp [(qa2225 p3)] 0 0))), (6, .one (.pt 0 0 0 0)), (8, .one (.fn 105 [.pv (.rp [(qa2224 p2)] 0 0), .pv (.rp [(qa2225 p3)] 0 0)])), (32, vb r3)] qa2234 (zt 32 b14 (zg [6] 8 [0,4,5,6,8,21] (zd (hJ2 true h _ _ (zk [0,4,5,6,8,21])))))
     ·rcases zW h with ⟨b15, h⟩ | ⟨b15, h⟩
      ·obtain ⟨r4, c16, h⟩ := zB h
       refine zr (zg [6] 3 [0,4,5,6,8,24] (zt 24 b10 ?_))
       refine zv [6] 1 [0,4,5,6,8,24,25] [] [(0, vi p1), (4, .one (.pv (.rp [(qa2224 p2)] 0 0))), (5, .one (.pv (.rp [(qa2225 p3)] 0 0))), (6, .one (.pt 0 0 0 0)), (8, .one (.fn 105 [.pv (.rp [(qa2224 p2)] 0 0), .pv (.rp [(qa2225 p3)] 0 0)])), (24, vb true), (25, .one (.fn 105 [.pv (.rp [(qa2224 p2)] 0 0), .pv (.rp [(qa2225 p3)] 0 0)]))] qa2234 ?_
       refine za (c_value_result_1_s _ _ _ _ _ _ _ _ _ c11) (zg [6] 1 [0,4,5,6,8,24,27] (zt 27 b12 ?_))
       refine zv [6] 1 [0,4,5,6,8,24,27,28] [] [(0, vi p1), (4, .one (.pv (.rp [(qa2224 p2)] 0 0))), (5, .one (.pv (.rp [(qa2225 p3)] 0 0))), (6, .one (.pt 0 0 0 0)), (8, .one (.fn 105 [.pv (.rp [(qa2224 p2)] 0 0), .pv (.rp [(qa2225 p3)] 0 0)])), (24, vb true), (27, vb false), (28, .one (.fn 105 [.pv (.rp [(qa2224 p2)] 0 0), .pv (.rp [(qa2225 p3)] 0 0)]))] qa2234 ?_
       refine za (c_value_result_1_s _ _ _ _ _ _ _ _ _ c13) (zg [6] 3 [0,4,5,6,8,32] (zt 32 b14 (zv [6] 3 [0,4,5,6,8,32,35] [] [(0, vi p1), (4, .one (.pv (.rp [(qa2224 p2)] 0 0))), (5, .one (.pv (.rp [(qa2225 p3)] 0 0))), (6, .one (.pt 0 0 0 0)), (8, .one (.fn 105 [.pv (.rp [(qa2224 p2)] 0 0), .pv (.rp [(qa2225 p3)] 0 0)])), (32, vb false), (35, vb (p1 == (2 : Int)))] qa2234 ?_)))
       refine zt 35 b15 (zg [6] 1 [0,4,5,6,8,32,35,36] (za (c_value_result_1_s _ _ _ _ _ _ _ _ _ c16) (zv [6] 3 [0,4,5,6,8,21] [] [(0, vi p1), (4, .one (.pv (.rp [(qa2224 p2)] 0 0))), (5, .one (.pv (.rp [(qa2225 p3)] 0 0))), (6, .one (.pt 0 0 0 0)), (8, .one (.fn 105 [.pv (.rp [(qa2224 p2)] 0 0), .pv (.rp [(qa2225 p3)] 0 0)])), (21, vb r4)] qa2234 (zd ?_))))
       exact hJ2 r4 h _ _ (zk [0,4,5,6,8,21])
      ·refine zr (zg [6] 3 [0,4,5,6,8,24] (zt 24 b10 (zg [6] 1 [0,4,5,6,8,24,25] ?_)))
       refine zl 105 [vi (5 : Int), vi (2 : Int), .one (.pv (.rp [(qa2224 p2)] 0 0)), .one (.pv (.rp [(qa2225 p3)] 0 0))] (vb r2) (qa2248 p1 p2 p3 r2) (c_value_result_1_s _ _ _ _ _ _ _ _ _ c11) ?_
       refine zg [6] 1 [0,4,5,6,8,24,27] (zt 27 b12 (zg [6] 1 [0,4,5,6,8,24,27,28] ?_))
       refine zl 105 [vi (2 : Int), vi (5 : Int), .one (.pv (.rp [(qa2224 p2)] 0 0)), .one (.pv (.rp [(qa2225 p3)] 0 0))] (vb r3) [(29, vb r3), (0, vi p1), (4, .one (.pv (.rp [(qa2224 p2)] 0 0))), (5, .one (.pv (.rp [(qa2225 p3)] 0 0))), (6, .one (.pt 0 0 0 0)), (8, .one (.fn 105 [.pv (.rp [(qa2224 p2)] 0 0), .pv (.rp [(qa2225 p3)] 0 0)])), (24, vb true), (27, vb false), (28, .one (.fn 105 [.pv (.rp [(qa2224 p2)] 0 0), .pv (.rp [(qa2225 p3)] 0 0)]))] (c_value_result_1_s _ _ _ _ _ _ _ _ _ c13) ?_
       exact zg [6] 3 [0,4,5,6,8,32] (zt 32 b14 (zg [6] 3 [0,4,5,6,8,32,35] (zt 35 b15 (zv [6] 5 [0,4,5,6,8,21] [] [(0, vi p1), (4, .one (.pv (.rp [(qa2224 p2)] 0 0))), (5, .one (.pv (.rp [(qa2225 p3)] 0 0))), (6, .one (.pt 0 0 0 0)), (8, .one (.fn 105 [.pv (.rp [(qa2224 p2)] 0 0), .pv (.rp [(qa2225 p3)] 0 0)])), (21, vb false)] qa2234 (zd (hJ2 false h _ _ (zk [0,4,5,6,8,21])))))))
   ·rcases zW h with ⟨b17, h⟩ | ⟨b17, h⟩
    ·obtain ⟨r5, c18, h⟩ := zB h
     refine zr (zg [6] 3 [0,4,5,6,8,24] (zt 24 b10 (zg [6] 11 [0,4,5,6,8,32,35] (zt 35 b17 ?_))))
     refine zv [6] 1 [0,4,5,6,8,32,35,36] [] [(0, vi p1), (4, .one (.pv (.rp [(qa2224 p2)] 0 0))), (5, .one (.pv (.rp [(qa2225 p3)] 0 0))), (6, .one (.pt 0 0 0 0)), (8, .one (.fn 105 [.pv (.rp [(qa2224 p2)] 0 0), .pv (.rp [(qa2225 p3)] 0 0)])), (32, vb false), (35, vb true), (36, .one (.fn 105 [.pv (.rp [(qa2224 p2)] 0 0), .pv (.rp [(qa2225 p3)] 0 0)]))] qa2234 ?_
     exact za (c_value_result_1_s _ _ _ _ _ _ _ _ _ c18) (zg [6] 3 [0,4,5,6,8,21] (zd (hJ2 r5 h _ _ (zk [0,4,5,6,8,21]))))
    ·refine zr (zv [6] 3 [0,4,5,6,8,24] [] (qa2249 p1 p2 p3) qa2234 (zt 24 b10 (zg [6] 11 [0,4,5,6,8,32,35] (zt 35 b17 (zg [6] 5 [0,4,5,6,8,21] (zd ?_))))))
     exact hJ2 false h _ _ (zk [0,4,5,6,8,21])
 rcases zW h with ⟨b5, h⟩ | ⟨b5, h⟩
 ·exact zr (zv [6] 3 [0,4,5,6,8,14] [] [(0, vi p1), (4, .one (.pv (.rp [(qa2224 p2)] 0 0))), (5, .one (.pv (.rp [(qa2225 p3)] 0 0))), (6, .one (.pt 0 0 0 0)), (8, .one (.fn 105 [.pv (.rp [(qa2224 p2)] 0 0), .pv (.rp [(qa2225 p3)] 0 0)])), (14, vb (p1 == (6 : Int)))] qa2234 (zt 14 b5 (zg [6] 4 [0,4,5,6,8,11] (zd (hJ1 true h _ _ (zk [0,4,5,6,8,11]))))))
 ·exact zr (zg [6] 3 [0,4,5,6,8,14] (zt 14 b5 (zv [6] 4 [0,4,5,6,8,11] [] [(0, vi p1), (4, .one (.pv (.rp [(qa2224 p2)] 0 0))), (5, .one (.pv (.rp [(qa2225 p3)] 0 0))), (6, .one (.pt 0 0 0 0)), (8, .one (.fn 105 [.pv (.rp [(qa2224 p2)] 0 0), .pv (.rp [(qa2225 p3)] 0 0)])), (11, vb (p1 == (7 : Int)))] qa2234 (zd (hJ1 (p1 == (7 : Int)) h _ _ (zk [0,4,5,6,8,11]))))))

def value_size (p1 : Int) : Option Int :=
    bnd (some (if (IntKind.i64.wrap (0 - p1)) > p1 then (IntKind.i64.wrap (0 - p1)) else p1)) fun y1 =>
    some (IntKind.u64.wrap y1)


theorem c_value_size (p1 : Int) (r : Int) (h : value_size p1 = some r) : PC Tryd.prog 124 [vi p1] (vk .u64 r) := by
 unfold value_size at h
 refine zF 8 Tryd.f124 (zq fun K1 hK1 => zr (zg [] 1 [0] (zd (hK1 _ _ (zq fun K2 hK2 => ?_)))))
 obtain ⟨y1, hy3, h⟩ := zB h
 refine zr (zv [] 4 [6] [] [(6, vi (if (IntKind.i64.wrap (0 - p1)) > p1 then (IntKind.i64.wrap (0 - p1)) else p1))] [] ?_)
 rw [show (if (IntKind.i64.wrap (0 - p1)) > p1 then (IntKind.i64.wrap (0 - p1)) else p1) = y1 from Option.some.inj hy3]
 refine zg [] 2 [2] (zd (hK2 _ _ (ze ?_)))
 obtain rfl := Option.some.inj h
 exact zf [vk .u64 (IntKind.u64.wrap y1)] (.one (.rfl _ rfl))

def value_product (p1 : Int) (p2 : Int) : Option GWide :=
    bnd (value_whole p1) fun r1 =>
    bnd (value_size p2) fun r2 =>
    bnd (value_wide_times (GWide.mk r1.neg (r1.size.1, r1.size.2.1, r1.size.2.2.1, r1.size.2.2.2)) r2) fun r3 =>
    some (GWide.mk (!(r3.neg == (decide (p2 < (0 : Int))))) (r3.size.1, r3.size.2.1, r3.size.2.2.1, r3.size.2.2.2))

abbrev qa2262 (r1 : GWide) : List CV := [cb r1.neg, ck .u64 r1.size.1, ck .u64 r1.size.2.1, ck .u64 r1.size.2.2.1, ck .u64 r1.size.2.2.2]
abbrev qa2263 (r3 : GWide) : List CV := [cb r3.neg, ck .u64 r3.size.1, ck .u64 r3.size.2.1, ck .u64 r3.size.2.2.1, ck .u64 r3.size.2.2.2]
abbrev qa2265 (p2 : Int) (r3 : GWide) : List CV := [cb (!(r3.neg == (decide (p2 < (0 : Int))))), ck .u64 r3.size.1, ck .u64 r3.size.2.1, ck .u64 r3.size.2.2.1, ck .u64 r3.size.2.2.2]

theorem c_value_product (p1 : Int) (p2 : Int) (r : GWide) (h : value_product p1 p2 = some r) : PC Tryd.prog 108 [vi p1, vi p2] (.ag [cb r.neg, ck .u64 r.size.1, ck .u64 r.size.2.1, ck .u64 r.size.2.2.1, ck .u64 r.size.2.2.2]) := by
 unfold value_product at h
 refine zF 18 Tryd.f108 (zq fun K1 hK1 => zr (zg [4, 5] 1 [0,1,4] (zd (hK1 _ _ (zq fun K2 hK2 => ?_)))))
 obtain ⟨r1, c3, h⟩ := zB h
 obtain ⟨r2, c4, h⟩ := zB h
 obtain ⟨r3, c5, h⟩ := zB h
 refine zr (zg [4, 5] 1 [1,4,6] (zl 46 [vi p1] (.ag (qa2262 r1)) [(7, .ag (qa2262 r1)), (1, vi p2), (4, .one (.pt 0 0 0 0)), (6, vi p1)] (c_value_whole _ _ c3) (zg [4, 5] 1 [1,4,7,8] (za (c_value_size _ _ c4) ?_))))
 refine zl 96 [.ag (qa2262 r1), vk .u64 r2] (.ag (qa2263 r3)) [(10, .ag (qa2263 r3)), (9, vk .u64 r2), (1, vi p2), (4, .one (.pt 0 0 0 0)), (7, .ag (qa2262 r1)), (8, vi p2)] (c_value_wide_times _ _ _ c5) (zg [4, 5] 2 [1,4,5] (zd (hK2 _ _ ?_)))
 refine zq fun K6 hK6 => zr (zg [4, 5] 7 [4,5] (zd (hK6 _ _ (zq fun K7 hK7 => zr (zv [4, 5] 2 [4] [] [(4, .one (.pt 0 0 0 0))] [.box (qa2265 p2 r3), .box (qa2265 p2 r3)] ?_)))))
 refine zd (hK7 _ _ (ze ?_))
 obtain rfl := Option.some.inj h
 exact zf [.ag (qa2265 p2 r3)] (.ag (.cons (.rfl _ rfl) (.cons (.rfl _ rfl) (.cons (.rfl _ rfl) (.cons (.rfl _ rfl) (.cons (.rfl _ rfl) .nil))))))

def value_wide_zero (p1 : GWide) : Option Bool :=
    bnd (some ((p1.size.1 == (0 : Int)) && ((p1.size.2.1 == (0 : Int)) && ((p1.size.2.2.1 == (0 : Int)) && ((p1.size.2.2.2 == (0 : Int)) && true))))) fun y1 =>
    some y1


theorem c_value_wide_zero (p1 : GWide) (r : Bool) (h : value_wide_zero p1 = some r) : PC Tryd.prog 109 [.ag [cb p1.neg, ck .u64 p1.size.1, ck .u64 p1.size.2.1, ck .u64 p1.size.2.2.1, ck .u64 p1.size.2.2.2]] (vb r) := by
 unfold value_wide_zero at h
 refine zF 7 Tryd.f109 (zq fun K1 hK1 => zr (zg [] 2 [1] (zd (hK1 _ _ (zq fun K2 hK2 => ?_)))))
 obtain ⟨y1, hy3, h⟩ := zB h
 refine zr (zv [] 4 [6] [[.s (.bool p1.neg), .s (.int .u64 p1.size.1), .s (.int .u64 p1.size.2.1), .s (.int .u64 p1.size.2.2.1), .s (.int .u64 p1.size.2.2.2)]] [(6, vb ((p1.size.1 == (0 : Int)) && ((p1.size.2.1 == (0 : Int)) && ((p1.size.2.2.1 == (0 : Int)) && ((p1.size.2.2.2 == (0 : Int)) && true)))))] [] ?_)
 rw [show ((p1.size.1 == (0 : Int)) && ((p1.size.2.1 == (0 : Int)) && ((p1.size.2.2.1 == (0 : Int)) && ((p1.size.2.2.2 == (0 : Int)) && true)))) = y1 from Option.some.inj hy3]
 refine zg [] 1 [2] (zd (hK2 _ _ (ze ?_)))
 obtain rfl := Option.some.inj h
 exact zf [vb y1] (.one (.rfl _ rfl))

def value_compute (p1 : Int) (p2 : GValue) (p3 : GValue) (p4 : GType) : Option GValue :=
    bnd (some (IntKind.i64.wrap ((if p3.scale > p2.scale then p3.scale else p2.scale) - p2.scale))) fun y1 =>
    bnd (value_scaled p2.n y1) fun r1 =>
    bnd (some (IntKind.i64.wrap ((if p3.scale > p2.scale then p3.scale else p2.scale) - p3.scale))) fun y2 =>
    bnd (value_scaled p3.n y2) fun r2 =>
    ift (p1 == (1 : Int))
      (bnd (value_wide_plus BIG (GWide.mk r1.neg (r1.size.1, r1.size.2.1, r1.size.2.2.1, r1.size.2.2.2)) (GWide.mk r2.neg (r2.size.1, r2.size.2.1, r2.size.2.2.1, r2.size.2.2.2))) fun r3 =>
       bnd (value_made p4.kind (GWide.mk r3.neg (r3.size.1, r3.size.2.1, r3.size.2.2.1, r3.size.2.2.2)) p4.scale) fun r4 =>
       some r4)
      (ift (p1 == (2 : Int))
         (bnd (value_wide_minus BIG (GWide.mk r1.neg (r1.size.1, r1.size.2.1, r1.size.2.2.1, r1.size.2.2.2)) (GWide.mk r2.neg (r2.size.1, r2.size.2.1, r2.size.2.2.1, r2.size.2.2.2))) fun r5 =>
          bnd (value_made p4.kind (GWide.mk r5.neg (r5.size.1, r5.size.2.1, r5.size.2.2.1, r5.size.2.2.2)) p4.scale) fun r6 =>
          some r6)
         (ift (p1 == (3 : Int))
            (bnd (value_product p2.n p3.n) fun r7 =>
             bnd (value_rescaled (GWide.mk r7.neg (r7.size.1, r7.size.2.1, r7.size.2.2.1, r7.size.2.2.2)) (IntKind.i64.wrap (p2.scale + p3.scale)) p4.scale) fun r8 =>
             bnd (value_made p4.kind (GWide.mk r8.neg (r8.size.1, r8.size.2.1, r8.size.2.2.1, r8.size.2.2.2)) p4.scale) fun r9 =>
             some r9)
            (bnd (value_wide_zero (GWide.mk r2.neg (r2.size.1, r2.size.2.1, r2.size.2.2.1, r2.size.2.2.2))) fun r10 =>
             ift r10
               (some (GValue.mk (0 : Int) (0 : Int) (0 : Int) ByteArray.empty []))
               (bnd (value_wide_quo (GWide.mk r1.neg (r1.size.1, r1.size.2.1, r1.size.2.2.1, r1.size.2.2.2)) (GWide.mk r2.neg (r2.size.1, r2.size.2.1, r2.size.2.2.1, r2.size.2.2.2))) fun r11 =>
                ift (p1 == (5 : Int))
                  (bnd (value_made p4.kind (GWide.mk r11.2.neg (r11.2.size.1, r11.2.size.2.1, r11.2.size.2.2.1, r11.2.size.2.2.2)) p4.scale) fun r12 =>
                   some r12)
                  (ift (p4.kind == (2 : Int))
                     (bnd (value_made p4.kind (GWide.mk r11.1.neg (r11.1.size.1, r11.1.size.2.1, r11.1.size.2.2.1, r11.1.size.2.2.2)) p4.scale) fun r13 =>
                      some r13)
                     (bnd (value_wide_shifted (GWide.mk r1.neg (r1.size.1, r1.size.2.1, r1.size.2.2.1, r1.size.2.2.2)) p4.scale) fun r14 =>
                      bnd (value_wide_rounded (GWide.mk r14.neg (r14.size.1, r14.size.2.1, r14.size.2.2.1, r14.size.2.2.2)) (GWide.mk r2.neg (r2.size.1, r2.size.2.1, r2.size.2.2.1, r2.size.2.2.2))) fun r15 =>
                      bnd (value_made p4.kind (GWide.mk r15.neg (r15.size.1, r15.size.2.1, r15.size.2.2.1, r15.size.2.2.2)) p4.scale) fun r16 =>
                      some r16))))))

abbrev qa2274 (p2 : GValue) : List PV := [pi p2.kind, pi p2.n, pi p2.scale, .s (.string p2.s), .ro (eValue.els p2.items)]
abbrev qa2275 (p3 : GValue) : List PV := [pi p3.kind, pi p3.n, pi p3.scale, .s (.string p3.s), .ro (eValue.els p3.items)]
abbrev qa2276 (p4 : GType) : List PV := [pi p4.kind, pi p4.scale, .ro (eField.els p4.fields)]
abbrev qa2277 : List CV := [ci (0 : Int), ci (0 : Int), ci (0 : Int), cst ByteArray.empty, .pv (.s (.slice none 0 0))]
abbrev qa2278 (r2 : GWide) : List CV := [cb r2.neg, ck .u64 r2.size.1, ck .u64 r2.size.2.1, ck .u64 r2.size.2.2.1, ck .u64 r2.size.2.2.2]
abbrev qa2279 (r1 : GWide) : List CV := [cb r1.neg, ck .u64 r1.size.1, ck .u64 r1.size.2.1, ck .u64 r1.size.2.2.1, ck .u64 r1.size.2.2.2]
abbrev qa2280 : List CV := [cb false, ck .u64 (0 : Int), ck .u64 (0 : Int), ck .u64 (0 : Int), ck .u64 (0 : Int)]
abbrev qa2281 (r3 : GWide) : List CV := [cb r3.neg, ck .u64 r3.size.1, ck .u64 r3.size.2.1, ck .u64 r3.size.2.2.1, ck .u64 r3.size.2.2.2]
abbrev qa2283 (r5 : GWide) : List CV := [cb r5.neg, ck .u64 r5.size.1, ck .u64 r5.size.2.1, ck .u64 r5.size.2.2.1, ck .u64 r5.size.2.2.2]
abbrev qa2286 (r7 : GWide) : List CV := [cb r7.neg, ck .u64 r7.size.1, ck .u64 r7.size.2.1, ck .u64 r7.size.2.2.1, ck .u64 r7.size.2.2.2]
abbrev qa2288 (r11 : (GWide × GWide)) : List CV := [cb r11.1.neg, ck .u64 r11.1.size.1, ck .u64 r11.1.size.2.1, ck .u64 r11.1.size.2.2.1, ck .u64 r11.1.size.2.2.2]
abbrev qa2289 (r11 : (GWide × GWide)) : List CV := [cb r11.2.neg, ck .u64 r11.2.size.1, ck .u64 r11.2.size.2.1, ck .u64 r11.2.size.2.2.1, ck .u64 r11.2.size.2.2.2]
abbrev qa2292 (r13 : GValue) : List CV := [ci r13.kind, ci r13.n, ci r13.scale, cst r13.s, cl eValue r13.items]
abbrev qa2293 (r15 : GWide) : List CV := [cb r15.neg, ck .u64 r15.size.1, ck .u64 r15.size.2.1, ck .u64 r15.size.2.2.1, ck .u64 r15.size.2.2.2]
abbrev qa2294 (r14 : GWide) : List CV := [cb r14.neg, ck .u64 r14.size.1, ck .u64 r14.size.2.1, ck .u64 r14.size.2.2.1, ck .u64 r14.size.2.2.2]
abbrev qa2298 (p1 : Int) (p2 : GValue) (p3 : GValue) (p4 : GType) (y1 : Int) (r1 : GWide) (y2 : Int) (r2 : GWide) : Fr := [(11, .one (.pt 2 0 0 0)), (10, .one (.pt 1 0 0 0)), (32, .ag (qa2278 r2)), (31, vi y2), (30, vi p3.scale), (29, .one (.pv (.rp [(qa2275 p3)] 0 2))), (28, vi (if p3.scale > p2.scale then p3.scale else p2.scale)), (27, vi p3.n), (26, .one (.pv (.rp [(qa2275 p3)] 0 1))), (25, .ag (qa2279 r1)), (24, vi y1), (23, vi p2.scale), (22, .one (.pv (.rp [(qa2274 p2)] 0 2))), (21, vi (if p3.scale > p2.scale then p3.scale else p2.scale)), (20, vi p2.n), (19, .one (.pv (.rp [(qa2274 p2)] 0 1))), (0, vi p1), (5, .one (.pv (.rp [(qa2274 p2)] 0 0))), (6, .one (.pv (.rp [(qa2275 p3)] 0 0))), (7, .one (.pv (.rp [(qa2276 p4)] 0 0))), (8, .one (.pt 0 0 0 0)), (9, vi (if p3.scale > p2.scale then p3.scale else p2.scale))]
abbrev qa2305 (r1 : GWide) (r2 : GWide) : St := [.box qa2277, .box (qa2279 r1), .box (qa2278 r2)]
abbrev qa2306 (p1 : Int) (p2 : GValue) (p3 : GValue) (p4 : GType) (r1 : GWide) (r2 : GWide) (r3 : GWide) : Fr := [(42, vi p4.scale), (41, .one (.pv (.rp [(qa2276 p4)] 0 1))), (40, .ag (qa2281 r3)), (39, .ag (qa2278 r2)), (38, .ag (qa2279 r1)), (37, vi p4.kind), (36, .one (.pv (.rp [(qa2276 p4)] 0 0))), (0, vi p1), (5, .one (.pv (.rp [(qa2274 p2)] 0 0))), (6, .one (.pv (.rp [(qa2275 p3)] 0 0))), (7, .one (.pv (.rp [(qa2276 p4)] 0 0))), (8, .one (.pt 0 0 0 0)), (10, .one (.pt 1 0 0 0)), (11, .one (.pt 2 0 0 0)), (33, vi p1), (34, vb (p1 == (1 : Int)))]
abbrev qa2308 (p1 : Int) (p2 : GValue) (p3 : GValue) (p4 : GType) (r1 : GWide) (r2 : GWide) (r5 : GWide) : Fr := [(52, vi p4.scale), (51, .one (.pv (.rp [(qa2276 p4)] 0 1))), (50, .ag (qa2283 r5)), (49, .ag (qa2278 r2)), (48, .ag (qa2279 r1)), (47, vi p4.kind), (46, .one (.pv (.rp [(qa2276 p4)] 0 0))), (0, vi p1), (5, .one (.pv (.rp [(qa2274 p2)] 0 0))), (6, .one (.pv (.rp [(qa2275 p3)] 0 0))), (7, .one (.pv (.rp [(qa2276 p4)] 0 0))), (8, .one (.pt 0 0 0 0)), (10, .one (.pt 1 0 0 0)), (11, .one (.pt 2 0 0 0)), (33, vi p1), (44, vb (p1 == (2 : Int)))]
abbrev qa2318 (p4 : GType) (r1 : GWide) (r2 : GWide) (r14 : GWide) (r15 : GWide) : Fr := [(111, vi p4.scale), (110, .one (.pv (.rp [(qa2276 p4)] 0 1))), (109, .ag (qa2293 r15)), (108, .ag (qa2278 r2)), (107, .ag (qa2294 r14)), (106, vi p4.scale), (105, .one (.pv (.rp [(qa2276 p4)] 0 1))), (104, .ag (qa2279 r1)), (103, vi p4.kind), (102, .one (.pv (.rp [(qa2276 p4)] 0 0))), (7, .one (.pv (.rp [(qa2276 p4)] 0 0))), (8, .one (.pt 0 0 0 0)), (10, .one (.pt 1 0 0 0)), (11, .one (.pt 2 0 0 0)), (12, .one (.pt 3 0 0 0)), (92, vb (p4.kind == (2 : Int)))]

theorem c_value_compute (p1 : Int) (p2 : GValue) (p3 : GValue) (p4 : GType) (r : GValue) (h : value_compute p1 p2 p3 p4 = some r) : PC Tryd.prog 61 [vi p1, .ag [ci p2.kind, ci p2.n, ci p2.scale, cst p2.s, cl eValue p2.items], .ag [ci p3.kind, ci p3.n, ci p3.scale, cst p3.s, cl eValue p3.items], .ag [ci p4.kind, ci p4.scale, cl eField p4.fields]] (.ag [ci r.kind, ci r.n, ci r.scale, cst r.s, cl eValue r.items]) := by
 unfold value_compute at h
 refine zF 113 Tryd.f61 (zq fun K1 hK1 => zr (zg [8, 10, 11, 12, 13] 4 [0,5,6,7,8] (zd (hK1 _ _ (zq fun K2 hK2 => zr ?_)))))
 refine zv [8, 10, 11, 12, 13] 6 [0,5,6,7,8,9] [(qa2274 p2), (qa2275 p3)] [(0, vi p1), (5, .one (.pv (.rp [(qa2274 p2)] 0 0))), (6, .one (.pv (.rp [(qa2275 p3)] 0 0))), (7, .one (.pv (.rp [(qa2276 p4)] 0 0))), (8, .one (.pt 0 0 0 0)), (9, vi (if p3.scale > p2.scale then p3.scale else p2.scale))] [.box qa2277] ?_
 refine zd (hK2 _ _ (zq fun K3 hK3 => ?_))
 obtain ⟨y1, hy4, h⟩ := zB h
 obtain ⟨r1, c5, h⟩ := zB h
 obtain ⟨y2, hy6, h⟩ := zB h
 obtain ⟨r2, c7, h⟩ := zB h
 refine XW.sub (Sub.dead 2) ?_
 refine XW.drwG 16 [1, 2, 3] [([], []), ([], []), ([], []), ([], []), ([], []), ([], []), ([], []), ([], []), ([], []), ([], []), ([], []), ([], []), ([], []), ([], []), ([1], [1]), ([2], [2])] (qa2298 p1 p2 p3 p4 y1 r1 y2 r2) [.box qa2277, .box qa2280, .box qa2280] (by kernel_rfl) (by kernel_rfl) ?_ ?_
 ·refine zgv 6 [[pi p2.kind, pi p2.n, pi p2.scale, .s (.string p2.s), .ro (eValue.els p2.items)], [pi p2.kind, pi p2.n, pi p2.scale, .s (.string p2.s), .ro (eValue.els p2.items)]] [(24, vi (IntKind.i64.wrap ((if p3.scale > p2.scale then p3.scale else p2.scale) - p2.scale))), (23, vi p2.scale), (22, .one (.pv (.rp [[pi p2.kind, pi p2.n, pi p2.scale, .s (.string p2.s), .ro (eValue.els p2.items)]] 0 2))), (21, vi (if p3.scale > p2.scale then p3.scale else p2.scale)), (20, vi p2.n), (19, .one (.pv (.rp [[pi p2.kind, pi p2.n, pi p2.scale, .s (.string p2.s), .ro (eValue.els p2.items)]] 0 1))), (0, vi p1), (5, .one (.pv (.rp [[pi p2.kind, pi p2.n, pi p2.scale, .s (.string p2.s), .ro (eValue.els p2.items)]] 0 0))), (6, .one (.pv (.rp [[pi p3.kind, pi p3.n, pi p3.scale, .s (.string p3.s), .ro (eValue.els p3.items)]] 0 0))), (7, .one (.pv (.rp [[pi p4.kind, pi p4.scale, .ro (eField.els p4.fields)]] 0 0))), (8, .one (.pt 0 0 0 0)), (9, vi (if p3.scale > p2.scale then p3.scale else p2.scale))] ?_
  rw [show (IntKind.i64.wrap ((if p3.scale > p2.scale then p3.scale else p2.scale) - p2.scale)) = y1 from Option.some.inj hy4]
  refine GY.cal 50 [vi p2.n, vi y1] (.ag (qa2279 r1)) [(25, .ag (qa2279 r1)), (24, vi y1), (23, vi p2.scale), (22, .one (.pv (.rp [(qa2274 p2)] 0 2))), (21, vi (if p3.scale > p2.scale then p3.scale else p2.scale)), (20, vi p2.n), (19, .one (.pv (.rp [(qa2274 p2)] 0 1))), (0, vi p1), (5, .one (.pv (.rp [(qa2274 p2)] 0 0))), (6, .one (.pv (.rp [(qa2275 p3)] 0 0))), (7, .one (.pv (.rp [(qa2276 p4)] 0 0))), (8, .one (.pt 0 0 0 0)), (9, vi (if p3.scale > p2.scale then p3.scale else p2.scale))] [] (by kernel_rfl) (by kernel_rfl) (c_value_scaled _ _ _ c5) rfl rfl (by kernel_rfl) (by kernel_rfl) (by kernel_rfl) ?_
  refine zgv 6 [[pi p3.kind, pi p3.n, pi p3.scale, .s (.string p3.s), .ro (eValue.els p3.items)], [pi p3.kind, pi p3.n, pi p3.scale, .s (.string p3.s), .ro (eValue.els p3.items)]] [(31, vi (IntKind.i64.wrap ((if p3.scale > p2.scale then p3.scale else p2.scale) - p3.scale))), (30, vi p3.scale), (29, .one (.pv (.rp [[pi p3.kind, pi p3.n, pi p3.scale, .s (.string p3.s), .ro (eValue.els p3.items)]] 0 2))), (28, vi (if p3.scale > p2.scale then p3.scale else p2.scale)), (27, vi p3.n), (26, .one (.pv (.rp [[pi p3.kind, pi p3.n, pi p3.scale, .s (.string p3.s), .ro (eValue.els p3.items)]] 0 1))), (25, .ag [cb r1.neg, ck .u64 r1.size.1, ck .u64 r1.size.2.1, ck .u64 r1.size.2.2.1, ck .u64 r1.size.2.2.2]), (24, vi y1), (23, vi p2.scale), (22, .one (.pv (.rp [[pi p2.kind, pi p2.n, pi p2.scale, .s (.string p2.s), .ro (eValue.els p2.items)]] 0 2))), (21, vi (if p3.scale > p2.scale then p3.scale else p2.scale)), (20, vi p2.n), (19, .one (.pv (.rp [[pi p2.kind, pi p2.n, pi p2.scale, .s (.string p2.s), .ro (eValue.els p2.items)]] 0 1))), (0, vi p1), (5, .one (.pv (.rp [[pi p2.kind, pi p2.n, pi p2.scale, .s (.string p2.s), .ro (eValue.els p2.items)]] 0 0))), (6, .one (.pv (.rp [[pi p3.kind, pi p3.n, pi p3.scale, .s (.string p3.s), .ro (eValue.els p3.items)]] 0 0))), (7, .one (.pv (.rp [[pi p4.kind, pi p4.scale, .ro (eField.els p4.fields)]] 0 0))), (8, .one (.pt 0 0 0 0)), (9, vi (if p3.scale > p2.scale then p3.scale else p2.scale))] ?_
  rw [show (IntKind.i64.wrap ((if p3.scale > p2.scale then p3.scale else p2.scale) - p3.scale)) = y2 from Option.some.inj hy6]
  refine GY.cal 50 [vi p3.n, vi y2] (.ag (qa2278 r2)) [(32, .ag (qa2278 r2)), (31, vi y2), (30, vi p3.scale), (29, .one (.pv (.rp [(qa2275 p3)] 0 2))), (28, vi (if p3.scale > p2.scale then p3.scale else p2.scale)), (27, vi p3.n), (26, .one (.pv (.rp [(qa2275 p3)] 0 1))), (25, .ag (qa2279 r1)), (24, vi y1), (23, vi p2.scale), (22, .one (.pv (.rp [(qa2274 p2)] 0 2))), (21, vi (if p3.scale > p2.scale then p3.scale else p2.scale)), (20, vi p2.n), (19, .one (.pv (.rp [(qa2274 p2)] 0 1))), (0, vi p1), (5, .one (.pv (.rp [(qa2274 p2)] 0 0))), (6, .one (.pv (.rp [(qa2275 p3)] 0 0))), (7, .one (.pv (.rp [(qa2276 p4)] 0 0))), (8, .one (.pt 0 0 0 0)), (9, vi (if p3.scale > p2.scale then p3.scale else p2.scale))] [] (by kernel_rfl) (by kernel_rfl) (c_value_scaled _ _ _ c7) rfl rfl (by kernel_rfl) (by kernel_rfl) (by kernel_rfl) ?_
  refine GY.new true 1 [] [(10, .one (.pt 1 0 0 0)), (32, .ag (qa2278 r2)), (31, vi y2), (30, vi p3.scale), (29, .one (.pv (.rp [(qa2275 p3)] 0 2))), (28, vi (if p3.scale > p2.scale then p3.scale else p2.scale)), (27, vi p3.n), (26, .one (.pv (.rp [(qa2275 p3)] 0 1))), (25, .ag (qa2279 r1)), (24, vi y1), (23, vi p2.scale), (22, .one (.pv (.rp [(qa2274 p2)] 0 2))), (21, vi (if p3.scale > p2.scale then p3.scale else p2.scale)), (20, vi p2.n), (19, .one (.pv (.rp [(qa2274 p2)] 0 1))), (0, vi p1), (5, .one (.pv (.rp [(qa2274 p2)] 0 0))), (6, .one (.pv (.rp [(qa2275 p3)] 0 0))), (7, .one (.pv (.rp [(qa2276 p4)] 0 0))), (8, .one (.pt 0 0 0 0)), (9, vi (if p3.scale > p2.scale then p3.scale else p2.scale))] [1] [.box qa2277, .box qa2280, .dead] [] (by kernel_rfl) (by kernel_rfl) trivial ?_
  refine GY.new true 2 [] (qa2298 p1 p2 p3 p4 y1 r1 y2 r2) [2] [.box qa2277, .box qa2280, .box qa2280] [] (by kernel_rfl) (by kernel_rfl) trivial ?_
  exact GY.done (by kernel_rfl) (by kernel_rfl)
 refine zg [8, 10, 11, 12, 13] 2 [0,5,6,7,8,10,11] (zd (hK3 _ _ (zq fun K8 hK8 => zq fun K9 hK9 => zr (zg [8, 10, 11, 12, 13] 1 [0,5,6,7,8,10,11,33] (zd ?_)))))
 refine hK9 _ _ (zb 0 (zq fun K10 hK10 => zr ?_))
 refine zv [8, 10, 11, 12, 13] 2 [0,5,6,7,8,10,11,33,34] [] [(0, vi p1), (5, .one (.pv (.rp [(qa2274 p2)] 0 0))), (6, .one (.pv (.rp [(qa2275 p3)] 0 0))), (7, .one (.pv (.rp [(qa2276 p4)] 0 0))), (8, .one (.pt 0 0 0 0)), (10, .one (.pt 1 0 0 0)), (11, .one (.pt 2 0 0 0)), (33, vi p1), (34, vb (p1 == (1 : Int)))] (qa2305 r1 r2) ?_
 refine zd (hK10 _ _ (zC h (fun b11 h => ?_) (fun b11 h => ?_)))
 ·refine zq fun K12 hK12 => ?_
  obtain ⟨r3, c13, h⟩ := zB h
  obtain ⟨r4, c14, h⟩ := zB h
  refine zw 7 (qa2306 p1 p2 p3 p4 r1 r2 r3) ?_ ?_
  ·refine zyu 4 [(qa2276 p4)] (zya (c_value_wide_plus BIG _ _ _ c13) ?_)
   refine zyv 2 [(qa2276 p4)] (qa2306 p1 p2 p3 p4 r1 r2 r3) ?_
   exact zyd
  refine za (c_value_made _ _ _ _ c14) (zg [8, 10, 11, 12, 13] 1 [8] (zd (hK12 _ _ (ze ?_))))
  obtain rfl := Option.some.inj h
  exact zf [.ag [ci r4.kind, ci r4.n, ci r4.scale, cst r4.s, cl eValue r4.items]] (.ag (.cons (.rfl _ rfl) (.cons (.rfl _ rfl) (.cons (.rfl _ rfl) (.cons (.rfl _ rfl) (.cons (.rfl _ rfl) .nil))))))
 ·refine zq fun K15 hK15 => zr ?_
  refine zv [8, 10, 11, 12, 13] 2 [0,5,6,7,8,10,11,33,44] [] [(0, vi p1), (5, .one (.pv (.rp [(qa2274 p2)] 0 0))), (6, .one (.pv (.rp [(qa2275 p3)] 0 0))), (7, .one (.pv (.rp [(qa2276 p4)] 0 0))), (8, .one (.pt 0 0 0 0)), (10, .one (.pt 1 0 0 0)), (11, .one (.pt 2 0 0 0)), (33, vi p1), (44, vb (p1 == (2 : Int)))] (qa2305 r1 r2) ?_
  refine zd (hK15 _ _ (zC h (fun b16 h => ?_) (fun b16 h => ?_)))
  ·refine zq fun K17 hK17 => ?_
   obtain ⟨r5, c18, h⟩ := zB h
   obtain ⟨r6, c19, h⟩ := zB h
   refine zw 7 (qa2308 p1 p2 p3 p4 r1 r2 r5) ?_ ?_
   ·refine zyu 4 [(qa2276 p4)] (zya (c_value_wide_minus BIG _ _ _ c18) ?_)
    refine zyv 2 [(qa2276 p4)] (qa2308 p1 p2 p3 p4 r1 r2 r5) ?_
    exact zyd
   refine za (c_value_made _ _ _ _ c19) (zg [8, 10, 11, 12, 13] 1 [8] (zd (hK17 _ _ (ze ?_))))
   obtain rfl := Option.some.inj h
   exact zf [.ag [ci r6.kind, ci r6.n, ci r6.scale, cst r6.s, cl eValue r6.items]] (.ag (.cons (.rfl _ rfl) (.cons (.rfl _ rfl) (.cons (.rfl _ rfl) (.cons (.rfl _ rfl) (.cons (.rfl _ rfl) .nil))))))
  ·refine zq fun K20 hK20 => zr ?_
   refine zv [8, 10, 11, 12, 13] 2 [0,5,6,7,8,10,11,54] [] [(0, vi p1), (5, .one (.pv (.rp [(qa2274 p2)] 0 0))), (6, .one (.pv (.rp [(qa2275 p3)] 0 0))), (7, .one (.pv (.rp [(qa2276 p4)] 0 0))), (8, .one (.pt 0 0 0 0)), (10, .one (.pt 1 0 0 0)), (11, .one (.pt 2 0 0 0)), (54, vb (p1 == (3 : Int)))] (qa2305 r1 r2) ?_
   refine zd (hK20 _ _ (zC h (fun b21 h => ?_) (fun b21 h => ?_)))
   ·refine zq fun K22 hK22 => ?_
    obtain ⟨r7, c23, h⟩ := zB h
    obtain ⟨r8, c24, h⟩ := zB h
    obtain ⟨r9, c25, h⟩ := zB h
    refine zw 17 [(72, vi p4.scale), (71, .one (.pv (.rp [(qa2276 p4)] 0 1))), (70, .ag [cb r8.neg, ck .u64 r8.size.1, ck .u64 r8.size.2.1, ck .u64 r8.size.2.2.1, ck .u64 r8.size.2.2.2]), (69, vi p4.scale), (68, .one (.pv (.rp [(qa2276 p4)] 0 1))), (67, vi (IntKind.i64.wrap (p2.scale + p3.scale))), (66, vi p3.scale), (65, .one (.pv (.rp [(qa2275 p3)] 0 2))), (64, vi p2.scale), (63, .one (.pv (.rp [(qa2274 p2)] 0 2))), (62, .ag (qa2286 r7)), (61, vi p3.n), (60, .one (.pv (.rp [(qa2275 p3)] 0 1))), (59, vi p2.n), (58, .one (.pv (.rp [(qa2274 p2)] 0 1))), (57, vi p4.kind), (56, .one (.pv (.rp [(qa2276 p4)] 0 0))), (0, vi p1), (5, .one (.pv (.rp [(qa2274 p2)] 0 0))), (6, .one (.pv (.rp [(qa2275 p3)] 0 0))), (7, .one (.pv (.rp [(qa2276 p4)] 0 0))), (8, .one (.pt 0 0 0 0)), (10, .one (.pt 1 0 0 0)), (11, .one (.pt 2 0 0 0)), (54, vb (p1 == (3 : Int)))] ?_ ?_
    ·refine zyu 6 [(qa2276 p4), (qa2274 p2), (qa2275 p3)] (zya (c_value_product _ _ _ c23) ?_)
     refine zyv 7 [(qa2274 p2), (qa2275 p3), (qa2276 p4)] [(69, vi p4.scale), (68, .one (.pv (.rp [(qa2276 p4)] 0 1))), (67, vi (IntKind.i64.wrap (p2.scale + p3.scale))), (66, vi p3.scale), (65, .one (.pv (.rp [(qa2275 p3)] 0 2))), (64, vi p2.scale), (63, .one (.pv (.rp [(qa2274 p2)] 0 2))), (62, .ag (qa2286 r7)), (61, vi p3.n), (60, .one (.pv (.rp [(qa2275 p3)] 0 1))), (59, vi p2.n), (58, .one (.pv (.rp [(qa2274 p2)] 0 1))), (57, vi p4.kind), (56, .one (.pv (.rp [(qa2276 p4)] 0 0))), (0, vi p1), (5, .one (.pv (.rp [(qa2274 p2)] 0 0))), (6, .one (.pv (.rp [(qa2275 p3)] 0 0))), (7, .one (.pv (.rp [(qa2276 p4)] 0 0))), (8, .one (.pt 0 0 0 0)), (10, .one (.pt 1 0 0 0)), (11, .one (.pt 2 0 0 0)), (54, vb (p1 == (3 : Int)))] ?_
     exact zya (c_value_rescaled _ _ _ _ c24) (zyu 2 [(qa2276 p4)] zyd)
    refine za (c_value_made _ _ _ _ c25) (zg [8, 10, 11, 12, 13] 1 [8] (zd (hK22 _ _ (ze ?_))))
    obtain rfl := Option.some.inj h
    exact zf [.ag [ci r9.kind, ci r9.n, ci r9.scale, cst r9.s, cl eValue r9.items]] (.ag (.cons (.rfl _ rfl) (.cons (.rfl _ rfl) (.cons (.rfl _ rfl) (.cons (.rfl _ rfl) (.cons (.rfl _ rfl) .nil))))))
   ·refine zs (hK8 _ _ (zq fun K26 hK26 => zq fun K27 hK27 => ?_))
    obtain ⟨r10, c28, h⟩ := zB h
    refine zr ?_
    refine zv [8, 10, 11, 12, 13] 1 [0,7,8,10,11,74] [] [(0, vi p1), (7, .one (.pv (.rp [(qa2276 p4)] 0 0))), (8, .one (.pt 0 0 0 0)), (10, .one (.pt 1 0 0 0)), (11, .one (.pt 2 0 0 0)), (74, .ag (qa2278 r2))] (qa2305 r1 r2) ?_
    refine za (c_value_wide_zero _ _ c28) (zd (hK27 _ _ (zC h (fun b29 h => ?_) (fun b29 h => ?_))))
    ·refine zq fun K30 hK30 => zr (zg [8, 10, 11, 12, 13] 2 [8] (zd (hK30 _ _ (ze ?_))))
     obtain rfl := Option.some.inj h
     exact zf [.ag qa2277] (.ag (.cons (.rfl _ rfl) (.cons (.rfl _ rfl) (.cons (.rfl _ rfl) (.cons (.rfl _ rfl) (.cons (.nl) .nil))))))
    ·refine zs (hK26 _ _ (zq fun K31 hK31 => ?_))
     obtain ⟨r11, c32, h⟩ := zB h
     refine zr ?_
     refine zv [8, 10, 11, 12, 13] 2 [0,7,8,10,11,78,79] [] [(0, vi p1), (7, .one (.pv (.rp [(qa2276 p4)] 0 0))), (8, .one (.pt 0 0 0 0)), (10, .one (.pt 1 0 0 0)), (11, .one (.pt 2 0 0 0)), (78, .ag (qa2279 r1)), (79, .ag (qa2278 r2))] (qa2305 r1 r2) ?_
     refine za (c_value_wide_quo _ _ _ c32) (zg [8, 10, 11, 12, 13] 7 [0,7,8,10,11,12,13] (zd (hK31 _ _ (zq fun K33 hK33 => zb 1 (zq fun K34 hK34 => zr ?_)))))
     refine zv [8, 10, 11, 12, 13] 3 [7,8,10,11,12,13,83] [] [(7, .one (.pv (.rp [(qa2276 p4)] 0 0))), (8, .one (.pt 0 0 0 0)), (10, .one (.pt 1 0 0 0)), (11, .one (.pt 2 0 0 0)), (12, .one (.pt 3 0 0 0)), (13, .one (.pt 4 0 0 0)), (83, vb (p1 == (5 : Int)))] [.box qa2277, .box (qa2279 r1), .box (qa2278 r2), .box (qa2288 r11), .box (qa2289 r11)] ?_
     refine zd (hK34 _ _ (zC h (fun b35 h => ?_) (fun b35 h => ?_)))
     ·refine zq fun K36 hK36 => ?_
      obtain ⟨r12, c37, h⟩ := zB h
      refine zr (zu [8, 10, 11, 12, 13] 5 [8,87,88,90] [(qa2276 p4), (qa2276 p4)] (za (c_value_made _ _ _ _ c37) ?_))
      refine zv [8, 10, 11, 12, 13] 1 [8] [] [(8, .one (.pt 0 0 0 0))] [.box [ci r12.kind, ci r12.n, ci r12.scale, cst r12.s, cl eValue r12.items], .box (qa2279 r1), .box (qa2278 r2), .box (qa2288 r11), .box (qa2289 r11)] (zd ?_)
      refine hK36 _ _ (ze ?_)
      obtain rfl := Option.some.inj h
      exact zf [.ag [ci r12.kind, ci r12.n, ci r12.scale, cst r12.s, cl eValue r12.items]] (.ag (.cons (.rfl _ rfl) (.cons (.rfl _ rfl) (.cons (.rfl _ rfl) (.cons (.rfl _ rfl) (.cons (.rfl _ rfl) .nil))))))
     ·refine zq fun K38 hK38 => zr (zu [8, 10, 11, 12, 13] 4 [7,8,10,11,12,92] [(qa2276 p4)] (zd (hK38 _ _ (zC h (fun b39 h => ?_) (fun b39 h => ?_)))))
      ·refine zq fun K40 hK40 => ?_
       obtain ⟨r13, c41, h⟩ := zB h
       refine zr (zu [8, 10, 11, 12, 13] 5 [8,97,98,100] [(qa2276 p4), (qa2276 p4)] ?_)
       refine zl 47 [vi p4.kind, .ag (qa2288 r11), vi p4.scale] (.ag (qa2292 r13)) [(101, .ag (qa2292 r13)), (8, .one (.pt 0 0 0 0)), (97, vi p4.kind), (98, .ag (qa2288 r11)), (100, vi p4.scale)] (c_value_made _ _ _ _ c41) (zg [8, 10, 11, 12, 13] 1 [8] (zd (hK40 _ _ (ze ?_))))
       obtain rfl := Option.some.inj h
       exact zf [.ag (qa2292 r13)] (.ag (.cons (.rfl _ rfl) (.cons (.rfl _ rfl) (.cons (.rfl _ rfl) (.cons (.rfl _ rfl) (.cons (.rfl _ rfl) .nil))))))
      ·refine zs (hK33 _ _ (zq fun K42 hK42 => ?_))
       obtain ⟨r14, c43, h⟩ := zB h
       obtain ⟨r15, c44, h⟩ := zB h
       obtain ⟨r16, c45, h⟩ := zB h
       refine zw 10 (qa2318 p4 r1 r2 r14 r15) ?_ ?_
       ·refine zyu 5 [(qa2276 p4), (qa2276 p4)] ?_
        refine DX.cal 51 [.ag (qa2279 r1), vi p4.scale] (.ag (qa2294 r14)) [(107, .ag (qa2294 r14)), (106, vi p4.scale), (105, .one (.pv (.rp [(qa2276 p4)] 0 1))), (104, .ag (qa2279 r1)), (103, vi p4.kind), (102, .one (.pv (.rp [(qa2276 p4)] 0 0))), (7, .one (.pv (.rp [(qa2276 p4)] 0 0))), (8, .one (.pt 0 0 0 0)), (10, .one (.pt 1 0 0 0)), (11, .one (.pt 2 0 0 0)), (12, .one (.pt 3 0 0 0)), (92, vb (p4.kind == (2 : Int)))] (by kernel_rfl) (c_value_wide_shifted _ _ _ c43) rfl rfl (by kernel_rfl) ?_
        refine zyg 1 (zya (c_value_wide_rounded _ _ _ c44) ?_)
        refine zyv 2 [(qa2276 p4)] (qa2318 p4 r1 r2 r14 r15) ?_
        exact zyd
       refine za (c_value_made _ _ _ _ c45) ?_
       refine zv [8, 10, 11, 12, 13] 1 [8] [] [(8, .one (.pt 0 0 0 0))] [.box [ci r16.kind, ci r16.n, ci r16.scale, cst r16.s, cl eValue r16.items], .box (qa2279 r1), .box (qa2278 r2), .box (qa2288 r11), .box (qa2289 r11)] (zd ?_)
       refine hK42 _ _ (ze ?_)
       obtain rfl := Option.some.inj h
       exact zf [.ag [ci r16.kind, ci r16.n, ci r16.scale, cst r16.s, cl eValue r16.items]] (.ag (.cons (.rfl _ rfl) (.cons (.rfl _ rfl) (.cons (.rfl _ rfl) (.cons (.rfl _ rfl) (.cons (.rfl _ rfl) .nil))))))

def value_Compute_j2 (p1 : Int) (p2 : GValue) (p3 : GValue) (x2 : Bool) : Option GValue :=
    ift x2
      (some (GValue.mk (0 : Int) (0 : Int) (0 : Int) ByteArray.empty []))
      (bnd (value_kindOf p2) fun r5 =>
       bnd (value_kindOf p3) fun r6 =>
       bnd (value_result p1 r5 r6) fun r7 =>
       ift (!r7.2)
         (some (GValue.mk (0 : Int) (0 : Int) (0 : Int) ByteArray.empty []))
         (bnd (value_compute p1 p2 p3 r7.1) fun r8 =>
          some r8))

def value_Compute_j1 (p1 : Int) (p2 : GValue) (p3 : GValue) (x1 : Bool) : Option GValue :=
    ift x1
      (some (GValue.mk (0 : Int) (0 : Int) (0 : Int) ByteArray.empty []))
      (ift (decide (p1 < (1 : Int)))
         (value_Compute_j2 p1 p2 p3 true)
         (value_Compute_j2 p1 p2 p3 (decide ((5 : Int) < p1))))

def value_Compute (p1 : Int) (p2 : GValue) (p3 : GValue) : Option GValue :=
    ift (p1 == (6 : Int))
      (bnd (value_logic p2 p3 (0 : Int)) fun r1 =>
       some r1)
      (ift (p1 == (7 : Int))
         (bnd (value_logic p2 p3 (1 : Int)) fun r2 =>
          some r2)
         (bnd (value_Sound p2) fun r3 =>
          ift (!r3)
            (value_Compute_j1 p1 p2 p3 true)
            (bnd (value_Sound p3) fun r4 =>
             ift (!r4)
               (value_Compute_j1 p1 p2 p3 true)
               (ift (p2.kind == (0 : Int))
                  (value_Compute_j1 p1 p2 p3 true)
                  (value_Compute_j1 p1 p2 p3 (p3.kind == (0 : Int)))))))

abbrev qa2321 (p2 : GValue) : List CV := [ci p2.kind, ci p2.n, ci p2.scale, cst p2.s, cl eValue p2.items]
abbrev qa2322 (p3 : GValue) : List CV := [ci p3.kind, ci p3.n, ci p3.scale, cst p3.s, cl eValue p3.items]
abbrev qa2324 (p2 : GValue) : List PV := [pi p2.kind, pi p2.n, pi p2.scale, .s (.string p2.s), .ro (eValue.els p2.items)]
abbrev qa2325 (p3 : GValue) : List PV := [pi p3.kind, pi p3.n, pi p3.scale, .s (.string p3.s), .ro (eValue.els p3.items)]
abbrev qa2326 : List CV := [ci (0 : Int), ci (0 : Int), ci (0 : Int), cst ByteArray.empty, .pv (.s (.slice none 0 0))]
abbrev qa2329 (r2 : GValue) : List CV := [ci r2.kind, ci r2.n, ci r2.scale, cst r2.s, cl eValue r2.items]
abbrev qa2330 (r7 : (GType × Bool)) : List CV := [ci r7.1.kind, ci r7.1.scale, cl eField r7.1.fields]
abbrev qa2331 (r6 : GType) : List CV := [ci r6.kind, ci r6.scale, cl eField r6.fields]
abbrev qa2332 (r5 : GType) : List CV := [ci r5.kind, ci r5.scale, cl eField r5.fields]
abbrev qa2334 (r8 : GValue) : List CV := [ci r8.kind, ci r8.n, ci r8.scale, cst r8.s, cl eValue r8.items]
abbrev qa2336 : St := [.box qa2326]
abbrev qa2341 (p1 : Int) (p2 : GValue) (p3 : GValue) (x2 : Bool) (r5 : GType) (r6 : GType) (r7 : (GType × Bool)) : Fr := [(7, .one (.pt 1 0 0 0)), (54, vb r7.2), (53, .ag (qa2330 r7)), (46, .tp [.ag (qa2330 r7), vb r7.2]), (52, .tp [.ag (qa2330 r7), vb r7.2]), (51, .ag (qa2331 r6)), (50, .ag (qa2322 p3)), (49, .ag (qa2332 r5)), (48, .ag (qa2321 p2)), (47, vi p1), (0, vi p1), (4, .one (.pv (.rp [(qa2324 p2)] 0 0))), (5, .one (.pv (.rp [(qa2325 p3)] 0 0))), (6, .one (.pt 0 0 0 0)), (44, vb x2)]
abbrev qa2354 (p1 : Int) (p2 : GValue) (p3 : GValue) : Fr := [(0, vi p1), (4, .one (.pv (.rp [(qa2324 p2)] 0 0))), (5, .one (.pv (.rp [(qa2325 p3)] 0 0))), (6, .one (.pt 0 0 0 0)), (20, .ag (qa2321 p2))]
abbrev qa2355 (p1 : Int) (p2 : GValue) (p3 : GValue) : Fr := [(0, vi p1), (4, .one (.pv (.rp [(qa2324 p2)] 0 0))), (5, .one (.pv (.rp [(qa2325 p3)] 0 0))), (6, .one (.pt 0 0 0 0)), (23, vb false), (24, .ag (qa2322 p3))]

theorem c_value_Compute (p1 : Int) (p2 : GValue) (p3 : GValue) (r : GValue) (h : value_Compute p1 p2 p3 = some r) : PC Tryd.prog 22 [vi p1, .ag (qa2321 p2), .ag (qa2322 p3)] (.ag [ci r.kind, ci r.n, ci r.scale, cst r.s, cl eValue r.items]) := by
 unfold value_Compute at h
 refine zF 63 Tryd.f22 (zq fun K1 hK1 => zr (zg [6, 7] 3 [0,4,5,6] (zd (hK1 _ _ (zq fun K2 hK2 => zq fun K3 hK3 => ?_)))))
 refine zr (zg [6, 7] 1 [0,4,5,6,9] (zd (hK3 _ _ (zb 0 (zq fun K4 hK4 => zr (zv [6, 7] 2 [0,4,5,6,9,10] [] [(0, vi p1), (4, .one (.pv (.rp [(qa2324 p2)] 0 0))), (5, .one (.pv (.rp [(qa2325 p3)] 0 0))), (6, .one (.pt 0 0 0 0)), (9, vi p1), (10, vb (p1 == (6 : Int)))] qa2336 ?_))))))
 refine zd (hK4 _ _ (zC h (fun b5 h => ?_) (fun b5 h => ?_)))
 ·refine zq fun K6 hK6 => ?_
  obtain ⟨r1, c7, h⟩ := zB h
  refine zr (zu [6, 7] 2 [6,12,13] [(qa2324 p2), (qa2325 p3)] (za (c_value_logic _ _ _ _ c7) (zv [6, 7] 1 [6] [] [(6, .one (.pt 0 0 0 0))] [.box [ci r1.kind, ci r1.n, ci r1.scale, cst r1.s, cl eValue r1.items]] (zd (hK6 _ _ (ze ?_))))))
  obtain rfl := Option.some.inj h
  exact zf [.ag [ci r1.kind, ci r1.n, ci r1.scale, cst r1.s, cl eValue r1.items]] (.ag (.cons (.rfl _ rfl) (.cons (.rfl _ rfl) (.cons (.rfl _ rfl) (.cons (.rfl _ rfl) (.cons (.rfl _ rfl) .nil))))))
 ·refine zq fun K8 hK8 => zr (zg [6, 7] 2 [0,4,5,6,15] (zd (hK8 _ _ (zC h (fun b9 h => ?_) (fun b9 h => ?_)))))
  ·refine zq fun K10 hK10 => ?_
   obtain ⟨r2, c11, h⟩ := zB h
   refine zr (zu [6, 7] 2 [6,17,18] [(qa2324 p2), (qa2325 p3)] ?_)
   refine zl 58 [.ag (qa2321 p2), .ag (qa2322 p3), vi (1 : Int)] (.ag (qa2329 r2)) [(19, .ag (qa2329 r2)), (6, .one (.pt 0 0 0 0)), (17, .ag (qa2321 p2)), (18, .ag (qa2322 p3))] (c_value_logic _ _ _ _ c11) (zg [6, 7] 1 [6] (zd (hK10 _ _ (ze ?_))))
   obtain rfl := Option.some.inj h
   exact zf [.ag (qa2329 r2)] (.ag (.cons (.rfl _ rfl) (.cons (.rfl _ rfl) (.cons (.rfl _ rfl) (.cons (.rfl _ rfl) (.cons (.rfl _ rfl) .nil))))))
  ·refine zs (hK2 _ _ (zq fun K12 hK12 => zq fun K13 hK13 => ?_))
   have hJ1 : ∀ (x1 : Bool), value_Compute_j1 p1 p2 p3 x1 = some r → ∀ fr1 st1, Sub 63 0 [] fr1 st1 [(0, vi p1), (4, .one (.pv (.rp [(qa2324 p2)] 0 0))), (5, .one (.pv (.rp [(qa2325 p3)] 0 0))), (6, .one (.pt 0 0 0 0)), (37, vb x1)] qa2336 → K13 fr1 st1 := by
    intro x1 h fr1 st1 hS
    unfold value_Compute_j1 at h
    refine hK13 _ _ (XW.sub hS ?_)
    refine zC h (fun b19 h => ?_) (fun b19 h => ?_)
    ·refine zq fun K20 hK20 => zr (zg [6, 7] 2 [6] (zd (hK20 _ _ (ze ?_))))
     obtain rfl := Option.some.inj h
     exact zf [.ag qa2326] (.ag (.cons (.rfl _ rfl) (.cons (.rfl _ rfl) (.cons (.rfl _ rfl) (.cons (.rfl _ rfl) (.cons (.nl) .nil))))))
    ·refine zs (hK12 _ _ (zq fun K21 hK21 => zq fun K22 hK22 => ?_))
     have hJ2 : ∀ (x2 : Bool), value_Compute_j2 p1 p2 p3 x2 = some r → ∀ fr1 st1, Sub 63 0 [] fr1 st1 [(0, vi p1), (4, .one (.pv (.rp [(qa2324 p2)] 0 0))), (5, .one (.pv (.rp [(qa2325 p3)] 0 0))), (6, .one (.pt 0 0 0 0)), (44, vb x2)] qa2336 → K22 fr1 st1 := by
      intro x2 h fr1 st1 hS
      unfold value_Compute_j2 at h
      refine hK22 _ _ (XW.sub hS ?_)
      refine zC h (fun b24 h => ?_) (fun b24 h => ?_)
      ·refine zq fun K25 hK25 => zr (zg [6, 7] 2 [6] (zd (hK25 _ _ (ze ?_))))
       obtain rfl := Option.some.inj h
       exact zf [.ag qa2326] (.ag (.cons (.rfl _ rfl) (.cons (.rfl _ rfl) (.cons (.rfl _ rfl) (.cons (.rfl _ rfl) (.cons (.nl) .nil))))))
      ·refine zs (hK21 _ _ (zq fun K26 hK26 => ?_))
       obtain ⟨r5, c27, h⟩ := zB h
       obtain ⟨r6, c28, h⟩ := zB h
       obtain ⟨r7, c29, h⟩ := zB h
       refine XW.sub (Sub.dead 1) ?_
       refine XW.drwG 11 [1, 2] [([], []), ([], []), ([], []), ([], []), ([], []), ([], []), ([], []), ([], []), ([], []), ([1], [1]), ([1], [1])] (qa2341 p1 p2 p3 x2 r5 r6 r7) [.box qa2326, .box (qa2330 r7)] (by kernel_rfl) (by kernel_rfl) ?_ ?_
       ·refine zgv 2 [(qa2324 p2)] [(48, .ag (qa2321 p2)), (47, vi p1), (0, vi p1), (4, .one (.pv (.rp [(qa2324 p2)] 0 0))), (5, .one (.pv (.rp [(qa2325 p3)] 0 0))), (6, .one (.pt 0 0 0 0)), (44, vb x2)] ?_
        refine GY.cal 60 [.ag (qa2321 p2)] (.ag (qa2332 r5)) [(49, .ag (qa2332 r5)), (48, .ag (qa2321 p2)), (47, vi p1), (0, vi p1), (4, .one (.pv (.rp [(qa2324 p2)] 0 0))), (5, .one (.pv (.rp [(qa2325 p3)] 0 0))), (6, .one (.pt 0 0 0 0)), (44, vb x2)] [] (by kernel_rfl) (by kernel_rfl) (c_value_kindOf _ _ c27) rfl rfl (by kernel_rfl) (by kernel_rfl) (by kernel_rfl) ?_
        refine zgv 1 [(qa2325 p3)] [(50, .ag (qa2322 p3)), (49, .ag (qa2332 r5)), (48, .ag (qa2321 p2)), (47, vi p1), (0, vi p1), (4, .one (.pv (.rp [(qa2324 p2)] 0 0))), (5, .one (.pv (.rp [(qa2325 p3)] 0 0))), (6, .one (.pt 0 0 0 0)), (44, vb x2)] ?_
        refine GY.cal 60 [.ag (qa2322 p3)] (.ag (qa2331 r6)) [(51, .ag (qa2331 r6)), (50, .ag (qa2322 p3)), (49, .ag (qa2332 r5)), (48, .ag (qa2321 p2)), (47, vi p1), (0, vi p1), (4, .one (.pv (.rp [(qa2324 p2)] 0 0))), (5, .one (.pv (.rp [(qa2325 p3)] 0 0))), (6, .one (.pt 0 0 0 0)), (44, vb x2)] [] (by kernel_rfl) (by kernel_rfl) (c_value_kindOf _ _ c28) rfl rfl (by kernel_rfl) (by kernel_rfl) (by kernel_rfl) ?_
        refine GY.cal 59 [vi p1, .ag (qa2332 r5), .ag (qa2331 r6)] (.tp [.ag (qa2330 r7), vb r7.2]) [(52, .tp [.ag (qa2330 r7), vb r7.2]), (51, .ag (qa2331 r6)), (50, .ag (qa2322 p3)), (49, .ag (qa2332 r5)), (48, .ag (qa2321 p2)), (47, vi p1), (0, vi p1), (4, .one (.pv (.rp [(qa2324 p2)] 0 0))), (5, .one (.pv (.rp [(qa2325 p3)] 0 0))), (6, .one (.pt 0 0 0 0)), (44, vb x2)] [] (by kernel_rfl) (by kernel_rfl) (c_value_result _ _ _ _ c29) rfl rfl (by kernel_rfl) (by kernel_rfl) (by kernel_rfl) ?_
        refine zgv 3 [] [(54, vb r7.2), (53, .ag (qa2330 r7)), (46, .tp [.ag (qa2330 r7), vb r7.2]), (52, .tp [.ag (qa2330 r7), vb r7.2]), (51, .ag (qa2331 r6)), (50, .ag (qa2322 p3)), (49, .ag (qa2332 r5)), (48, .ag (qa2321 p2)), (47, vi p1), (0, vi p1), (4, .one (.pv (.rp [(qa2324 p2)] 0 0))), (5, .one (.pv (.rp [(qa2325 p3)] 0 0))), (6, .one (.pt 0 0 0 0)), (44, vb x2)] ?_
        refine GY.new true 1 [] (qa2341 p1 p2 p3 x2 r5 r6 r7) [1] [.box qa2326, .box [ci (0 : Int), ci (0 : Int), .pv (.s (.slice none 0 0))]] [] (by kernel_rfl) (by kernel_rfl) trivial ?_
        refine GY.wr [] (qa2341 p1 p2 p3 x2 r5 r6 r7) [1] [.box qa2326, .box (qa2330 r7)] [] (by kernel_rfl) (by kernel_rfl) trivial ?_
        exact GY.done (by kernel_rfl) (by kernel_rfl)
       refine zg [6, 7] 1 [0,4,5,6,7,8] (zd (hK26 _ _ (zq fun K30 hK30 => zq fun K31 hK31 => zr (zv [6, 7] 2 [0,4,5,6,7,56] [] [(0, vi p1), (4, .one (.pv (.rp [(qa2324 p2)] 0 0))), (5, .one (.pv (.rp [(qa2325 p3)] 0 0))), (6, .one (.pt 0 0 0 0)), (7, .one (.pt 1 0 0 0)), (56, vb (!r7.2))] [.box qa2326, .box (qa2330 r7)] (zd ?_)))))
       refine hK31 _ _ (zC h (fun b32 h => ?_) (fun b32 h => ?_))
       ·refine zq fun K33 hK33 => zr (zg [6, 7] 2 [6] (zd (hK33 _ _ (ze ?_))))
        obtain rfl := Option.some.inj h
        exact zf [.ag qa2326] (.ag (.cons (.rfl _ rfl) (.cons (.rfl _ rfl) (.cons (.rfl _ rfl) (.cons (.rfl _ rfl) (.cons (.nl) .nil))))))
       ·refine zs (hK30 _ _ (zq fun K34 hK34 => ?_))
        obtain ⟨r8, c35, h⟩ := zB h
        refine zr (zu [6, 7] 4 [6,58,59,60,61] [(qa2324 p2), (qa2325 p3)] ?_)
        refine zl 61 [vi p1, .ag (qa2321 p2), .ag (qa2322 p3), .ag (qa2330 r7)] (.ag (qa2334 r8)) [(62, .ag (qa2334 r8)), (6, .one (.pt 0 0 0 0)), (58, vi p1), (59, .ag (qa2321 p2)), (60, .ag (qa2322 p3)), (61, .ag (qa2330 r7))] (c_value_compute _ _ _ _ _ c35) ?_
        refine zg [6, 7] 1 [6] (zd (hK34 _ _ (ze ?_)))
        obtain rfl := Option.some.inj h
        exact zf [.ag (qa2334 r8)] (.ag (.cons (.rfl _ rfl) (.cons (.rfl _ rfl) (.cons (.rfl _ rfl) (.cons (.rfl _ rfl) (.cons (.rfl _ rfl) .nil))))))
     rcases zW h with ⟨b23, h⟩ | ⟨b23, h⟩
     ·exact zr (zg [6, 7] 3 [0,4,5,6,41] (zt 41 b23 (zv [6, 7] 3 [0,4,5,6,44] [] [(0, vi p1), (4, .one (.pv (.rp [(qa2324 p2)] 0 0))), (5, .one (.pv (.rp [(qa2325 p3)] 0 0))), (6, .one (.pt 0 0 0 0)), (44, vb true)] qa2336 (zd (hJ2 true h _ _ (zk [0,4,5,6,44]))))))
     ·exact zr (zg [6, 7] 3 [0,4,5,6,41] (zt 41 b23 (zg [6, 7] 3 [0,4,5,6,44] (zd (hJ2 (decide ((5 : Int) < p1)) h _ _ (zk [0,4,5,6,44]))))))
   obtain ⟨r3, c14, h⟩ := zB h
   rcases zW h with ⟨b15, h⟩ | ⟨b15, h⟩
   ·refine zr (zu [6, 7] 1 [0,4,5,6,20] [(qa2324 p2)] (zl 9 [.ag (qa2321 p2)] (vb r3) [(21, vb r3), (0, vi p1), (4, .one (.pv (.rp [(qa2324 p2)] 0 0))), (5, .one (.pv (.rp [(qa2325 p3)] 0 0))), (6, .one (.pt 0 0 0 0)), (20, .ag (qa2321 p2))] (c_value_Sound _ _ c14) ?_))
    exact zg [6, 7] 2 [0,4,5,6,23] (zt 23 b15 (zg [6, 7] 14 [0,4,5,6,37] (zd (hJ1 true h _ _ (zk [0,4,5,6,37])))))
   ·obtain ⟨r4, c16, h⟩ := zB h
    rcases zW h with ⟨b17, h⟩ | ⟨b17, h⟩
    ·refine zr (zv [6, 7] 1 [0,4,5,6,20] [(qa2324 p2)] (qa2354 p1 p2 p3) qa2336 (za (c_value_Sound _ _ c14) ?_))
     refine zg [6, 7] 2 [0,4,5,6,23] (zt 23 b15 ?_)
     refine zv [6, 7] 1 [0,4,5,6,23,24] [(qa2325 p3)] (qa2355 p1 p2 p3) qa2336 (za (c_value_Sound _ _ c16) ?_)
     exact zg [6, 7] 3 [0,4,5,6,28] (zt 28 b17 (zv [6, 7] 9 [0,4,5,6,37] [] [(0, vi p1), (4, .one (.pv (.rp [(qa2324 p2)] 0 0))), (5, .one (.pv (.rp [(qa2325 p3)] 0 0))), (6, .one (.pt 0 0 0 0)), (37, vb true)] qa2336 (zd (hJ1 true h _ _ (zk [0,4,5,6,37])))))
    ·rcases zW h with ⟨b18, h⟩ | ⟨b18, h⟩
     ·refine zr (zu [6, 7] 1 [0,4,5,6,20] [(qa2324 p2)] (za (c_value_Sound _ _ c14) (zv [6, 7] 2 [0,4,5,6,23] [] [(0, vi p1), (4, .one (.pv (.rp [(qa2324 p2)] 0 0))), (5, .one (.pv (.rp [(qa2325 p3)] 0 0))), (6, .one (.pt 0 0 0 0)), (23, vb (!r3))] qa2336 (zt 23 b15 ?_))))
      refine zu [6, 7] 1 [0,4,5,6,23,24] [(qa2325 p3)] (za (c_value_Sound _ _ c16) (zv [6, 7] 3 [0,4,5,6,28] [] [(0, vi p1), (4, .one (.pv (.rp [(qa2324 p2)] 0 0))), (5, .one (.pv (.rp [(qa2325 p3)] 0 0))), (6, .one (.pt 0 0 0 0)), (28, vb (!r4))] qa2336 (zt 28 b17 ?_)))
      exact zu [6, 7] 5 [0,4,5,6,33] [(qa2324 p2)] (zt 33 b18 (zg [6, 7] 4 [0,4,5,6,37] (zd (hJ1 true h _ _ (zk [0,4,5,6,37])))))
     ·refine zr (zv [6, 7] 1 [0,4,5,6,20] [(qa2324 p2)] (qa2354 p1 p2 p3) qa2336 (za (c_value_Sound _ _ c14) ?_))
      refine zg [6, 7] 2 [0,4,5,6,23] (zt 23 b15 ?_)
      refine zv [6, 7] 1 [0,4,5,6,23,24] [(qa2325 p3)] (qa2355 p1 p2 p3) qa2336 (za (c_value_Sound _ _ c16) ?_)
      refine zg [6, 7] 3 [0,4,5,6,28] (zt 28 b17 (zv [6, 7] 5 [0,4,5,6,33] [(qa2324 p2)] [(0, vi p1), (4, .one (.pv (.rp [(qa2324 p2)] 0 0))), (5, .one (.pv (.rp [(qa2325 p3)] 0 0))), (6, .one (.pt 0 0 0 0)), (33, vb (p2.kind == (0 : Int)))] qa2336 (zt 33 b18 ?_)))
      exact zu [6, 7] 4 [0,4,5,6,37] [(qa2325 p3)] (zd (hJ1 (p3.kind == (0 : Int)) h _ _ (zk [0,4,5,6,37])))


end Go.Proofs.YtdkmclmdemngfaaDoor
namespace Go.Proofs.YtdkmclmdemngfaaDoor
open Go.SX Go
set_option linter.unusedVariables false
set_option linter.unusedSimpArgs false
set_option maxRecDepth 100000
set_option maxHeartbeats 8000000

def law1_ValueQuotientsAddUp_j3 (x3 : Bool) : Option Bool :=
    some x3

def law1_ValueQuotientsAddUp_j2 (p1 : Int) (p2 : Int) (x2 : Bool) : Option Bool :=
    ift x2
      (some false)
      (bnd (value_Compute (1 : Int) (GValue.mk (2 : Int) p1 (0 : Int) ByteArray.empty []) (GValue.mk (2 : Int) p2 (0 : Int) ByteArray.empty [])) fun r8 =>
       ift (r8.kind == (0 : Int))
         (law1_ValueQuotientsAddUp_j3 true)
         (bnd (value_Compute (2 : Int) r8 (GValue.mk (2 : Int) p2 (0 : Int) ByteArray.empty [])) fun r9 =>
          bnd (law1_exactly BIG r9 (GValue.mk (2 : Int) p1 (0 : Int) ByteArray.empty [])) fun r10 =>
          law1_ValueQuotientsAddUp_j3 r10))

def law1_ValueQuotientsAddUp_j1 (p1 : Int) (p2 : Int) (x1 : Bool) : Option Bool :=
    ift x1
      (some true)
      (bnd (value_Compute (4 : Int) (GValue.mk (2 : Int) p1 (0 : Int) ByteArray.empty []) (GValue.mk (2 : Int) p2 (0 : Int) ByteArray.empty [])) fun r6 =>
       bnd (value_Compute (5 : Int) (GValue.mk (2 : Int) p1 (0 : Int) ByteArray.empty []) (GValue.mk (2 : Int) p2 (0 : Int) ByteArray.empty [])) fun r7 =>
       ift (r6.kind != (2 : Int))
         (law1_ValueQuotientsAddUp_j2 p1 p2 true)
         (ift (r7.kind != (2 : Int))
            (law1_ValueQuotientsAddUp_j2 p1 p2 true)
            (ift ((IntKind.i64.wrap ((IntKind.i64.wrap (r6.n * p2)) + r7.n)) != p1)
               (law1_ValueQuotientsAddUp_j2 p1 p2 true)
               (ift (decide (r7.n ≤ (IntKind.i64.wrap (0 - p2))))
                  (ift (decide ((0 : Int) < p2))
                     (law1_ValueQuotientsAddUp_j2 p1 p2 true)
                     (ift (decide (p2 ≤ r7.n))
                        (ift (decide (p1 < (0 : Int)))
                           (ift (decide ((0 : Int) < r7.n))
                              (law1_ValueQuotientsAddUp_j2 p1 p2 true)
                              (ift (decide ((0 : Int) < p1))
                                 (law1_ValueQuotientsAddUp_j2 p1 p2 (decide (r7.n < (0 : Int))))
                                 (law1_ValueQuotientsAddUp_j2 p1 p2 false)))
                           (ift (decide ((0 : Int) < p1))
                              (law1_ValueQuotientsAddUp_j2 p1 p2 (decide (r7.n < (0 : Int))))
                              (law1_ValueQuotientsAddUp_j2 p1 p2 false)))
                        (ift (decide (p1 < (0 : Int)))
                           (ift (decide ((0 : Int) < r7.n))
                              (law1_ValueQuotientsAddUp_j2 p1 p2 true)
                              (ift (decide ((0 : Int) < p1))
                                 (law1_ValueQuotientsAddUp_j2 p1 p2 (decide (r7.n < (0 : Int))))
                                 (law1_ValueQuotientsAddUp_j2 p1 p2 false)))
                           (ift (decide ((0 : Int) < p1))
                              (law1_ValueQuotientsAddUp_j2 p1 p2 (decide (r7.n < (0 : Int))))
                              (law1_ValueQuotientsAddUp_j2 p1 p2 false)))))
                  (ift (decide (p2 ≤ r7.n))
                     (ift (decide ((0 : Int) < p2))
                        (law1_ValueQuotientsAddUp_j2 p1 p2 true)
                        (ift (decide (p1 < (0 : Int)))
                           (ift (decide ((0 : Int) < r7.n))
                              (law1_ValueQuotientsAddUp_j2 p1 p2 true)
                              (ift (decide ((0 : Int) < p1))
                                 (law1_ValueQuotientsAddUp_j2 p1 p2 (decide (r7.n < (0 : Int))))
                                 (law1_ValueQuotientsAddUp_j2 p1 p2 false)))
                           (ift (decide ((0 : Int) < p1))
                              (law1_ValueQuotientsAddUp_j2 p1 p2 (decide (r7.n < (0 : Int))))
                              (law1_ValueQuotientsAddUp_j2 p1 p2 false))))
                     (ift (decide (p1 < (0 : Int)))
                        (ift (decide ((0 : Int) < r7.n))
                           (law1_ValueQuotientsAddUp_j2 p1 p2 true)
                           (ift (decide ((0 : Int) < p1))
                              (law1_ValueQuotientsAddUp_j2 p1 p2 (decide (r7.n < (0 : Int))))
                              (law1_ValueQuotientsAddUp_j2 p1 p2 false)))
                        (ift (decide ((0 : Int) < p1))
                           (law1_ValueQuotientsAddUp_j2 p1 p2 (decide (r7.n < (0 : Int))))
                           (law1_ValueQuotientsAddUp_j2 p1 p2 false))))))))

def law1_ValueQuotientsAddUp (p1 : Int) (p2 : Int) : Option Bool :=
    bnd (law1_number (7 : Int)) fun r1 =>
    bnd (law1_number (2 : Int)) fun r2 =>
    bnd (value_Compute (4 : Int) r1 r2) fun r3 =>
    bnd (law1_number (3 : Int)) fun r4 =>
    bnd (law1_exactly BIG r3 r4) fun r5 =>
    ift (!r5)
      (some false)
      (ift (decide (p1 < (-999999999999999999 : Int)))
         (law1_ValueQuotientsAddUp_j1 p1 p2 true)
         (ift (decide ((999999999999999999 : Int) < p1))
            (law1_ValueQuotientsAddUp_j1 p1 p2 true)
            (ift (decide (p2 < (-999999999999999999 : Int)))
               (law1_ValueQuotientsAddUp_j1 p1 p2 true)
               (ift (decide ((999999999999999999 : Int) < p2))
                  (law1_ValueQuotientsAddUp_j1 p1 p2 true)
                  (law1_ValueQuotientsAddUp_j1 p1 p2 (p2 == (0 : Int)))))))

abbrev qa2360 (r2 : GValue) : List CV := [ci r2.kind, ci r2.n, ci r2.scale, cst r2.s, cl eValue r2.items]
abbrev qa2366 (p1 : Int) : List CV := [ci (2 : Int), ci p1, ci (0 : Int), cst ByteArray.empty, .pv (.s (.slice none 0 0))]
abbrev qa2367 (p2 : Int) : List CV := [ci (2 : Int), ci p2, ci (0 : Int), cst ByteArray.empty, .pv (.s (.slice none 0 0))]
abbrev qa2368 (r7 : GValue) : List CV := [ci r7.kind, ci r7.n, ci r7.scale, cst r7.s, cl eValue r7.items]
abbrev qa2369 (r6 : GValue) : List CV := [ci r6.kind, ci r6.n, ci r6.scale, cst r6.s, cl eValue r6.items]
abbrev qa2370 : List CV := [ci (0 : Int), ci (0 : Int), ci (0 : Int), cst ByteArray.empty, .pv (.s (.slice none 0 0))]
abbrev qa2372 (r8 : GValue) : List CV := [ci r8.kind, ci r8.n, ci r8.scale, cst r8.s, cl eValue r8.items]
abbrev qa2377 (r9 : GValue) : List CV := [ci r9.kind, ci r9.n, ci r9.scale, cst r9.s, cl eValue r9.items]
abbrev qa2378 : Fr := [(5, .one (.pt 0 0 0 0)), (6, .one (.pt 1 0 0 0)), (101, vb true)]
abbrev qa2379 (p1 : Int) (p2 : Int) (r6 : GValue) (r7 : GValue) : Fr := [(0, vi p1), (1, vi p2), (5, .one (.pt 0 0 0 0)), (6, .one (.pt 1 0 0 0)), (8, .one (.pt 3 0 0 0)), (63, vb ((IntKind.i64.wrap ((IntKind.i64.wrap (r6.n * p2)) + r7.n)) != p1))]
abbrev qa2380 (p1 : Int) (p2 : Int) (r7 : GValue) : Fr := [(0, vi p1), (1, vi p2), (5, .one (.pt 0 0 0 0)), (6, .one (.pt 1 0 0 0)), (7, .one (.pt 2 0 0 0)), (8, .one (.pt 3 0 0 0)), (52, vb (r7.kind != (2 : Int)))]
abbrev qa2381 (p1 : Int) (p2 : Int) : Fr := [(0, vi p1), (1, vi p2), (5, .one (.pt 0 0 0 0)), (6, .one (.pt 1 0 0 0)), (8, .one (.pt 3 0 0 0)), (74, vb (decide ((0 : Int) < p2)))]
abbrev qa2382 (p1 : Int) : Fr := [(0, vi p1), (5, .one (.pt 0 0 0 0)), (6, .one (.pt 1 0 0 0)), (8, .one (.pt 3 0 0 0)), (84, vb false), (87, vb (decide (p1 < (0 : Int))))]
abbrev qa2383 (p1 : Int) (p2 : Int) (r6 : GValue) : Fr := [(0, vi p1), (1, vi p2), (5, .one (.pt 0 0 0 0)), (6, .one (.pt 1 0 0 0)), (7, .one (.pt 2 0 0 0)), (8, .one (.pt 3 0 0 0)), (47, vb (r6.kind != (2 : Int)))]
abbrev qa2384 (p1 : Int) (p2 : Int) (r7 : GValue) : Fr := [(0, vi p1), (1, vi p2), (5, .one (.pt 0 0 0 0)), (6, .one (.pt 1 0 0 0)), (8, .one (.pt 3 0 0 0)), (63, vb false), (69, vb (decide (r7.n ≤ (IntKind.i64.wrap (0 - p2)))))]
abbrev qa2385 (p1 : Int) (p2 : Int) : Fr := [(0, vi p1), (5, .one (.pt 0 0 0 0)), (6, .one (.pt 1 0 0 0)), (8, .one (.pt 3 0 0 0)), (84, vb (decide ((0 : Int) < p2)))]
abbrev qa2386 (p1 : Int) : Fr := [(5, .one (.pt 0 0 0 0)), (6, .one (.pt 1 0 0 0)), (8, .one (.pt 3 0 0 0)), (93, vb false), (96, vb (decide ((0 : Int) < p1)))]
abbrev qa2387 : Fr := [(5, .one (.pt 0 0 0 0)), (6, .one (.pt 1 0 0 0)), (101, vb false)]
abbrev qa2388 (p1 : Int) (r7 : GValue) : Fr := [(0, vi p1), (5, .one (.pt 0 0 0 0)), (6, .one (.pt 1 0 0 0)), (8, .one (.pt 3 0 0 0)), (93, vb (decide ((0 : Int) < r7.n)))]
abbrev qa2389 (p1 : Int) (p2 : Int) (r7 : GValue) : Fr := [(0, vi p1), (1, vi p2), (5, .one (.pt 0 0 0 0)), (6, .one (.pt 1 0 0 0)), (8, .one (.pt 3 0 0 0)), (74, vb false), (79, vb (decide (p2 ≤ r7.n)))]
abbrev qa2390 (r7 : GValue) : Fr := [(5, .one (.pt 0 0 0 0)), (6, .one (.pt 1 0 0 0)), (101, vb (decide (r7.n < (0 : Int))))]
abbrev qa2392 (p1 : Int) (p2 : Int) : Fr := [(0, vi p1), (1, vi p2), (22, vb (decide ((999999999999999999 : Int) < p1)))]
abbrev qa2398 (p1 : Int) (p2 : Int) (r6 : GValue) (r7 : GValue) : Fr := [(8, .one (.pt 3 0 0 0)), (7, .one (.pt 2 0 0 0)), (43, .ag (qa2368 r7)), (42, .ag (qa2367 p2)), (41, .ag (qa2366 p1)), (40, .ag (qa2369 r6)), (39, .ag (qa2367 p2)), (38, .ag (qa2366 p1)), (0, vi p1), (1, vi p2), (5, .one (.pt 0 0 0 0)), (6, .one (.pt 1 0 0 0))]
abbrev qa2406 (p1 : Int) (p2 : Int) (r6 : GValue) (r7 : GValue) : St := [.box (qa2366 p1), .box (qa2367 p2), .box (qa2369 r6), .box (qa2368 r7)]

theorem c_law1_ValueQuotientsAddUp (p1 : Int) (p2 : Int) (r : Bool) (h : law1_ValueQuotientsAddUp p1 p2 = some r) : PC Tryd.prog 6 [vi p1, vi p2] (vb r) := by
 unfold law1_ValueQuotientsAddUp at h
 refine zF 115 Tryd.f6 (zq fun K1 hK1 => zr (zg [5, 6, 7, 8, 9] 1 [0,1] (zd (hK1 _ _ (zq fun K2 hK2 => zq fun K3 hK3 => ?_)))))
 obtain ⟨r1, c4, h⟩ := zB h
 obtain ⟨r2, c5, h⟩ := zB h
 obtain ⟨r3, c6, h⟩ := zB h
 obtain ⟨r4, c7, h⟩ := zB h
 obtain ⟨r5, c8, h⟩ := zB h
 refine zr (za (c_law1_number _ _ c4) (zl 10 [vi (2 : Int)] (.ag (qa2360 r2)) [(11, .ag (qa2360 r2)), (10, .ag [ci r1.kind, ci r1.n, ci r1.scale, cst r1.s, cl eValue r1.items]), (0, vi p1), (1, vi p2)] (c_law1_number _ _ c5) (za (c_value_Compute _ _ _ _ c6) (za (c_law1_number _ _ c7) ?_))))
 refine zl 19 [.ag [ci r3.kind, ci r3.n, ci r3.scale, cst r3.s, cl eValue r3.items], .ag [ci r4.kind, ci r4.n, ci r4.scale, cst r4.s, cl eValue r4.items]] (vb r5) [(14, vb r5), (13, .ag [ci r4.kind, ci r4.n, ci r4.scale, cst r4.s, cl eValue r4.items]), (12, .ag [ci r3.kind, ci r3.n, ci r3.scale, cst r3.s, cl eValue r3.items]), (11, .ag (qa2360 r2)), (10, .ag [ci r1.kind, ci r1.n, ci r1.scale, cst r1.s, cl eValue r1.items]), (0, vi p1), (1, vi p2)] (c_law1_exactly BIG _ _ _ c8) (zg [5, 6, 7, 8, 9] 1 [0,1,15] (zd (hK3 _ _ ?_)))
 refine zC h (fun b9 h => ?_) (fun b9 h => ?_)
 ·refine zq fun K10 hK10 => zr (zg [5, 6, 7, 8, 9] 1 [4] (zd (hK10 _ _ (ze ?_))))
  obtain rfl := Option.some.inj h
  exact zf [vb false] (.one (.rfl _ rfl))
 ·refine zs (hK2 _ _ (zq fun K11 hK11 => zq fun K12 hK12 => ?_))
  have hJ1 : ∀ (x1 : Bool), law1_ValueQuotientsAddUp_j1 p1 p2 x1 = some r → ∀ fr1 st1, Sub 115 0 [] fr1 st1 [(0, vi p1), (1, vi p2), (33, vb x1)] [] → K12 fr1 st1 := by
   intro x1 h fr1 st1 hS
   unfold law1_ValueQuotientsAddUp_j1 at h
   refine hK12 _ _ (XW.sub hS ?_)
   refine zC h (fun b17 h => ?_) (fun b17 h => ?_)
   ·refine zq fun K18 hK18 => zr (zg [5, 6, 7, 8, 9] 1 [4] (zd (hK18 _ _ (ze ?_))))
    obtain rfl := Option.some.inj h
    exact zf [vb true] (.one (.rfl _ rfl))
   ·refine zs (hK11 _ _ (zq fun K19 hK19 => zr (zv [5, 6, 7, 8, 9] 8 [0,1,5,6] [] [(0, vi p1), (1, vi p2), (5, .one (.pt 0 0 0 0)), (6, .one (.pt 1 0 0 0))] [.box (qa2366 p1), .box (qa2367 p2)] (zd (hK19 _ _ (zq fun K20 hK20 => ?_))))))
    obtain ⟨r6, c21, h⟩ := zB h
    obtain ⟨r7, c22, h⟩ := zB h
    refine XW.sub (Sub.dead 2) ?_
    refine XW.drwG 8 [2, 3, 4] [([0], []), ([1], []), ([], []), ([0], []), ([1], []), ([], []), ([2], [2]), ([3], [3])] (qa2398 p1 p2 r6 r7) [.box (qa2366 p1), .box (qa2367 p2), .box qa2370, .box qa2370] (by kernel_rfl) (by kernel_rfl) ?_ ?_
    ·refine zgv 2 [] [(39, .ag (qa2367 p2)), (38, .ag (qa2366 p1)), (0, vi p1), (1, vi p2), (5, .one (.pt 0 0 0 0)), (6, .one (.pt 1 0 0 0))] ?_
     refine GY.cal 22 [vi (4 : Int), .ag (qa2366 p1), .ag (qa2367 p2)] (.ag (qa2369 r6)) [(40, .ag (qa2369 r6)), (39, .ag (qa2367 p2)), (38, .ag (qa2366 p1)), (0, vi p1), (1, vi p2), (5, .one (.pt 0 0 0 0)), (6, .one (.pt 1 0 0 0))] [] (by kernel_rfl) (by kernel_rfl) (PC.le (c_value_Compute _ _ _ _ c21) ⟨.rfl _, ALe.agc ⟨.rfl _, .rfl _, .rfl _, .rfl _, .nl, trivial⟩, ALe.agc ⟨.rfl _, .rfl _, .rfl _, .rfl _, .nl, trivial⟩, trivial⟩) rfl rfl (by kernel_rfl) (by kernel_rfl) (by kernel_rfl) ?_
     refine zgv 2 [] [(42, .ag (qa2367 p2)), (41, .ag (qa2366 p1)), (40, .ag (qa2369 r6)), (39, .ag (qa2367 p2)), (38, .ag (qa2366 p1)), (0, vi p1), (1, vi p2), (5, .one (.pt 0 0 0 0)), (6, .one (.pt 1 0 0 0))] ?_
     refine GY.cal 22 [vi (5 : Int), .ag (qa2366 p1), .ag (qa2367 p2)] (.ag (qa2368 r7)) [(43, .ag (qa2368 r7)), (42, .ag (qa2367 p2)), (41, .ag (qa2366 p1)), (40, .ag (qa2369 r6)), (39, .ag (qa2367 p2)), (38, .ag (qa2366 p1)), (0, vi p1), (1, vi p2), (5, .one (.pt 0 0 0 0)), (6, .one (.pt 1 0 0 0))] [] (by kernel_rfl) (by kernel_rfl) (PC.le (c_value_Compute _ _ _ _ c22) ⟨.rfl _, ALe.agc ⟨.rfl _, .rfl _, .rfl _, .rfl _, .nl, trivial⟩, ALe.agc ⟨.rfl _, .rfl _, .rfl _, .rfl _, .nl, trivial⟩, trivial⟩) rfl rfl (by kernel_rfl) (by kernel_rfl) (by kernel_rfl) ?_
     refine GY.new true 2 [] [(7, .one (.pt 2 0 0 0)), (43, .ag (qa2368 r7)), (42, .ag (qa2367 p2)), (41, .ag (qa2366 p1)), (40, .ag (qa2369 r6)), (39, .ag (qa2367 p2)), (38, .ag (qa2366 p1)), (0, vi p1), (1, vi p2), (5, .one (.pt 0 0 0 0)), (6, .one (.pt 1 0 0 0))] [2] [.box (qa2366 p1), .box (qa2367 p2), .box qa2370, .dead] [] (by kernel_rfl) (by kernel_rfl) trivial ?_
     refine GY.new true 3 [] (qa2398 p1 p2 r6 r7) [3] [.box (qa2366 p1), .box (qa2367 p2), .box qa2370, .box qa2370] [] (by kernel_rfl) (by kernel_rfl) trivial ?_
     exact GY.done (by kernel_rfl) (by kernel_rfl)
    refine zg [5, 6, 7, 8, 9] 2 [0,1,5,6,7,8] (zd (hK20 _ _ (zq fun K23 hK23 => zq fun K24 hK24 => ?_)))
    have hJ2 : ∀ (x2 : Bool), law1_ValueQuotientsAddUp_j2 p1 p2 x2 = some r → ∀ fr1 st1, Sub 115 0 [] fr1 st1 [(5, .one (.pt 0 0 0 0)), (6, .one (.pt 1 0 0 0)), (101, vb x2)] (qa2406 p1 p2 r6 r7) → K24 fr1 st1 := by
     intro x2 h fr1 st1 hS
     unfold law1_ValueQuotientsAddUp_j2 at h
     refine hK24 _ _ (XW.sub hS ?_)
     refine zC h (fun b49 h => ?_) (fun b49 h => ?_)
     ·refine zq fun K50 hK50 => zr (zg [5, 6, 7, 8, 9] 1 [4] (zd (hK50 _ _ (ze ?_))))
      obtain rfl := Option.some.inj h
      exact zf [vb false] (.one (.rfl _ rfl))
     ·refine zs (hK23 _ _ (zq fun K51 hK51 => ?_))
      obtain ⟨r8, c52, h⟩ := zB h
      refine zr (zg [5, 6, 7, 8, 9] 2 [5,6,102,103] ?_)
      refine zl 22 [vi (1 : Int), .ag (qa2366 p1), .ag (qa2367 p2)] (.ag (qa2372 r8)) [(104, .ag (qa2372 r8)), (5, .one (.pt 0 0 0 0)), (6, .one (.pt 1 0 0 0)), (102, .ag (qa2366 p1)), (103, .ag (qa2367 p2))] (PC.le (c_value_Compute _ _ _ _ c52) ⟨.rfl _, ALe.agc ⟨.rfl _, .rfl _, .rfl _, .rfl _, .nl, trivial⟩, ALe.agc ⟨.rfl _, .rfl _, .rfl _, .rfl _, .nl, trivial⟩, trivial⟩) ?_
      refine zv [5, 6, 7, 8, 9] 2 [5,6,9] [] [(5, .one (.pt 0 0 0 0)), (6, .one (.pt 1 0 0 0)), (9, .one (.pt 4 0 0 0))] [.box (qa2366 p1), .box (qa2367 p2), .box (qa2369 r6), .box (qa2368 r7), .box (qa2372 r8)] (zd (hK51 _ _ (zq fun K53 hK53 => ?_)))
      have hJ3 : ∀ (x3 : Bool), law1_ValueQuotientsAddUp_j3 x3 = some r → ∀ fr1 st1, Sub 115 0 [] fr1 st1 [(4, vb x3)] [.box (qa2366 p1), .box (qa2367 p2), .box (qa2369 r6), .box (qa2368 r7), .box (qa2372 r8)] → K53 fr1 st1 := by
       intro x3 h fr1 st1 hS
       unfold law1_ValueQuotientsAddUp_j3 at h
       refine hK53 _ _ (XW.sub hS ?_)
       refine ze ?_
       obtain rfl := Option.some.inj h
       exact zf [vb x3] (.one (.rfl _ rfl))
      rcases zW h with ⟨b54, h⟩ | ⟨b54, h⟩
      ·refine zw 8 [(112, .tp []), (111, .tp []), (110, .tp []), (109, .tp []), (108, vb true), (107, vb (r8.kind == (0 : Int))), (106, vi r8.kind), (105, .one (.pt 4 0 0 0)), (5, .one (.pt 0 0 0 0)), (6, .one (.pt 1 0 0 0)), (9, .one (.pt 4 0 0 0))] ?_ ?_
       ·refine zyv 4 [] [(108, vb (r8.kind == (0 : Int))), (107, vb (r8.kind == (0 : Int))), (106, vi r8.kind), (105, .one (.pt 4 0 0 0)), (5, .one (.pt 0 0 0 0)), (6, .one (.pt 1 0 0 0)), (9, .one (.pt 4 0 0 0))] ?_
        exact DX.eq (fr1 := [(108, vb true), (107, vb (r8.kind == (0 : Int))), (106, vi r8.kind), (105, .one (.pt 4 0 0 0)), (5, .one (.pt 0 0 0 0)), (6, .one (.pt 1 0 0 0)), (9, .one (.pt 4 0 0 0))]) (by rw [b54]) (zyg 4 zyd)
       exact zg [5, 6, 7, 8, 9] 3 [4] (zd (hJ3 true h _ _ (zk [4])))
      ·obtain ⟨r9, c55, h⟩ := zB h
       obtain ⟨r10, c56, h⟩ := zB h
       refine zw 8 [(112, .ag (qa2366 p1)), (111, .ag (qa2377 r9)), (110, .ag (qa2367 p2)), (109, .ag (qa2372 r8)), (108, vb false), (107, vb (r8.kind == (0 : Int))), (106, vi r8.kind), (105, .one (.pt 4 0 0 0)), (5, .one (.pt 0 0 0 0)), (6, .one (.pt 1 0 0 0)), (9, .one (.pt 4 0 0 0))] ?_ ?_
       ·refine zyv 4 [] [(108, vb (r8.kind == (0 : Int))), (107, vb (r8.kind == (0 : Int))), (106, vi r8.kind), (105, .one (.pt 4 0 0 0)), (5, .one (.pt 0 0 0 0)), (6, .one (.pt 1 0 0 0)), (9, .one (.pt 4 0 0 0))] ?_
        refine DX.eq (fr1 := [(108, vb false), (107, vb (r8.kind == (0 : Int))), (106, vi r8.kind), (105, .one (.pt 4 0 0 0)), (5, .one (.pt 0 0 0 0)), (6, .one (.pt 1 0 0 0)), (9, .one (.pt 4 0 0 0))]) (by rw [b54]) (zyg 2 ?_)
        refine DX.cal 22 [vi (2 : Int), .ag (qa2372 r8), .ag (qa2367 p2)] (.ag (qa2377 r9)) [(111, .ag (qa2377 r9)), (110, .ag (qa2367 p2)), (109, .ag (qa2372 r8)), (108, vb false), (107, vb (r8.kind == (0 : Int))), (106, vi r8.kind), (105, .one (.pt 4 0 0 0)), (5, .one (.pt 0 0 0 0)), (6, .one (.pt 1 0 0 0)), (9, .one (.pt 4 0 0 0))] (by kernel_rfl) (PC.le (c_value_Compute _ _ _ _ c55) ⟨.rfl _, .rfl _, ALe.agc ⟨.rfl _, .rfl _, .rfl _, .rfl _, .nl, trivial⟩, trivial⟩) rfl rfl (by kernel_rfl) ?_
        exact zyg 1 zyd
       refine zl 19 [.ag (qa2377 r9), .ag (qa2366 p1)] (vb r10) [(113, vb r10), (112, .ag (qa2366 p1)), (111, .ag (qa2377 r9)), (110, .ag (qa2367 p2)), (109, .ag (qa2372 r8)), (108, vb false), (107, vb (r8.kind == (0 : Int))), (106, vi r8.kind), (105, .one (.pt 4 0 0 0)), (5, .one (.pt 0 0 0 0)), (6, .one (.pt 1 0 0 0)), (9, .one (.pt 4 0 0 0))] (PC.le (c_law1_exactly BIG _ _ _ c56) ⟨.rfl _, ALe.agc ⟨.rfl _, .rfl _, .rfl _, .rfl _, .nl, trivial⟩, trivial⟩) ?_
       exact zg [5, 6, 7, 8, 9] 2 [4] (zd (hJ3 r10 h _ _ (zk [4])))
    rcases zW h with ⟨b25, h⟩ | ⟨b25, h⟩
    ·exact zr (zg [5, 6, 7, 8, 9] 4 [0,1,5,6,7,8,47] (zt 47 b25 (zv [5, 6, 7, 8, 9] 54 [5,6,101] [] qa2378 (qa2406 p1 p2 r6 r7) (zd (hJ2 true h _ _ (zk [5,6,101]))))))
    ·rcases zW h with ⟨b26, h⟩ | ⟨b26, h⟩
     ·exact zr (zg [5, 6, 7, 8, 9] 4 [0,1,5,6,7,8,47] (zt 47 b25 (zg [5, 6, 7, 8, 9] 5 [0,1,5,6,7,8,52] (zt 52 b26 (zv [5, 6, 7, 8, 9] 49 [5,6,101] [] qa2378 (qa2406 p1 p2 r6 r7) (zd (hJ2 true h _ _ (zk [5,6,101]))))))))
     ·rcases zW h with ⟨b27, h⟩ | ⟨b27, h⟩
      ·refine zr (zg [5, 6, 7, 8, 9] 4 [0,1,5,6,7,8,47] (zt 47 b25 (zg [5, 6, 7, 8, 9] 5 [0,1,5,6,7,8,52] (zt 52 b26 ?_))))
       refine zv [5, 6, 7, 8, 9] 11 [0,1,5,6,8,63] [] (qa2379 p1 p2 r6 r7) (qa2406 p1 p2 r6 r7) (zt 63 b27 (zg [5, 6, 7, 8, 9] 38 [5,6,101] ?_))
       exact zd (hJ2 true h _ _ (zk [5,6,101]))
      ·rcases zW h with ⟨b28, h⟩ | ⟨b28, h⟩
       ·rcases zW h with ⟨b29, h⟩ | ⟨b29, h⟩
        ·refine zr (zg [5, 6, 7, 8, 9] 4 [0,1,5,6,7,8,47] (zt 47 b25 (zv [5, 6, 7, 8, 9] 5 [0,1,5,6,7,8,52] [] (qa2380 p1 p2 r7) (qa2406 p1 p2 r6 r7) (zt 52 b26 ?_))))
         refine zg [5, 6, 7, 8, 9] 11 [0,1,5,6,8,63] (zt 63 b27 (zg [5, 6, 7, 8, 9] 6 [0,1,5,6,8,63,69] (zt 69 b28 ?_)))
         exact zv [5, 6, 7, 8, 9] 5 [0,1,5,6,8,74] [] (qa2381 p1 p2) (qa2406 p1 p2 r6 r7) (zt 74 b29 (zg [5, 6, 7, 8, 9] 27 [5,6,101] (zd (hJ2 true h _ _ (zk [5,6,101])))))
        ·rcases zW h with ⟨b30, h⟩ | ⟨b30, h⟩
         ·rcases zW h with ⟨b31, h⟩ | ⟨b31, h⟩
          ·rcases zW h with ⟨b32, h⟩ | ⟨b32, h⟩
           ·refine zr (zg [5, 6, 7, 8, 9] 4 [0,1,5,6,7,8,47] (zt 47 b25 (zv [5, 6, 7, 8, 9] 5 [0,1,5,6,7,8,52] [] (qa2380 p1 p2 r7) (qa2406 p1 p2 r6 r7) (zt 52 b26 ?_))))
            refine zg [5, 6, 7, 8, 9] 11 [0,1,5,6,8,63] (zt 63 b27 (zg [5, 6, 7, 8, 9] 6 [0,1,5,6,8,63,69] (zt 69 b28 ?_)))
            refine zv [5, 6, 7, 8, 9] 5 [0,1,5,6,8,74] [] (qa2381 p1 p2) (qa2406 p1 p2 r6 r7) (zt 74 b29 (zg [5, 6, 7, 8, 9] 5 [0,1,5,6,8,74,79] (zt 79 b30 ?_)))
            refine zg [5, 6, 7, 8, 9] 5 [0,5,6,8,84] (zt 84 b29 (zv [5, 6, 7, 8, 9] 3 [0,5,6,8,84,87] [] (qa2382 p1) (qa2406 p1 p2 r6 r7) (zt 87 b31 ?_)))
            exact zg [5, 6, 7, 8, 9] 6 [0,5,6,8,93] (zt 93 b32 (zg [5, 6, 7, 8, 9] 8 [5,6,101] (zd (hJ2 true h _ _ (zk [5,6,101])))))
           ·rcases zW h with ⟨b33, h⟩ | ⟨b33, h⟩
            ·refine zr (zv [5, 6, 7, 8, 9] 4 [0,1,5,6,7,8,47] [] (qa2383 p1 p2 r6) (qa2406 p1 p2 r6 r7) (zt 47 b25 (zg [5, 6, 7, 8, 9] 5 [0,1,5,6,7,8,52] (zt 52 b26 ?_))))
             refine zg [5, 6, 7, 8, 9] 11 [0,1,5,6,8,63] (zt 63 b27 (zv [5, 6, 7, 8, 9] 6 [0,1,5,6,8,63,69] [] (qa2384 p1 p2 r7) (qa2406 p1 p2 r6 r7) ?_))
             refine zt 69 b28 (zg [5, 6, 7, 8, 9] 5 [0,1,5,6,8,74] (zt 74 b29 (zg [5, 6, 7, 8, 9] 5 [0,1,5,6,8,74,79] (zt 79 b30 ?_))))
             refine zv [5, 6, 7, 8, 9] 5 [0,5,6,8,84] [] (qa2385 p1 p2) (qa2406 p1 p2 r6 r7) (zt 84 b29 (zg [5, 6, 7, 8, 9] 3 [0,5,6,8,84,87] (zt 87 b31 (zg [5, 6, 7, 8, 9] 6 [0,5,6,8,93] ?_))))
             refine zt 93 b32 (zv [5, 6, 7, 8, 9] 3 [5,6,8,93,96] [] (qa2386 p1) (qa2406 p1 p2 r6 r7) (zt 96 b33 (zg [5, 6, 7, 8, 9] 5 [5,6,101] (zd ?_))))
             exact hJ2 (decide (r7.n < (0 : Int))) h _ _ (zk [5,6,101])
            ·refine zr (zg [5, 6, 7, 8, 9] 4 [0,1,5,6,7,8,47] (zt 47 b25 (zv [5, 6, 7, 8, 9] 5 [0,1,5,6,7,8,52] [] (qa2380 p1 p2 r7) (qa2406 p1 p2 r6 r7) (zt 52 b26 ?_))))
             refine zg [5, 6, 7, 8, 9] 11 [0,1,5,6,8,63] (zt 63 b27 (zg [5, 6, 7, 8, 9] 6 [0,1,5,6,8,63,69] (zt 69 b28 ?_)))
             refine zv [5, 6, 7, 8, 9] 5 [0,1,5,6,8,74] [] (qa2381 p1 p2) (qa2406 p1 p2 r6 r7) (zt 74 b29 (zg [5, 6, 7, 8, 9] 5 [0,1,5,6,8,74,79] (zt 79 b30 ?_)))
             refine zg [5, 6, 7, 8, 9] 5 [0,5,6,8,84] (zt 84 b29 (zv [5, 6, 7, 8, 9] 3 [0,5,6,8,84,87] [] (qa2382 p1) (qa2406 p1 p2 r6 r7) (zt 87 b31 ?_)))
             exact zg [5, 6, 7, 8, 9] 6 [0,5,6,8,93] (zt 93 b32 (zg [5, 6, 7, 8, 9] 3 [5,6,8,93,96] (zt 96 b33 (zv [5, 6, 7, 8, 9] 5 [5,6,101] [] qa2387 (qa2406 p1 p2 r6 r7) (zd (hJ2 false h _ _ (zk [5,6,101])))))))
          ·rcases zW h with ⟨b34, h⟩ | ⟨b34, h⟩
           ·refine zr (zg [5, 6, 7, 8, 9] 4 [0,1,5,6,7,8,47] (zt 47 b25 (zv [5, 6, 7, 8, 9] 5 [0,1,5,6,7,8,52] [] (qa2380 p1 p2 r7) (qa2406 p1 p2 r6 r7) (zt 52 b26 ?_))))
            refine zg [5, 6, 7, 8, 9] 11 [0,1,5,6,8,63] (zt 63 b27 (zg [5, 6, 7, 8, 9] 6 [0,1,5,6,8,63,69] (zt 69 b28 ?_)))
            refine zv [5, 6, 7, 8, 9] 5 [0,1,5,6,8,74] [] (qa2381 p1 p2) (qa2406 p1 p2 r6 r7) (zt 74 b29 (zg [5, 6, 7, 8, 9] 5 [0,1,5,6,8,74,79] (zt 79 b30 ?_)))
            refine zg [5, 6, 7, 8, 9] 5 [0,5,6,8,84] (zt 84 b29 (zv [5, 6, 7, 8, 9] 3 [0,5,6,8,84,87] [] (qa2382 p1) (qa2406 p1 p2 r6 r7) (zt 87 b31 ?_)))
            exact zg [5, 6, 7, 8, 9] 9 [5,6,8,93,96] (zt 96 b34 (zg [5, 6, 7, 8, 9] 5 [5,6,101] (zd (hJ2 (decide (r7.n < (0 : Int))) h _ _ (zk [5,6,101])))))
           ·refine zr (zv [5, 6, 7, 8, 9] 4 [0,1,5,6,7,8,47] [] (qa2383 p1 p2 r6) (qa2406 p1 p2 r6 r7) (zt 47 b25 (zg [5, 6, 7, 8, 9] 5 [0,1,5,6,7,8,52] (zt 52 b26 ?_))))
            refine zg [5, 6, 7, 8, 9] 11 [0,1,5,6,8,63] (zt 63 b27 (zv [5, 6, 7, 8, 9] 6 [0,1,5,6,8,63,69] [] (qa2384 p1 p2 r7) (qa2406 p1 p2 r6 r7) ?_))
            refine zt 69 b28 (zg [5, 6, 7, 8, 9] 5 [0,1,5,6,8,74] (zt 74 b29 (zg [5, 6, 7, 8, 9] 5 [0,1,5,6,8,74,79] (zt 79 b30 ?_))))
            refine zv [5, 6, 7, 8, 9] 5 [0,5,6,8,84] [] (qa2385 p1 p2) (qa2406 p1 p2 r6 r7) (zt 84 b29 (zg [5, 6, 7, 8, 9] 3 [0,5,6,8,84,87] (zt 87 b31 (zg [5, 6, 7, 8, 9] 9 [5,6,8,93,96] ?_))))
            exact zt 96 b34 (zv [5, 6, 7, 8, 9] 5 [5,6,101] [] qa2387 (qa2406 p1 p2 r6 r7) (zd (hJ2 false h _ _ (zk [5,6,101]))))
         ·rcases zW h with ⟨b35, h⟩ | ⟨b35, h⟩
          ·rcases zW h with ⟨b36, h⟩ | ⟨b36, h⟩
           ·refine zr (zg [5, 6, 7, 8, 9] 4 [0,1,5,6,7,8,47] (zt 47 b25 (zv [5, 6, 7, 8, 9] 5 [0,1,5,6,7,8,52] [] (qa2380 p1 p2 r7) (qa2406 p1 p2 r6 r7) (zt 52 b26 ?_))))
            refine zg [5, 6, 7, 8, 9] 11 [0,1,5,6,8,63] (zt 63 b27 (zg [5, 6, 7, 8, 9] 6 [0,1,5,6,8,63,69] (zt 69 b28 ?_)))
            refine zv [5, 6, 7, 8, 9] 5 [0,1,5,6,8,74] [] (qa2381 p1 p2) (qa2406 p1 p2 r6 r7) (zt 74 b29 (zg [5, 6, 7, 8, 9] 5 [0,1,5,6,8,74,79] (zt 79 b30 ?_)))
            refine zg [5, 6, 7, 8, 9] 8 [0,5,6,8,84,87] (zt 87 b35 (zv [5, 6, 7, 8, 9] 6 [0,5,6,8,93] [] (qa2388 p1 r7) (qa2406 p1 p2 r6 r7) (zt 93 b36 (zg [5, 6, 7, 8, 9] 8 [5,6,101] (zd ?_)))))
            exact hJ2 true h _ _ (zk [5,6,101])
           ·rcases zW h with ⟨b37, h⟩ | ⟨b37, h⟩
            ·refine zr (zg [5, 6, 7, 8, 9] 4 [0,1,5,6,7,8,47] (zt 47 b25 (zv [5, 6, 7, 8, 9] 5 [0,1,5,6,7,8,52] [] (qa2380 p1 p2 r7) (qa2406 p1 p2 r6 r7) (zt 52 b26 ?_))))
             refine zg [5, 6, 7, 8, 9] 11 [0,1,5,6,8,63] (zt 63 b27 (zg [5, 6, 7, 8, 9] 6 [0,1,5,6,8,63,69] (zt 69 b28 ?_)))
             refine zv [5, 6, 7, 8, 9] 5 [0,1,5,6,8,74] [] (qa2381 p1 p2) (qa2406 p1 p2 r6 r7) (zt 74 b29 (zg [5, 6, 7, 8, 9] 5 [0,1,5,6,8,74,79] (zt 79 b30 ?_)))
             refine zg [5, 6, 7, 8, 9] 8 [0,5,6,8,84,87] (zt 87 b35 (zv [5, 6, 7, 8, 9] 6 [0,5,6,8,93] [] (qa2388 p1 r7) (qa2406 p1 p2 r6 r7) (zt 93 b36 (zg [5, 6, 7, 8, 9] 3 [5,6,8,93,96] ?_))))
             exact zt 96 b37 (zg [5, 6, 7, 8, 9] 5 [5,6,101] (zd (hJ2 (decide (r7.n < (0 : Int))) h _ _ (zk [5,6,101]))))
            ·refine zr (zv [5, 6, 7, 8, 9] 4 [0,1,5,6,7,8,47] [] (qa2383 p1 p2 r6) (qa2406 p1 p2 r6 r7) (zt 47 b25 (zg [5, 6, 7, 8, 9] 5 [0,1,5,6,7,8,52] (zt 52 b26 ?_))))
             refine zg [5, 6, 7, 8, 9] 11 [0,1,5,6,8,63] (zt 63 b27 (zv [5, 6, 7, 8, 9] 6 [0,1,5,6,8,63,69] [] (qa2384 p1 p2 r7) (qa2406 p1 p2 r6 r7) ?_))
             refine zt 69 b28 (zg [5, 6, 7, 8, 9] 5 [0,1,5,6,8,74] (zt 74 b29 (zg [5, 6, 7, 8, 9] 5 [0,1,5,6,8,74,79] (zt 79 b30 ?_))))
             refine zv [5, 6, 7, 8, 9] 8 [0,5,6,8,84,87] [] (qa2382 p1) (qa2406 p1 p2 r6 r7) (zt 87 b35 (zg [5, 6, 7, 8, 9] 6 [0,5,6,8,93] (zt 93 b36 ?_)))
             exact zg [5, 6, 7, 8, 9] 3 [5,6,8,93,96] (zt 96 b37 (zv [5, 6, 7, 8, 9] 5 [5,6,101] [] qa2387 (qa2406 p1 p2 r6 r7) (zd (hJ2 false h _ _ (zk [5,6,101])))))
          ·rcases zW h with ⟨b38, h⟩ | ⟨b38, h⟩
           ·refine zr (zg [5, 6, 7, 8, 9] 4 [0,1,5,6,7,8,47] (zt 47 b25 (zv [5, 6, 7, 8, 9] 5 [0,1,5,6,7,8,52] [] (qa2380 p1 p2 r7) (qa2406 p1 p2 r6 r7) (zt 52 b26 ?_))))
            refine zg [5, 6, 7, 8, 9] 11 [0,1,5,6,8,63] (zt 63 b27 (zg [5, 6, 7, 8, 9] 6 [0,1,5,6,8,63,69] (zt 69 b28 ?_)))
            refine zv [5, 6, 7, 8, 9] 5 [0,1,5,6,8,74] [] (qa2381 p1 p2) (qa2406 p1 p2 r6 r7) (zt 74 b29 (zg [5, 6, 7, 8, 9] 5 [0,1,5,6,8,74,79] (zt 79 b30 ?_)))
            refine zg [5, 6, 7, 8, 9] 8 [0,5,6,8,84,87] (zt 87 b35 (zv [5, 6, 7, 8, 9] 9 [5,6,8,93,96] [] (qa2386 p1) (qa2406 p1 p2 r6 r7) (zt 96 b38 (zg [5, 6, 7, 8, 9] 5 [5,6,101] (zd ?_)))))
            exact hJ2 (decide (r7.n < (0 : Int))) h _ _ (zk [5,6,101])
           ·refine zr (zg [5, 6, 7, 8, 9] 4 [0,1,5,6,7,8,47] (zt 47 b25 (zv [5, 6, 7, 8, 9] 5 [0,1,5,6,7,8,52] [] (qa2380 p1 p2 r7) (qa2406 p1 p2 r6 r7) (zt 52 b26 ?_))))
            refine zg [5, 6, 7, 8, 9] 11 [0,1,5,6,8,63] (zt 63 b27 (zg [5, 6, 7, 8, 9] 6 [0,1,5,6,8,63,69] (zt 69 b28 ?_)))
            refine zv [5, 6, 7, 8, 9] 5 [0,1,5,6,8,74] [] (qa2381 p1 p2) (qa2406 p1 p2 r6 r7) (zt 74 b29 (zg [5, 6, 7, 8, 9] 5 [0,1,5,6,8,74,79] (zt 79 b30 ?_)))
            refine zg [5, 6, 7, 8, 9] 8 [0,5,6,8,84,87] (zt 87 b35 (zv [5, 6, 7, 8, 9] 9 [5,6,8,93,96] [] (qa2386 p1) (qa2406 p1 p2 r6 r7) (zt 96 b38 (zg [5, 6, 7, 8, 9] 5 [5,6,101] (zd ?_)))))
            exact hJ2 false h _ _ (zk [5,6,101])
       ·rcases zW h with ⟨b39, h⟩ | ⟨b39, h⟩
        ·rcases zW h with ⟨b40, h⟩ | ⟨b40, h⟩
         ·refine zr (zg [5, 6, 7, 8, 9] 4 [0,1,5,6,7,8,47] (zt 47 b25 (zv [5, 6, 7, 8, 9] 5 [0,1,5,6,7,8,52] [] (qa2380 p1 p2 r7) (qa2406 p1 p2 r6 r7) (zt 52 b26 ?_))))
          refine zg [5, 6, 7, 8, 9] 11 [0,1,5,6,8,63] (zt 63 b27 (zg [5, 6, 7, 8, 9] 6 [0,1,5,6,8,63,69] (zt 69 b28 ?_)))
          refine zv [5, 6, 7, 8, 9] 10 [0,1,5,6,8,74,79] [] (qa2389 p1 p2 r7) (qa2406 p1 p2 r6 r7) (zt 79 b39 (zg [5, 6, 7, 8, 9] 5 [0,5,6,8,84] (zt 84 b40 ?_)))
          exact zg [5, 6, 7, 8, 9] 17 [5,6,101] (zd (hJ2 true h _ _ (zk [5,6,101])))
         ·rcases zW h with ⟨b41, h⟩ | ⟨b41, h⟩
          ·rcases zW h with ⟨b42, h⟩ | ⟨b42, h⟩
           ·refine zr (zv [5, 6, 7, 8, 9] 4 [0,1,5,6,7,8,47] [] (qa2383 p1 p2 r6) (qa2406 p1 p2 r6 r7) (zt 47 b25 (zg [5, 6, 7, 8, 9] 5 [0,1,5,6,7,8,52] (zt 52 b26 ?_))))
            refine zg [5, 6, 7, 8, 9] 11 [0,1,5,6,8,63] (zt 63 b27 (zv [5, 6, 7, 8, 9] 6 [0,1,5,6,8,63,69] [] (qa2384 p1 p2 r7) (qa2406 p1 p2 r6 r7) ?_))
            refine zt 69 b28 (zg [5, 6, 7, 8, 9] 10 [0,1,5,6,8,74,79] (zt 79 b39 (zg [5, 6, 7, 8, 9] 5 [0,5,6,8,84] (zt 84 b40 ?_))))
            refine zv [5, 6, 7, 8, 9] 3 [0,5,6,8,84,87] [] (qa2382 p1) (qa2406 p1 p2 r6 r7) (zt 87 b41 (zg [5, 6, 7, 8, 9] 6 [0,5,6,8,93] (zt 93 b42 ?_)))
            exact zg [5, 6, 7, 8, 9] 8 [5,6,101] (zd (hJ2 true h _ _ (zk [5,6,101])))
           ·rcases zW h with ⟨b43, h⟩ | ⟨b43, h⟩
            ·refine zr (zv [5, 6, 7, 8, 9] 4 [0,1,5,6,7,8,47] [] (qa2383 p1 p2 r6) (qa2406 p1 p2 r6 r7) (zt 47 b25 (zg [5, 6, 7, 8, 9] 5 [0,1,5,6,7,8,52] (zt 52 b26 ?_))))
             refine zg [5, 6, 7, 8, 9] 11 [0,1,5,6,8,63] (zt 63 b27 (zv [5, 6, 7, 8, 9] 6 [0,1,5,6,8,63,69] [] (qa2384 p1 p2 r7) (qa2406 p1 p2 r6 r7) ?_))
             refine zt 69 b28 (zg [5, 6, 7, 8, 9] 10 [0,1,5,6,8,74,79] (zt 79 b39 (zg [5, 6, 7, 8, 9] 5 [0,5,6,8,84] (zt 84 b40 ?_))))
             refine zv [5, 6, 7, 8, 9] 3 [0,5,6,8,84,87] [] (qa2382 p1) (qa2406 p1 p2 r6 r7) (zt 87 b41 (zg [5, 6, 7, 8, 9] 6 [0,5,6,8,93] (zt 93 b42 ?_)))
             exact zg [5, 6, 7, 8, 9] 3 [5,6,8,93,96] (zt 96 b43 (zv [5, 6, 7, 8, 9] 5 [5,6,101] [] (qa2390 r7) (qa2406 p1 p2 r6 r7) (zd (hJ2 (decide (r7.n < (0 : Int))) h _ _ (zk [5,6,101])))))
            ·refine zr (zg [5, 6, 7, 8, 9] 4 [0,1,5,6,7,8,47] (zt 47 b25 (zg [5, 6, 7, 8, 9] 5 [0,1,5,6,7,8,52] (zt 52 b26 ?_))))
             refine zv [5, 6, 7, 8, 9] 11 [0,1,5,6,8,63] [] (qa2379 p1 p2 r6 r7) (qa2406 p1 p2 r6 r7) (zt 63 b27 ?_)
             refine zg [5, 6, 7, 8, 9] 6 [0,1,5,6,8,63,69] (zt 69 b28 (zg [5, 6, 7, 8, 9] 10 [0,1,5,6,8,74,79] (zt 79 b39 (zv [5, 6, 7, 8, 9] 5 [0,5,6,8,84] [] (qa2385 p1 p2) (qa2406 p1 p2 r6 r7) ?_))))
             refine zt 84 b40 (zg [5, 6, 7, 8, 9] 3 [0,5,6,8,84,87] (zt 87 b41 (zg [5, 6, 7, 8, 9] 6 [0,5,6,8,93] (zt 93 b42 ?_))))
             exact zv [5, 6, 7, 8, 9] 3 [5,6,8,93,96] [] (qa2386 p1) (qa2406 p1 p2 r6 r7) (zt 96 b43 (zg [5, 6, 7, 8, 9] 5 [5,6,101] (zd (hJ2 false h _ _ (zk [5,6,101])))))
          ·rcases zW h with ⟨b44, h⟩ | ⟨b44, h⟩
           ·refine zr (zv [5, 6, 7, 8, 9] 4 [0,1,5,6,7,8,47] [] (qa2383 p1 p2 r6) (qa2406 p1 p2 r6 r7) (zt 47 b25 (zg [5, 6, 7, 8, 9] 5 [0,1,5,6,7,8,52] (zt 52 b26 ?_))))
            refine zg [5, 6, 7, 8, 9] 11 [0,1,5,6,8,63] (zt 63 b27 (zv [5, 6, 7, 8, 9] 6 [0,1,5,6,8,63,69] [] (qa2384 p1 p2 r7) (qa2406 p1 p2 r6 r7) ?_))
            refine zt 69 b28 (zg [5, 6, 7, 8, 9] 10 [0,1,5,6,8,74,79] (zt 79 b39 (zg [5, 6, 7, 8, 9] 5 [0,5,6,8,84] (zt 84 b40 ?_))))
            refine zv [5, 6, 7, 8, 9] 3 [0,5,6,8,84,87] [] (qa2382 p1) (qa2406 p1 p2 r6 r7) (zt 87 b41 (zg [5, 6, 7, 8, 9] 9 [5,6,8,93,96] (zt 96 b44 ?_)))
            exact zg [5, 6, 7, 8, 9] 5 [5,6,101] (zd (hJ2 (decide (r7.n < (0 : Int))) h _ _ (zk [5,6,101])))
           ·refine zr (zv [5, 6, 7, 8, 9] 4 [0,1,5,6,7,8,47] [] (qa2383 p1 p2 r6) (qa2406 p1 p2 r6 r7) (zt 47 b25 (zg [5, 6, 7, 8, 9] 5 [0,1,5,6,7,8,52] (zt 52 b26 ?_))))
            refine zg [5, 6, 7, 8, 9] 11 [0,1,5,6,8,63] (zt 63 b27 (zv [5, 6, 7, 8, 9] 6 [0,1,5,6,8,63,69] [] (qa2384 p1 p2 r7) (qa2406 p1 p2 r6 r7) ?_))
            refine zt 69 b28 (zg [5, 6, 7, 8, 9] 10 [0,1,5,6,8,74,79] (zt 79 b39 (zg [5, 6, 7, 8, 9] 5 [0,5,6,8,84] (zt 84 b40 ?_))))
            refine zv [5, 6, 7, 8, 9] 3 [0,5,6,8,84,87] [] (qa2382 p1) (qa2406 p1 p2 r6 r7) (zt 87 b41 (zg [5, 6, 7, 8, 9] 9 [5,6,8,93,96] (zt 96 b44 ?_)))
            exact zg [5, 6, 7, 8, 9] 5 [5,6,101] (zd (hJ2 false h _ _ (zk [5,6,101])))
        ·rcases zW h with ⟨b45, h⟩ | ⟨b45, h⟩
         ·rcases zW h with ⟨b46, h⟩ | ⟨b46, h⟩
          ·refine zr (zg [5, 6, 7, 8, 9] 4 [0,1,5,6,7,8,47] (zt 47 b25 (zv [5, 6, 7, 8, 9] 5 [0,1,5,6,7,8,52] [] (qa2380 p1 p2 r7) (qa2406 p1 p2 r6 r7) (zt 52 b26 ?_))))
           refine zg [5, 6, 7, 8, 9] 11 [0,1,5,6,8,63] (zt 63 b27 (zg [5, 6, 7, 8, 9] 6 [0,1,5,6,8,63,69] (zt 69 b28 ?_)))
           refine zv [5, 6, 7, 8, 9] 10 [0,1,5,6,8,74,79] [] (qa2389 p1 p2 r7) (qa2406 p1 p2 r6 r7) (zt 79 b39 (zg [5, 6, 7, 8, 9] 8 [0,5,6,8,84,87] (zt 87 b45 ?_)))
           exact zg [5, 6, 7, 8, 9] 6 [0,5,6,8,93] (zt 93 b46 (zv [5, 6, 7, 8, 9] 8 [5,6,101] [] qa2378 (qa2406 p1 p2 r6 r7) (zd (hJ2 true h _ _ (zk [5,6,101])))))
          ·rcases zW h with ⟨b47, h⟩ | ⟨b47, h⟩
           ·refine zr (zg [5, 6, 7, 8, 9] 4 [0,1,5,6,7,8,47] (zt 47 b25 (zg [5, 6, 7, 8, 9] 5 [0,1,5,6,7,8,52] (zt 52 b26 ?_))))
            refine zv [5, 6, 7, 8, 9] 11 [0,1,5,6,8,63] [] (qa2379 p1 p2 r6 r7) (qa2406 p1 p2 r6 r7) (zt 63 b27 ?_)
            refine zg [5, 6, 7, 8, 9] 6 [0,1,5,6,8,63,69] (zt 69 b28 (zg [5, 6, 7, 8, 9] 10 [0,1,5,6,8,74,79] (zt 79 b39 ?_)))
            refine zv [5, 6, 7, 8, 9] 8 [0,5,6,8,84,87] [] (qa2382 p1) (qa2406 p1 p2 r6 r7) (zt 87 b45 (zg [5, 6, 7, 8, 9] 6 [0,5,6,8,93] (zt 93 b46 ?_)))
            exact zg [5, 6, 7, 8, 9] 3 [5,6,8,93,96] (zt 96 b47 (zv [5, 6, 7, 8, 9] 5 [5,6,101] [] (qa2390 r7) (qa2406 p1 p2 r6 r7) (zd (hJ2 (decide (r7.n < (0 : Int))) h _ _ (zk [5,6,101])))))
           ·refine zr (zg [5, 6, 7, 8, 9] 4 [0,1,5,6,7,8,47] (zt 47 b25 (zg [5, 6, 7, 8, 9] 5 [0,1,5,6,7,8,52] (zt 52 b26 ?_))))
            refine zv [5, 6, 7, 8, 9] 11 [0,1,5,6,8,63] [] (qa2379 p1 p2 r6 r7) (qa2406 p1 p2 r6 r7) (zt 63 b27 ?_)
            refine zg [5, 6, 7, 8, 9] 6 [0,1,5,6,8,63,69] (zt 69 b28 (zg [5, 6, 7, 8, 9] 10 [0,1,5,6,8,74,79] (zt 79 b39 ?_)))
            refine zv [5, 6, 7, 8, 9] 8 [0,5,6,8,84,87] [] (qa2382 p1) (qa2406 p1 p2 r6 r7) (zt 87 b45 (zg [5, 6, 7, 8, 9] 6 [0,5,6,8,93] (zt 93 b46 ?_)))
            exact zg [5, 6, 7, 8, 9] 3 [5,6,8,93,96] (zt 96 b47 (zv [5, 6, 7, 8, 9] 5 [5,6,101] [] qa2387 (qa2406 p1 p2 r6 r7) (zd (hJ2 false h _ _ (zk [5,6,101])))))
         ·rcases zW h with ⟨b48, h⟩ | ⟨b48, h⟩
          ·refine zr (zg [5, 6, 7, 8, 9] 4 [0,1,5,6,7,8,47] (zt 47 b25 (zv [5, 6, 7, 8, 9] 5 [0,1,5,6,7,8,52] [] (qa2380 p1 p2 r7) (qa2406 p1 p2 r6 r7) (zt 52 b26 ?_))))
           refine zg [5, 6, 7, 8, 9] 11 [0,1,5,6,8,63] (zt 63 b27 (zg [5, 6, 7, 8, 9] 6 [0,1,5,6,8,63,69] (zt 69 b28 ?_)))
           refine zv [5, 6, 7, 8, 9] 10 [0,1,5,6,8,74,79] [] (qa2389 p1 p2 r7) (qa2406 p1 p2 r6 r7) (zt 79 b39 (zg [5, 6, 7, 8, 9] 8 [0,5,6,8,84,87] (zt 87 b45 ?_)))
           exact zg [5, 6, 7, 8, 9] 9 [5,6,8,93,96] (zt 96 b48 (zv [5, 6, 7, 8, 9] 5 [5,6,101] [] (qa2390 r7) (qa2406 p1 p2 r6 r7) (zd (hJ2 (decide (r7.n < (0 : Int))) h _ _ (zk [5,6,101])))))
          ·refine zr (zg [5, 6, 7, 8, 9] 4 [0,1,5,6,7,8,47] (zt 47 b25 (zg [5, 6, 7, 8, 9] 5 [0,1,5,6,7,8,52] (zt 52 b26 ?_))))
           refine zv [5, 6, 7, 8, 9] 11 [0,1,5,6,8,63] [] (qa2379 p1 p2 r6 r7) (qa2406 p1 p2 r6 r7) (zt 63 b27 ?_)
           refine zg [5, 6, 7, 8, 9] 6 [0,1,5,6,8,63,69] (zt 69 b28 (zg [5, 6, 7, 8, 9] 10 [0,1,5,6,8,74,79] (zt 79 b39 ?_)))
           refine zv [5, 6, 7, 8, 9] 8 [0,5,6,8,84,87] [] (qa2382 p1) (qa2406 p1 p2 r6 r7) (zt 87 b45 (zg [5, 6, 7, 8, 9] 9 [5,6,8,93,96] (zt 96 b48 ?_)))
           exact zg [5, 6, 7, 8, 9] 5 [5,6,101] (zd (hJ2 false h _ _ (zk [5,6,101])))
  rcases zW h with ⟨b13, h⟩ | ⟨b13, h⟩
  ·exact zr (zv [5, 6, 7, 8, 9] 3 [0,1,18] [] [(0, vi p1), (1, vi p2), (18, vb (decide (p1 < (-999999999999999999 : Int))))] [] (zt 18 b13 (zg [5, 6, 7, 8, 9] 15 [0,1,33] (zd (hJ1 true h _ _ (zk [0,1,33]))))))
  ·rcases zW h with ⟨b14, h⟩ | ⟨b14, h⟩
   ·exact zr (zg [5, 6, 7, 8, 9] 3 [0,1,18] (zt 18 b13 (zv [5, 6, 7, 8, 9] 4 [0,1,22] [] (qa2392 p1 p2) [] (zt 22 b14 (zg [5, 6, 7, 8, 9] 11 [0,1,33] (zd (hJ1 true h _ _ (zk [0,1,33]))))))))
   ·rcases zW h with ⟨b15, h⟩ | ⟨b15, h⟩
    ·refine zr (zg [5, 6, 7, 8, 9] 3 [0,1,18] (zt 18 b13 (zv [5, 6, 7, 8, 9] 4 [0,1,22] [] (qa2392 p1 p2) [] (zt 22 b14 (zg [5, 6, 7, 8, 9] 4 [0,1,26] (zt 26 b15 (zg [5, 6, 7, 8, 9] 7 [0,1,33] ?_)))))))
     exact zd (hJ1 true h _ _ (zk [0,1,33]))
    ·rcases zW h with ⟨b16, h⟩ | ⟨b16, h⟩
     ·refine zr (zv [5, 6, 7, 8, 9] 3 [0,1,18] [] [(0, vi p1), (1, vi p2), (18, vb (decide (p1 < (-999999999999999999 : Int))))] [] (zt 18 b13 (zg [5, 6, 7, 8, 9] 4 [0,1,22] (zt 22 b14 (zg [5, 6, 7, 8, 9] 4 [0,1,26] (zt 26 b15 (zv [5, 6, 7, 8, 9] 4 [0,1,30] [] [(0, vi p1), (1, vi p2), (30, vb (decide ((999999999999999999 : Int) < p2)))] [] ?_)))))))
      exact zt 30 b16 (zg [5, 6, 7, 8, 9] 3 [0,1,33] (zd (hJ1 true h _ _ (zk [0,1,33]))))
     ·refine zr (zg [5, 6, 7, 8, 9] 3 [0,1,18] (zt 18 b13 (zv [5, 6, 7, 8, 9] 4 [0,1,22] [] (qa2392 p1 p2) [] (zt 22 b14 (zg [5, 6, 7, 8, 9] 4 [0,1,26] (zt 26 b15 (zg [5, 6, 7, 8, 9] 4 [0,1,30] ?_)))))))
      exact zt 30 b16 (zv [5, 6, 7, 8, 9] 3 [0,1,33] [] [(0, vi p1), (1, vi p2), (33, vb (p2 == (0 : Int)))] [] (zd (hJ1 (p2 == (0 : Int)) h _ _ (zk [0,1,33]))))

def value_leaf_j1 (x1 : Bool) : Option Bool :=
    some x1

def value_leaf (p1 : GType) : Option Bool :=
    ift (p1.kind != (6 : Int))
      (value_leaf_j1 (p1.kind != (7 : Int)))
      (value_leaf_j1 false)

def value_Name_1_j1 (x1 : Bool) : Option Bool :=
    some x1

def value_Name_1 (p1 : Int) : Option Bool :=
    ift (decide (p1 < (97 : Int)))
      (ift (decide (p1 < (48 : Int)))
         (value_Name_1_j1 (p1 != (95 : Int)))
         (ift (decide ((57 : Int) < p1))
            (value_Name_1_j1 (p1 != (95 : Int)))
            (value_Name_1_j1 false)))
      (ift (decide ((122 : Int) < p1))
         (ift (decide (p1 < (48 : Int)))
            (value_Name_1_j1 (p1 != (95 : Int)))
            (ift (decide ((57 : Int) < p1))
               (value_Name_1_j1 (p1 != (95 : Int)))
               (value_Name_1_j1 false)))
         (value_Name_1_j1 false))

def strings_indexFunc_of_value_Name_1_j1 : Option Int :=
    some (-1 : Int)

def strings_indexFunc_of_value_Name_1_l1 (p1 : ByteArray) (p2 : Bool) : Nat → Nat → Option Int
  | 0, _ => none
  | k1 + 1, z1 =>
    ift (decide (z1 < p1.size))
      (bnd (value_Name_1 (Int.ofNat (Utf8.decode p1 z1).1)) fun r1 =>
       ift (r1 == p2)
         (some (Int.ofNat z1))
         ((strings_indexFunc_of_value_Name_1_l1 p1 p2 k1) (z1 + (Utf8.decode p1 z1).2)))
      (strings_indexFunc_of_value_Name_1_j1)

def strings_indexFunc_of_value_Name_1 (p1 : ByteArray) (p2 : Bool) : Option Int :=
    strings_indexFunc_of_value_Name_1_l1 p1 p2 BIG 0


def strings_IndexFunc_of_value_Name_1 (p1 : ByteArray) : Option Int :=
    bnd (strings_indexFunc_of_value_Name_1 p1 true) fun r1 =>
    some r1


def strings_ContainsFunc_of_value_Name_1 (p1 : ByteArray) : Option Bool :=
    bnd (strings_IndexFunc_of_value_Name_1 p1) fun r1 =>
    some (decide ((0 : Int) ≤ r1))


def value_Name_j1 (p1 : ByteArray) (x1 : Bool) : Option Bool :=
    ift x1
      (some false)
      (bnd (strings_ContainsFunc_of_value_Name_1 p1) fun r1 =>
       some (!r1))

def value_Name (p1 : ByteArray) : Option Bool :=
    ift (p1.toList == (ByteArray.mk #[]).toList)
      (value_Name_j1 p1 true)
      (ift (decide ((24 : Int) < (p1.size : Int)))
         (value_Name_j1 p1 true)
         (grd (0 ≤ (0 : Int) ∧ (0 : Int) < (p1.size : Int)) <|
          bnd (some (decide (((p1.data.toList.getD (0 : Int).toNat 0).toNat : Int) < (97 : Int)))) fun y1 =>
          ift y1
            (value_Name_j1 p1 true)
            (grd (0 ≤ (0 : Int) ∧ (0 : Int) < (p1.size : Int)) <|
             bnd (some (decide ((122 : Int) < ((p1.data.toList.getD (0 : Int).toNat 0).toNat : Int)))) fun y2 =>
             value_Name_j1 p1 y2)))


def value_fields_1 (p1 : GField) : Option Bool :=
    bnd (value_Name p1.name) fun r1 =>
    some (!r1)


def slices_IndexFunc_api_Field_api_Field_of_value_fields_1_j1 : Option Int :=
    some (-1 : Int)

def slices_IndexFunc_api_Field_api_Field_of_value_fields_1_l1 (p1 : (List GField)) : Nat → Int → Option Int
  | 0, _ => none
  | k1 + 1, x1 =>
    ift (decide (x1 < (p1.length : Int)))
      (bnd (at? p1 x1) fun e1 =>
       bnd (value_fields_1 e1) fun r1 =>
       ift r1
         (some x1)
         ((slices_IndexFunc_api_Field_api_Field_of_value_fields_1_l1 p1 k1) (IntKind.i64.wrap (x1 + (1 : Int)))))
      (slices_IndexFunc_api_Field_api_Field_of_value_fields_1_j1)

def slices_IndexFunc_api_Field_api_Field_of_value_fields_1 (p1 : (List GField)) : Option Int :=
    slices_IndexFunc_api_Field_api_Field_of_value_fields_1_l1 p1 BIG (0 : Int)

def slices_ContainsFunc_api_Field_api_Field_of_value_fields_1 (p1 : (List GField)) : Option Bool :=
    bnd (slices_IndexFunc_api_Field_api_Field_of_value_fields_1 p1) fun r1 =>
    some (decide ((0 : Int) ≤ r1))


def value_fields_2 (p1 : GField) (p2 : GField) : Option (Bool × GField) :=
    some ((p1.name.toList == p2.name.toList), p2)

def slices_IndexFunc_api_Field_api_Field_of_value_fields_2_j1 (z7 : Int) (z8 : ByteArray) (z9 : Bool) (z10 : Int) (z11 : Int) (z12 : List GField) : Option (Int × GField) :=
    some ((-1 : Int), (FieldP.mk z7 z8 z9 (GType.mk z10 z11 z12)))

def slices_IndexFunc_api_Field_api_Field_of_value_fields_2_l1 (p1 : (List GField)) : Nat → Int → ByteArray → Bool → Int → Int → List GField → Int → Option (Int × GField)
  | 0, _, _, _, _, _, _, _ => none
  | k1 + 1, z1, z2, z3, z4, z5, z6, x1 =>
    ift (decide (x1 < (p1.length : Int)))
      (bnd (at? p1 x1) fun e1 =>
       bnd (value_fields_2 e1 (FieldP.mk z1 z2 z3 (GType.mk z4 z5 z6))) fun r1 =>
       ift r1.1
         (some (x1, r1.2))
         ((slices_IndexFunc_api_Field_api_Field_of_value_fields_2_l1 p1 k1) r1.2.id r1.2.name r1.2.need r1.2.type.kind r1.2.type.scale r1.2.type.fields (IntKind.i64.wrap (x1 + (1 : Int)))))
      (slices_IndexFunc_api_Field_api_Field_of_value_fields_2_j1 z1 z2 z3 z4 z5 z6)

def slices_IndexFunc_api_Field_api_Field_of_value_fields_2 (p1 : (List GField)) (p2 : GField) : Option (Int × GField) :=
    slices_IndexFunc_api_Field_api_Field_of_value_fields_2_l1 p1 BIG p2.id p2.name p2.need p2.type.kind p2.type.scale p2.type.fields (0 : Int)

def slices_ContainsFunc_api_Field_api_Field_of_value_fields_2 (p1 : (List GField)) (p2 : GField) : Option (Bool × GField) :=
    bnd (slices_IndexFunc_api_Field_api_Field_of_value_fields_2 p1 p2) fun r1 =>
    some ((decide ((0 : Int) ≤ r1.1)), r1.2)

def value_fields_j1 (x1 : Bool) : Option Int :=
    ift x1
      (some (1 : Int))
      (some (0 : Int))

def value_fields_j2 : Option Int :=
    some (0 : Int)

def value_fields_l1 (p1 : GType) : Nat → Int → Option Int
  | 0, _ => none
  | k1 + 1, x2 =>
    ift (decide (x2 < (p1.fields.length : Int)))
      (bnd (at? p1.fields x2) fun e2 =>
       grd (0 ≤ (0 : Int) ∧ (0 : Int) ≤ x2 ∧ x2 ≤ (p1.fields.length : Int)) <|
       bnd (slices_ContainsFunc_api_Field_api_Field_of_value_fields_2 ((p1.fields.drop (0 : Int).toNat).take (x2.toNat - (0 : Int).toNat)) e2) fun r2 =>
       ift r2.1
         (some (5 : Int))
         ((value_fields_l1 p1 k1) (IntKind.i64.wrap (x2 + (1 : Int)))))
      (value_fields_j2)

def value_fields (p1 : GType) : Option Int :=
    ift (p1.kind == (6 : Int))
      (ift ((p1.fields.length : Int) != (1 : Int))
         (value_fields_j1 true)
         (bnd (at? p1.fields (0 : Int)) fun e1 =>
          value_fields_j1 (!(e1.name.toList == (ByteArray.mk #[]).toList))))
      (ift (p1.kind != (7 : Int))
         (ift (decide ((0 : Int) < (p1.fields.length : Int)))
            (some (1 : Int))
            (some (0 : Int)))
         (ift ((p1.fields.length : Int) == (0 : Int))
            (some (1 : Int))
            (bnd (slices_ContainsFunc_api_Field_api_Field_of_value_fields_1 p1.fields) fun r1 =>
             ift r1
               (some (4 : Int))
               (value_fields_l1 p1 BIG (0 : Int)))))

def value_checker_check_j5 (z3 : Int) : Option (Int × GChecker) :=
    some ((0 : Int), (GChecker.mk z3))

def value_checker_check_l1 (q_value_checker_check : GType → Int → GChecker → Option (Int × GChecker)) (p1 : GType) (p2 : Int) : Nat → Int → Int → Option (Int × GChecker)
  | 0, _, _ => none
  | k1 + 1, z2, x4 =>
    ift (decide (x4 < (p1.fields.length : Int)))
      (bnd (at? p1.fields x4) fun e1 =>
       bnd (q_value_checker_check e1.type (IntKind.i64.wrap (p2 + (1 : Int))) (GChecker.mk z2)) fun r4 =>
       ift (r4.1 != (0 : Int))
         (some (r4.1, r4.2))
         ((value_checker_check_l1 q_value_checker_check p1 p2 k1) r4.2.leaves (IntKind.i64.wrap (x4 + (1 : Int)))))
      (value_checker_check_j5 z2)

def value_checker_check_j4 (q_value_checker_check : GType → Int → GChecker → Option (Int × GChecker)) (p1 : GType) (p2 : Int) (z1 : Int) (x3 : Bool) : Option (Int × GChecker) :=
    ift x3
      (some ((1 : Int), (GChecker.mk z1)))
      (bnd (value_fields p1) fun r3 =>
       ift (r3 != (0 : Int))
         (some (r3, (GChecker.mk z1)))
         (value_checker_check_l1 q_value_checker_check p1 p2 BIG z1 (0 : Int)))

def value_checker_check_j3 (q_value_checker_check : GType → Int → GChecker → Option (Int × GChecker)) (p1 : GType) (p2 : Int) (z1 : Int) (x2 : Bool) : Option (Int × GChecker) :=
    ift x2
      (some ((3 : Int), (GChecker.mk z1)))
      (ift (p1.scale != (0 : Int))
         (ift (p1.kind != (3 : Int))
            (value_checker_check_j4 q_value_checker_check p1 p2 z1 true)
            (ift (decide (p1.scale < (0 : Int)))
               (value_checker_check_j4 q_value_checker_check p1 p2 z1 true)
               (value_checker_check_j4 q_value_checker_check p1 p2 z1 (decide ((12 : Int) < p1.scale)))))
         (value_checker_check_j4 q_value_checker_check p1 p2 z1 false))

def value_checker_check_j2 (q_value_checker_check : GType → Int → GChecker → Option (Int × GChecker)) (p1 : GType) (p2 : Int) (z1 : Int) : Option (Int × GChecker) :=
    ift (decide (p1.kind < (1 : Int)))
      (value_checker_check_j3 q_value_checker_check p1 p2 z1 true)
      (value_checker_check_j3 q_value_checker_check p1 p2 z1 (decide ((7 : Int) < p1.kind)))

def value_checker_check_j1 (q_value_checker_check : GType → Int → GChecker → Option (Int × GChecker)) (p1 : GType) (p2 : Int) (p3 : GChecker) (x1 : Bool) : Option (Int × GChecker) :=
    ift x1
      (some ((7 : Int), p3))
      (bnd (value_leaf p1) fun r2 =>
       ift r2
         (value_checker_check_j2 q_value_checker_check p1 p2 (IntKind.i64.wrap (p3.leaves + (1 : Int))))
         (value_checker_check_j2 q_value_checker_check p1 p2 p3.leaves))

def value_checker_check : Nat → GType → Int → GChecker → Option (Int × GChecker)
  | 0, _, _, _ => none
  | k0 + 1, p1, p2, p3 =>
    ift (decide ((4 : Int) < p2))
      (value_checker_check_j1 (value_checker_check k0) p1 p2 p3 true)
      (bnd (value_leaf p1) fun r1 =>
       ift r1
         (value_checker_check_j1 (value_checker_check k0) p1 p2 p3 (p3.leaves == (40 : Int)))
         (value_checker_check_j1 (value_checker_check k0) p1 p2 p3 false))

def value_CheckType (p1 : GType) : Option Int :=
    bnd (value_checker_check BIG p1 (1 : Int) (GChecker.mk (0 : Int))) fun r1 =>
    some r1.1

def value_Result_j1 (p1 : Int) (p2 : GType) (p3 : GType) (x1 : Bool) : Option (GType × Int) :=
    ift x1
      (some ((GType.mk (0 : Int) (0 : Int) []), (3 : Int)))
      (bnd (at? [p2, p3] (0 : Int)) fun e1 =>
       bnd (value_CheckType e1) fun r1 =>
       ift (r1 != (0 : Int))
         (some ((GType.mk (0 : Int) (0 : Int) []), r1))
         (bnd (at? [p2, p3] (1 : Int)) fun e2 =>
          bnd (value_CheckType e2) fun r2 =>
          ift (r2 != (0 : Int))
            (some ((GType.mk (0 : Int) (0 : Int) []), r2))
            (bnd (value_result p1 p2 p3) fun r3 =>
             ift (!r3.2)
               (some ((GType.mk (0 : Int) (0 : Int) []), (2 : Int)))
               (some (r3.1, (0 : Int))))))

def value_Result (p1 : Int) (p2 : GType) (p3 : GType) : Option (GType × Int) :=
    ift (decide (p1 < (1 : Int)))
      (value_Result_j1 p1 p2 p3 true)
      (value_Result_j1 p1 p2 p3 (decide ((7 : Int) < p1)))

def ref1_Leaf_j1 (x1 : Bool) : Option Bool :=
    some x1

def ref1_Leaf (p1 : Int) : Option Bool :=
    ift (p1 != (6 : Int))
      (ref1_Leaf_j1 (p1 != (7 : Int)))
      (ref1_Leaf_j1 false)


def ref1_Name_j4 (rec1 : Int → Option Bool) (x2 : Int) (x5 : Bool) : Option Bool :=
    ift x5
      (some false)
      (rec1 (IntKind.i64.wrap (x2 + (1 : Int))))

def ref1_Name_j3 (rec1 : Int → Option Bool) (x2 : Int) (x3 : Bool) (x4 : Bool) : Option Bool :=
    ift (!x3)
      (ift (x2 == (0 : Int))
         (ref1_Name_j4 rec1 x2 true)
         (ref1_Name_j4 rec1 x2 (!x4)))
      (ref1_Name_j4 rec1 x2 false)

def ref1_Name_j2 (rec1 : Int → Option Bool) (p1 : ByteArray) (x2 : Int) (x3 : Bool) : Option Bool :=
    grd (0 ≤ x2 ∧ x2 < (p1.size : Int)) <|
    ift (((p1.data.toList.getD x2.toNat 0).toNat : Int) == (95 : Int))
      (ref1_Name_j3 rec1 x2 x3 true)
      (grd (0 ≤ x2 ∧ x2 < (p1.size : Int)) <|
       bnd (some (decide ((48 : Int) ≤ ((p1.data.toList.getD x2.toNat 0).toNat : Int)))) fun y3 =>
       ift y3
         (grd (0 ≤ x2 ∧ x2 < (p1.size : Int)) <|
          bnd (some (decide (((p1.data.toList.getD x2.toNat 0).toNat : Int) ≤ (57 : Int)))) fun y4 =>
          ref1_Name_j3 rec1 x2 x3 y4)
         (ref1_Name_j3 rec1 x2 x3 false))

def ref1_Name_j5 : Option Bool :=
    some true

def ref1_Name_l1 (p1 : ByteArray) : Nat → Int → Option Bool
  | 0, _ => none
  | k1 + 1, x2 =>
    ift (decide (x2 < (p1.size : Int)))
      (grd (0 ≤ x2 ∧ x2 < (p1.size : Int)) <|
       bnd (some (decide ((97 : Int) ≤ ((p1.data.toList.getD x2.toNat 0).toNat : Int)))) fun y1 =>
       ift y1
         (grd (0 ≤ x2 ∧ x2 < (p1.size : Int)) <|
          bnd (some (decide (((p1.data.toList.getD x2.toNat 0).toNat : Int) ≤ (122 : Int)))) fun y2 =>
          ref1_Name_j2 (ref1_Name_l1 p1 k1) p1 x2 y2)
         (ref1_Name_j2 (ref1_Name_l1 p1 k1) p1 x2 false))
      (ref1_Name_j5)

def ref1_Name_j1 (p1 : ByteArray) (x1 : Bool) : Option Bool :=
    ift x1
      (some false)
      (ref1_Name_l1 p1 BIG (0 : Int))

def ref1_Name (p1 : ByteArray) : Option Bool :=
    ift (decide ((p1.size : Int) < (1 : Int)))
      (ref1_Name_j1 p1 true)
      (ref1_Name_j1 p1 (decide ((24 : Int) < (p1.size : Int))))


def ref1_shape_j5 (rec2 : Int → Option Int) (x5 : Int) : Option Int :=
    rec2 (IntKind.i64.wrap (x5 + (1 : Int)))

def ref1_shape_l3 (rec2 : Int → Option Int) (p1 : GType) (x5 : Int) : Nat → Int → Option Int
  | 0, _ => none
  | k3 + 1, x6 =>
    ift (decide (x6 < x5))
      (bnd (at? p1.fields x6) fun e3 =>
       bnd (at? p1.fields x5) fun e4 =>
       ift (e3.name.toList == e4.name.toList)
         (some (5 : Int))
         ((ref1_shape_l3 rec2 p1 x5 k3) (IntKind.i64.wrap (x6 + (1 : Int)))))
      (ref1_shape_j5 rec2 x5)

def ref1_shape_j6 : Option Int :=
    some (0 : Int)

def ref1_shape_l2 (p1 : GType) : Nat → Int → Option Int
  | 0, _ => none
  | k2 + 1, x5 =>
    ift (decide (x5 < (p1.fields.length : Int)))
      (ref1_shape_l3 (ref1_shape_l2 p1 k2) p1 x5 BIG (0 : Int))
      (ref1_shape_j6)

def ref1_shape_j4 (p1 : GType) : Option Int :=
    ref1_shape_l2 p1 BIG (0 : Int)

def ref1_shape_l1 (p1 : GType) : Nat → Int → Option Int
  | 0, _ => none
  | k1 + 1, x4 =>
    ift (decide (x4 < (p1.fields.length : Int)))
      (bnd (at? p1.fields x4) fun e2 =>
       bnd (ref1_Name e2.name) fun r5 =>
       ift (!r5)
         (some (4 : Int))
         ((ref1_shape_l1 p1 k1) (IntKind.i64.wrap (x4 + (1 : Int)))))
      (ref1_shape_j4 p1)

def ref1_shape_j3 (p1 : GType) (x3 : Bool) : Option Int :=
    ift x3
      (some (1 : Int))
      (ift (p1.kind != (7 : Int))
         (some (0 : Int))
         (ref1_shape_l1 p1 BIG (0 : Int)))

def ref1_shape_j2 (p1 : GType) (x2 : Bool) : Option Int :=
    ift x2
      (some (1 : Int))
      (ift (p1.kind == (7 : Int))
         (ift ((p1.fields.length : Int) == (0 : Int))
            (ref1_shape_j3 p1 true)
            (bnd (ref1_Leaf p1.kind) fun r3 =>
             ift r3
               (ref1_shape_j3 p1 (decide ((0 : Int) < (p1.fields.length : Int))))
               (ref1_shape_j3 p1 false)))
         (bnd (ref1_Leaf p1.kind) fun r4 =>
          ift r4
            (ref1_shape_j3 p1 (decide ((0 : Int) < (p1.fields.length : Int))))
            (ref1_shape_j3 p1 false)))

def ref1_shape_j1 (p1 : GType) (x1 : Bool) : Option Int :=
    ift x1
      (some (1 : Int))
      (ift (p1.kind == (6 : Int))
         (ift ((p1.fields.length : Int) != (1 : Int))
            (ref1_shape_j2 p1 true)
            (bnd (at? p1.fields (0 : Int)) fun e1 =>
             ref1_shape_j2 p1 (!(e1.name.toList == (ByteArray.mk #[]).toList))))
         (ref1_shape_j2 p1 false))

def ref1_shape (p1 : GType) : Option Int :=
    bnd (ref1_within p1.kind (1 : Int) (7 : Int)) fun r1 =>
    ift (!r1)
      (some (3 : Int))
      (ift (p1.kind == (3 : Int))
         (bnd (ref1_within p1.scale (0 : Int) (12 : Int)) fun r2 =>
          ift (!r2)
            (ref1_shape_j1 p1 true)
            (ift (p1.kind != (3 : Int))
               (ref1_shape_j1 p1 (p1.scale != (0 : Int)))
               (ref1_shape_j1 p1 false)))
         (ift (p1.kind != (3 : Int))
            (ref1_shape_j1 p1 (p1.scale != (0 : Int)))
            (ref1_shape_j1 p1 false)))

def ref1_checkType_j2 (z3 : Int) : Option (Int × Int) :=
    some ((0 : Int), z3)

def ref1_checkType_l1 (q_ref1_checkType : GType → Int → Int → Option (Int × Int)) (p1 : GType) (p2 : Int) : Nat → Int → Int → Option (Int × Int)
  | 0, _, _ => none
  | k1 + 1, z2, x1 =>
    ift (decide (x1 < (p1.fields.length : Int)))
      (bnd (at? p1.fields x1) fun e1 =>
       bnd (q_ref1_checkType e1.type (IntKind.i64.wrap (p2 + (1 : Int))) z2) fun r3 =>
       ift (r3.1 != (0 : Int))
         (some (r3.1, r3.2))
         ((ref1_checkType_l1 q_ref1_checkType p1 p2 k1) r3.2 (IntKind.i64.wrap (x1 + (1 : Int)))))
      (ref1_checkType_j2 z2)

def ref1_checkType_j1 (q_ref1_checkType : GType → Int → Int → Option (Int × Int)) (p1 : GType) (p2 : Int) (z1 : Int) : Option (Int × Int) :=
    bnd (ref1_shape p1) fun r2 =>
    ift (r2 != (0 : Int))
      (some (r2, z1))
      (ref1_checkType_l1 q_ref1_checkType p1 p2 BIG z1 (0 : Int))

def ref1_checkType : Nat → GType → Int → Int → Option (Int × Int)
  | 0, _, _, _ => none
  | k0 + 1, p1, p2, p3 =>
    ift (decide ((4 : Int) < p2))
      (some ((7 : Int), p3))
      (bnd (ref1_Leaf p1.kind) fun r1 =>
       ift r1
         (ift (p3 == (40 : Int))
            (some ((7 : Int), p3))
            (ref1_checkType_j1 (ref1_checkType k0) p1 p2 (IntKind.i64.wrap (p3 + (1 : Int)))))
         (ref1_checkType_j1 (ref1_checkType k0) p1 p2 p3))

def ref1_CheckType (p1 : GType) : Option Int :=
    bnd (ref1_checkType BIG p1 (1 : Int) (0 : Int)) fun r1 =>
    some r1.1

def ref1_result_j2 (x2 : Bool) : Option (GType × Bool) :=
    some ((GType.mk (1 : Int) (0 : Int) []), x2)

def ref1_result_j8 (x8 : Int) : Option (GType × Bool) :=
    some ((GType.mk (3 : Int) x8 []), true)

def ref1_result_j7 (x7 : Int) : Option (GType × Bool) :=
    ift (decide ((12 : Int) < x7))
      (ref1_result_j8 (12 : Int))
      (ref1_result_j8 x7)

def ref1_result_j6 (p1 : Int) (x6 : Int) : Option (GType × Bool) :=
    ift (p1 == (4 : Int))
      (ref1_result_j7 (IntKind.i64.wrap (x6 + (4 : Int))))
      (ref1_result_j7 x6)

def ref1_result_j5 (p1 : Int) (p2 : GType) (p3 : GType) (x5 : Int) : Option (GType × Bool) :=
    ift (p1 == (3 : Int))
      (ref1_result_j6 p1 (IntKind.i64.wrap (p2.scale + p3.scale)))
      (ref1_result_j6 p1 x5)

def ref1_result_j10 (x10 : Bool) : Option (GType × Bool) :=
    some ((GType.mk (5 : Int) (0 : Int) []), x10)

def ref1_result_j12 (p1 : Int) (x12 : Bool) : Option (GType × Bool) :=
    ift x12
      (some ((GType.mk (2 : Int) (0 : Int) []), (p1 == (2 : Int))))
      (some ((GType.mk (0 : Int) (0 : Int) []), false))

def ref1_result_j11 (p1 : Int) (p2 : GType) (p3 : GType) (x11 : Bool) : Option (GType × Bool) :=
    ift x11
      (some ((GType.mk (5 : Int) (0 : Int) []), (p1 == (1 : Int))))
      (ift (p2.kind == (5 : Int))
         (ref1_result_j12 p1 (p3.kind == (5 : Int)))
         (ref1_result_j12 p1 false))

def ref1_result_j9 (p1 : Int) (p2 : GType) (p3 : GType) (x9 : Bool) : Option (GType × Bool) :=
    ift x9
      (ift (p1 == (1 : Int))
         (ref1_result_j10 true)
         (ref1_result_j10 (p1 == (2 : Int))))
      (ift (p2.kind == (2 : Int))
         (ref1_result_j11 p1 p2 p3 (p3.kind == (5 : Int)))
         (ref1_result_j11 p1 p2 p3 false))

def ref1_result_j4 (p1 : Int) (p2 : GType) (p3 : GType) (x4 : Bool) : Option (GType × Bool) :=
    ift x4
      (ift (decide (p2.scale < p3.scale))
         (ref1_result_j5 p1 p2 p3 p3.scale)
         (ref1_result_j5 p1 p2 p3 p2.scale))
      (ift (p2.kind == (5 : Int))
         (ref1_result_j9 p1 p2 p3 (p3.kind == (2 : Int)))
         (ref1_result_j9 p1 p2 p3 false))

def ref1_result_j3 (p1 : Int) (p2 : GType) (p3 : GType) (x3 : Bool) : Option (GType × Bool) :=
    ift x3
      (some (p2, true))
      (bnd (ref1_isNumber p2.kind) fun r1 =>
       ift r1
         (bnd (ref1_isNumber p3.kind) fun r2 =>
          ref1_result_j4 p1 p2 p3 r2)
         (ref1_result_j4 p1 p2 p3 false))

def ref1_result_j1 (p1 : Int) (p2 : GType) (p3 : GType) (x1 : Bool) : Option (GType × Bool) :=
    ift x1
      (ift (p2.kind == (1 : Int))
         (ref1_result_j2 (p3.kind == (1 : Int)))
         (ref1_result_j2 false))
      (ift (p2.kind == (2 : Int))
         (ref1_result_j3 p1 p2 p3 (p3.kind == (2 : Int)))
         (ref1_result_j3 p1 p2 p3 false))

def ref1_result (p1 : Int) (p2 : GType) (p3 : GType) : Option (GType × Bool) :=
    ift (p1 == (6 : Int))
      (ref1_result_j1 p1 p2 p3 true)
      (ref1_result_j1 p1 p2 p3 (p1 == (7 : Int)))

def ref1_Result (p1 : Int) (p2 : GType) (p3 : GType) : Option (GType × Int) :=
    bnd (ref1_within p1 (1 : Int) (7 : Int)) fun r1 =>
    ift (!r1)
      (some ((GType.mk (0 : Int) (0 : Int) []), (3 : Int)))
      (bnd (ref1_CheckType p2) fun r2 =>
       ift (r2 != (0 : Int))
         (some ((GType.mk (0 : Int) (0 : Int) []), r2))
         (bnd (ref1_CheckType p3) fun r3 =>
          ift (r3 != (0 : Int))
            (some ((GType.mk (0 : Int) (0 : Int) []), r3))
            (bnd (ref1_result p1 p2 p3) fun r4 =>
             ift (!r4.2)
               (some ((GType.mk (0 : Int) (0 : Int) []), (2 : Int)))
               (some (r4.1, (0 : Int))))))



end Go.Proofs.YtdkmclmdemngfaaDoor
namespace Go.Proofs.YtdkmclmdemngfaaDoor
open Go.SX Go
set_option linter.unusedVariables false
set_option linter.unusedSimpArgs false
set_option maxRecDepth 100000
set_option maxHeartbeats 8000000

end Go.Proofs.YtdkmclmdemngfaaDoor
