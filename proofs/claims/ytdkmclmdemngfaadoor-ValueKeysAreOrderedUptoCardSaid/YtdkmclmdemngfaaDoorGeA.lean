/- The shelf's contract of utf8.ValidString, laid at this program. Printed by a program: what the functions compute, and the proofs of their contracts. -/
import Derived.Test.YtdkmclmdemngfaaDoorProg
import Derived.Test.YtdkmclmdemngfaaDoorChecked
import Derived.Test.YtdkmclmdemngfaaDoorSxB
namespace Go.Proofs.YtdkmclmdemngfaaDoor
open Go Go.SX Go.Shelf Go.Lib
set_option linter.unusedVariables false

def u8ren : Ren where
 f := fun n => if n = 196 then 126 else if n = 259 then 132 else n
 t := fun n => if n = 0 then 0 else if n = 3 then 3 else if n = 4 then 4 else if n = 5 then 5 else if n = 9 then 9 else if n = 12 then 12 else if n = 46 then 131 else if n = 53 then 36 else if n = 119 then 133 else if n = 138 then 135 else if n = 139 then 136 else n
 g := fun n => if n = 3 then 1 else if n = 4 then 2 else n

set_option maxRecDepth 100000 in
theorem u8lays : Lays.n196 Tryd.prog u8ren where
 mixed := by kernel_rfl
 f196 := by kernel_rfl
 f259 := by kernel_rfl
 t0 := by kernel_rfl
 a0 := fun w => by kernel_rfl
 z0 := fun w => by kernel_rfl
 v0 := fun w => by kernel_rfl
 t3 := by kernel_rfl
 a3 := fun w => by kernel_rfl
 z3 := fun w => by kernel_rfl
 v3 := fun w => by kernel_rfl
 t4 := by kernel_rfl
 a4 := fun w => by kernel_rfl
 z4 := fun w => by kernel_rfl
 v4 := fun w => by kernel_rfl
 t5 := by kernel_rfl
 a5 := fun w => by kernel_rfl
 z5 := fun w => by kernel_rfl
 v5 := fun w => by kernel_rfl
 t9 := by kernel_rfl
 a9 := fun w => by kernel_rfl
 z9 := fun w => by kernel_rfl
 v9 := fun w => by kernel_rfl
 t12 := by kernel_rfl
 a12 := fun w => by kernel_rfl
 z12 := fun w => by kernel_rfl
 v12 := fun w => by kernel_rfl
 t46 := by kernel_rfl
 a46 := fun w => by kernel_rfl
 z46 := fun w => by kernel_rfl
 v46 := fun w => by kernel_rfl
 t53 := by kernel_rfl
 a53 := fun w => by kernel_rfl
 z53 := fun w => by kernel_rfl
 v53 := fun w => by kernel_rfl
 t119 := by kernel_rfl
 a119 := fun w => by kernel_rfl
 z119 := fun w => by kernel_rfl
 t138 := by kernel_rfl
 a138 := fun w => by kernel_rfl
 z138 := fun w => by kernel_rfl
 v138 := fun w => by kernel_rfl
 t139 := by kernel_rfl
 a139 := fun w => by kernel_rfl
 z139 := fun w => by kernel_rfl
 v139 := fun w => by kernel_rfl
 g3 := by kernel_rfl
 g4 := by kernel_rfl

def utf8_ValidString (p1 : ByteArray) : Option Bool := grd (p1.size ≤ 9223372036854775807) <| some (validD p1.data.toList)

theorem c_utf8_ValidString (p1 : ByteArray) (r : Bool) (h : utf8_ValidString p1 = some r) : PC Tryd.prog 126 [vs p1] (vb r) := by
 unfold utf8_ValidString at h
 obtain ⟨g1, h⟩ := grd_some h
 obtain rfl := Option.some.inj h
 exact pc_validString u8lays (by kernel_rfl) (by kernel_rfl) p1 g1

end Go.Proofs.YtdkmclmdemngfaaDoor
namespace Go.Proofs.YtdkmclmdemngfaaDoor
open Go.SX Go
set_option linter.unusedVariables false
set_option linter.unusedSimpArgs false
set_option maxRecDepth 100000
set_option maxHeartbeats 8000000

def law1_number (p1 : Int) : Option GValue :=
    some (GValue.mk (2 : Int) p1 (0 : Int) ByteArray.empty [])


theorem c_law1_number (p1 : Int) (r : GValue) (h : law1_number p1 = some r) : PC Tryd.prog 10 [vi p1] (.ag [ci r.kind, ci r.n, ci r.scale, cst r.s, cl eValue r.items]) := by
 unfold law1_number at h
 refine zF 5 Tryd.f10 (zq fun K1 hK1 => zr (zg [2] 1 [0,2] (zd (hK1 _ _ (zq fun K2 hK2 => zr ?_)))))
 refine zg [2] 3 [2] (zd (hK2 _ _ (ze ?_)))
 obtain rfl := Option.some.inj h
 exact zf [.ag [ci (2 : Int), ci p1, ci (0 : Int), cst ByteArray.empty, .pv (.s (.slice none 0 0))]] (.ag (.cons (.rfl _ rfl) (.cons (.rfl _ rfl) (.cons (.rfl _ rfl) (.cons (.rfl _ rfl) (.cons (.nl) .nil))))))

def value_within_j1 (x1 : Bool) : Option Bool :=
    some x1

def value_within (p1 : Int) (p2 : Int) (p3 : Int) : Option Bool :=
    ift (decide (p2 ≤ p1))
      (value_within_j1 (decide (p1 ≤ p3)))
      (value_within_j1 false)


theorem c_value_within (p1 : Int) (p2 : Int) (p3 : Int) (r : Bool) (h : value_within p1 p2 p3 = some r) : PC Tryd.prog 63 [vi p1, vi p2, vi p3] (vb r) := by
 unfold value_within at h
 refine zF 15 Tryd.f63 (zq fun K1 hK1 => zr (zg [] 1 [0,1,2] (zd (hK1 _ _ (zq fun K2 hK2 => ?_)))))
 have hJ1 : ∀ (x1 : Bool), value_within_j1 x1 = some r → ∀ fr1 st1, Sub 15 0 [] fr1 st1 [(6, vb x1)] [] → K2 fr1 st1 := by
  intro x1 h fr1 st1 hS
  unfold value_within_j1 at h
  refine hK2 _ _ (XW.sub hS ?_)
  refine ze ?_
  obtain rfl := Option.some.inj h
  exact zf [vb x1] (.one (.rfl _ rfl))
 rcases zW h with ⟨b3, h⟩ | ⟨b3, h⟩
 ·exact zr (zg [] 4 [0,2,10] (zt 10 b3 (zv [] 5 [6] [] [(6, vb (decide (p1 ≤ p3)))] [] (zd (hJ1 (decide (p1 ≤ p3)) h _ _ (zk [6]))))))
 ·exact zr (zg [] 4 [0,2,10] (zt 10 b3 (zg [] 5 [6] (zd (hJ1 false h _ _ (zk [6]))))))

def value_text_j2 (rec1 : Nat → Option Bool) (p1 : ByteArray) (z1 : Nat) (x2 : Bool) : Option Bool :=
    ift x2
      (some false)
      (rec1 (z1 + (Utf8.decode p1 z1).2))

def value_text_j3 : Option Bool :=
    some true

def value_text_l1 (p1 : ByteArray) : Nat → Nat → Option Bool
  | 0, _ => none
  | k1 + 1, z1 =>
    ift (decide (z1 < p1.size))
      (ift (decide (Int.ofNat (Utf8.decode p1 z1).1 < (32 : Int)))
         (value_text_j2 (value_text_l1 p1 k1) p1 z1 true)
         (value_text_j2 (value_text_l1 p1 k1) p1 z1 (Int.ofNat (Utf8.decode p1 z1).1 == (127 : Int))))
      (value_text_j3)

def value_text_j1 (p1 : ByteArray) (x1 : Bool) : Option Bool :=
    ift x1
      (some false)
      (value_text_l1 p1 BIG 0)

def value_text (p1 : ByteArray) : Option Bool :=
    ift (decide ((256 : Int) < (p1.size : Int)))
      (value_text_j1 p1 true)
      (bnd (utf8_ValidString p1) fun r1 =>
       value_text_j1 p1 (!r1))

abbrev qa602 (p1 : ByteArray) (z1 : Nat) : St := [.raw (.stringIter p1 (z1 + (Utf8.decode p1 z1).2))]

theorem c_value_text (p1 : ByteArray) (r : Bool) (h : value_text p1 = some r) : PC Tryd.prog 114 [vs p1] (vb r) := by
 unfold value_text at h
 refine zF 24 Tryd.f114 (zq fun K1 hK1 => zr (zg [] 1 [0] (zd (hK1 _ _ (zq fun K2 hK2 => zq fun K3 hK3 => ?_)))))
 have hJ1 : ∀ (x1 : Bool), value_text_j1 p1 x1 = some r → ∀ fr1 st1, Sub 24 0 [] fr1 st1 [(0, vs p1), (12, vb x1)] [] → K3 fr1 st1 := by
  intro x1 h fr1 st1 hS
  unfold value_text_j1 at h
  refine hK3 _ _ (XW.sub hS ?_)
  refine zC h (fun b6 h => ?_) (fun b6 h => ?_)
  ·refine zq fun K7 hK7 => zr (zg [] 1 [2] (zd (hK7 _ _ (ze ?_))))
   obtain rfl := Option.some.inj h
   exact zf [vb false] (.one (.rfl _ rfl))
  ·refine zs (hK2 _ _ (zq fun K8 hK8 => ?_))
   have hJ3 : ∀ (_ : Unit), value_text_j3 = some r → ∀ fr1 st1, Sub 24 0 [] fr1 st1 [] [] → K8 fr1 st1 := by
    intro _ h fr1 st1 hS
    unfold value_text_j3 at h
    refine hK8 _ _ (XW.sub hS ?_)
    refine zq fun K19 hK19 => zr (zg [] 1 [2] (zd (hK19 _ _ (ze ?_))))
    obtain rfl := Option.some.inj h
    exact zf [vb true] (.one (.rfl _ rfl))
   refine zq fun K9 hK9 => zr (zv [] 1 [13] [] [(13, vs p1)] [] (XO.rng p1 [(14, .one (.pt 0 0 0 0)), (13, vs p1)] [.raw (.stringIter p1 0)] (by kernel_rfl) (by kernel_rfl) (by kernel_rfl) (zd (hK9 _ _ (zb 0 (XW.rounds' BIG (x := cd Tryd.f114 [1,1,0,1,0,0]) (by kernel_rfl) fun Q1 hQ1 => ?_))))))
   have hL1 : ∀ (k1 : Nat) (z1 : Nat), value_text_l1 p1 k1 z1 = some r → XR Tryd.prog 24 0 [] (cd Tryd.f114 [1,1,0,1,0,0]) Q1 k1 [(14, .one (.pt 0 0 0 0))] [.raw (.stringIter p1 z1)] := by
    intro k1
    induction k1 with
    | zero => intro z1 h; rw [value_text_l1.eq_1] at h; cases h
    | succ k1 ih1 =>
     intro z1 h
     rw [value_text_l1.eq_2] at h
     refine zq fun K10 hK10 => ?_
     rcases zW h with ⟨b11, h⟩ | ⟨b11, h⟩
     ·refine zr (XO.nxt 0 p1 z1 [(15, .tp [vb true, vi (Int.ofNat z1), vk .i32 (Int.ofNat (Utf8.decode p1 z1).1)]), (14, .one (.pt 0 0 0 0))] (qa602 p1 z1) (by kernel_rfl) (by kernel_rfl) (by kernel_rfl) (by kernel_rfl) b11 (zg [] 1 [14,15,16] (zd (hK10 _ _ (zq fun K12 hK12 => zc true (fun _ => ?_) (fun hx => by cases hx))))))
      refine zs (hK12 _ _ (zb 1 (zq fun K13 hK13 => zr (zg [] 2 [4,14] (zd (hK13 _ _ ?_))))))
      refine zq fun K14 hK14 => ?_
      have hJ2 : ∀ (x2 : Bool), value_text_j2 (value_text_l1 p1 k1) p1 z1 x2 = some r → ∀ fr1 st1, Sub 24 0 [] fr1 st1 [(14, .one (.pt 0 0 0 0)), (23, vb x2)] (qa602 p1 z1) → K14 fr1 st1 := by
       intro x2 h fr1 st1 hS
       unfold value_text_j2 at h
       refine hK14 _ _ (XW.sub hS ?_)
       refine zC h (fun b16 h => ?_) (fun b16 h => ?_)
       ·refine zq fun K17 hK17 => zr (zg [] 1 [2] (zd (hK17 _ _ (ze (hQ1 _ _ _ ?_)))))
        obtain rfl := Option.some.inj h
        exact zf [vb false] (.one (.rfl _ rfl))
       ·exact zs (XR.sub (zk [14]) (ih1 (z1 + (Utf8.decode p1 z1).2) h))
      rcases zW h with ⟨b15, h⟩ | ⟨b15, h⟩
      ·exact zr (zv [] 3 [4,14,20] [] [(4, vk .i32 (Int.ofNat (Utf8.decode p1 z1).1)), (14, .one (.pt 0 0 0 0)), (20, vb (decide (Int.ofNat (Utf8.decode p1 z1).1 < (32 : Int))))] (qa602 p1 z1) (zt 20 b15 (zg [] 3 [14,23] (zd (hJ2 true h _ _ (zk [14,23]))))))
      ·exact zr (zg [] 3 [4,14,20] (zt 20 b15 (zv [] 3 [14,23] [] [(14, .one (.pt 0 0 0 0)), (23, vb (Int.ofNat (Utf8.decode p1 z1).1 == (127 : Int)))] (qa602 p1 z1) (zd (hJ2 (Int.ofNat (Utf8.decode p1 z1).1 == (127 : Int)) h _ _ (zk [14,23]))))))
     ·refine zr (XO.nxtE 0 p1 z1 [(15, .tp [vb false]), (14, .one (.pt 0 0 0 0))] (by kernel_rfl) (by kernel_rfl) (by kernel_rfl) b11 (zv [] 1 [14,15,16] [] [(14, .one (.pt 0 0 0 0)), (15, .tp [vb false]), (16, vb false)] [.raw (.stringIter p1 z1)] (zd (hK10 _ _ (zq fun K18 hK18 => zc false (fun hx => by cases hx) (fun _ => ?_))))))
      exact zx 0 (hQ1 _ _ _ (hJ3 () h _ _ (Sub.trans (Sub.pick (fr' := []) [] (by kernel_rfl)) (Sub.take (fr' := []) 0 (Nat.zero_le _) (by kernel_rfl) (by kernel_rfl)))))
   exact XR.sub (zk [14]) (hL1 BIG 0 h)
 rcases zW h with ⟨b4, h⟩ | ⟨b4, h⟩
 ·exact zr (zg [] 4 [0,8] (zt 8 b4 (zv [] 4 [0,12] [] [(0, vs p1), (12, vb true)] [] (zd (hJ1 true h _ _ (zk [0,12]))))))
 ·obtain ⟨r1, c5, h⟩ := zB h
  exact zr (zg [] 4 [0,8] (zt 8 b4 (zg [] 1 [0,8,9] (zl 126 [vs p1] (vb r1) [(10, vb r1), (0, vs p1), (8, vb false), (9, vs p1)] (c_utf8_ValidString _ _ c5) (zg [] 2 [0,12] (zd (hJ1 (!r1) h _ _ (zk [0,12]))))))))

def value_plain_j2 (x2 : Bool) : Option Bool :=
    some x2

def value_plain_j3 (x3 : Bool) : Option Bool :=
    some x3

def value_plain_j4 (x4 : Bool) : Option Bool :=
    some x4

def value_plain_j5 (x5 : Bool) : Option Bool :=
    some x5

def value_plain_j6 (x6 : Bool) : Option Bool :=
    some x6

def value_plain_j7 (x7 : Bool) : Option Bool :=
    some x7

def value_plain_j8 (x8 : Bool) : Option Bool :=
    some x8

def value_plain_j9 (x9 : Bool) : Option Bool :=
    some x9

def value_plain_j1 (p1 : GValue) (x1 : Bool) : Option Bool :=
    ift (p1.kind == (0 : Int))
      (ift x1
         (ift (p1.s.toList == (ByteArray.mk #[]).toList)
            (value_plain_j2 ((p1.items.length : Int) == (0 : Int)))
            (value_plain_j2 false))
         (value_plain_j2 false))
      (ift (p1.kind == (1 : Int))
         (bnd (value_within p1.n (0 : Int) (1 : Int)) fun r1 =>
          ift r1
            (ift (p1.scale == (0 : Int))
               (ift (p1.s.toList == (ByteArray.mk #[]).toList)
                  (value_plain_j3 ((p1.items.length : Int) == (0 : Int)))
                  (value_plain_j3 false))
               (value_plain_j3 false))
            (value_plain_j3 false))
         (ift (p1.kind == (2 : Int))
            (bnd (value_within p1.n (-999999999999999999 : Int) (999999999999999999 : Int)) fun r2 =>
             ift r2
               (ift (p1.scale == (0 : Int))
                  (ift (p1.s.toList == (ByteArray.mk #[]).toList)
                     (value_plain_j4 ((p1.items.length : Int) == (0 : Int)))
                     (value_plain_j4 false))
                  (value_plain_j4 false))
               (value_plain_j4 false))
            (ift (p1.kind == (3 : Int))
               (bnd (value_within p1.n (-999999999999999999 : Int) (999999999999999999 : Int)) fun r3 =>
                ift r3
                  (bnd (value_within p1.scale (0 : Int) (12 : Int)) fun r4 =>
                   ift r4
                     (ift (p1.s.toList == (ByteArray.mk #[]).toList)
                        (value_plain_j5 ((p1.items.length : Int) == (0 : Int)))
                        (value_plain_j5 false))
                     (value_plain_j5 false))
                  (value_plain_j5 false))
               (ift (p1.kind == (4 : Int))
                  (ift x1
                     (bnd (value_text p1.s) fun r5 =>
                      ift r5
                        (value_plain_j6 ((p1.items.length : Int) == (0 : Int)))
                        (value_plain_j6 false))
                     (value_plain_j6 false))
                  (ift (p1.kind == (5 : Int))
                     (bnd (value_within p1.n (-62135596800 : Int) (253402300799 : Int)) fun r6 =>
                      ift r6
                        (ift (p1.scale == (0 : Int))
                           (ift (p1.s.toList == (ByteArray.mk #[]).toList)
                              (value_plain_j7 ((p1.items.length : Int) == (0 : Int)))
                              (value_plain_j7 false))
                           (value_plain_j7 false))
                        (value_plain_j7 false))
                     (ift (p1.kind == (6 : Int))
                        (ift x1
                           (ift (p1.s.toList == (ByteArray.mk #[]).toList)
                              (value_plain_j8 (decide ((p1.items.length : Int) ≤ (64 : Int))))
                              (value_plain_j8 false))
                           (value_plain_j8 false))
                        (ift (p1.kind == (7 : Int))
                           (ift x1
                              (ift (p1.s.toList == (ByteArray.mk #[]).toList)
                                 (value_plain_j9 (decide ((0 : Int) < (p1.items.length : Int))))
                                 (value_plain_j9 false))
                              (value_plain_j9 false))
                           (some false))))))))

def value_plain (p1 : GValue) : Option Bool :=
    ift (p1.n == (0 : Int))
      (value_plain_j1 p1 (p1.scale == (0 : Int)))
      (value_plain_j1 p1 false)

abbrev qa611 (p1 : GValue) : List PV := [pi p1.kind, pi p1.n, pi p1.scale, .s (.string p1.s), .ro (eValue.els p1.items)]
abbrev qa615 : Fr := [(2, vb false)]
abbrev qa628 (p1 : GValue) (r2 : Bool) : Fr := [(53, vb r2), (1, .one (.pv (.rp [(qa611 p1)] 0 0))), (52, vi p1.n)]
abbrev qa630 (p1 : GValue) : Fr := [(1, .one (.pv (.rp [(qa611 p1)] 0 0))), (73, vi p1.n)]
abbrev qa636 (p1 : GValue) (r6 : Bool) : Fr := [(109, vb r6), (1, .one (.pv (.rp [(qa611 p1)] 0 0))), (108, vi p1.n)]

theorem c_value_plain (p1 : GValue) (r : Bool) (h : value_plain p1 = some r) : PC Tryd.prog 77 [.ag [ci p1.kind, ci p1.n, ci p1.scale, cst p1.s, cl eValue p1.items]] (vb r) := by
 unfold value_plain at h
 refine zF 154 Tryd.f77 (zq fun K1 hK1 => zr (zg [] 2 [1] (zd (hK1 _ _ (zq fun K2 hK2 => ?_)))))
 have hJ1 : ∀ (x1 : Bool), value_plain_j1 p1 x1 = some r → ∀ fr1 st1, Sub 154 0 [] fr1 st1 [(1, .one (.pv (.rp [(qa611 p1)] 0 0))), (3, vb x1)] [] → K2 fr1 st1 := by
  intro x1 h fr1 st1 hS
  unfold value_plain_j1 at h
  refine hK2 _ _ (XW.sub hS ?_)
  refine zq fun K4 hK4 => zq fun K5 hK5 => zr (zu [] 2 [1,3,13] [(qa611 p1)] (zd (hK5 _ _ (zb 0 (zq fun K6 hK6 => ?_)))))
  refine zr (zg [] 2 [1,3,13,14] (zd (hK6 _ _ (zC h (fun b7 h => ?_) (fun b7 h => ?_)))))
  ·refine zq fun K8 hK8 => ?_
   have hJ2 : ∀ (x2 : Bool), value_plain_j2 x2 = some r → ∀ fr1 st1, Sub 154 0 [] fr1 st1 [(2, vb x2)] [] → K8 fr1 st1 := by
    intro x2 h fr1 st1 hS
    unfold value_plain_j2 at h
    refine hK8 _ _ (XW.sub hS ?_)
    refine ze ?_
    obtain rfl := Option.some.inj h
    exact zf [vb x2] (.one (.rfl _ rfl))
   rcases zW h with ⟨b9, h⟩ | ⟨b9, h⟩
   ·rcases zW h with ⟨b10, h⟩ | ⟨b10, h⟩
    ·refine zr (zv [] 2 [1,17] [] [(1, .one (.pv (.rp [[pi p1.kind, pi p1.n, pi p1.scale, .s (.string p1.s), .ro (eValue.els p1.items)]] 0 0))), (17, vb x1)] [] (zt 17 b9 (zu [] 5 [1,22] [[pi p1.kind, pi p1.n, pi p1.scale, .s (.string p1.s), .ro (eValue.els p1.items)]] (zt 22 b10 (zv [] 3 [22,25] [[pi p1.kind, pi p1.n, pi p1.scale, .s (.string p1.s), .ro (eValue.els p1.items)]] [(22, vb true), (25, vi ((eValue.els p1.items).length : Int))] [] ?_)))))
     rw [eValue.len p1.items]
     exact zg [] 3 [2] (zd (hJ2 ((p1.items.length : Int) == (0 : Int)) h _ _ (zk [2])))
    ·exact zr (zg [] 2 [1,17] (zt 17 b9 (zv [] 5 [1,22] [(qa611 p1)] [(1, .one (.pv (.rp [(qa611 p1)] 0 0))), (22, vb (p1.s.toList == (ByteArray.mk #[]).toList))] [] (zt 22 b10 (zg [] 6 [2] (zd (hJ2 false h _ _ (zk [2]))))))))
   ·exact zr (zv [] 2 [1,17] [] [(1, .one (.pv (.rp [(qa611 p1)] 0 0))), (17, vb x1)] [] (zt 17 b9 (zg [] 11 [2] (zd (hJ2 false h _ _ (zk [2]))))))
  ·refine zq fun K11 hK11 => zr (zv [] 2 [1,3,13,28] [] [(1, .one (.pv (.rp [(qa611 p1)] 0 0))), (3, vb x1), (13, vi p1.kind), (28, vb (p1.kind == (1 : Int)))] [] (zd (hK11 _ _ (zC h (fun b12 h => ?_) (fun b12 h => ?_)))))
   ·refine zq fun K13 hK13 => ?_
    have hJ3 : ∀ (x3 : Bool), value_plain_j3 x3 = some r → ∀ fr1 st1, Sub 154 0 [] fr1 st1 [(2, vb x3)] [] → K13 fr1 st1 := by
     intro x3 h fr1 st1 hS
     unfold value_plain_j3 at h
     refine hK13 _ _ (XW.sub hS ?_)
     refine ze ?_
     obtain rfl := Option.some.inj h
     exact zf [vb x3] (.one (.rfl _ rfl))
    obtain ⟨r1, c14, h⟩ := zB h
    rcases zW h with ⟨b15, h⟩ | ⟨b15, h⟩
    ·rcases zW h with ⟨b16, h⟩ | ⟨b16, h⟩
     ·rcases zW h with ⟨b17, h⟩ | ⟨b17, h⟩
      ·refine zr (zu [] 2 [1,31] [(qa611 p1)] (za (c_value_within _ _ _ _ c14) (zv [] 1 [1,33] [] [(1, .one (.pv (.rp [(qa611 p1)] 0 0))), (33, vb r1)] [] (zt 33 b15 (zu [] 5 [1,38] [(qa611 p1)] (zt 38 b16 (zu [] 5 [1,43] [(qa611 p1)] ?_)))))))
       refine zt 43 b17 (zv [] 3 [43,46] [[pi p1.kind, pi p1.n, pi p1.scale, .s (.string p1.s), .ro (eValue.els p1.items)]] [(43, vb true), (46, vi ((eValue.els p1.items).length : Int))] [] ?_)
       rw [eValue.len p1.items]
       exact zg [] 3 [2] (zd (hJ3 ((p1.items.length : Int) == (0 : Int)) h _ _ (zk [2])))
      ·refine zr (zu [] 2 [1,31] [(qa611 p1)] (zl 63 [vi p1.n, vi (0 : Int), vi (1 : Int)] (vb r1) [(32, vb r1), (1, .one (.pv (.rp [(qa611 p1)] 0 0))), (31, vi p1.n)] (c_value_within _ _ _ _ c14) (zg [] 1 [1,33] (zt 33 b15 (zu [] 5 [1,38] [(qa611 p1)] (zt 38 b16 ?_))))))
       exact zv [] 5 [1,43] [(qa611 p1)] [(1, .one (.pv (.rp [(qa611 p1)] 0 0))), (43, vb (p1.s.toList == (ByteArray.mk #[]).toList))] [] (zt 43 b17 (zg [] 6 [2] (zd (hJ3 false h _ _ (zk [2])))))
     ·refine zr (zu [] 2 [1,31] [(qa611 p1)] (za (c_value_within _ _ _ _ c14) (zv [] 1 [1,33] [] [(1, .one (.pv (.rp [(qa611 p1)] 0 0))), (33, vb r1)] [] (zt 33 b15 (zu [] 5 [1,38] [(qa611 p1)] (zt 38 b16 (zg [] 11 [2] ?_)))))))
      exact zd (hJ3 false h _ _ (zk [2]))
    ·exact zr (zu [] 2 [1,31] [(qa611 p1)] (za (c_value_within _ _ _ _ c14) (zv [] 1 [1,33] [] [(1, .one (.pv (.rp [(qa611 p1)] 0 0))), (33, vb r1)] [] (zt 33 b15 (zg [] 16 [2] (zd (hJ3 false h _ _ (zk [2]))))))))
   ·refine zq fun K18 hK18 => zr (zg [] 2 [1,3,13,49] (zd (hK18 _ _ (zC h (fun b19 h => ?_) (fun b19 h => ?_)))))
    ·refine zq fun K20 hK20 => ?_
     have hJ4 : ∀ (x4 : Bool), value_plain_j4 x4 = some r → ∀ fr1 st1, Sub 154 0 [] fr1 st1 [(2, vb x4)] [] → K20 fr1 st1 := by
      intro x4 h fr1 st1 hS
      unfold value_plain_j4 at h
      refine hK20 _ _ (XW.sub hS ?_)
      refine ze ?_
      obtain rfl := Option.some.inj h
      exact zf [vb x4] (.one (.rfl _ rfl))
     obtain ⟨r2, c21, h⟩ := zB h
     rcases zW h with ⟨b22, h⟩ | ⟨b22, h⟩
     ·rcases zW h with ⟨b23, h⟩ | ⟨b23, h⟩
      ·rcases zW h with ⟨b24, h⟩ | ⟨b24, h⟩
       ·refine zr (zu [] 2 [1,52] [(qa611 p1)] (zl 63 [vi p1.n, vi (-999999999999999999 : Int), vi (999999999999999999 : Int)] (vb r2) (qa628 p1 r2) (c_value_within _ _ _ _ c21) (zg [] 1 [1,54] (zt 54 b22 (zu [] 5 [1,59] [(qa611 p1)] (zt 59 b23 ?_))))))
        refine zv [] 5 [1,64] [[pi p1.kind, pi p1.n, pi p1.scale, .s (.string p1.s), .ro (eValue.els p1.items)]] [(1, .one (.pv (.rp [[pi p1.kind, pi p1.n, pi p1.scale, .s (.string p1.s), .ro (eValue.els p1.items)]] 0 0))), (64, vb (p1.s.toList == (ByteArray.mk #[]).toList))] [] (zt 64 b24 (zv [] 3 [64,67] [[pi p1.kind, pi p1.n, pi p1.scale, .s (.string p1.s), .ro (eValue.els p1.items)]] [(64, vb true), (67, vi ((eValue.els p1.items).length : Int))] [] ?_))
        rw [eValue.len p1.items]
        exact zg [] 3 [2] (zd (hJ4 ((p1.items.length : Int) == (0 : Int)) h _ _ (zk [2])))
       ·refine zr (zu [] 2 [1,52] [(qa611 p1)] (zl 63 [vi p1.n, vi (-999999999999999999 : Int), vi (999999999999999999 : Int)] (vb r2) (qa628 p1 r2) (c_value_within _ _ _ _ c21) (zg [] 1 [1,54] (zt 54 b22 (zu [] 5 [1,59] [(qa611 p1)] (zt 59 b23 ?_))))))
        exact zv [] 5 [1,64] [(qa611 p1)] [(1, .one (.pv (.rp [(qa611 p1)] 0 0))), (64, vb (p1.s.toList == (ByteArray.mk #[]).toList))] [] (zt 64 b24 (zg [] 6 [2] (zd (hJ4 false h _ _ (zk [2])))))
      ·refine zr (zu [] 2 [1,52] [(qa611 p1)] (zl 63 [vi p1.n, vi (-999999999999999999 : Int), vi (999999999999999999 : Int)] (vb r2) (qa628 p1 r2) (c_value_within _ _ _ _ c21) (zg [] 1 [1,54] (zt 54 b22 (zu [] 5 [1,59] [(qa611 p1)] (zt 59 b23 (zv [] 11 [2] [] qa615 [] ?_)))))))
       exact zd (hJ4 false h _ _ (zk [2]))
     ·exact zr (zu [] 2 [1,52] [(qa611 p1)] (zl 63 [vi p1.n, vi (-999999999999999999 : Int), vi (999999999999999999 : Int)] (vb r2) (qa628 p1 r2) (c_value_within _ _ _ _ c21) (zg [] 1 [1,54] (zt 54 b22 (zg [] 16 [2] (zd (hJ4 false h _ _ (zk [2]))))))))
    ·refine zq fun K25 hK25 => zr (zg [] 2 [1,3,13,70] (zd (hK25 _ _ (zC h (fun b26 h => ?_) (fun b26 h => ?_)))))
     ·refine zq fun K27 hK27 => ?_
      have hJ5 : ∀ (x5 : Bool), value_plain_j5 x5 = some r → ∀ fr1 st1, Sub 154 0 [] fr1 st1 [(2, vb x5)] [] → K27 fr1 st1 := by
       intro x5 h fr1 st1 hS
       unfold value_plain_j5 at h
       refine hK27 _ _ (XW.sub hS ?_)
       refine ze ?_
       obtain rfl := Option.some.inj h
       exact zf [vb x5] (.one (.rfl _ rfl))
      obtain ⟨r3, c28, h⟩ := zB h
      rcases zW h with ⟨b29, h⟩ | ⟨b29, h⟩
      ·obtain ⟨r4, c30, h⟩ := zB h
       rcases zW h with ⟨b31, h⟩ | ⟨b31, h⟩
       ·rcases zW h with ⟨b32, h⟩ | ⟨b32, h⟩
        ·refine zr (zv [] 2 [1,73] [(qa611 p1)] (qa630 p1) [] (za (c_value_within _ _ _ _ c28) (zg [] 1 [1,75] (zt 75 b29 (zv [] 2 [1,75,77] [(qa611 p1)] [(1, .one (.pv (.rp [(qa611 p1)] 0 0))), (75, vb true), (77, vi p1.scale)] [] (za (c_value_within _ _ _ _ c30) ?_))))))
         refine zg [] 2 [1,80] (zt 80 b31 (zv [] 5 [1,85] [[pi p1.kind, pi p1.n, pi p1.scale, .s (.string p1.s), .ro (eValue.els p1.items)]] [(1, .one (.pv (.rp [[pi p1.kind, pi p1.n, pi p1.scale, .s (.string p1.s), .ro (eValue.els p1.items)]] 0 0))), (85, vb (p1.s.toList == (ByteArray.mk #[]).toList))] [] (zt 85 b32 (zv [] 3 [85,88] [[pi p1.kind, pi p1.n, pi p1.scale, .s (.string p1.s), .ro (eValue.els p1.items)]] [(85, vb true), (88, vi ((eValue.els p1.items).length : Int))] [] ?_))))
         rw [eValue.len p1.items]
         exact zg [] 3 [2] (zd (hJ5 ((p1.items.length : Int) == (0 : Int)) h _ _ (zk [2])))
        ·refine zr (zu [] 2 [1,73] [(qa611 p1)] (zl 63 [vi p1.n, vi (-999999999999999999 : Int), vi (999999999999999999 : Int)] (vb r3) [(74, vb r3), (1, .one (.pv (.rp [(qa611 p1)] 0 0))), (73, vi p1.n)] (c_value_within _ _ _ _ c28) (zg [] 1 [1,75] (zt 75 b29 (zu [] 2 [1,75,77] [(qa611 p1)] ?_)))))
         exact zl 63 [vi p1.scale, vi (0 : Int), vi (12 : Int)] (vb r4) [(78, vb r4), (1, .one (.pv (.rp [(qa611 p1)] 0 0))), (75, vb true), (77, vi p1.scale)] (c_value_within _ _ _ _ c30) (zg [] 2 [1,80] (zt 80 b31 (zu [] 5 [1,85] [(qa611 p1)] (zt 85 b32 (zv [] 6 [2] [] qa615 [] (zd (hJ5 false h _ _ (zk [2]))))))))
       ·refine zr (zv [] 2 [1,73] [(qa611 p1)] (qa630 p1) [] (za (c_value_within _ _ _ _ c28) (zg [] 1 [1,75] (zt 75 b29 (zv [] 2 [1,75,77] [(qa611 p1)] [(1, .one (.pv (.rp [(qa611 p1)] 0 0))), (75, vb true), (77, vi p1.scale)] [] (za (c_value_within _ _ _ _ c30) ?_))))))
        exact zg [] 2 [1,80] (zt 80 b31 (zv [] 11 [2] [] qa615 [] (zd (hJ5 false h _ _ (zk [2])))))
      ·exact zr (zv [] 2 [1,73] [(qa611 p1)] (qa630 p1) [] (za (c_value_within _ _ _ _ c28) (zg [] 1 [1,75] (zt 75 b29 (zv [] 16 [2] [] qa615 [] (zd (hJ5 false h _ _ (zk [2]))))))))
     ·refine zq fun K33 hK33 => zr (zv [] 2 [1,3,13,91] [] [(1, .one (.pv (.rp [(qa611 p1)] 0 0))), (3, vb x1), (13, vi p1.kind), (91, vb (p1.kind == (4 : Int)))] [] (zd (hK33 _ _ (zC h (fun b34 h => ?_) (fun b34 h => ?_)))))
      ·refine zq fun K35 hK35 => ?_
       have hJ6 : ∀ (x6 : Bool), value_plain_j6 x6 = some r → ∀ fr1 st1, Sub 154 0 [] fr1 st1 [(2, vb x6)] [] → K35 fr1 st1 := by
        intro x6 h fr1 st1 hS
        unfold value_plain_j6 at h
        refine hK35 _ _ (XW.sub hS ?_)
        refine ze ?_
        obtain rfl := Option.some.inj h
        exact zf [vb x6] (.one (.rfl _ rfl))
       rcases zW h with ⟨b36, h⟩ | ⟨b36, h⟩
       ·obtain ⟨r5, c37, h⟩ := zB h
        rcases zW h with ⟨b38, h⟩ | ⟨b38, h⟩
        ·refine zr (zg [] 2 [1,94] (zt 94 b36 (zu [] 2 [1,94,96] [[pi p1.kind, pi p1.n, pi p1.scale, .s (.string p1.s), .ro (eValue.els p1.items)]] (zl 114 [vs p1.s] (vb r5) [(97, vb r5), (1, .one (.pv (.rp [[pi p1.kind, pi p1.n, pi p1.scale, .s (.string p1.s), .ro (eValue.els p1.items)]] 0 0))), (94, vb true), (96, vs p1.s)] (c_value_text _ _ c37) (zg [] 2 [1,99] (zt 99 b38 (zv [] 3 [99,102] [[pi p1.kind, pi p1.n, pi p1.scale, .s (.string p1.s), .ro (eValue.els p1.items)]] [(99, vb true), (102, vi ((eValue.els p1.items).length : Int))] [] ?_)))))))
         rw [eValue.len p1.items]
         exact zg [] 3 [2] (zd (hJ6 ((p1.items.length : Int) == (0 : Int)) h _ _ (zk [2])))
        ·refine zr (zg [] 2 [1,94] (zt 94 b36 (zv [] 2 [1,94,96] [(qa611 p1)] [(1, .one (.pv (.rp [(qa611 p1)] 0 0))), (94, vb true), (96, vs p1.s)] [] (za (c_value_text _ _ c37) (zg [] 2 [1,99] (zt 99 b38 (zv [] 6 [2] [] qa615 [] ?_)))))))
         exact zd (hJ6 false h _ _ (zk [2]))
       ·exact zr (zg [] 2 [1,94] (zt 94 b36 (zg [] 11 [2] (zd (hJ6 false h _ _ (zk [2]))))))
      ·refine zq fun K39 hK39 => zr (zg [] 2 [1,3,13,105] (zd (hK39 _ _ (zC h (fun b40 h => ?_) (fun b40 h => ?_)))))
       ·refine zq fun K41 hK41 => ?_
        have hJ7 : ∀ (x7 : Bool), value_plain_j7 x7 = some r → ∀ fr1 st1, Sub 154 0 [] fr1 st1 [(2, vb x7)] [] → K41 fr1 st1 := by
         intro x7 h fr1 st1 hS
         unfold value_plain_j7 at h
         refine hK41 _ _ (XW.sub hS ?_)
         refine ze ?_
         obtain rfl := Option.some.inj h
         exact zf [vb x7] (.one (.rfl _ rfl))
        obtain ⟨r6, c42, h⟩ := zB h
        rcases zW h with ⟨b43, h⟩ | ⟨b43, h⟩
        ·rcases zW h with ⟨b44, h⟩ | ⟨b44, h⟩
         ·rcases zW h with ⟨b45, h⟩ | ⟨b45, h⟩
          ·refine zr (zu [] 2 [1,108] [(qa611 p1)] (zl 63 [vi p1.n, vi (-62135596800 : Int), vi (253402300799 : Int)] (vb r6) (qa636 p1 r6) (c_value_within _ _ _ _ c42) (zg [] 1 [1,110] (zt 110 b43 (zu [] 5 [1,115] [(qa611 p1)] (zt 115 b44 ?_))))))
           refine zv [] 5 [1,120] [[pi p1.kind, pi p1.n, pi p1.scale, .s (.string p1.s), .ro (eValue.els p1.items)]] [(1, .one (.pv (.rp [[pi p1.kind, pi p1.n, pi p1.scale, .s (.string p1.s), .ro (eValue.els p1.items)]] 0 0))), (120, vb (p1.s.toList == (ByteArray.mk #[]).toList))] [] (zt 120 b45 (zv [] 3 [120,123] [[pi p1.kind, pi p1.n, pi p1.scale, .s (.string p1.s), .ro (eValue.els p1.items)]] [(120, vb true), (123, vi ((eValue.els p1.items).length : Int))] [] ?_))
           rw [eValue.len p1.items]
           exact zg [] 3 [2] (zd (hJ7 ((p1.items.length : Int) == (0 : Int)) h _ _ (zk [2])))
          ·refine zr (zu [] 2 [1,108] [(qa611 p1)] (zl 63 [vi p1.n, vi (-62135596800 : Int), vi (253402300799 : Int)] (vb r6) (qa636 p1 r6) (c_value_within _ _ _ _ c42) (zg [] 1 [1,110] (zt 110 b43 (zu [] 5 [1,115] [(qa611 p1)] (zt 115 b44 ?_))))))
           exact zv [] 5 [1,120] [(qa611 p1)] [(1, .one (.pv (.rp [(qa611 p1)] 0 0))), (120, vb (p1.s.toList == (ByteArray.mk #[]).toList))] [] (zt 120 b45 (zg [] 6 [2] (zd (hJ7 false h _ _ (zk [2])))))
         ·refine zr (zu [] 2 [1,108] [(qa611 p1)] (zl 63 [vi p1.n, vi (-62135596800 : Int), vi (253402300799 : Int)] (vb r6) (qa636 p1 r6) (c_value_within _ _ _ _ c42) (zg [] 1 [1,110] (zt 110 b43 (zu [] 5 [1,115] [(qa611 p1)] (zt 115 b44 (zv [] 11 [2] [] qa615 [] ?_)))))))
          exact zd (hJ7 false h _ _ (zk [2]))
        ·exact zr (zu [] 2 [1,108] [(qa611 p1)] (zl 63 [vi p1.n, vi (-62135596800 : Int), vi (253402300799 : Int)] (vb r6) (qa636 p1 r6) (c_value_within _ _ _ _ c42) (zg [] 1 [1,110] (zt 110 b43 (zg [] 16 [2] (zd (hJ7 false h _ _ (zk [2]))))))))
       ·refine zq fun K46 hK46 => zr (zg [] 2 [1,3,13,126] (zd (hK46 _ _ (zC h (fun b47 h => ?_) (fun b47 h => ?_)))))
        ·refine zq fun K48 hK48 => ?_
         have hJ8 : ∀ (x8 : Bool), value_plain_j8 x8 = some r → ∀ fr1 st1, Sub 154 0 [] fr1 st1 [(2, vb x8)] [] → K48 fr1 st1 := by
          intro x8 h fr1 st1 hS
          unfold value_plain_j8 at h
          refine hK48 _ _ (XW.sub hS ?_)
          refine ze ?_
          obtain rfl := Option.some.inj h
          exact zf [vb x8] (.one (.rfl _ rfl))
         rcases zW h with ⟨b49, h⟩ | ⟨b49, h⟩
         ·rcases zW h with ⟨b50, h⟩ | ⟨b50, h⟩
          ·refine zr (zv [] 2 [1,129] [] [(1, .one (.pv (.rp [[pi p1.kind, pi p1.n, pi p1.scale, .s (.string p1.s), .ro (eValue.els p1.items)]] 0 0))), (129, vb x1)] [] (zt 129 b49 (zu [] 5 [1,134] [[pi p1.kind, pi p1.n, pi p1.scale, .s (.string p1.s), .ro (eValue.els p1.items)]] (zt 134 b50 (zv [] 3 [134,137] [[pi p1.kind, pi p1.n, pi p1.scale, .s (.string p1.s), .ro (eValue.els p1.items)]] [(134, vb true), (137, vi ((eValue.els p1.items).length : Int))] [] ?_)))))
           rw [eValue.len p1.items]
           exact zg [] 3 [2] (zd (hJ8 (decide ((p1.items.length : Int) ≤ (64 : Int))) h _ _ (zk [2])))
          ·exact zr (zg [] 2 [1,129] (zt 129 b49 (zv [] 5 [1,134] [(qa611 p1)] [(1, .one (.pv (.rp [(qa611 p1)] 0 0))), (134, vb (p1.s.toList == (ByteArray.mk #[]).toList))] [] (zt 134 b50 (zg [] 6 [2] (zd (hJ8 false h _ _ (zk [2]))))))))
         ·exact zr (zv [] 2 [1,129] [] [(1, .one (.pv (.rp [(qa611 p1)] 0 0))), (129, vb x1)] [] (zt 129 b49 (zg [] 11 [2] (zd (hJ8 false h _ _ (zk [2]))))))
        ·refine zq fun K51 hK51 => zr (zv [] 2 [1,3,140] [] [(1, .one (.pv (.rp [(qa611 p1)] 0 0))), (3, vb x1), (140, vb (p1.kind == (7 : Int)))] [] (zd (hK51 _ _ (zC h (fun b52 h => ?_) (fun b52 h => ?_)))))
         ·refine zq fun K53 hK53 => ?_
          have hJ9 : ∀ (x9 : Bool), value_plain_j9 x9 = some r → ∀ fr1 st1, Sub 154 0 [] fr1 st1 [(2, vb x9)] [] → K53 fr1 st1 := by
           intro x9 h fr1 st1 hS
           unfold value_plain_j9 at h
           refine hK53 _ _ (XW.sub hS ?_)
           refine ze ?_
           obtain rfl := Option.some.inj h
           exact zf [vb x9] (.one (.rfl _ rfl))
          rcases zW h with ⟨b54, h⟩ | ⟨b54, h⟩
          ·rcases zW h with ⟨b55, h⟩ | ⟨b55, h⟩
           ·refine zr (zg [] 2 [1,143] (zt 143 b54 (zu [] 5 [1,148] [[pi p1.kind, pi p1.n, pi p1.scale, .s (.string p1.s), .ro (eValue.els p1.items)]] (zt 148 b55 (zv [] 3 [148,151] [[pi p1.kind, pi p1.n, pi p1.scale, .s (.string p1.s), .ro (eValue.els p1.items)]] [(148, vb true), (151, vi ((eValue.els p1.items).length : Int))] [] ?_)))))
            rw [eValue.len p1.items]
            exact zg [] 3 [2] (zd (hJ9 (decide ((0 : Int) < (p1.items.length : Int))) h _ _ (zk [2])))
           ·exact zr (zg [] 2 [1,143] (zt 143 b54 (zv [] 5 [1,148] [(qa611 p1)] [(1, .one (.pv (.rp [(qa611 p1)] 0 0))), (148, vb (p1.s.toList == (ByteArray.mk #[]).toList))] [] (zt 148 b55 (zg [] 6 [2] (zd (hJ9 false h _ _ (zk [2]))))))))
          ·exact zr (zg [] 2 [1,143] (zt 143 b54 (zg [] 11 [2] (zd (hJ9 false h _ _ (zk [2]))))))
         ·refine zs (hK4 _ _ (zq fun K56 hK56 => zr (zg [] 1 [2] (zd (hK56 _ _ (ze ?_))))))
          obtain rfl := Option.some.inj h
          exact zf [vb false] (.one (.rfl _ rfl))
 rcases zW h with ⟨b3, h⟩ | ⟨b3, h⟩
 ·exact zr (zu [] 4 [1,7] [(qa611 p1)] (zt 7 b3 (zv [] 5 [1,3] [(qa611 p1)] [(1, .one (.pv (.rp [(qa611 p1)] 0 0))), (3, vb (p1.scale == (0 : Int)))] [] (zd (hJ1 (p1.scale == (0 : Int)) h _ _ (zk [1,3]))))))
 ·exact zr (zu [] 4 [1,7] [(qa611 p1)] (zt 7 b3 (zg [] 5 [1,3] (zd (hJ1 false h _ _ (zk [1,3]))))))

def slices_IndexFunc_api_Value_api_Value_of_value_sound_1_j1 (z2 : Int) : Option (Int × Int) :=
    some ((-1 : Int), z2)

def slices_IndexFunc_api_Value_api_Value_of_value_sound_1_l1 (q_value_sound_1_s : GValue → Int → Int → Option (Bool × Int)) (p1 : (List GValue)) (p2 : Int) : Nat → Int → Int → Option (Int × Int)
  | 0, _, _ => none
  | k1 + 1, z1, x1 =>
    ift (decide (x1 < (p1.length : Int)))
      (bnd (at? p1 x1) fun e1 =>
       bnd (q_value_sound_1_s e1 p2 z1) fun r1 =>
       ift r1.1
         (some (x1, r1.2))
         ((slices_IndexFunc_api_Value_api_Value_of_value_sound_1_l1 q_value_sound_1_s p1 p2 k1) r1.2 (IntKind.i64.wrap (x1 + (1 : Int)))))
      (slices_IndexFunc_api_Value_api_Value_of_value_sound_1_j1 z1)

def value_sound_j2 (q_slices_ContainsFunc_api_Value_api_Value_of_value_sound_1 : (List GValue) → Int → Int → Option (Bool × Int)) (p1 : GValue) (p2 : Int) (z1 : Int) (x1 : Bool) : Option (Bool × Int) :=
    ift x1
      (some (false, z1))
      (bnd (q_slices_ContainsFunc_api_Value_api_Value_of_value_sound_1 p1.items p2 z1) fun r2 =>
       some ((!r2.1), r2.2))

def value_sound_j1 (q_slices_ContainsFunc_api_Value_api_Value_of_value_sound_1 : (List GValue) → Int → Int → Option (Bool × Int)) (p1 : GValue) (p2 : Int) (z1 : Int) : Option (Bool × Int) :=
    ift (decide ((4 : Int) < p2))
      (value_sound_j2 q_slices_ContainsFunc_api_Value_api_Value_of_value_sound_1 p1 p2 z1 true)
      (ift (decide ((256 : Int) < z1))
         (value_sound_j2 q_slices_ContainsFunc_api_Value_api_Value_of_value_sound_1 p1 p2 z1 true)
         (bnd (value_plain p1) fun r1 =>
          value_sound_j2 q_slices_ContainsFunc_api_Value_api_Value_of_value_sound_1 p1 p2 z1 (!r1)))

mutual

def slices_ContainsFunc_api_Value_api_Value_of_value_sound_1 : Nat → (List GValue) → Int → Int → Option (Bool × Int)
  | 0, _, _, _ => none
  | k0 + 1, p1, p2, p3 =>
    bnd ((slices_IndexFunc_api_Value_api_Value_of_value_sound_1 k0) p1 p2 p3) fun r1 =>
    some ((decide ((0 : Int) ≤ r1.1)), r1.2)

def slices_IndexFunc_api_Value_api_Value_of_value_sound_1 : Nat → (List GValue) → Int → Int → Option (Int × Int)
  | 0, _, _, _ => none
  | k0 + 1, p1, p2, p3 =>
    slices_IndexFunc_api_Value_api_Value_of_value_sound_1_l1 (value_sound_1_s k0) p1 p2 BIG p3 (0 : Int)

def value_sound : Nat → GValue → Int → Int → Option (Bool × Int)
  | 0, _, _, _ => none
  | k0 + 1, p1, p2, p3 =>
    ift (p1.kind != (0 : Int))
      (value_sound_j1 (slices_ContainsFunc_api_Value_api_Value_of_value_sound_1 k0) p1 p2 (IntKind.i64.wrap (p3 + (1 : Int))))
      (value_sound_j1 (slices_ContainsFunc_api_Value_api_Value_of_value_sound_1 k0) p1 p2 p3)

def value_sound_1_s : Nat → GValue → Int → Int → Option (Bool × Int)
  | 0, _, _, _ => none
  | k0 + 1, p1, p2, p3 =>
    bnd ((value_sound k0) p1 (IntKind.i64.wrap (p2 + (1 : Int))) p3) fun r1 =>
    some ((!r1.1), r1.2)

end

abbrev qa655 : List CV := [.pt 1 0 0 0]
abbrev qa662 (e1 : GValue) : List CV := [ci e1.kind, ci e1.n, ci e1.scale, cst e1.s, cl eValue e1.items]
abbrev qa673 (p1 : GValue) : List CV := [ci p1.kind, ci p1.n, ci p1.scale, cst p1.s, cl eValue p1.items]
abbrev qa676 (p1 : GValue) : List PV := [pi p1.kind, pi p1.n, pi p1.scale, .s (.string p1.s), .ro (eValue.els p1.items)]
abbrev qa679 : List CV := [.pt 0 0 0 0]
abbrev qa687 (p1 : GValue) (p2 : Int) : Fr := [(3, .one (.pv (.rp [(qa676 p1)] 0 0))), (4, .one (.pv (.rp [[pi p2]] 0 0))), (5, .one (.pt 1 0 0 0))]
abbrev qa688 (z1 : Int) : St := [.box [ci z1], .box qa679]
abbrev qa695 (p1 : GValue) (p2 : Int) : Fr := [(3, .one (.pv (.rp [(qa676 p1)] 0 0))), (4, .one (.pv (.rp [[pi p2]] 0 0))), (5, .one (.pt 1 0 0 0)), (17, vb (decide ((4 : Int) < p2)))]
abbrev qa698 (p1 : GValue) : List CV := [ci p1.kind, ci p1.n, ci p1.scale, cst p1.s, cl eValue p1.items]

mutual

theorem c_slices_ContainsFunc_api_Value_api_Value_of_value_sound_1 : ∀ (k0 : Nat) (p1 : (List GValue)) (p2 : Int) (p3 : Int) (r : (Bool × Int)), slices_ContainsFunc_api_Value_api_Value_of_value_sound_1 k0 p1 p2 p3 = some r → MC Tryd.prog 39 [vl eValue p1, .one (.fn 78 [.pv (.rp [[pi p2]] 0 0), .pt 0 0 0 0])] [.box [.pt 1 0 0 0], .box [ci p3]] (vb r.1) [.box [.pt 1 0 0 0], .box [ci r.2]]
 | 0, _, _, _, r, h => by rw [slices_ContainsFunc_api_Value_api_Value_of_value_sound_1.eq_1] at h; cases h
 | k0 + 1, p1, p2, p3, r, h => by
  rw [slices_ContainsFunc_api_Value_api_Value_of_value_sound_1.eq_2] at h
  refine MC.of 2 (n := 9) (fn := Tryd.f39) (c := cd Tryd.f39 []) (by kernel_rfl) (by kernel_rfl) (by kernel_rfl) (Nat.le_of_ble_eq_true rfl) rfl (zq fun K1 hK1 => zr (zg [] 1 [0,1] (zd (hK1 _ _ (zq fun K2 hK2 => ?_)))))
  obtain ⟨r1, c3, h⟩ := zB h
  refine zr (zv [] 2 [5,6] [] [(5, vl eValue p1), (6, .one (.fn 78 [.pv (.rp [[pi p2]] 0 0), .pt 0 0 0 0]))] [.box [.pt 1 0 0 0], .box [ci p3]] (XO.calm 86 [vl eValue p1, .one (.fn 78 [.pv (.rp [[pi p2]] 0 0), .pt 0 0 0 0])] [.box [.pt 1 0 0 0], .box [ci p3]] [.box [.pt 1 0 0 0], .box [ci r1.2]] (vi r1.1) [0, 1] [(7, vi r1.1), (5, vl eValue p1), (6, .one (.fn 78 [.pv (.rp [[pi p2]] 0 0), .pt 0 0 0 0]))] [.box [.pt 1 0 0 0], .box [ci r1.2]] (by kernel_rfl) (c_slices_IndexFunc_api_Value_api_Value_of_value_sound_1 k0 _ _ _ _ c3) (by kernel_rfl) (by kernel_rfl) (by kernel_rfl) (by kernel_rfl) ?_))
  refine zv [] 2 [4] [] [(4, vb (decide ((0 : Int) ≤ r1.1)))] [.box [.pt 1 0 0 0], .box [ci r1.2]] (zd (hK2 _ _ (ze ?_)))
  obtain rfl := Option.some.inj h
  exact FinM.fin (.inr rfl) [] [vb (decide ((0 : Int) ≤ r1.1))] [] (by kernel_rfl) trivial (by kernel_rfl) (by kernel_rfl) (.one (.rfl _ rfl))

theorem c_slices_IndexFunc_api_Value_api_Value_of_value_sound_1 : ∀ (k0 : Nat) (p1 : (List GValue)) (p2 : Int) (p3 : Int) (r : (Int × Int)), slices_IndexFunc_api_Value_api_Value_of_value_sound_1 k0 p1 p2 p3 = some r → MC Tryd.prog 86 [vl eValue p1, .one (.fn 78 [.pv (.rp [[pi p2]] 0 0), .pt 0 0 0 0])] [.box qa655, .box [ci p3]] (vi r.1) [.box qa655, .box [ci r.2]]
 | 0, _, _, _, r, h => by rw [slices_IndexFunc_api_Value_api_Value_of_value_sound_1.eq_1] at h; cases h
 | k0 + 1, p1, p2, p3, r, h => by
  rw [slices_IndexFunc_api_Value_api_Value_of_value_sound_1.eq_2] at h
  refine MC.of 2 (n := 19) (fn := Tryd.f86) (c := cd Tryd.f86 []) (by kernel_rfl) (by kernel_rfl) (by kernel_rfl) (Nat.le_of_ble_eq_true rfl) rfl (zq fun K1 hK1 => zr (zg [] 1 [0,1] (zd (hK1 _ _ (zq fun K2 hK2 => ?_)))))
  have hJ1 : ∀ (z2 : Int), slices_IndexFunc_api_Value_api_Value_of_value_sound_1_j1 z2 = some r → ∀ fr1 st1, Sub 19 2 [] fr1 st1 [] [.box qa655, .box [ci z2]] → K2 fr1 st1 := by
   intro z2 h fr1 st1 hS
   unfold slices_IndexFunc_api_Value_api_Value_of_value_sound_1_j1 at h
   refine hK2 _ _ (XW.sub hS ?_)
   refine zq fun K14 hK14 => zr (zv [] 1 [4] [] [(4, vi (-1 : Int))] [.box qa655, .box [ci z2]] (zd (hK14 _ _ (ze ?_))))
   obtain rfl := Option.some.inj h
   exact FinM.fin (.inr rfl) [] [vi (-1 : Int)] [] (by kernel_rfl) trivial (by kernel_rfl) (by kernel_rfl) (.one (.rfl _ rfl))
  refine zq fun K3 hK3 => zr (zv [] 2 [0,1,7] [] [(0, vl eValue p1), (1, .one (.fn 78 [.pv (.rp [[pi p2]] 0 0), .pt 0 0 0 0])), (7, vi ((eValue.els p1).length : Int))] [.box [.pt 1 0 0 0], .box [ci p3]] ?_)
  rw [eValue.len p1]
  refine zg [] 1 [0,1,7,8] (zd (hK3 _ _ (zb 0 (XW.rounds' BIG (x := cd Tryd.f86 [1,0,1,0,0]) (by kernel_rfl) fun Q1 hQ1 => ?_))))
  have hL1 : ∀ (k1 : Nat) (z1 : Int) (x1 : Int), slices_IndexFunc_api_Value_api_Value_of_value_sound_1_l1 (value_sound_1_s k0) p1 p2 k1 z1 x1 = some r → XR Tryd.prog 19 2 [] (cd Tryd.f86 [1,0,1,0,0]) Q1 k1 [(0, vl eValue p1), (1, .one (.fn 78 [.pv (.rp [[pi p2]] 0 0), .pt 0 0 0 0])), (7, vi (p1.length : Int)), (8, vi x1)] [.box qa655, .box [ci z1]] := by
   intro k1
   induction k1 with
   | zero => intro z1 x1 h; rw [slices_IndexFunc_api_Value_api_Value_of_value_sound_1_l1.eq_1] at h; cases h
   | succ k1 ih1 =>
    intro z1 x1 h
    rw [slices_IndexFunc_api_Value_api_Value_of_value_sound_1_l1.eq_2] at h
    refine zq fun K4 hK4 => zr (zg [] 1 [0,1,7,8,9] (zd (hK4 _ _ (zq fun K5 hK5 => zC h (fun b6 h => ?_) (fun b6 h => ?_)))))
    ·refine zs (hK5 _ _ (zq fun K7 hK7 => zb 1 (zq fun K8 hK8 => zr (zg [] 2 [0,1,5,7,8] (zd ?_)))))
     refine hK8 _ _ (zq fun K9 hK9 => ?_)
     obtain ⟨e1, a10, h⟩ := zB h
     obtain ⟨r1, c11, h⟩ := zB h
     refine zr ?_
     refine zp [] 5 [0,1,5,7,8,11,15] [[pi e1.kind, pi e1.n, pi e1.scale, .s (.string e1.s), .ro (eValue.els e1.items)]] [(0, vl eValue p1), (1, .one (.fn 78 [.pv (.rp [[pi p2]] 0 0), .pt 0 0 0 0])), (5, vi x1), (7, vi (p1.length : Int)), (8, vi x1), (11, .one (.fn 78 [.pv (.rp [[pi p2]] 0 0), .pt 0 0 0 0])), (15, .ag (qa662 e1))] [.box qa655, .box [ci z1]] [0 ≤ x1 ∧ x1 < ((eValue.els p1).length : Int) ∧ elemsOk 5 (eValue.els p1), (eValue.els p1)[x1.toNat]? = some [pi e1.kind, pi e1.n, pi e1.scale, .s (.string e1.s), .ro (eValue.els e1.items)]] (⟨eValue.inb a10, ((eValue.get a10).trans (by cases e1; rfl)), trivial⟩) ?_
     refine XO.calm 78 [.ag (qa662 e1), .one (.pv (.rp [[pi p2]] 0 0)), .one (.pt 0 0 0 0)] [.box qa655, .box [ci z1]] [.box qa655, .box [ci r1.2]] (vb r1.1) [0, 1] [(16, vb r1.1), (0, vl eValue p1), (1, .one (.fn 78 [.pv (.rp [[pi p2]] 0 0), .pt 0 0 0 0])), (5, vi x1), (7, vi (p1.length : Int)), (8, vi x1), (11, .one (.fn 78 [.pv (.rp [[pi p2]] 0 0), .pt 0 0 0 0])), (15, .ag (qa662 e1))] [.box qa655, .box [ci r1.2]] (by kernel_rfl) (c_value_sound_1_s k0 _ _ _ _ c11) (by kernel_rfl) (by kernel_rfl) (by kernel_rfl) (by kernel_rfl) ?_
     refine zd (hK9 _ _ (zC h (fun b12 h => ?_) (fun b12 h => ?_)))
     ·refine zq fun K13 hK13 => zr (zv [] 2 [4] [] [(4, vi x1)] [.box qa655, .box [ci r1.2]] (zd (hK13 _ _ (ze (hQ1 _ _ _ ?_)))))
      obtain rfl := Option.some.inj h
      exact FinM.fin (.inr rfl) [] [vi x1] [] (by kernel_rfl) trivial (by kernel_rfl) (by kernel_rfl) (.one (.rfl _ rfl))
     ·exact zs (hK7 _ _ (zr (zg [] 2 [0,1,7,8] (zd (XR.sub (zk [0,1,7,8]) (ih1 r1.2 (IntKind.i64.wrap (x1 + (1 : Int))) h))))))
    ·exact zx 0 (hQ1 _ _ _ (hJ1 z1 h _ _ (zk [])))
  exact XR.sub (zk [0,1,7,8]) (hL1 BIG p3 (0 : Int) h)

theorem c_value_sound : ∀ (k0 : Nat) (p1 : GValue) (p2 : Int) (p3 : Int) (r : (Bool × Int)), value_sound k0 p1 p2 p3 = some r → MC Tryd.prog 31 [.ag (qa673 p1), vi p2, .one (.pt 0 0 0 0)] [.box [ci p3]] (vb r.1) [.box [ci r.2]]
 | 0, _, _, _, r, h => by rw [value_sound.eq_1] at h; cases h
 | k0 + 1, p1, p2, p3, r, h => by
  rw [value_sound.eq_2] at h
  refine MC.of 1 (n := 33) (fn := Tryd.f31) (c := cd Tryd.f31 []) (by kernel_rfl) (by kernel_rfl) (by kernel_rfl) (Nat.le_of_ble_eq_true rfl) rfl (zq fun K1 hK1 => zr (zg [5] 4 [3,4,5] (zd (hK1 _ _ (zq fun K2 hK2 => ?_)))))
  have hJ1 : ∀ (z1 : Int), value_sound_j1 (slices_ContainsFunc_api_Value_api_Value_of_value_sound_1 k0) p1 p2 z1 = some r → ∀ fr1 st1, Sub 33 1 [] fr1 st1 (qa687 p1 p2) (qa688 z1) → K2 fr1 st1 := by
   intro z1 h fr1 st1 hS
   unfold value_sound_j1 at h
   refine hK2 _ _ (XW.sub hS ?_)
   refine zq fun K5 hK5 => zq fun K6 hK6 => ?_
   have hJ2 : ∀ (x1 : Bool), value_sound_j2 (slices_ContainsFunc_api_Value_api_Value_of_value_sound_1 k0) p1 p2 z1 x1 = some r → ∀ fr1 st1, Sub 33 1 [] fr1 st1 [(3, .one (.pv (.rp [(qa676 p1)] 0 0))), (4, .one (.pv (.rp [[pi p2]] 0 0))), (5, .one (.pt 1 0 0 0)), (27, vb x1)] (qa688 z1) → K6 fr1 st1 := by
    intro x1 h fr1 st1 hS
    unfold value_sound_j2 at h
    refine hK6 _ _ (XW.sub hS ?_)
    refine zC h (fun b10 h => ?_) (fun b10 h => ?_)
    ·refine zq fun K11 hK11 => zr (zv [5] 1 [6] [] [(6, vb false)] (qa688 z1) (zd (hK11 _ _ (ze ?_))))
     obtain rfl := Option.some.inj h
     exact FinM.fin (.inr rfl) [] [vb false] [] (by kernel_rfl) trivial (by kernel_rfl) (by kernel_rfl) (.one (.rfl _ rfl))
    ·refine zs (hK5 _ _ (zq fun K12 hK12 => ?_))
     obtain ⟨r2, c13, h⟩ := zB h
     refine zr (zv [5] 3 [29,30] [(qa676 p1)] [(29, vl eValue p1.items), (30, .one (.fn 78 [.pv (.rp [[pi p2]] 0 0), .pt 1 0 0 0]))] (qa688 z1) ?_)
     refine XO.calm 39 [vl eValue p1.items, .one (.fn 78 [.pv (.rp [[pi p2]] 0 0), .pt 0 0 0 0])] [.box [.pt 1 0 0 0], .box [ci z1]] [.box [.pt 1 0 0 0], .box [ci r2.2]] (vb r2.1) [1, 0] [(31, vb r2.1), (29, vl eValue p1.items), (30, .one (.fn 78 [.pv (.rp [[pi p2]] 0 0), .pt 1 0 0 0]))] [.box [ci r2.2], .box qa679] (by kernel_rfl) (c_slices_ContainsFunc_api_Value_api_Value_of_value_sound_1 k0 _ _ _ _ c13) (by kernel_rfl) (by kernel_rfl) (by kernel_rfl) (by kernel_rfl) (zv [5] 2 [6] [] [(6, vb (!r2.1))] [.box [ci r2.2], .box qa679] (zd (hK12 _ _ (ze ?_))))
     obtain rfl := Option.some.inj h
     exact FinM.fin (.inr rfl) [] [vb (!r2.1)] [] (by kernel_rfl) trivial (by kernel_rfl) (by kernel_rfl) (.one (.rfl _ rfl))
   rcases zW h with ⟨b7, h⟩ | ⟨b7, h⟩
   ·exact zr (zu [5] 3 [3,4,5,17] [[pi p2]] (zt 17 b7 (zg [5] 10 [3,4,5,27] (zd (hJ2 true h _ _ (zk [3,4,5,27]))))))
   ·rcases zW h with ⟨b8, h⟩ | ⟨b8, h⟩
    ·exact zr (zv [5] 3 [3,4,5,17] [[pi p2]] (qa695 p1 p2) (qa688 z1) (zt 17 b7 (zg [5] 6 [3,4,5,23] (zt 23 b8 (zg [5] 4 [3,4,5,27] (zd (hJ2 true h _ _ (zk [3,4,5,27]))))))))
    ·obtain ⟨r1, c9, h⟩ := zB h
     refine zr (zv [5] 3 [3,4,5,17] [[pi p2]] (qa695 p1 p2) (qa688 z1) (zt 17 b7 (zg [5] 6 [3,4,5,23] (zt 23 b8 (zu [5] 1 [3,4,5,23,24] [(qa676 p1)] ?_)))))
     exact zl 77 [.ag (qa673 p1)] (vb r1) [(25, vb r1), (3, .one (.pv (.rp [(qa676 p1)] 0 0))), (4, .one (.pv (.rp [[pi p2]] 0 0))), (5, .one (.pt 1 0 0 0)), (23, vb false), (24, .ag (qa673 p1))] (c_value_plain _ _ c9) (zg [5] 2 [3,4,5,27] (zd (hJ2 (!r1) h _ _ (zk [3,4,5,27]))))
  refine zq fun K3 hK3 => zr (zu [5] 3 [3,4,5,9] [(qa676 p1)] (zd (hK3 _ _ (zC h (fun b4 h => ?_) (fun b4 h => ?_)))))
  ·exact zr (zv [5] 6 [3,4,5] [] (qa687 p1 p2) [.box [ci (IntKind.i64.wrap (p3 + (1 : Int)))], .box qa679] (zd (hJ1 (IntKind.i64.wrap (p3 + (1 : Int))) h _ _ (zk [3,4,5]))))
  ·exact zs (hJ1 p3 h _ _ (zk [3,4,5]))

theorem c_value_sound_1_s : ∀ (k0 : Nat) (p1 : GValue) (p2 : Int) (p3 : Int) (r : (Bool × Int)), value_sound_1_s k0 p1 p2 p3 = some r → MC Tryd.prog 78 [.ag (qa698 p1), .one (.pv (.rp [[pi p2]] 0 0)), .one (.pt 0 0 0 0)] [.box [.pt 1 0 0 0], .box [ci p3]] (vb r.1) [.box [.pt 1 0 0 0], .box [ci r.2]]
 | 0, _, _, _, r, h => by rw [value_sound_1_s.eq_1] at h; cases h
 | k0 + 1, p1, p2, p3, r, h => by
  rw [value_sound_1_s.eq_2] at h
  refine MC.of 2 (n := 11) (fn := Tryd.f78) (c := cd Tryd.f78 []) (by kernel_rfl) (by kernel_rfl) (by kernel_rfl) (Nat.le_of_ble_eq_true rfl) rfl (zq fun K1 hK1 => zr (zg [] 2 [1,2,3] (zd (hK1 _ _ (zq fun K2 hK2 => ?_)))))
  obtain ⟨r1, c3, h⟩ := zB h
  refine zr (zv [] 4 [5,7,8] [[pi p1.kind, pi p1.n, pi p1.scale, .s (.string p1.s), .ro (eValue.els p1.items)], [pi p2]] [(5, .ag (qa698 p1)), (7, vi (IntKind.i64.wrap (p2 + (1 : Int)))), (8, .one (.pt 1 0 0 0))] [.box [.pt 1 0 0 0], .box [ci p3]] ?_)
  refine XO.calm 31 [.ag (qa698 p1), vi (IntKind.i64.wrap (p2 + (1 : Int))), .one (.pt 0 0 0 0)] [.box [ci p3]] [.box [ci r1.2]] (vb r1.1) [1] [(9, vb r1.1), (5, .ag (qa698 p1)), (7, vi (IntKind.i64.wrap (p2 + (1 : Int)))), (8, .one (.pt 1 0 0 0))] [.box [.pt 1 0 0 0], .box [ci r1.2]] (by kernel_rfl) (c_value_sound k0 _ _ _ _ c3) (by kernel_rfl) (by kernel_rfl) (by kernel_rfl) (by kernel_rfl) (zv [] 2 [4] [] [(4, vb (!r1.1))] [.box [.pt 1 0 0 0], .box [ci r1.2]] (zd (hK2 _ _ (ze ?_))))
  obtain rfl := Option.some.inj h
  exact FinM.fin (.inr rfl) [] [vb (!r1.1)] [] (by kernel_rfl) trivial (by kernel_rfl) (by kernel_rfl) (.one (.rfl _ rfl))

end

def value_Sound (p1 : GValue) : Option Bool :=
    bnd (value_sound BIG p1 (1 : Int) (0 : Int)) fun r1 =>
    some r1.1

abbrev qa713 (p1 : GValue) : List CV := [ci p1.kind, ci p1.n, ci p1.scale, cst p1.s, cl eValue p1.items]

theorem c_value_Sound (p1 : GValue) (r : Bool) (h : value_Sound p1 = some r) : PC Tryd.prog 9 [.ag (qa713 p1)] (vb r) := by
 unfold value_Sound at h
 refine zF 6 Tryd.f9 (zq fun K1 hK1 => zr (zg [3] 2 [1] (zd (hK1 _ _ (zq fun K2 hK2 => zr ?_)))))
 refine zg [3] 2 [1,3] (zd (hK2 _ _ (zq fun K3 hK3 => ?_)))
 obtain ⟨r1, c4, h⟩ := zB h
 refine zr (zv [3] 1 [3,4] [[pi p1.kind, pi p1.n, pi p1.scale, .s (.string p1.s), .ro (eValue.els p1.items)]] [(3, .one (.pt 0 0 0 0)), (4, .ag (qa713 p1))] [.box [ci (0 : Int)]] ?_)
 refine XO.calm 31 [.ag (qa713 p1), vi (1 : Int), .one (.pt 0 0 0 0)] [.box [ci (0 : Int)]] [.box [ci r1.2]] (vb r1.1) [0] [(5, vb r1.1), (3, .one (.pt 0 0 0 0)), (4, .ag (qa713 p1))] [.box [ci r1.2]] (by kernel_rfl) (c_value_sound BIG _ _ _ _ c4) (by kernel_rfl) (by kernel_rfl) (by kernel_rfl) (by kernel_rfl) (zg [3] 1 [2] (zd (hK3 _ _ (ze ?_))))
 obtain rfl := Option.some.inj h
 exact zf [vb r1.1] (.one (.rfl _ rfl))

def value_Key_1 (p1 : GValue) : Option Bool :=
    bnd (value_Sound p1) fun r1 =>
    some (!r1)

abbrev qa721 (p1 : GValue) : List CV := [ci p1.kind, ci p1.n, ci p1.scale, cst p1.s, cl eValue p1.items]

theorem c_value_Key_1 (p1 : GValue) (r : Bool) (h : value_Key_1 p1 = some r) : PC Tryd.prog 40 [.ag (qa721 p1)] (vb r) := by
 unfold value_Key_1 at h
 refine zF 6 Tryd.f40 (zq fun K1 hK1 => zr (zg [] 2 [1] (zd (hK1 _ _ (zq fun K2 hK2 => ?_)))))
 obtain ⟨r1, c3, h⟩ := zB h
 refine zr (zu [] 1 [3] [[pi p1.kind, pi p1.n, pi p1.scale, .s (.string p1.s), .ro (eValue.els p1.items)]] (zl 9 [.ag (qa721 p1)] (vb r1) [(4, vb r1), (3, .ag (qa721 p1))] (c_value_Sound _ _ c3) (zg [] 2 [2] (zd (hK2 _ _ (ze ?_))))))
 obtain rfl := Option.some.inj h
 exact zf [vb (!r1)] (.one (.rfl _ rfl))

def slices_IndexFunc_api_Value_api_Value_of_value_Key_1_j1 : Option Int :=
    some (-1 : Int)

def slices_IndexFunc_api_Value_api_Value_of_value_Key_1_l1 (p1 : (List GValue)) : Nat → Int → Option Int
  | 0, _ => none
  | k1 + 1, x1 =>
    ift (decide (x1 < (p1.length : Int)))
      (bnd (at? p1 x1) fun e1 =>
       bnd (value_Key_1 e1) fun r1 =>
       ift r1
         (some x1)
         ((slices_IndexFunc_api_Value_api_Value_of_value_Key_1_l1 p1 k1) (IntKind.i64.wrap (x1 + (1 : Int)))))
      (slices_IndexFunc_api_Value_api_Value_of_value_Key_1_j1)

def slices_IndexFunc_api_Value_api_Value_of_value_Key_1 (p1 : (List GValue)) : Option Int :=
    slices_IndexFunc_api_Value_api_Value_of_value_Key_1_l1 p1 BIG (0 : Int)


theorem c_slices_IndexFunc_api_Value_api_Value_of_value_Key_1 (p1 : (List GValue)) (r : Int) (h : slices_IndexFunc_api_Value_api_Value_of_value_Key_1 p1 = some r) : PC Tryd.prog 86 [vl eValue p1, .one (.pv (.fn 40 []))] (vi r) := by
 unfold slices_IndexFunc_api_Value_api_Value_of_value_Key_1 at h
 refine zF 19 Tryd.f86 (zq fun K1 hK1 => zr (zg [] 1 [0,1] (zd (hK1 _ _ (zq fun K2 hK2 => ?_)))))
 have hJ1 : ∀ (_ : Unit), slices_IndexFunc_api_Value_api_Value_of_value_Key_1_j1 = some r → ∀ fr1 st1, Sub 19 0 [] fr1 st1 [] [] → K2 fr1 st1 := by
  intro _ h fr1 st1 hS
  unfold slices_IndexFunc_api_Value_api_Value_of_value_Key_1_j1 at h
  refine hK2 _ _ (XW.sub hS ?_)
  refine zq fun K14 hK14 => zr (zg [] 1 [4] (zd (hK14 _ _ (ze ?_))))
  obtain rfl := Option.some.inj h
  exact zf [vi (-1 : Int)] (.one (.rfl _ rfl))
 refine zq fun K3 hK3 => zr (zv [] 2 [0,1,7] [] [(0, vl eValue p1), (1, .one (.pv (.fn 40 []))), (7, vi ((eValue.els p1).length : Int))] [] ?_)
 rw [eValue.len p1]
 refine zg [] 1 [0,1,7,8] (zd (hK3 _ _ (zb 0 (XW.rounds' BIG (x := cd Tryd.f86 [1,0,1,0,0]) (by kernel_rfl) fun Q1 hQ1 => ?_))))
 have hL1 : ∀ (k1 : Nat) (x1 : Int), slices_IndexFunc_api_Value_api_Value_of_value_Key_1_l1 p1 k1 x1 = some r → XR Tryd.prog 19 0 [] (cd Tryd.f86 [1,0,1,0,0]) Q1 k1 [(0, vl eValue p1), (1, .one (.pv (.fn 40 []))), (7, vi (p1.length : Int)), (8, vi x1)] [] := by
  intro k1
  induction k1 with
  | zero => intro x1 h; rw [slices_IndexFunc_api_Value_api_Value_of_value_Key_1_l1.eq_1] at h; cases h
  | succ k1 ih1 =>
   intro x1 h
   rw [slices_IndexFunc_api_Value_api_Value_of_value_Key_1_l1.eq_2] at h
   refine zq fun K4 hK4 => zr (zg [] 1 [0,1,7,8,9] (zd (hK4 _ _ (zq fun K5 hK5 => zC h (fun b6 h => ?_) (fun b6 h => ?_)))))
   ·refine zs (hK5 _ _ (zq fun K7 hK7 => zb 1 (zq fun K8 hK8 => zr (zg [] 2 [0,1,5,7,8] (zd ?_)))))
    refine hK8 _ _ (zq fun K9 hK9 => ?_)
    obtain ⟨e1, a10, h⟩ := zB h
    obtain ⟨r1, c11, h⟩ := zB h
    refine zr (zp [] 5 [0,1,5,7,8,11,15] [[pi e1.kind, pi e1.n, pi e1.scale, .s (.string e1.s), .ro (eValue.els e1.items)]] [(0, vl eValue p1), (1, .one (.pv (.fn 40 []))), (5, vi x1), (7, vi (p1.length : Int)), (8, vi x1), (11, .one (.pv (.fn 40 []))), (15, .ag [ci e1.kind, ci e1.n, ci e1.scale, cst e1.s, cl eValue e1.items])] [] [0 ≤ x1 ∧ x1 < ((eValue.els p1).length : Int) ∧ elemsOk 5 (eValue.els p1), (eValue.els p1)[x1.toNat]? = some [pi e1.kind, pi e1.n, pi e1.scale, .s (.string e1.s), .ro (eValue.els e1.items)]] (⟨eValue.inb a10, ((eValue.get a10).trans (by cases e1; rfl)), trivial⟩) ?_)
    refine za (c_value_Key_1 _ _ c11) (zd (hK9 _ _ (zC h (fun b12 h => ?_) (fun b12 h => ?_))))
    ·refine zq fun K13 hK13 => zr (zg [] 2 [4] (zd (hK13 _ _ (ze (hQ1 _ _ _ ?_)))))
     obtain rfl := Option.some.inj h
     exact zf [vi x1] (.one (.rfl _ rfl))
    ·exact zs (hK7 _ _ (zr (zv [] 2 [0,1,7,8] [] [(0, vl eValue p1), (1, .one (.pv (.fn 40 []))), (7, vi (p1.length : Int)), (8, vi (IntKind.i64.wrap (x1 + (1 : Int))))] [] (zd (XR.sub (zk [0,1,7,8]) (ih1 (IntKind.i64.wrap (x1 + (1 : Int))) h))))))
   ·exact zx 0 (hQ1 _ _ _ (hJ1 () h _ _ (zk [])))
 exact XR.sub (zk [0,1,7,8]) (hL1 BIG (0 : Int) h)

def slices_ContainsFunc_api_Value_api_Value_of_value_Key_1 (p1 : (List GValue)) : Option Bool :=
    bnd (slices_IndexFunc_api_Value_api_Value_of_value_Key_1 p1) fun r1 =>
    some (decide ((0 : Int) ≤ r1))


theorem c_slices_ContainsFunc_api_Value_api_Value_of_value_Key_1 (p1 : (List GValue)) (r : Bool) (h : slices_ContainsFunc_api_Value_api_Value_of_value_Key_1 p1 = some r) : PC Tryd.prog 39 [vl eValue p1, .one (.pv (.fn 40 []))] (vb r) := by
 unfold slices_ContainsFunc_api_Value_api_Value_of_value_Key_1 at h
 refine zF 9 Tryd.f39 (zq fun K1 hK1 => zr (zg [] 1 [0,1] (zd (hK1 _ _ (zq fun K2 hK2 => ?_)))))
 obtain ⟨r1, c3, h⟩ := zB h
 refine zr (zg [] 2 [5,6] (zl 86 [vl eValue p1, .one (.pv (.fn 40 []))] (vi r1) [(7, vi r1), (5, vl eValue p1), (6, .one (.pv (.fn 40 [])))] (c_slices_IndexFunc_api_Value_api_Value_of_value_Key_1 _ _ c3) (zg [] 2 [4] (zd (hK2 _ _ (ze ?_))))))
 obtain rfl := Option.some.inj h
 exact zf [vb (decide ((0 : Int) ≤ r1))] (.one (.rfl _ rfl))

def value_word_s (p1 : Int) (p2 : (List Int)) : Option (Unit × (List Int)) :=
    bnd (some (IntKind.u8.wrap (p1.fdiv (2 ^ (min (56 : Int).toNat (IntKind.u64).bits))))) fun y1 =>
    grd (p2.length + 1 ≤ 4294967296) <|
    bnd (some (IntKind.u8.wrap (p1.fdiv (2 ^ (min (48 : Int).toNat (IntKind.u64).bits))))) fun y2 =>
    grd ((p2 ++ [y1]).length + 1 ≤ 4294967296) <|
    bnd (some (IntKind.u8.wrap (p1.fdiv (2 ^ (min (40 : Int).toNat (IntKind.u64).bits))))) fun y3 =>
    grd (((p2 ++ [y1]) ++ [y2]).length + 1 ≤ 4294967296) <|
    bnd (some (IntKind.u8.wrap (p1.fdiv (2 ^ (min (32 : Int).toNat (IntKind.u64).bits))))) fun y4 =>
    grd ((((p2 ++ [y1]) ++ [y2]) ++ [y3]).length + 1 ≤ 4294967296) <|
    bnd (some (IntKind.u8.wrap (p1.fdiv (2 ^ (min (24 : Int).toNat (IntKind.u64).bits))))) fun y5 =>
    grd (((((p2 ++ [y1]) ++ [y2]) ++ [y3]) ++ [y4]).length + 1 ≤ 4294967296) <|
    bnd (some (IntKind.u8.wrap (p1.fdiv (2 ^ (min (16 : Int).toNat (IntKind.u64).bits))))) fun y6 =>
    grd ((((((p2 ++ [y1]) ++ [y2]) ++ [y3]) ++ [y4]) ++ [y5]).length + 1 ≤ 4294967296) <|
    bnd (some (IntKind.u8.wrap (p1.fdiv (2 ^ (min (8 : Int).toNat (IntKind.u64).bits))))) fun y7 =>
    grd (((((((p2 ++ [y1]) ++ [y2]) ++ [y3]) ++ [y4]) ++ [y5]) ++ [y6]).length + 1 ≤ 4294967296) <|
    bnd (some (IntKind.u8.wrap (p1.fdiv (2 ^ (min (0 : Int).toNat (IntKind.u64).bits))))) fun y8 =>
    grd ((((((((p2 ++ [y1]) ++ [y2]) ++ [y3]) ++ [y4]) ++ [y5]) ++ [y6]) ++ [y7]).length + 1 ≤ 4294967296) <|
    some ((), ((((((((p2 ++ [y1]) ++ [y2]) ++ [y3]) ++ [y4]) ++ [y5]) ++ [y6]) ++ [y7]) ++ [y8]))


theorem c_value_word_s (p1 : Int) (p2 : (List Int)) (r : (Unit × (List Int))) (h : value_word_s p1 p2 = some r) : MX Tryd.prog 87 [.one (.sl 0 1 0 p2.length), vk .u64 p1] [.arr 1 ((eK .u8).els p2)] [0] (.one (.sl 0 1 0 r.2.length)) [.arr 1 ((eK .u8).els r.2)] := by
 unfold value_word_s at h
 refine MX.of 1 1 rfl (n := 18) (fn := Tryd.f87) (c := cd Tryd.f87 []) (by kernel_rfl) (by kernel_rfl) (by kernel_rfl) (Nat.le_of_ble_eq_true rfl) rfl (zq fun K1 hK1 => zr (zg [] 1 [0,1] (zd (hK1 _ _ (zq fun K2 hK2 => zq fun K3 hK3 => ?_)))))
 refine zr (zg [] 1 [0,1,5] (zd (hK3 _ _ (zb 0 (XW.rounds' 9 (x := cd Tryd.f87 [1,0,1,0,0]) (by kernel_rfl) fun Q1 hQ1 => XR.one (zq fun K4 hK4 => ?_))))))
 refine zq fun K5 hK5 => zr (zv [] 2 [0,1,5,7] [] [(0, .one (.sl 0 1 0 p2.length)), (1, vk .u64 p1), (5, vi (56 : Int)), (7, vb true)] [.arr 1 ((eK .u8).els p2)] (zd (hK5 _ _ (zc true (fun _ => ?_) (fun hx => by cases hx)))))
 refine zs (hK4 _ _ (zq fun K6 hK6 => zb 1 ?_))
 obtain ⟨y1, hy7, h⟩ := zB h
 obtain ⟨g8, h⟩ := zG h
 refine zr (zp [] 5 [1,5,10,14] [] [(1, vk .u64 p1), (5, vi (56 : Int)), (10, .one (.sl 0 1 0 p2.length)), (14, vk .u8 (IntKind.u8.wrap (p1.fdiv (2 ^ (min (56 : Int).toNat (IntKind.u64).bits)))))] [.arr 1 ((eK .u8).els p2)] [0 ≤ (56 : Int)] (⟨by decide, trivial⟩) ?_)
 rw [show (IntKind.u8.wrap (p1.fdiv (2 ^ (min (56 : Int).toNat (IntKind.u64).bits)))) = y1 from Option.some.inj hy7]
 refine zp [] 2 [1,5,16] [] [(1, vk .u64 p1), (5, vi (56 : Int)), (16, .one (.sl 0 1 0 (p2.length + ((eK .u8).els [y1]).length)))] [.arr 1 ((eK .u8).els p2 ++ (eK .u8).els [y1])] [elemsOk 1 ((eK .u8).els [y1]), p2.length = ((eK .u8).els p2).length, p2.length + ((eK .u8).els [y1]).length ≤ 4294967296] (⟨(eK .u8).ok _, ((eK .u8).len p2).symm, g8, trivial⟩) ?_
 rw [show p2.length + ((eK .u8).els [y1]).length = (p2 ++ [y1]).length from (eK .u8).lapp _ _]
 rw [show (eK .u8).els p2 ++ (eK .u8).els [y1] = (eK .u8).els (p2 ++ [y1]) from (eK .u8).app2 _ _]
 refine zg [] 1 [0,1,5] (zd (hK6 _ _ (zr (zv [] 3 [0,1,5] [] [(0, .one (.sl 0 1 0 ((p2 ++ [y1]).length))), (1, vk .u64 p1), (5, vi (48 : Int))] [.arr 1 ((eK .u8).els (p2 ++ [y1]))] (zd (XR.one (zq fun K9 hK9 => ?_)))))))
 refine zq fun K10 hK10 => zr (zg [] 2 [0,1,5,7] (zd (hK10 _ _ (zc true (fun _ => ?_) (fun hx => by cases hx)))))
 refine zs (hK9 _ _ (zq fun K11 hK11 => zb 1 ?_))
 obtain ⟨y2, hy12, h⟩ := zB h
 obtain ⟨g13, h⟩ := zG h
 refine zr (zp [] 5 [1,5,10,14] [] [(1, vk .u64 p1), (5, vi (48 : Int)), (10, .one (.sl 0 1 0 ((p2 ++ [y1]).length))), (14, vk .u8 (IntKind.u8.wrap (p1.fdiv (2 ^ (min (48 : Int).toNat (IntKind.u64).bits)))))] [.arr 1 ((eK .u8).els (p2 ++ [y1]))] [0 ≤ (48 : Int)] (⟨by decide, trivial⟩) ?_)
 rw [show (IntKind.u8.wrap (p1.fdiv (2 ^ (min (48 : Int).toNat (IntKind.u64).bits)))) = y2 from Option.some.inj hy12]
 refine zp [] 2 [1,5,16] [] [(1, vk .u64 p1), (5, vi (48 : Int)), (16, .one (.sl 0 1 0 ((p2 ++ [y1]).length + ((eK .u8).els [y2]).length)))] [.arr 1 ((eK .u8).els (p2 ++ [y1]) ++ (eK .u8).els [y2])] [elemsOk 1 ((eK .u8).els [y2]), (p2 ++ [y1]).length = ((eK .u8).els (p2 ++ [y1])).length, (p2 ++ [y1]).length + ((eK .u8).els [y2]).length ≤ 4294967296] (⟨(eK .u8).ok _, ((eK .u8).len (p2 ++ [y1])).symm, g13, trivial⟩) ?_
 rw [show (p2 ++ [y1]).length + ((eK .u8).els [y2]).length = ((p2 ++ [y1]) ++ [y2]).length from (eK .u8).lapp _ _]
 rw [show (eK .u8).els (p2 ++ [y1]) ++ (eK .u8).els [y2] = (eK .u8).els ((p2 ++ [y1]) ++ [y2]) from (eK .u8).app2 _ _]
 refine zg [] 1 [0,1,5] (zd (hK11 _ _ (zr (zv [] 3 [0,1,5] [] [(0, .one (.sl 0 1 0 (((p2 ++ [y1]) ++ [y2]).length))), (1, vk .u64 p1), (5, vi (40 : Int))] [.arr 1 ((eK .u8).els ((p2 ++ [y1]) ++ [y2]))] (zd (XR.one (zq fun K14 hK14 => ?_)))))))
 refine zq fun K15 hK15 => zr (zg [] 2 [0,1,5,7] (zd (hK15 _ _ (zc true (fun _ => ?_) (fun hx => by cases hx)))))
 refine zs (hK14 _ _ (zq fun K16 hK16 => zb 1 ?_))
 obtain ⟨y3, hy17, h⟩ := zB h
 obtain ⟨g18, h⟩ := zG h
 refine zr (zp [] 5 [1,5,10,14] [] [(1, vk .u64 p1), (5, vi (40 : Int)), (10, .one (.sl 0 1 0 (((p2 ++ [y1]) ++ [y2]).length))), (14, vk .u8 (IntKind.u8.wrap (p1.fdiv (2 ^ (min (40 : Int).toNat (IntKind.u64).bits)))))] [.arr 1 ((eK .u8).els ((p2 ++ [y1]) ++ [y2]))] [0 ≤ (40 : Int)] (⟨by decide, trivial⟩) ?_)
 rw [show (IntKind.u8.wrap (p1.fdiv (2 ^ (min (40 : Int).toNat (IntKind.u64).bits)))) = y3 from Option.some.inj hy17]
 refine zp [] 2 [1,5,16] [] [(1, vk .u64 p1), (5, vi (40 : Int)), (16, .one (.sl 0 1 0 (((p2 ++ [y1]) ++ [y2]).length + ((eK .u8).els [y3]).length)))] [.arr 1 ((eK .u8).els ((p2 ++ [y1]) ++ [y2]) ++ (eK .u8).els [y3])] [elemsOk 1 ((eK .u8).els [y3]), ((p2 ++ [y1]) ++ [y2]).length = ((eK .u8).els ((p2 ++ [y1]) ++ [y2])).length, ((p2 ++ [y1]) ++ [y2]).length + ((eK .u8).els [y3]).length ≤ 4294967296] (⟨(eK .u8).ok _, ((eK .u8).len ((p2 ++ [y1]) ++ [y2])).symm, g18, trivial⟩) ?_
 rw [show ((p2 ++ [y1]) ++ [y2]).length + ((eK .u8).els [y3]).length = (((p2 ++ [y1]) ++ [y2]) ++ [y3]).length from (eK .u8).lapp _ _]
 rw [show (eK .u8).els ((p2 ++ [y1]) ++ [y2]) ++ (eK .u8).els [y3] = (eK .u8).els (((p2 ++ [y1]) ++ [y2]) ++ [y3]) from (eK .u8).app2 _ _]
 refine zg [] 1 [0,1,5] (zd (hK16 _ _ (zr (zv [] 3 [0,1,5] [] [(0, .one (.sl 0 1 0 ((((p2 ++ [y1]) ++ [y2]) ++ [y3]).length))), (1, vk .u64 p1), (5, vi (32 : Int))] [.arr 1 ((eK .u8).els (((p2 ++ [y1]) ++ [y2]) ++ [y3]))] (zd (XR.one (zq fun K19 hK19 => ?_)))))))
 refine zq fun K20 hK20 => zr (zg [] 2 [0,1,5,7] (zd (hK20 _ _ (zc true (fun _ => ?_) (fun hx => by cases hx)))))
 refine zs (hK19 _ _ (zq fun K21 hK21 => zb 1 ?_))
 obtain ⟨y4, hy22, h⟩ := zB h
 obtain ⟨g23, h⟩ := zG h
 refine zr (zp [] 5 [1,5,10,14] [] [(1, vk .u64 p1), (5, vi (32 : Int)), (10, .one (.sl 0 1 0 ((((p2 ++ [y1]) ++ [y2]) ++ [y3]).length))), (14, vk .u8 (IntKind.u8.wrap (p1.fdiv (2 ^ (min (32 : Int).toNat (IntKind.u64).bits)))))] [.arr 1 ((eK .u8).els (((p2 ++ [y1]) ++ [y2]) ++ [y3]))] [0 ≤ (32 : Int)] (⟨by decide, trivial⟩) ?_)
 rw [show (IntKind.u8.wrap (p1.fdiv (2 ^ (min (32 : Int).toNat (IntKind.u64).bits)))) = y4 from Option.some.inj hy22]
 refine zp [] 2 [1,5,16] [] [(1, vk .u64 p1), (5, vi (32 : Int)), (16, .one (.sl 0 1 0 ((((p2 ++ [y1]) ++ [y2]) ++ [y3]).length + ((eK .u8).els [y4]).length)))] [.arr 1 ((eK .u8).els (((p2 ++ [y1]) ++ [y2]) ++ [y3]) ++ (eK .u8).els [y4])] [elemsOk 1 ((eK .u8).els [y4]), (((p2 ++ [y1]) ++ [y2]) ++ [y3]).length = ((eK .u8).els (((p2 ++ [y1]) ++ [y2]) ++ [y3])).length, (((p2 ++ [y1]) ++ [y2]) ++ [y3]).length + ((eK .u8).els [y4]).length ≤ 4294967296] (⟨(eK .u8).ok _, ((eK .u8).len (((p2 ++ [y1]) ++ [y2]) ++ [y3])).symm, g23, trivial⟩) ?_
 rw [show (((p2 ++ [y1]) ++ [y2]) ++ [y3]).length + ((eK .u8).els [y4]).length = ((((p2 ++ [y1]) ++ [y2]) ++ [y3]) ++ [y4]).length from (eK .u8).lapp _ _]
 rw [show (eK .u8).els (((p2 ++ [y1]) ++ [y2]) ++ [y3]) ++ (eK .u8).els [y4] = (eK .u8).els ((((p2 ++ [y1]) ++ [y2]) ++ [y3]) ++ [y4]) from (eK .u8).app2 _ _]
 refine zg [] 1 [0,1,5] (zd (hK21 _ _ (zr (zv [] 3 [0,1,5] [] [(0, .one (.sl 0 1 0 (((((p2 ++ [y1]) ++ [y2]) ++ [y3]) ++ [y4]).length))), (1, vk .u64 p1), (5, vi (24 : Int))] [.arr 1 ((eK .u8).els ((((p2 ++ [y1]) ++ [y2]) ++ [y3]) ++ [y4]))] (zd (XR.one (zq fun K24 hK24 => ?_)))))))
 refine zq fun K25 hK25 => zr (zg [] 2 [0,1,5,7] (zd (hK25 _ _ (zc true (fun _ => ?_) (fun hx => by cases hx)))))
 refine zs (hK24 _ _ (zq fun K26 hK26 => zb 1 ?_))
 obtain ⟨y5, hy27, h⟩ := zB h
 obtain ⟨g28, h⟩ := zG h
 refine zr (zp [] 5 [1,5,10,14] [] [(1, vk .u64 p1), (5, vi (24 : Int)), (10, .one (.sl 0 1 0 (((((p2 ++ [y1]) ++ [y2]) ++ [y3]) ++ [y4]).length))), (14, vk .u8 (IntKind.u8.wrap (p1.fdiv (2 ^ (min (24 : Int).toNat (IntKind.u64).bits)))))] [.arr 1 ((eK .u8).els ((((p2 ++ [y1]) ++ [y2]) ++ [y3]) ++ [y4]))] [0 ≤ (24 : Int)] (⟨by decide, trivial⟩) ?_)
 rw [show (IntKind.u8.wrap (p1.fdiv (2 ^ (min (24 : Int).toNat (IntKind.u64).bits)))) = y5 from Option.some.inj hy27]
 refine zp [] 2 [1,5,16] [] [(1, vk .u64 p1), (5, vi (24 : Int)), (16, .one (.sl 0 1 0 (((((p2 ++ [y1]) ++ [y2]) ++ [y3]) ++ [y4]).length + ((eK .u8).els [y5]).length)))] [.arr 1 ((eK .u8).els ((((p2 ++ [y1]) ++ [y2]) ++ [y3]) ++ [y4]) ++ (eK .u8).els [y5])] [elemsOk 1 ((eK .u8).els [y5]), ((((p2 ++ [y1]) ++ [y2]) ++ [y3]) ++ [y4]).length = ((eK .u8).els ((((p2 ++ [y1]) ++ [y2]) ++ [y3]) ++ [y4])).length, ((((p2 ++ [y1]) ++ [y2]) ++ [y3]) ++ [y4]).length + ((eK .u8).els [y5]).length ≤ 4294967296] (⟨(eK .u8).ok _, ((eK .u8).len ((((p2 ++ [y1]) ++ [y2]) ++ [y3]) ++ [y4])).symm, g28, trivial⟩) ?_
 rw [show ((((p2 ++ [y1]) ++ [y2]) ++ [y3]) ++ [y4]).length + ((eK .u8).els [y5]).length = (((((p2 ++ [y1]) ++ [y2]) ++ [y3]) ++ [y4]) ++ [y5]).length from (eK .u8).lapp _ _]
 rw [show (eK .u8).els ((((p2 ++ [y1]) ++ [y2]) ++ [y3]) ++ [y4]) ++ (eK .u8).els [y5] = (eK .u8).els (((((p2 ++ [y1]) ++ [y2]) ++ [y3]) ++ [y4]) ++ [y5]) from (eK .u8).app2 _ _]
 refine zg [] 1 [0,1,5] (zd (hK26 _ _ (zr (zv [] 3 [0,1,5] [] [(0, .one (.sl 0 1 0 ((((((p2 ++ [y1]) ++ [y2]) ++ [y3]) ++ [y4]) ++ [y5]).length))), (1, vk .u64 p1), (5, vi (16 : Int))] [.arr 1 ((eK .u8).els (((((p2 ++ [y1]) ++ [y2]) ++ [y3]) ++ [y4]) ++ [y5]))] (zd (XR.one (zq fun K29 hK29 => ?_)))))))
 refine zq fun K30 hK30 => zr (zg [] 2 [0,1,5,7] (zd (hK30 _ _ (zc true (fun _ => ?_) (fun hx => by cases hx)))))
 refine zs (hK29 _ _ (zq fun K31 hK31 => zb 1 ?_))
 obtain ⟨y6, hy32, h⟩ := zB h
 obtain ⟨g33, h⟩ := zG h
 refine zr (zp [] 5 [1,5,10,14] [] [(1, vk .u64 p1), (5, vi (16 : Int)), (10, .one (.sl 0 1 0 ((((((p2 ++ [y1]) ++ [y2]) ++ [y3]) ++ [y4]) ++ [y5]).length))), (14, vk .u8 (IntKind.u8.wrap (p1.fdiv (2 ^ (min (16 : Int).toNat (IntKind.u64).bits)))))] [.arr 1 ((eK .u8).els (((((p2 ++ [y1]) ++ [y2]) ++ [y3]) ++ [y4]) ++ [y5]))] [0 ≤ (16 : Int)] (⟨by decide, trivial⟩) ?_)
 rw [show (IntKind.u8.wrap (p1.fdiv (2 ^ (min (16 : Int).toNat (IntKind.u64).bits)))) = y6 from Option.some.inj hy32]
 refine zp [] 2 [1,5,16] [] [(1, vk .u64 p1), (5, vi (16 : Int)), (16, .one (.sl 0 1 0 ((((((p2 ++ [y1]) ++ [y2]) ++ [y3]) ++ [y4]) ++ [y5]).length + ((eK .u8).els [y6]).length)))] [.arr 1 ((eK .u8).els (((((p2 ++ [y1]) ++ [y2]) ++ [y3]) ++ [y4]) ++ [y5]) ++ (eK .u8).els [y6])] [elemsOk 1 ((eK .u8).els [y6]), (((((p2 ++ [y1]) ++ [y2]) ++ [y3]) ++ [y4]) ++ [y5]).length = ((eK .u8).els (((((p2 ++ [y1]) ++ [y2]) ++ [y3]) ++ [y4]) ++ [y5])).length, (((((p2 ++ [y1]) ++ [y2]) ++ [y3]) ++ [y4]) ++ [y5]).length + ((eK .u8).els [y6]).length ≤ 4294967296] (⟨(eK .u8).ok _, ((eK .u8).len (((((p2 ++ [y1]) ++ [y2]) ++ [y3]) ++ [y4]) ++ [y5])).symm, g33, trivial⟩) ?_
 rw [show (((((p2 ++ [y1]) ++ [y2]) ++ [y3]) ++ [y4]) ++ [y5]).length + ((eK .u8).els [y6]).length = ((((((p2 ++ [y1]) ++ [y2]) ++ [y3]) ++ [y4]) ++ [y5]) ++ [y6]).length from (eK .u8).lapp _ _]
 rw [show (eK .u8).els (((((p2 ++ [y1]) ++ [y2]) ++ [y3]) ++ [y4]) ++ [y5]) ++ (eK .u8).els [y6] = (eK .u8).els ((((((p2 ++ [y1]) ++ [y2]) ++ [y3]) ++ [y4]) ++ [y5]) ++ [y6]) from (eK .u8).app2 _ _]
 refine zg [] 1 [0,1,5] (zd (hK31 _ _ (zr (zv [] 3 [0,1,5] [] [(0, .one (.sl 0 1 0 (((((((p2 ++ [y1]) ++ [y2]) ++ [y3]) ++ [y4]) ++ [y5]) ++ [y6]).length))), (1, vk .u64 p1), (5, vi (8 : Int))] [.arr 1 ((eK .u8).els ((((((p2 ++ [y1]) ++ [y2]) ++ [y3]) ++ [y4]) ++ [y5]) ++ [y6]))] (zd (XR.one (zq fun K34 hK34 => ?_)))))))
 refine zq fun K35 hK35 => zr (zg [] 2 [0,1,5,7] (zd (hK35 _ _ (zc true (fun _ => ?_) (fun hx => by cases hx)))))
 refine zs (hK34 _ _ (zq fun K36 hK36 => zb 1 ?_))
 obtain ⟨y7, hy37, h⟩ := zB h
 obtain ⟨g38, h⟩ := zG h
 refine zr (zp [] 5 [1,5,10,14] [] [(1, vk .u64 p1), (5, vi (8 : Int)), (10, .one (.sl 0 1 0 (((((((p2 ++ [y1]) ++ [y2]) ++ [y3]) ++ [y4]) ++ [y5]) ++ [y6]).length))), (14, vk .u8 (IntKind.u8.wrap (p1.fdiv (2 ^ (min (8 : Int).toNat (IntKind.u64).bits)))))] [.arr 1 ((eK .u8).els ((((((p2 ++ [y1]) ++ [y2]) ++ [y3]) ++ [y4]) ++ [y5]) ++ [y6]))] [0 ≤ (8 : Int)] (⟨by decide, trivial⟩) ?_)
 rw [show (IntKind.u8.wrap (p1.fdiv (2 ^ (min (8 : Int).toNat (IntKind.u64).bits)))) = y7 from Option.some.inj hy37]
 refine zp [] 2 [1,5,16] [] [(1, vk .u64 p1), (5, vi (8 : Int)), (16, .one (.sl 0 1 0 (((((((p2 ++ [y1]) ++ [y2]) ++ [y3]) ++ [y4]) ++ [y5]) ++ [y6]).length + ((eK .u8).els [y7]).length)))] [.arr 1 ((eK .u8).els ((((((p2 ++ [y1]) ++ [y2]) ++ [y3]) ++ [y4]) ++ [y5]) ++ [y6]) ++ (eK .u8).els [y7])] [elemsOk 1 ((eK .u8).els [y7]), ((((((p2 ++ [y1]) ++ [y2]) ++ [y3]) ++ [y4]) ++ [y5]) ++ [y6]).length = ((eK .u8).els ((((((p2 ++ [y1]) ++ [y2]) ++ [y3]) ++ [y4]) ++ [y5]) ++ [y6])).length, ((((((p2 ++ [y1]) ++ [y2]) ++ [y3]) ++ [y4]) ++ [y5]) ++ [y6]).length + ((eK .u8).els [y7]).length ≤ 4294967296] (⟨(eK .u8).ok _, ((eK .u8).len ((((((p2 ++ [y1]) ++ [y2]) ++ [y3]) ++ [y4]) ++ [y5]) ++ [y6])).symm, g38, trivial⟩) ?_
 rw [show ((((((p2 ++ [y1]) ++ [y2]) ++ [y3]) ++ [y4]) ++ [y5]) ++ [y6]).length + ((eK .u8).els [y7]).length = (((((((p2 ++ [y1]) ++ [y2]) ++ [y3]) ++ [y4]) ++ [y5]) ++ [y6]) ++ [y7]).length from (eK .u8).lapp _ _]
 rw [show (eK .u8).els ((((((p2 ++ [y1]) ++ [y2]) ++ [y3]) ++ [y4]) ++ [y5]) ++ [y6]) ++ (eK .u8).els [y7] = (eK .u8).els (((((((p2 ++ [y1]) ++ [y2]) ++ [y3]) ++ [y4]) ++ [y5]) ++ [y6]) ++ [y7]) from (eK .u8).app2 _ _]
 refine zg [] 1 [0,1,5] (zd (hK36 _ _ (zr (zv [] 3 [0,1,5] [] [(0, .one (.sl 0 1 0 ((((((((p2 ++ [y1]) ++ [y2]) ++ [y3]) ++ [y4]) ++ [y5]) ++ [y6]) ++ [y7]).length))), (1, vk .u64 p1), (5, vi (0 : Int))] [.arr 1 ((eK .u8).els (((((((p2 ++ [y1]) ++ [y2]) ++ [y3]) ++ [y4]) ++ [y5]) ++ [y6]) ++ [y7]))] (zd (XR.one (zq fun K39 hK39 => ?_)))))))
 refine zq fun K40 hK40 => zr (zg [] 2 [0,1,5,7] (zd (hK40 _ _ (zc true (fun _ => ?_) (fun hx => by cases hx)))))
 refine zs (hK39 _ _ (zq fun K41 hK41 => zb 1 ?_))
 obtain ⟨y8, hy42, h⟩ := zB h
 obtain ⟨g43, h⟩ := zG h
 refine zr (zp [] 5 [1,5,10,14] [] [(1, vk .u64 p1), (5, vi (0 : Int)), (10, .one (.sl 0 1 0 ((((((((p2 ++ [y1]) ++ [y2]) ++ [y3]) ++ [y4]) ++ [y5]) ++ [y6]) ++ [y7]).length))), (14, vk .u8 (IntKind.u8.wrap (p1.fdiv (2 ^ (min (0 : Int).toNat (IntKind.u64).bits)))))] [.arr 1 ((eK .u8).els (((((((p2 ++ [y1]) ++ [y2]) ++ [y3]) ++ [y4]) ++ [y5]) ++ [y6]) ++ [y7]))] [0 ≤ (0 : Int)] (⟨by decide, trivial⟩) ?_)
 rw [show (IntKind.u8.wrap (p1.fdiv (2 ^ (min (0 : Int).toNat (IntKind.u64).bits)))) = y8 from Option.some.inj hy42]
 refine zp [] 2 [1,5,16] [] [(1, vk .u64 p1), (5, vi (0 : Int)), (16, .one (.sl 0 1 0 ((((((((p2 ++ [y1]) ++ [y2]) ++ [y3]) ++ [y4]) ++ [y5]) ++ [y6]) ++ [y7]).length + ((eK .u8).els [y8]).length)))] [.arr 1 ((eK .u8).els (((((((p2 ++ [y1]) ++ [y2]) ++ [y3]) ++ [y4]) ++ [y5]) ++ [y6]) ++ [y7]) ++ (eK .u8).els [y8])] [elemsOk 1 ((eK .u8).els [y8]), (((((((p2 ++ [y1]) ++ [y2]) ++ [y3]) ++ [y4]) ++ [y5]) ++ [y6]) ++ [y7]).length = ((eK .u8).els (((((((p2 ++ [y1]) ++ [y2]) ++ [y3]) ++ [y4]) ++ [y5]) ++ [y6]) ++ [y7])).length, (((((((p2 ++ [y1]) ++ [y2]) ++ [y3]) ++ [y4]) ++ [y5]) ++ [y6]) ++ [y7]).length + ((eK .u8).els [y8]).length ≤ 4294967296] (⟨(eK .u8).ok _, ((eK .u8).len (((((((p2 ++ [y1]) ++ [y2]) ++ [y3]) ++ [y4]) ++ [y5]) ++ [y6]) ++ [y7])).symm, g43, trivial⟩) ?_
 rw [show (((((((p2 ++ [y1]) ++ [y2]) ++ [y3]) ++ [y4]) ++ [y5]) ++ [y6]) ++ [y7]).length + ((eK .u8).els [y8]).length = ((((((((p2 ++ [y1]) ++ [y2]) ++ [y3]) ++ [y4]) ++ [y5]) ++ [y6]) ++ [y7]) ++ [y8]).length from (eK .u8).lapp _ _]
 rw [show (eK .u8).els (((((((p2 ++ [y1]) ++ [y2]) ++ [y3]) ++ [y4]) ++ [y5]) ++ [y6]) ++ [y7]) ++ (eK .u8).els [y8] = (eK .u8).els ((((((((p2 ++ [y1]) ++ [y2]) ++ [y3]) ++ [y4]) ++ [y5]) ++ [y6]) ++ [y7]) ++ [y8]) from (eK .u8).app2 _ _]
 refine zg [] 1 [0,1,5] (zd (hK41 _ _ (zr (zv [] 3 [0,1,5] [] [(0, .one (.sl 0 1 0 (((((((((p2 ++ [y1]) ++ [y2]) ++ [y3]) ++ [y4]) ++ [y5]) ++ [y6]) ++ [y7]) ++ [y8]).length))), (1, vk .u64 p1), (5, vi (-8 : Int))] [.arr 1 ((eK .u8).els ((((((((p2 ++ [y1]) ++ [y2]) ++ [y3]) ++ [y4]) ++ [y5]) ++ [y6]) ++ [y7]) ++ [y8]))] (zd (XR.one (zq fun K44 hK44 => ?_)))))))
 refine zq fun K45 hK45 => zr (zg [] 2 [0,1,5,7] (zd (hK45 _ _ (zc false (fun hx => by cases hx) (fun _ => ?_)))))
 refine zx 0 (hQ1 _ _ _ (hK2 _ _ (zq fun K46 hK46 => zr (zv [] 2 [4] [] [(4, .one (.sl 0 1 0 (((((((((p2 ++ [y1]) ++ [y2]) ++ [y3]) ++ [y4]) ++ [y5]) ++ [y6]) ++ [y7]) ++ [y8]).length)))] [.arr 1 ((eK .u8).els ((((((((p2 ++ [y1]) ++ [y2]) ++ [y3]) ++ [y4]) ++ [y5]) ++ [y6]) ++ [y7]) ++ [y8]))] (zd (hK46 _ _ ?_))))))
 refine ze ?_
 obtain rfl := Option.some.inj h
 exact FinM.fin (.inr rfl) [] [.one (.sl 0 1 0 (((((((((p2 ++ [y1]) ++ [y2]) ++ [y3]) ++ [y4]) ++ [y5]) ++ [y6]) ++ [y7]) ++ [y8]).length))] [] (by kernel_rfl) trivial (by kernel_rfl) (by kernel_rfl) (.one (.rfl _ rfl))

def value_whole (p1 : Int) : Option GWide :=
    ift (decide (p1 < (0 : Int)))
      (some (GWide.mk true ((IntKind.u64.wrap (0 - (IntKind.u64.wrap p1))), (0 : Int), (0 : Int), (0 : Int))))
      (some (GWide.mk false ((IntKind.u64.wrap p1), (0 : Int), (0 : Int), (0 : Int))))

abbrev qa752 (p1 : Int) : List CV := [cb true, ck .u64 (IntKind.u64.wrap (0 - (IntKind.u64.wrap p1))), ck .u64 (0 : Int), ck .u64 (0 : Int), ck .u64 (0 : Int)]

theorem c_value_whole (p1 : Int) (r : GWide) (h : value_whole p1 = some r) : PC Tryd.prog 46 [vi p1] (.ag [cb r.neg, ck .u64 r.size.1, ck .u64 r.size.2.1, ck .u64 r.size.2.2.1, ck .u64 r.size.2.2.2]) := by
 unfold value_whole at h
 refine zF 14 Tryd.f46 (zq fun K1 hK1 => zr (zg [2] 1 [0,2] (zd (hK1 _ _ (zq fun K2 hK2 => zq fun K3 hK3 => ?_)))))
 refine zr (zg [2] 2 [0,2,4] (zd (hK3 _ _ (zC h (fun b4 h => ?_) (fun b4 h => ?_)))))
 ·refine zq fun K5 hK5 => zr (zv [2] 6 [2] [] [(2, .one (.pt 0 0 0 0))] [.box (qa752 p1)] (zd (hK5 _ _ (ze ?_))))
  obtain rfl := Option.some.inj h
  exact zf [.ag (qa752 p1)] (.ag (.cons (.rfl _ rfl) (.cons (.rfl _ rfl) (.cons (.rfl _ rfl) (.cons (.rfl _ rfl) (.cons (.rfl _ rfl) .nil))))))
 ·refine zs (hK2 _ _ (zq fun K6 hK6 => zr (zg [2] 5 [2] (zd (hK6 _ _ (ze ?_))))))
  obtain rfl := Option.some.inj h
  exact zf [.ag [cb false, ck .u64 (IntKind.u64.wrap p1), ck .u64 (0 : Int), ck .u64 (0 : Int), ck .u64 (0 : Int)]] (.ag (.cons (.rfl _ rfl) (.cons (.rfl _ rfl) (.cons (.rfl _ rfl) (.cons (.rfl _ rfl) (.cons (.rfl _ rfl) .nil))))))

def math_bits_Mul64 (p1 : Int) (p2 : Int) : Option (Int × Int) :=
    bnd (some (IntKind.u64.wrap (BitVec.ofInt (IntKind.u64).bits p1 &&& BitVec.ofInt (IntKind.u64).bits (4294967295 : Int)).toNat)) fun y1 =>
    bnd (some (IntKind.u64.wrap (BitVec.ofInt (IntKind.u64).bits p2 &&& BitVec.ofInt (IntKind.u64).bits (4294967295 : Int)).toNat)) fun y2 =>
    bnd (some (IntKind.u64.wrap ((p1.fdiv (2 ^ (min (32 : Int).toNat (IntKind.u64).bits))) * y2))) fun y3 =>
    bnd (some ((IntKind.u64.wrap (y1 * y2)).fdiv (2 ^ (min (32 : Int).toNat (IntKind.u64).bits)))) fun y4 =>
    bnd (some (IntKind.u64.wrap (BitVec.ofInt (IntKind.u64).bits (IntKind.u64.wrap (y3 + y4)) &&& BitVec.ofInt (IntKind.u64).bits (4294967295 : Int)).toNat)) fun y5 =>
    bnd (some ((IntKind.u64.wrap (y3 + y4)).fdiv (2 ^ (min (32 : Int).toNat (IntKind.u64).bits)))) fun y6 =>
    bnd (some (IntKind.u64.wrap (y1 * (p2.fdiv (2 ^ (min (32 : Int).toNat (IntKind.u64).bits)))))) fun y7 =>
    bnd (some (IntKind.u64.wrap ((p1.fdiv (2 ^ (min (32 : Int).toNat (IntKind.u64).bits))) * (p2.fdiv (2 ^ (min (32 : Int).toNat (IntKind.u64).bits)))))) fun y8 =>
    bnd (some ((IntKind.u64.wrap (y5 + y7)).fdiv (2 ^ (min (32 : Int).toNat (IntKind.u64).bits)))) fun y9 =>
    some ((IntKind.u64.wrap ((IntKind.u64.wrap (y8 + y6)) + y9)), (IntKind.u64.wrap (p1 * p2)))


theorem c_math_bits_Mul64 (p1 : Int) (p2 : Int) (r : (Int × Int)) (h : math_bits_Mul64 p1 p2 = some r) : PC Tryd.prog 120 [vk .u64 p1, vk .u64 p2] (.tp [vk .u64 r.1, vk .u64 r.2]) := by
 unfold math_bits_Mul64 at h
 refine zF 51 Tryd.f120 (zq fun K1 hK1 => zr (zg [] 2 [0,1] (zd (hK1 _ _ (zq fun K2 hK2 => ?_)))))
 obtain ⟨y1, hy3, h⟩ := zB h
 refine zr (zv [] 2 [0,1,15] [] [(0, vk .u64 p1), (1, vk .u64 p2), (15, vk .u64 (IntKind.u64.wrap (BitVec.ofInt (IntKind.u64).bits p1 &&& BitVec.ofInt (IntKind.u64).bits (4294967295 : Int)).toNat))] [] ?_)
 rw [show (IntKind.u64.wrap (BitVec.ofInt (IntKind.u64).bits p1 &&& BitVec.ofInt (IntKind.u64).bits (4294967295 : Int)).toNat) = y1 from Option.some.inj hy3]
 refine zg [] 1 [0,1,6] (zd (hK2 _ _ (zq fun K4 hK4 => zr (zo [] 3 [0,1,6,7] [] [0 ≤ (32 : Int)] (⟨by decide, trivial⟩) (zd (hK4 _ _ ?_))))))
 refine zq fun K5 hK5 => ?_
 obtain ⟨y2, hy6, h⟩ := zB h
 refine zr (zv [] 2 [0,1,6,7,19] [] [(0, vk .u64 p1), (1, vk .u64 p2), (6, vk .u64 y1), (7, vk .u64 (p1.fdiv (2 ^ (min (32 : Int).toNat (IntKind.u64).bits)))), (19, vk .u64 (IntKind.u64.wrap (BitVec.ofInt (IntKind.u64).bits p2 &&& BitVec.ofInt (IntKind.u64).bits (4294967295 : Int)).toNat))] [] ?_)
 rw [show (IntKind.u64.wrap (BitVec.ofInt (IntKind.u64).bits p2 &&& BitVec.ofInt (IntKind.u64).bits (4294967295 : Int)).toNat) = y2 from Option.some.inj hy6]
 refine zg [] 1 [0,1,6,7,8] (zd (hK5 _ _ (zq fun K7 hK7 => zr (zo [] 3 [0,1,6,7,8,9] [] [0 ≤ (32 : Int)] (⟨by decide, trivial⟩) (zd (hK7 _ _ ?_))))))
 refine zq fun K8 hK8 => zr (zv [] 4 [0,1,6,7,8,9,10] [] [(0, vk .u64 p1), (1, vk .u64 p2), (6, vk .u64 y1), (7, vk .u64 (p1.fdiv (2 ^ (min (32 : Int).toNat (IntKind.u64).bits)))), (8, vk .u64 y2), (9, vk .u64 (p2.fdiv (2 ^ (min (32 : Int).toNat (IntKind.u64).bits)))), (10, vk .u64 (IntKind.u64.wrap (y1 * y2)))] [] (zd (hK8 _ _ (zq fun K9 hK9 => ?_))))
 obtain ⟨y3, hy10, h⟩ := zB h
 obtain ⟨y4, hy11, h⟩ := zB h
 refine zr (zv [] 3 [0,1,6,7,9,10,27] [] [(0, vk .u64 p1), (1, vk .u64 p2), (6, vk .u64 y1), (7, vk .u64 (p1.fdiv (2 ^ (min (32 : Int).toNat (IntKind.u64).bits)))), (9, vk .u64 (p2.fdiv (2 ^ (min (32 : Int).toNat (IntKind.u64).bits)))), (10, vk .u64 (IntKind.u64.wrap (y1 * y2))), (27, vk .u64 (IntKind.u64.wrap ((p1.fdiv (2 ^ (min (32 : Int).toNat (IntKind.u64).bits))) * y2)))] [] ?_)
 rw [show (IntKind.u64.wrap ((p1.fdiv (2 ^ (min (32 : Int).toNat (IntKind.u64).bits))) * y2)) = y3 from Option.some.inj hy10]
 refine zp [] 2 [0,1,6,7,9,27,29] [] [(0, vk .u64 p1), (1, vk .u64 p2), (6, vk .u64 y1), (7, vk .u64 (p1.fdiv (2 ^ (min (32 : Int).toNat (IntKind.u64).bits)))), (9, vk .u64 (p2.fdiv (2 ^ (min (32 : Int).toNat (IntKind.u64).bits)))), (27, vk .u64 y3), (29, vk .u64 ((IntKind.u64.wrap (y1 * y2)).fdiv (2 ^ (min (32 : Int).toNat (IntKind.u64).bits))))] [] [0 ≤ (32 : Int)] (⟨by decide, trivial⟩) ?_
 rw [show ((IntKind.u64.wrap (y1 * y2)).fdiv (2 ^ (min (32 : Int).toNat (IntKind.u64).bits))) = y4 from Option.some.inj hy11]
 refine zg [] 2 [0,1,6,7,9,11] (zd (hK9 _ _ (zq fun K12 hK12 => ?_)))
 obtain ⟨y5, hy13, h⟩ := zB h
 refine zr (zv [] 2 [0,1,6,7,9,11,32] [] [(0, vk .u64 p1), (1, vk .u64 p2), (6, vk .u64 y1), (7, vk .u64 (p1.fdiv (2 ^ (min (32 : Int).toNat (IntKind.u64).bits)))), (9, vk .u64 (p2.fdiv (2 ^ (min (32 : Int).toNat (IntKind.u64).bits)))), (11, vk .u64 (IntKind.u64.wrap (y3 + y4))), (32, vk .u64 (IntKind.u64.wrap (BitVec.ofInt (IntKind.u64).bits (IntKind.u64.wrap (y3 + y4)) &&& BitVec.ofInt (IntKind.u64).bits (4294967295 : Int)).toNat))] [] ?_)
 rw [show (IntKind.u64.wrap (BitVec.ofInt (IntKind.u64).bits (IntKind.u64.wrap (y3 + y4)) &&& BitVec.ofInt (IntKind.u64).bits (4294967295 : Int)).toNat) = y5 from Option.some.inj hy13]
 refine zg [] 1 [0,1,6,7,9,11,12] (zd (hK12 _ _ (zq fun K14 hK14 => ?_)))
 obtain ⟨y6, hy15, h⟩ := zB h
 refine zr (zp [] 2 [0,1,6,7,9,12,34] [] [(0, vk .u64 p1), (1, vk .u64 p2), (6, vk .u64 y1), (7, vk .u64 (p1.fdiv (2 ^ (min (32 : Int).toNat (IntKind.u64).bits)))), (9, vk .u64 (p2.fdiv (2 ^ (min (32 : Int).toNat (IntKind.u64).bits)))), (12, vk .u64 y5), (34, vk .u64 ((IntKind.u64.wrap (y3 + y4)).fdiv (2 ^ (min (32 : Int).toNat (IntKind.u64).bits))))] [] [0 ≤ (32 : Int)] (⟨by decide, trivial⟩) ?_)
 rw [show ((IntKind.u64.wrap (y3 + y4)).fdiv (2 ^ (min (32 : Int).toNat (IntKind.u64).bits))) = y6 from Option.some.inj hy15]
 refine zg [] 1 [0,1,6,7,9,12,13] (zd (hK14 _ _ (zq fun K16 hK16 => ?_)))
 obtain ⟨y7, hy17, h⟩ := zB h
 refine zr (zv [] 4 [0,1,7,9,13,35,38] [] [(0, vk .u64 p1), (1, vk .u64 p2), (7, vk .u64 (p1.fdiv (2 ^ (min (32 : Int).toNat (IntKind.u64).bits)))), (9, vk .u64 (p2.fdiv (2 ^ (min (32 : Int).toNat (IntKind.u64).bits)))), (13, vk .u64 y6), (35, vk .u64 y5), (38, vk .u64 (IntKind.u64.wrap (y1 * (p2.fdiv (2 ^ (min (32 : Int).toNat (IntKind.u64).bits))))))] [] ?_)
 rw [show (IntKind.u64.wrap (y1 * (p2.fdiv (2 ^ (min (32 : Int).toNat (IntKind.u64).bits))))) = y7 from Option.some.inj hy17]
 refine zg [] 2 [0,1,7,9,12,13] (zd (hK16 _ _ (zq fun K18 hK18 => ?_)))
 obtain ⟨y8, hy19, h⟩ := zB h
 obtain ⟨y9, hy20, h⟩ := zB h
 refine zr (zv [] 3 [0,1,12,13,42] [] [(0, vk .u64 p1), (1, vk .u64 p2), (12, vk .u64 (IntKind.u64.wrap (y5 + y7))), (13, vk .u64 y6), (42, vk .u64 (IntKind.u64.wrap ((p1.fdiv (2 ^ (min (32 : Int).toNat (IntKind.u64).bits))) * (p2.fdiv (2 ^ (min (32 : Int).toNat (IntKind.u64).bits))))))] [] ?_)
 rw [show (IntKind.u64.wrap ((p1.fdiv (2 ^ (min (32 : Int).toNat (IntKind.u64).bits))) * (p2.fdiv (2 ^ (min (32 : Int).toNat (IntKind.u64).bits))))) = y8 from Option.some.inj hy19]
 refine zp [] 4 [0,1,44,46] [] [(0, vk .u64 p1), (1, vk .u64 p2), (44, vk .u64 (IntKind.u64.wrap (y8 + y6))), (46, vk .u64 ((IntKind.u64.wrap (y5 + y7)).fdiv (2 ^ (min (32 : Int).toNat (IntKind.u64).bits))))] [] [0 ≤ (32 : Int)] (⟨by decide, trivial⟩) ?_
 rw [show ((IntKind.u64.wrap (y5 + y7)).fdiv (2 ^ (min (32 : Int).toNat (IntKind.u64).bits))) = y9 from Option.some.inj hy20]
 refine zg [] 2 [0,1,4] (zd (hK18 _ _ (zq fun K21 hK21 => zr (zg [] 4 [4,5] (zd (hK21 _ _ ?_))))))
 refine ze ?_
 obtain rfl := Option.some.inj h
 exact zf [vk .u64 (IntKind.u64.wrap ((IntKind.u64.wrap (y8 + y6)) + y9)), vk .u64 (IntKind.u64.wrap (p1 * p2))] (.tpc (.one (.rfl _ rfl)) (.tpc (.one (.rfl _ rfl)) (.tp0)))

def value_wide_times (p1 : GWide) (p2 : Int) : Option GWide :=
    bnd (math_bits_Mul64 p1.size.1 p2) fun r1 =>
    grd (0 ≤ r1.2 ∧ 0 ≤ (0 : Int) ∧ 0 ≤ (0 : Int) ∧ (0 : Int) ≤ 1) <|
    bnd (some (IntKind.u64.wrap (r1.1 + ((r1.2 + (0 : Int) + (0 : Int)) / 18446744073709551616)))) fun y1 =>
    bnd (math_bits_Mul64 p1.size.2.1 p2) fun r2 =>
    grd (0 ≤ r2.2 ∧ 0 ≤ y1 ∧ 0 ≤ (0 : Int) ∧ (0 : Int) ≤ 1) <|
    bnd (some (IntKind.u64.wrap (r2.1 + ((r2.2 + y1 + (0 : Int)) / 18446744073709551616)))) fun y2 =>
    bnd (math_bits_Mul64 p1.size.2.2.1 p2) fun r3 =>
    grd (0 ≤ r3.2 ∧ 0 ≤ y2 ∧ 0 ≤ (0 : Int) ∧ (0 : Int) ≤ 1) <|
    bnd (some (IntKind.u64.wrap (r3.1 + ((r3.2 + y2 + (0 : Int)) / 18446744073709551616)))) fun y3 =>
    bnd (math_bits_Mul64 p1.size.2.2.2 p2) fun r4 =>
    grd (0 ≤ r4.2 ∧ 0 ≤ y3 ∧ 0 ≤ (0 : Int) ∧ (0 : Int) ≤ 1) <|
    bnd (some (IntKind.u64.wrap (r4.1 + ((r4.2 + y3 + (0 : Int)) / 18446744073709551616)))) fun y4 =>
    some (GWide.mk p1.neg (((r1.2 + (0 : Int) + (0 : Int)) % 18446744073709551616), ((r2.2 + y1 + (0 : Int)) % 18446744073709551616), ((r3.2 + y2 + (0 : Int)) % 18446744073709551616), ((r4.2 + y3 + (0 : Int)) % 18446744073709551616)))

abbrev qa756 (p1 : GWide) : List CV := [cb p1.neg, ck .u64 p1.size.1, ck .u64 p1.size.2.1, ck .u64 p1.size.2.2.1, ck .u64 p1.size.2.2.2]
abbrev qa758 (p1 : GWide) : List CV := [ck .u64 p1.size.1, ck .u64 p1.size.2.1, ck .u64 p1.size.2.2.1, ck .u64 p1.size.2.2.2]
abbrev qa759 : List CV := [cb false, ck .u64 (0 : Int), ck .u64 (0 : Int), ck .u64 (0 : Int), ck .u64 (0 : Int)]
abbrev qa760 (p1 : GWide) (r1 : (Int × Int)) : List CV := [cb p1.neg, ck .u64 ((r1.2 + (0 : Int) + (0 : Int)) % 18446744073709551616), ck .u64 p1.size.2.1, ck .u64 p1.size.2.2.1, ck .u64 p1.size.2.2.2]
abbrev qa761 (p1 : GWide) (r1 : (Int × Int)) (y1 : Int) (r2 : (Int × Int)) : List CV := [cb p1.neg, ck .u64 ((r1.2 + (0 : Int) + (0 : Int)) % 18446744073709551616), ck .u64 ((r2.2 + y1 + (0 : Int)) % 18446744073709551616), ck .u64 p1.size.2.2.1, ck .u64 p1.size.2.2.2]
abbrev qa762 (p1 : GWide) (r1 : (Int × Int)) (y1 : Int) (r2 : (Int × Int)) (y2 : Int) (r3 : (Int × Int)) : List CV := [cb p1.neg, ck .u64 ((r1.2 + (0 : Int) + (0 : Int)) % 18446744073709551616), ck .u64 ((r2.2 + y1 + (0 : Int)) % 18446744073709551616), ck .u64 ((r3.2 + y2 + (0 : Int)) % 18446744073709551616), ck .u64 p1.size.2.2.2]
abbrev qa763 (p1 : GWide) (r1 : (Int × Int)) (y1 : Int) (r2 : (Int × Int)) (y2 : Int) (r3 : (Int × Int)) (y3 : Int) (r4 : (Int × Int)) : List CV := [cb p1.neg, ck .u64 ((r1.2 + (0 : Int) + (0 : Int)) % 18446744073709551616), ck .u64 ((r2.2 + y1 + (0 : Int)) % 18446744073709551616), ck .u64 ((r3.2 + y2 + (0 : Int)) % 18446744073709551616), ck .u64 ((r4.2 + y3 + (0 : Int)) % 18446744073709551616)]

theorem c_value_wide_times (p1 : GWide) (p2 : Int) (r : GWide) (h : value_wide_times p1 p2 = some r) : PC Tryd.prog 96 [.ag (qa756 p1), vk .u64 p2] (.ag [cb r.neg, ck .u64 r.size.1, ck .u64 r.size.2.1, ck .u64 r.size.2.2.1, ck .u64 r.size.2.2.2]) := by
 unfold value_wide_times at h
 refine zF 37 Tryd.f96 (zq fun K1 hK1 => zr (zg [2, 4] 2 [1,2,4] (zd (hK1 _ _ (zq fun K2 hK2 => zr ?_)))))
 refine zg [2, 4] 1 [1,2,4,5] (zd (hK2 _ _ (zq fun K3 hK3 => zq fun K4 hK4 => zr (zv [2, 4] 3 [1,2,4,5,12,13] [] [(1, vk .u64 p2), (2, .one (.pt 0 0 0 0)), (4, .one (.pt 1 0 0 0)), (5, vk .u64 (0 : Int)), (12, .ag (qa758 p1)), (13, vi (0 : Int))] [.box (qa756 p1), .box qa759] (zd ?_)))))
 refine hK4 _ _ (zb 0 (XW.rounds' 5 (x := cd Tryd.f96 [1,1,0,1,0,0]) (by kernel_rfl) fun Q1 hQ1 => XR.one (zq fun K5 hK5 => zr (zg [2, 4] 1 [1,2,4,5,12,13,14] (zd ?_)))))
 refine hK5 _ _ (zq fun K6 hK6 => zc true (fun _ => ?_) (fun hx => by cases hx))
 refine zs (hK6 _ _ (zq fun K7 hK7 => zb 1 (zq fun K8 hK8 => zr (zo [2, 4] 4 [1,2,4,5,6,7,12,13] [] [0 ≤ (0 : Int) ∧ (0 : Int) < 4] (⟨by decide, trivial⟩) (zd ?_)))))
 refine hK8 _ _ (zq fun K9 hK9 => ?_)
 obtain ⟨r1, c10, h⟩ := zB h
 refine zr (zv [2, 4] 2 [1,2,4,5,6,12,13,18,19] [] [(1, vk .u64 p2), (2, .one (.pt 0 0 0 0)), (4, .one (.pt 1 0 0 0)), (5, vk .u64 (0 : Int)), (6, vi (0 : Int)), (12, .ag (qa758 p1)), (13, vi (0 : Int)), (18, vk .u64 p1.size.1), (19, vk .u64 p2)] [.box (qa756 p1), .box qa759] (za (c_math_bits_Mul64 _ _ _ c10) (zg [2, 4] 5 [1,2,4,5,6,8,9,12,13] (zd ?_))))
 refine hK9 _ _ (zq fun K11 hK11 => zr (zv [2, 4] 1 [1,2,4,5,6,8,9,12,13] [] [(1, vk .u64 p2), (2, .one (.pt 0 0 0 0)), (4, .one (.pt 1 0 0 0)), (5, vk .u64 (0 : Int)), (6, vi (0 : Int)), (8, vk .u64 r1.1), (9, vk .u64 r1.2), (12, .ag (qa758 p1)), (13, vi (0 : Int))] [.box (qa756 p1), .box qa759] (zd (hK11 _ _ (zq fun K12 hK12 => ?_)))))
 obtain ⟨g13, h⟩ := zG h
 refine zr (zv [2, 4] 3 [1,2,4,8,12,13,24,25,26] [] [(1, vk .u64 p2), (2, .one (.pt 0 0 0 0)), (4, .one (.pt 1 0 0 0)), (8, vk .u64 r1.1), (12, .ag (qa758 p1)), (13, vi (0 : Int)), (24, vi (0 : Int)), (25, vk .u64 r1.2), (26, vk .u64 (0 : Int))] [.box (qa756 p1), .box qa759] ?_)
 refine XO.ext 121 [.int .u64 r1.2, .int .u64 (0 : Int), .int .u64 (0 : Int)] [.int .u64 ((r1.2 + (0 : Int) + (0 : Int)) % 18446744073709551616), .int .u64 ((r1.2 + (0 : Int) + (0 : Int)) / 18446744073709551616)] [(27, .tp [vk .u64 ((r1.2 + (0 : Int) + (0 : Int)) % 18446744073709551616), vk .u64 ((r1.2 + (0 : Int) + (0 : Int)) / 18446744073709551616)]), (1, vk .u64 p2), (2, .one (.pt 0 0 0 0)), (4, .one (.pt 1 0 0 0)), (8, vk .u64 r1.1), (12, .ag (qa758 p1)), (13, vi (0 : Int)), (24, vi (0 : Int)), (25, vk .u64 r1.2), (26, vk .u64 (0 : Int))] (by kernel_rfl) (ext_Add64 (fn := Tryd.f121) (by kernel_rfl) (by kernel_rfl) (by kernel_rfl) (by kernel_rfl) (by kernel_rfl) g13.1 g13.2.1 g13.2.2.1 g13.2.2.2) rfl (by kernel_rfl) ?_
 refine zo [2, 4] 7 [1,2,4,8,10,12,13] [] [0 ≤ (0 : Int) ∧ (0 : Int) < 4] (⟨by decide, trivial⟩) (zd (hK12 _ _ ?_))
 obtain ⟨y1, hy14, h⟩ := zB h
 refine zr (zv [2, 4] 3 [1,2,4,12,13,34] [] [(1, vk .u64 p2), (2, .one (.pt 0 0 0 0)), (4, .one (.pt 1 0 0 0)), (12, .ag [ck .u64 p1.size.1, ck .u64 p1.size.2.1, ck .u64 p1.size.2.2.1, ck .u64 p1.size.2.2.2]), (13, vi (0 : Int)), (34, vk .u64 (IntKind.u64.wrap (r1.1 + ((r1.2 + (0 : Int) + (0 : Int)) / 18446744073709551616))))] [.box [cb p1.neg, ck .u64 ((r1.2 + (0 : Int) + (0 : Int)) % 18446744073709551616), ck .u64 p1.size.2.1, ck .u64 p1.size.2.2.1, ck .u64 p1.size.2.2.2], .box [cb false, ck .u64 (0 : Int), ck .u64 (0 : Int), ck .u64 (0 : Int), ck .u64 (0 : Int)]] ?_)
 rw [show (IntKind.u64.wrap (r1.1 + ((r1.2 + (0 : Int) + (0 : Int)) / 18446744073709551616))) = y1 from Option.some.inj hy14]
 refine zg [2, 4] 1 [1,2,4,5,12,13] (zd (hK7 _ _ (zr (zv [2, 4] 2 [1,2,4,5,12,13] [] [(1, vk .u64 p2), (2, .one (.pt 0 0 0 0)), (4, .one (.pt 1 0 0 0)), (5, vk .u64 y1), (12, .ag (qa758 p1)), (13, vi (1 : Int))] [.box (qa760 p1 r1), .box qa759] (zd (XR.one (zq fun K15 hK15 => ?_)))))))
 refine zr (zg [2, 4] 1 [1,2,4,5,12,13,14] (zd (hK15 _ _ (zq fun K16 hK16 => zc true (fun _ => ?_) (fun hx => by cases hx)))))
 refine zs (hK16 _ _ (zq fun K17 hK17 => zb 1 (zq fun K18 hK18 => zr (zo [2, 4] 4 [1,2,4,5,6,7,12,13] [] [0 ≤ (1 : Int) ∧ (1 : Int) < 4] (⟨by decide, trivial⟩) (zd ?_)))))
 refine hK18 _ _ (zq fun K19 hK19 => ?_)
 obtain ⟨r2, c20, h⟩ := zB h
 refine zr (zv [2, 4] 2 [1,2,4,5,6,12,13,18,19] [] [(1, vk .u64 p2), (2, .one (.pt 0 0 0 0)), (4, .one (.pt 1 0 0 0)), (5, vk .u64 y1), (6, vi (1 : Int)), (12, .ag (qa758 p1)), (13, vi (1 : Int)), (18, vk .u64 p1.size.2.1), (19, vk .u64 p2)] [.box (qa760 p1 r1), .box qa759] (za (c_math_bits_Mul64 _ _ _ c20) ?_))
 refine zg [2, 4] 5 [1,2,4,5,6,8,9,12,13] (zd (hK19 _ _ (zq fun K21 hK21 => zr ?_)))
 refine zv [2, 4] 1 [1,2,4,5,6,8,9,12,13] [] [(1, vk .u64 p2), (2, .one (.pt 0 0 0 0)), (4, .one (.pt 1 0 0 0)), (5, vk .u64 y1), (6, vi (1 : Int)), (8, vk .u64 r2.1), (9, vk .u64 r2.2), (12, .ag (qa758 p1)), (13, vi (1 : Int))] [.box (qa760 p1 r1), .box qa759] (zd (hK21 _ _ (zq fun K22 hK22 => ?_)))
 obtain ⟨g23, h⟩ := zG h
 refine zr (zv [2, 4] 3 [1,2,4,8,12,13,24,25,26] [] [(1, vk .u64 p2), (2, .one (.pt 0 0 0 0)), (4, .one (.pt 1 0 0 0)), (8, vk .u64 r2.1), (12, .ag (qa758 p1)), (13, vi (1 : Int)), (24, vi (1 : Int)), (25, vk .u64 r2.2), (26, vk .u64 y1)] [.box (qa760 p1 r1), .box qa759] ?_)
 refine XO.ext 121 [.int .u64 r2.2, .int .u64 y1, .int .u64 (0 : Int)] [.int .u64 ((r2.2 + y1 + (0 : Int)) % 18446744073709551616), .int .u64 ((r2.2 + y1 + (0 : Int)) / 18446744073709551616)] [(27, .tp [vk .u64 ((r2.2 + y1 + (0 : Int)) % 18446744073709551616), vk .u64 ((r2.2 + y1 + (0 : Int)) / 18446744073709551616)]), (1, vk .u64 p2), (2, .one (.pt 0 0 0 0)), (4, .one (.pt 1 0 0 0)), (8, vk .u64 r2.1), (12, .ag (qa758 p1)), (13, vi (1 : Int)), (24, vi (1 : Int)), (25, vk .u64 r2.2), (26, vk .u64 y1)] (by kernel_rfl) (ext_Add64 (fn := Tryd.f121) (by kernel_rfl) (by kernel_rfl) (by kernel_rfl) (by kernel_rfl) (by kernel_rfl) g23.1 g23.2.1 g23.2.2.1 g23.2.2.2) rfl (by kernel_rfl) ?_
 refine zo [2, 4] 7 [1,2,4,8,10,12,13] [] [0 ≤ (1 : Int) ∧ (1 : Int) < 4] (⟨by decide, trivial⟩) (zd (hK22 _ _ ?_))
 obtain ⟨y2, hy24, h⟩ := zB h
 refine zr ?_
 refine zv [2, 4] 3 [1,2,4,12,13,34] [] [(1, vk .u64 p2), (2, .one (.pt 0 0 0 0)), (4, .one (.pt 1 0 0 0)), (12, .ag [ck .u64 p1.size.1, ck .u64 p1.size.2.1, ck .u64 p1.size.2.2.1, ck .u64 p1.size.2.2.2]), (13, vi (1 : Int)), (34, vk .u64 (IntKind.u64.wrap (r2.1 + ((r2.2 + y1 + (0 : Int)) / 18446744073709551616))))] [.box [cb p1.neg, ck .u64 ((r1.2 + (0 : Int) + (0 : Int)) % 18446744073709551616), ck .u64 ((r2.2 + y1 + (0 : Int)) % 18446744073709551616), ck .u64 p1.size.2.2.1, ck .u64 p1.size.2.2.2], .box [cb false, ck .u64 (0 : Int), ck .u64 (0 : Int), ck .u64 (0 : Int), ck .u64 (0 : Int)]] ?_
 rw [show (IntKind.u64.wrap (r2.1 + ((r2.2 + y1 + (0 : Int)) / 18446744073709551616))) = y2 from Option.some.inj hy24]
 refine zg [2, 4] 1 [1,2,4,5,12,13] (zd (hK17 _ _ (zr (zv [2, 4] 2 [1,2,4,5,12,13] [] [(1, vk .u64 p2), (2, .one (.pt 0 0 0 0)), (4, .one (.pt 1 0 0 0)), (5, vk .u64 y2), (12, .ag (qa758 p1)), (13, vi (2 : Int))] [.box (qa761 p1 r1 y1 r2), .box qa759] (zd (XR.one ?_))))))
 refine zq fun K25 hK25 => zr (zg [2, 4] 1 [1,2,4,5,12,13,14] (zd (hK25 _ _ (zq fun K26 hK26 => zc true (fun _ => ?_) (fun hx => by cases hx)))))
 refine zs (hK26 _ _ (zq fun K27 hK27 => zb 1 (zq fun K28 hK28 => zr (zo [2, 4] 4 [1,2,4,5,6,7,12,13] [] [0 ≤ (2 : Int) ∧ (2 : Int) < 4] (⟨by decide, trivial⟩) (zd ?_)))))
 refine hK28 _ _ (zq fun K29 hK29 => ?_)
 obtain ⟨r3, c30, h⟩ := zB h
 refine zr ?_
 refine zv [2, 4] 2 [1,2,4,5,6,12,13,18,19] [] [(1, vk .u64 p2), (2, .one (.pt 0 0 0 0)), (4, .one (.pt 1 0 0 0)), (5, vk .u64 y2), (6, vi (2 : Int)), (12, .ag (qa758 p1)), (13, vi (2 : Int)), (18, vk .u64 p1.size.2.2.1), (19, vk .u64 p2)] [.box (qa761 p1 r1 y1 r2), .box qa759] ?_
 refine za (c_math_bits_Mul64 _ _ _ c30) (zg [2, 4] 5 [1,2,4,5,6,8,9,12,13] (zd (hK29 _ _ (zq fun K31 hK31 => zr ?_))))
 refine zv [2, 4] 1 [1,2,4,5,6,8,9,12,13] [] [(1, vk .u64 p2), (2, .one (.pt 0 0 0 0)), (4, .one (.pt 1 0 0 0)), (5, vk .u64 y2), (6, vi (2 : Int)), (8, vk .u64 r3.1), (9, vk .u64 r3.2), (12, .ag (qa758 p1)), (13, vi (2 : Int))] [.box (qa761 p1 r1 y1 r2), .box qa759] (zd ?_)
 refine hK31 _ _ (zq fun K32 hK32 => ?_)
 obtain ⟨g33, h⟩ := zG h
 refine zr (zv [2, 4] 3 [1,2,4,8,12,13,24,25,26] [] [(1, vk .u64 p2), (2, .one (.pt 0 0 0 0)), (4, .one (.pt 1 0 0 0)), (8, vk .u64 r3.1), (12, .ag (qa758 p1)), (13, vi (2 : Int)), (24, vi (2 : Int)), (25, vk .u64 r3.2), (26, vk .u64 y2)] [.box (qa761 p1 r1 y1 r2), .box qa759] ?_)
 refine XO.ext 121 [.int .u64 r3.2, .int .u64 y2, .int .u64 (0 : Int)] [.int .u64 ((r3.2 + y2 + (0 : Int)) % 18446744073709551616), .int .u64 ((r3.2 + y2 + (0 : Int)) / 18446744073709551616)] [(27, .tp [vk .u64 ((r3.2 + y2 + (0 : Int)) % 18446744073709551616), vk .u64 ((r3.2 + y2 + (0 : Int)) / 18446744073709551616)]), (1, vk .u64 p2), (2, .one (.pt 0 0 0 0)), (4, .one (.pt 1 0 0 0)), (8, vk .u64 r3.1), (12, .ag (qa758 p1)), (13, vi (2 : Int)), (24, vi (2 : Int)), (25, vk .u64 r3.2), (26, vk .u64 y2)] (by kernel_rfl) (ext_Add64 (fn := Tryd.f121) (by kernel_rfl) (by kernel_rfl) (by kernel_rfl) (by kernel_rfl) (by kernel_rfl) g33.1 g33.2.1 g33.2.2.1 g33.2.2.2) rfl (by kernel_rfl) ?_
 refine zo [2, 4] 7 [1,2,4,8,10,12,13] [] [0 ≤ (2 : Int) ∧ (2 : Int) < 4] (⟨by decide, trivial⟩) (zd (hK32 _ _ ?_))
 obtain ⟨y3, hy34, h⟩ := zB h
 refine zr ?_
 refine zv [2, 4] 3 [1,2,4,12,13,34] [] [(1, vk .u64 p2), (2, .one (.pt 0 0 0 0)), (4, .one (.pt 1 0 0 0)), (12, .ag [ck .u64 p1.size.1, ck .u64 p1.size.2.1, ck .u64 p1.size.2.2.1, ck .u64 p1.size.2.2.2]), (13, vi (2 : Int)), (34, vk .u64 (IntKind.u64.wrap (r3.1 + ((r3.2 + y2 + (0 : Int)) / 18446744073709551616))))] [.box [cb p1.neg, ck .u64 ((r1.2 + (0 : Int) + (0 : Int)) % 18446744073709551616), ck .u64 ((r2.2 + y1 + (0 : Int)) % 18446744073709551616), ck .u64 ((r3.2 + y2 + (0 : Int)) % 18446744073709551616), ck .u64 p1.size.2.2.2], .box [cb false, ck .u64 (0 : Int), ck .u64 (0 : Int), ck .u64 (0 : Int), ck .u64 (0 : Int)]] ?_
 rw [show (IntKind.u64.wrap (r3.1 + ((r3.2 + y2 + (0 : Int)) / 18446744073709551616))) = y3 from Option.some.inj hy34]
 refine zg [2, 4] 1 [1,2,4,5,12,13] (zd (hK27 _ _ (zr ?_)))
 refine zv [2, 4] 2 [1,2,4,5,12,13] [] [(1, vk .u64 p2), (2, .one (.pt 0 0 0 0)), (4, .one (.pt 1 0 0 0)), (5, vk .u64 y3), (12, .ag (qa758 p1)), (13, vi (3 : Int))] [.box (qa762 p1 r1 y1 r2 y2 r3), .box qa759] (zd (XR.one (zq fun K35 hK35 => zr ?_)))
 refine zg [2, 4] 1 [1,2,4,5,12,13,14] (zd (hK35 _ _ (zq fun K36 hK36 => zc true (fun _ => ?_) (fun hx => by cases hx))))
 refine zs (hK36 _ _ (zq fun K37 hK37 => zb 1 (zq fun K38 hK38 => zr (zo [2, 4] 4 [1,2,4,5,6,7,12,13] [] [0 ≤ (3 : Int) ∧ (3 : Int) < 4] (⟨by decide, trivial⟩) (zd ?_)))))
 refine hK38 _ _ (zq fun K39 hK39 => ?_)
 obtain ⟨r4, c40, h⟩ := zB h
 refine zr ?_
 refine zv [2, 4] 2 [1,2,4,5,6,12,13,18,19] [] [(1, vk .u64 p2), (2, .one (.pt 0 0 0 0)), (4, .one (.pt 1 0 0 0)), (5, vk .u64 y3), (6, vi (3 : Int)), (12, .ag (qa758 p1)), (13, vi (3 : Int)), (18, vk .u64 p1.size.2.2.2), (19, vk .u64 p2)] [.box (qa762 p1 r1 y1 r2 y2 r3), .box qa759] ?_
 refine za (c_math_bits_Mul64 _ _ _ c40) (zg [2, 4] 5 [1,2,4,5,6,8,9,12,13] (zd (hK39 _ _ (zq fun K41 hK41 => zr ?_))))
 refine zv [2, 4] 1 [1,2,4,5,6,8,9,12,13] [] [(1, vk .u64 p2), (2, .one (.pt 0 0 0 0)), (4, .one (.pt 1 0 0 0)), (5, vk .u64 y3), (6, vi (3 : Int)), (8, vk .u64 r4.1), (9, vk .u64 r4.2), (12, .ag (qa758 p1)), (13, vi (3 : Int))] [.box (qa762 p1 r1 y1 r2 y2 r3), .box qa759] ?_
 refine zd (hK41 _ _ (zq fun K42 hK42 => ?_))
 obtain ⟨g43, h⟩ := zG h
 refine zr ?_
 refine zv [2, 4] 3 [1,2,4,8,12,13,24,25,26] [] [(1, vk .u64 p2), (2, .one (.pt 0 0 0 0)), (4, .one (.pt 1 0 0 0)), (8, vk .u64 r4.1), (12, .ag (qa758 p1)), (13, vi (3 : Int)), (24, vi (3 : Int)), (25, vk .u64 r4.2), (26, vk .u64 y3)] [.box (qa762 p1 r1 y1 r2 y2 r3), .box qa759] ?_
 refine XO.ext 121 [.int .u64 r4.2, .int .u64 y3, .int .u64 (0 : Int)] [.int .u64 ((r4.2 + y3 + (0 : Int)) % 18446744073709551616), .int .u64 ((r4.2 + y3 + (0 : Int)) / 18446744073709551616)] [(27, .tp [vk .u64 ((r4.2 + y3 + (0 : Int)) % 18446744073709551616), vk .u64 ((r4.2 + y3 + (0 : Int)) / 18446744073709551616)]), (1, vk .u64 p2), (2, .one (.pt 0 0 0 0)), (4, .one (.pt 1 0 0 0)), (8, vk .u64 r4.1), (12, .ag (qa758 p1)), (13, vi (3 : Int)), (24, vi (3 : Int)), (25, vk .u64 r4.2), (26, vk .u64 y3)] (by kernel_rfl) (ext_Add64 (fn := Tryd.f121) (by kernel_rfl) (by kernel_rfl) (by kernel_rfl) (by kernel_rfl) (by kernel_rfl) g43.1 g43.2.1 g43.2.2.1 g43.2.2.2) rfl (by kernel_rfl) ?_
 refine zo [2, 4] 7 [1,2,4,8,10,12,13] [] [0 ≤ (3 : Int) ∧ (3 : Int) < 4] (⟨by decide, trivial⟩) (zd (hK42 _ _ ?_))
 obtain ⟨y4, hy44, h⟩ := zB h
 refine zr ?_
 refine zv [2, 4] 3 [1,2,4,12,13,34] [] [(1, vk .u64 p2), (2, .one (.pt 0 0 0 0)), (4, .one (.pt 1 0 0 0)), (12, .ag [ck .u64 p1.size.1, ck .u64 p1.size.2.1, ck .u64 p1.size.2.2.1, ck .u64 p1.size.2.2.2]), (13, vi (3 : Int)), (34, vk .u64 (IntKind.u64.wrap (r4.1 + ((r4.2 + y3 + (0 : Int)) / 18446744073709551616))))] [.box [cb p1.neg, ck .u64 ((r1.2 + (0 : Int) + (0 : Int)) % 18446744073709551616), ck .u64 ((r2.2 + y1 + (0 : Int)) % 18446744073709551616), ck .u64 ((r3.2 + y2 + (0 : Int)) % 18446744073709551616), ck .u64 ((r4.2 + y3 + (0 : Int)) % 18446744073709551616)], .box [cb false, ck .u64 (0 : Int), ck .u64 (0 : Int), ck .u64 (0 : Int), ck .u64 (0 : Int)]] ?_
 rw [show (IntKind.u64.wrap (r4.1 + ((r4.2 + y3 + (0 : Int)) / 18446744073709551616))) = y4 from Option.some.inj hy44]
 refine zg [2, 4] 1 [1,2,4,5,12,13] (zd (hK37 _ _ (zr ?_)))
 refine zv [2, 4] 2 [1,2,4,5,12,13] [] [(1, vk .u64 p2), (2, .one (.pt 0 0 0 0)), (4, .one (.pt 1 0 0 0)), (5, vk .u64 y4), (12, .ag (qa758 p1)), (13, vi (4 : Int))] [.box (qa763 p1 r1 y1 r2 y2 r3 y3 r4), .box qa759] (zd ?_)
 refine XR.one (zq fun K45 hK45 => zr (zg [2, 4] 1 [1,2,4,5,12,13,14] (zd (hK45 _ _ (zq fun K46 hK46 => zc false (fun hx => by cases hx) (fun _ => ?_))))))
 refine zx 0 (hQ1 _ _ _ (hK3 _ _ (zq fun K47 hK47 => zr (zg [2, 4] 2 [4] (zd (hK47 _ _ ?_))))))
 refine ze ?_
 obtain rfl := Option.some.inj h
 exact zf [.ag (qa763 p1 r1 y1 r2 y2 r3 y3 r4)] (.ag (.cons (.rfl _ rfl) (.cons (.rfl _ rfl) (.cons (.rfl _ rfl) (.cons (.rfl _ rfl) (.cons (.rfl _ rfl) .nil))))))

def value_wide_shifted_j1 (z6 : Bool) (z7 : Int) (z8 : Int) (z9 : Int) (z10 : Int) : Option GWide :=
    some (GWide.mk z6 (z7, z8, z9, z10))

def value_wide_shifted_l1 (p2 : Int) : Nat → Bool → Int → Int → Int → Int → Int → Option GWide
  | 0, _, _, _, _, _, _ => none
  | k1 + 1, z1, z2, z3, z4, z5, x1 =>
    ift (decide (x1 < p2))
      (bnd (value_wide_times (GWide.mk z1 (z2, z3, z4, z5)) (10 : Int)) fun r1 =>
       (value_wide_shifted_l1 p2 k1) r1.neg r1.size.1 r1.size.2.1 r1.size.2.2.1 r1.size.2.2.2 (IntKind.i64.wrap (x1 + (1 : Int))))
      (value_wide_shifted_j1 z1 z2 z3 z4 z5)

def value_wide_shifted (p1 : GWide) (p2 : Int) : Option GWide :=
    value_wide_shifted_l1 p2 BIG p1.neg p1.size.1 p1.size.2.1 p1.size.2.2.1 p1.size.2.2.2 (0 : Int)

abbrev qa794 : List CV := [cb false, ck .u64 (0 : Int), ck .u64 (0 : Int), ck .u64 (0 : Int), ck .u64 (0 : Int)]
abbrev qa797 (r1 : GWide) : List CV := [cb r1.neg, ck .u64 r1.size.1, ck .u64 r1.size.2.1, ck .u64 r1.size.2.2.1, ck .u64 r1.size.2.2.2]

theorem c_value_wide_shifted (p1 : GWide) (p2 : Int) (r : GWide) (h : value_wide_shifted p1 p2 = some r) : PC Tryd.prog 51 [.ag [cb p1.neg, ck .u64 p1.size.1, ck .u64 p1.size.2.1, ck .u64 p1.size.2.2.1, ck .u64 p1.size.2.2.2], vi p2] (.ag [cb r.neg, ck .u64 r.size.1, ck .u64 r.size.2.1, ck .u64 r.size.2.2.1, ck .u64 r.size.2.2.2]) := by
 unfold value_wide_shifted at h
 refine zF 12 Tryd.f51 (zq fun K1 hK1 => zr (zg [2, 4] 2 [1,2,4] (zd (hK1 _ _ (zq fun K2 hK2 => ?_)))))
 have hJ1 : ∀ (z6 : Bool) (z7 : Int) (z8 : Int) (z9 : Int) (z10 : Int), value_wide_shifted_j1 z6 z7 z8 z9 z10 = some r → ∀ fr1 st1, Sub 12 0 [] fr1 st1 [(2, .one (.pt 0 0 0 0)), (4, .one (.pt 1 0 0 0))] [.box [cb z6, ck .u64 z7, ck .u64 z8, ck .u64 z9, ck .u64 z10], .box qa794] → K2 fr1 st1 := by
  intro z6 z7 z8 z9 z10 h fr1 st1 hS
  unfold value_wide_shifted_j1 at h
  refine hK2 _ _ (XW.sub hS ?_)
  refine zq fun K9 hK9 => zr (zg [2, 4] 2 [4] (zd (hK9 _ _ (ze ?_))))
  obtain rfl := Option.some.inj h
  exact zf [.ag [cb z6, ck .u64 z7, ck .u64 z8, ck .u64 z9, ck .u64 z10]] (.ag (.cons (.rfl _ rfl) (.cons (.rfl _ rfl) (.cons (.rfl _ rfl) (.cons (.rfl _ rfl) (.cons (.rfl _ rfl) .nil))))))
 refine zq fun K3 hK3 => zr (zg [2, 4] 2 [2,4,5,6] (zd (hK3 _ _ (zb 0 (XW.rounds' BIG (x := cd Tryd.f51 [1,0,1,0,0]) (by kernel_rfl) fun Q1 hQ1 => ?_)))))
 have hL1 : ∀ (k1 : Nat) (z1 : Bool) (z2 : Int) (z3 : Int) (z4 : Int) (z5 : Int) (x1 : Int), value_wide_shifted_l1 p2 k1 z1 z2 z3 z4 z5 x1 = some r → XR Tryd.prog 12 0 [] (cd Tryd.f51 [1,0,1,0,0]) Q1 k1 [(2, .one (.pt 0 0 0 0)), (4, .one (.pt 1 0 0 0)), (5, vi p2), (6, vi x1)] [.box [cb z1, ck .u64 z2, ck .u64 z3, ck .u64 z4, ck .u64 z5], .box qa794] := by
  intro k1
  induction k1 with
  | zero => intro z1 z2 z3 z4 z5 x1 h; rw [value_wide_shifted_l1.eq_1] at h; cases h
  | succ k1 ih1 =>
   intro z1 z2 z3 z4 z5 x1 h
   rw [value_wide_shifted_l1.eq_2] at h
   refine zq fun K4 hK4 => zr (zg [2, 4] 1 [2,4,5,6,7] (zd (hK4 _ _ (zq fun K5 hK5 => zC h (fun b6 h => ?_) (fun b6 h => ?_)))))
   ·refine zs (hK5 _ _ (zq fun K7 hK7 => zb 1 ?_))
    obtain ⟨r1, c8, h⟩ := zB h
    refine zr (zg [2, 4] 1 [2,4,5,6,8] (zl 96 [.ag [cb z1, ck .u64 z2, ck .u64 z3, ck .u64 z4, ck .u64 z5], vk .u64 (10 : Int)] (.ag (qa797 r1)) [(9, .ag (qa797 r1)), (2, .one (.pt 0 0 0 0)), (4, .one (.pt 1 0 0 0)), (5, vi p2), (6, vi x1), (8, .ag [cb z1, ck .u64 z2, ck .u64 z3, ck .u64 z4, ck .u64 z5])] (c_value_wide_times _ _ _ c8) (zg [2, 4] 1 [2,4,5,6] (zd (hK7 _ _ (zr (zg [2, 4] 2 [2,4,5,6] ?_)))))))
    exact zd (XR.sub (zk [2,4,5,6]) (ih1 r1.neg r1.size.1 r1.size.2.1 r1.size.2.2.1 r1.size.2.2.2 (IntKind.i64.wrap (x1 + (1 : Int))) h))
   ·exact zx 0 (hQ1 _ _ _ (hJ1 z1 z2 z3 z4 z5 h _ _ (zk [2,4])))
 exact XR.sub (zk [2,4,5,6]) (hL1 BIG p1.neg p1.size.1 p1.size.2.1 p1.size.2.2.1 p1.size.2.2.2 (0 : Int) h)

def value_scaled (p1 : Int) (p2 : Int) : Option GWide :=
    bnd (value_whole p1) fun r1 =>
    bnd (value_wide_shifted (GWide.mk r1.neg (r1.size.1, r1.size.2.1, r1.size.2.2.1, r1.size.2.2.2)) p2) fun r2 =>
    some (GWide.mk r2.neg (r2.size.1, r2.size.2.1, r2.size.2.2.1, r2.size.2.2.2))

abbrev qa802 (r1 : GWide) : List CV := [cb r1.neg, ck .u64 r1.size.1, ck .u64 r1.size.2.1, ck .u64 r1.size.2.2.1, ck .u64 r1.size.2.2.2]
abbrev qa804 (r2 : GWide) : List CV := [cb r2.neg, ck .u64 r2.size.1, ck .u64 r2.size.2.1, ck .u64 r2.size.2.2.1, ck .u64 r2.size.2.2.2]

theorem c_value_scaled (p1 : Int) (p2 : Int) (r : GWide) (h : value_scaled p1 p2 = some r) : PC Tryd.prog 50 [vi p1, vi p2] (.ag [cb r.neg, ck .u64 r.size.1, ck .u64 r.size.2.1, ck .u64 r.size.2.2.1, ck .u64 r.size.2.2.2]) := by
 unfold value_scaled at h
 refine zF 9 Tryd.f50 (zq fun K1 hK1 => zr (zg [4] 1 [0,1,4] (zd (hK1 _ _ (zq fun K2 hK2 => ?_)))))
 obtain ⟨r1, c3, h⟩ := zB h
 obtain ⟨r2, c4, h⟩ := zB h
 refine zr (zg [4] 1 [1,4,5] (zl 46 [vi p1] (.ag (qa802 r1)) [(6, .ag (qa802 r1)), (1, vi p2), (4, .one (.pt 0 0 0 0)), (5, vi p1)] (c_value_whole _ _ c3) (zg [4] 1 [4,6,7] (za (c_value_wide_shifted _ _ _ c4) (zv [4] 1 [4] [] [(4, .one (.pt 0 0 0 0))] [.box (qa804 r2)] (zd (hK2 _ _ ?_)))))))
 refine ze ?_
 obtain rfl := Option.some.inj h
 exact zf [.ag (qa804 r2)] (.ag (.cons (.rfl _ rfl) (.cons (.rfl _ rfl) (.cons (.rfl _ rfl) (.cons (.rfl _ rfl) (.cons (.rfl _ rfl) .nil))))))

def value_wide_negated (p1 : GWide) : Option GWide :=
    some (GWide.mk (!p1.neg) (p1.size.1, p1.size.2.1, p1.size.2.2.1, p1.size.2.2.2))

abbrev qa810 (p1 : GWide) : List CV := [cb (!p1.neg), ck .u64 p1.size.1, ck .u64 p1.size.2.1, ck .u64 p1.size.2.2.1, ck .u64 p1.size.2.2.2]

theorem c_value_wide_negated (p1 : GWide) (r : GWide) (h : value_wide_negated p1 = some r) : PC Tryd.prog 122 [.ag [cb p1.neg, ck .u64 p1.size.1, ck .u64 p1.size.2.1, ck .u64 p1.size.2.2.1, ck .u64 p1.size.2.2.2]] (.ag [cb r.neg, ck .u64 r.size.1, ck .u64 r.size.2.1, ck .u64 r.size.2.2.1, ck .u64 r.size.2.2.2]) := by
 unfold value_wide_negated at h
 refine zF 8 Tryd.f122 (zq fun K1 hK1 => zr (zg [1, 2] 2 [1,2] (zd (hK1 _ _ (zq fun K2 hK2 => zr ?_)))))
 refine zg [1, 2] 5 [1,2] (zd (hK2 _ _ (zq fun K3 hK3 => zr (zv [1, 2] 2 [2] [] [(2, .one (.pt 1 0 0 0))] [.box (qa810 p1), .box (qa810 p1)] (zd (hK3 _ _ ?_))))))
 refine ze ?_
 obtain rfl := Option.some.inj h
 exact zf [.ag (qa810 p1)] (.ag (.cons (.rfl _ rfl) (.cons (.rfl _ rfl) (.cons (.rfl _ rfl) (.cons (.rfl _ rfl) (.cons (.rfl _ rfl) .nil))))))

def value_compareSize (p1 : GWide) (p2 : GWide) : Option Int :=
    ift (decide (p1.size.2.2.2 < p2.size.2.2.2))
      (some (-1 : Int))
      (ift (decide (p2.size.2.2.2 < p1.size.2.2.2))
         (some (1 : Int))
         (ift (decide (p1.size.2.2.1 < p2.size.2.2.1))
            (some (-1 : Int))
            (ift (decide (p2.size.2.2.1 < p1.size.2.2.1))
               (some (1 : Int))
               (ift (decide (p1.size.2.1 < p2.size.2.1))
                  (some (-1 : Int))
                  (ift (decide (p2.size.2.1 < p1.size.2.1))
                     (some (1 : Int))
                     (ift (decide (p1.size.1 < p2.size.1))
                        (some (-1 : Int))
                        (ift (decide (p2.size.1 < p1.size.1))
                           (some (1 : Int))
                           (some (0 : Int)))))))))

abbrev qa814 (p1 : GWide) : List PV := [.s (.bool p1.neg), .s (.int .u64 p1.size.1), .s (.int .u64 p1.size.2.1), .s (.int .u64 p1.size.2.2.1), .s (.int .u64 p1.size.2.2.2)]
abbrev qa815 (p2 : GWide) : List PV := [.s (.bool p2.neg), .s (.int .u64 p2.size.1), .s (.int .u64 p2.size.2.1), .s (.int .u64 p2.size.2.2.1), .s (.int .u64 p2.size.2.2.2)]
abbrev qa819 (p1 : GWide) (p2 : GWide) : Fr := [(28, vk .u64 p2.size.2.2.2), (27, .one (.pv (.rp [(qa815 p2)] 0 4))), (26, .one (.pv (.rp [(qa815 p2)] 0 1))), (25, vi (3 : Int)), (24, vk .u64 p1.size.2.2.2), (23, .one (.pv (.rp [(qa814 p1)] 0 4))), (22, .one (.pv (.rp [(qa814 p1)] 0 1))), (21, vi (3 : Int)), (2, .one (.pv (.rp [(qa814 p1)] 0 0))), (3, .one (.pv (.rp [(qa815 p2)] 0 0))), (5, vi (3 : Int)), (10, vb (decide (p1.size.2.2.2 < p2.size.2.2.2)))]

theorem c_value_compareSize (p1 : GWide) (p2 : GWide) (r : Int) (h : value_compareSize p1 p2 = some r) : PC Tryd.prog 95 [.ag [cb p1.neg, ck .u64 p1.size.1, ck .u64 p1.size.2.1, ck .u64 p1.size.2.2.1, ck .u64 p1.size.2.2.2], .ag [cb p2.neg, ck .u64 p2.size.1, ck .u64 p2.size.2.1, ck .u64 p2.size.2.2.1, ck .u64 p2.size.2.2.2]] (vi r) := by
 unfold value_compareSize at h
 refine zF 30 Tryd.f95 (zq fun K1 hK1 => zr (zg [] 3 [2,3] (zd (hK1 _ _ (zq fun K2 hK2 => zq fun K3 hK3 => ?_)))))
 refine zr (zg [] 1 [2,3,5] (zd (hK3 _ _ (zb 0 (XW.rounds' 5 (x := cd Tryd.f95 [1,0,1,0,0]) (by kernel_rfl) fun Q1 hQ1 => XR.one (zq fun K4 hK4 => ?_))))))
 refine zq fun K5 hK5 => zr (zv [] 2 [2,3,5,7] [] [(2, .one (.pv (.rp [(qa814 p1)] 0 0))), (3, .one (.pv (.rp [(qa815 p2)] 0 0))), (5, vi (3 : Int)), (7, vb true)] [] (zd (hK5 _ _ (zc true (fun _ => ?_) (fun hx => by cases hx)))))
 refine zs (hK4 _ _ (zq fun K6 hK6 => zb 1 (zb 2 (zq fun K7 hK7 => ?_))))
 refine zw 8 [(18, vk .u64 p2.size.2.2.2), (17, .one (.pv (.rp [(qa815 p2)] 0 4))), (16, .one (.pv (.rp [(qa815 p2)] 0 1))), (15, vi (3 : Int)), (14, vk .u64 p1.size.2.2.2), (13, .one (.pv (.rp [(qa814 p1)] 0 4))), (12, .one (.pv (.rp [(qa814 p1)] 0 1))), (11, vi (3 : Int)), (2, .one (.pv (.rp [(qa814 p1)] 0 0))), (3, .one (.pv (.rp [(qa815 p2)] 0 0))), (5, vi (3 : Int)), (7, vb true)] ?_ ?_
 ·refine zyo 8 [(qa814 p1), (qa815 p2)] [0 ≤ (3 : Int) ∧ (3 : Int) < 4, ([(qa814 p1)] : List (List PV))[0]? = some (qa814 p1), 0 ≤ (3 : Int) ∧ (3 : Int) < 4, ([(qa815 p2)] : List (List PV))[0]? = some (qa815 p2)] (⟨by decide, rfl, by decide, rfl, trivial⟩) ?_
  exact zyd
 refine zg [] 2 [2,3,5,10] (zd (hK7 _ _ (zC h (fun b8 h => ?_) (fun b8 h => ?_))))
 ·refine zq fun K9 hK9 => zr (zg [] 1 [4] (zd (hK9 _ _ (ze (hQ1 _ _ _ ?_)))))
  obtain rfl := Option.some.inj h
  exact zf [vi (-1 : Int)] (.one (.rfl _ rfl))
 ·refine zq fun K10 hK10 => ?_
  refine zw 8 (qa819 p1 p2) ?_ ?_
  ·refine zyp 8 [(qa814 p1), (qa815 p2)] (qa819 p1 p2) [0 ≤ (3 : Int) ∧ (3 : Int) < 4, ([(qa814 p1)] : List (List PV))[0]? = some (qa814 p1), 0 ≤ (3 : Int) ∧ (3 : Int) < 4, ([(qa815 p2)] : List (List PV))[0]? = some (qa815 p2)] (⟨by decide, rfl, by decide, rfl, trivial⟩) ?_
   exact zyd
  refine zv [] 2 [2,3,5,20] [] [(2, .one (.pv (.rp [(qa814 p1)] 0 0))), (3, .one (.pv (.rp [(qa815 p2)] 0 0))), (5, vi (3 : Int)), (20, vb (decide (p2.size.2.2.2 < p1.size.2.2.2)))] [] (zd (hK10 _ _ (zC h (fun b11 h => ?_) (fun b11 h => ?_))))
  ·refine zq fun K12 hK12 => zr (zg [] 1 [4] (zd (hK12 _ _ (ze (hQ1 _ _ _ ?_)))))
   obtain rfl := Option.some.inj h
   exact zf [vi (1 : Int)] (.one (.rfl _ rfl))
  ·refine zs (hK6 _ _ (zr (zv [] 3 [2,3,5] [] [(2, .one (.pv (.rp [(qa814 p1)] 0 0))), (3, .one (.pv (.rp [(qa815 p2)] 0 0))), (5, vi (2 : Int))] [] (zd (XR.one (zq fun K13 hK13 => zq fun K14 hK14 => ?_))))))
   refine zr (zg [] 2 [2,3,5,7] (zd (hK14 _ _ (zc true (fun _ => ?_) (fun hx => by cases hx)))))
   refine zs (hK13 _ _ (zq fun K15 hK15 => zb 1 (zb 2 (zq fun K16 hK16 => ?_))))
   refine zw 8 [(18, vk .u64 p2.size.2.2.1), (17, .one (.pv (.rp [(qa815 p2)] 0 3))), (16, .one (.pv (.rp [(qa815 p2)] 0 1))), (15, vi (2 : Int)), (14, vk .u64 p1.size.2.2.1), (13, .one (.pv (.rp [(qa814 p1)] 0 3))), (12, .one (.pv (.rp [(qa814 p1)] 0 1))), (11, vi (2 : Int)), (2, .one (.pv (.rp [(qa814 p1)] 0 0))), (3, .one (.pv (.rp [(qa815 p2)] 0 0))), (5, vi (2 : Int)), (7, vb true)] ?_ ?_
   ·refine zyo 8 [(qa814 p1), (qa815 p2)] [0 ≤ (2 : Int) ∧ (2 : Int) < 4, ([(qa814 p1)] : List (List PV))[0]? = some (qa814 p1), 0 ≤ (2 : Int) ∧ (2 : Int) < 4, ([(qa815 p2)] : List (List PV))[0]? = some (qa815 p2)] (⟨by decide, rfl, by decide, rfl, trivial⟩) ?_
    exact zyd
   refine zg [] 2 [2,3,5,10] (zd (hK16 _ _ (zC h (fun b17 h => ?_) (fun b17 h => ?_))))
   ·refine zq fun K18 hK18 => zr (zv [] 1 [4] [] [(4, vi (-1 : Int))] [] (zd (hK18 _ _ (ze (hQ1 _ _ _ ?_)))))
    obtain rfl := Option.some.inj h
    exact zf [vi (-1 : Int)] (.one (.rfl _ rfl))
   ·refine zq fun K19 hK19 => ?_
    refine zw 8 [(28, vk .u64 p2.size.2.2.1), (27, .one (.pv (.rp [(qa815 p2)] 0 3))), (26, .one (.pv (.rp [(qa815 p2)] 0 1))), (25, vi (2 : Int)), (24, vk .u64 p1.size.2.2.1), (23, .one (.pv (.rp [(qa814 p1)] 0 3))), (22, .one (.pv (.rp [(qa814 p1)] 0 1))), (21, vi (2 : Int)), (2, .one (.pv (.rp [(qa814 p1)] 0 0))), (3, .one (.pv (.rp [(qa815 p2)] 0 0))), (5, vi (2 : Int)), (10, vb (decide (p1.size.2.2.1 < p2.size.2.2.1)))] ?_ ?_
    ·refine zyo 8 [(qa814 p1), (qa815 p2)] [0 ≤ (2 : Int) ∧ (2 : Int) < 4, ([(qa814 p1)] : List (List PV))[0]? = some (qa814 p1), 0 ≤ (2 : Int) ∧ (2 : Int) < 4, ([(qa815 p2)] : List (List PV))[0]? = some (qa815 p2)] (⟨by decide, rfl, by decide, rfl, trivial⟩) ?_
     exact zyd
    refine zg [] 2 [2,3,5,20] (zd (hK19 _ _ (zC h (fun b20 h => ?_) (fun b20 h => ?_))))
    ·refine zq fun K21 hK21 => zr (zg [] 1 [4] (zd (hK21 _ _ (ze (hQ1 _ _ _ ?_)))))
     obtain rfl := Option.some.inj h
     exact zf [vi (1 : Int)] (.one (.rfl _ rfl))
    ·refine zs (hK15 _ _ (zr (zv [] 3 [2,3,5] [] [(2, .one (.pv (.rp [(qa814 p1)] 0 0))), (3, .one (.pv (.rp [(qa815 p2)] 0 0))), (5, vi (1 : Int))] [] (zd (XR.one (zq fun K22 hK22 => zq fun K23 hK23 => ?_))))))
     refine zr (zg [] 2 [2,3,5,7] (zd (hK23 _ _ (zc true (fun _ => ?_) (fun hx => by cases hx)))))
     refine zs (hK22 _ _ (zq fun K24 hK24 => zb 1 (zb 2 (zq fun K25 hK25 => ?_))))
     refine zw 8 [(18, vk .u64 p2.size.2.1), (17, .one (.pv (.rp [(qa815 p2)] 0 2))), (16, .one (.pv (.rp [(qa815 p2)] 0 1))), (15, vi (1 : Int)), (14, vk .u64 p1.size.2.1), (13, .one (.pv (.rp [(qa814 p1)] 0 2))), (12, .one (.pv (.rp [(qa814 p1)] 0 1))), (11, vi (1 : Int)), (2, .one (.pv (.rp [(qa814 p1)] 0 0))), (3, .one (.pv (.rp [(qa815 p2)] 0 0))), (5, vi (1 : Int)), (7, vb true)] ?_ ?_
     ·refine zyo 8 [(qa814 p1), (qa815 p2)] [0 ≤ (1 : Int) ∧ (1 : Int) < 4, ([(qa814 p1)] : List (List PV))[0]? = some (qa814 p1), 0 ≤ (1 : Int) ∧ (1 : Int) < 4, ([(qa815 p2)] : List (List PV))[0]? = some (qa815 p2)] (⟨by decide, rfl, by decide, rfl, trivial⟩) ?_
      exact zyd
     refine zg [] 2 [2,3,5,10] (zd (hK25 _ _ (zC h (fun b26 h => ?_) (fun b26 h => ?_))))
     ·refine zq fun K27 hK27 => zr (zv [] 1 [4] [] [(4, vi (-1 : Int))] [] (zd (hK27 _ _ (ze (hQ1 _ _ _ ?_)))))
      obtain rfl := Option.some.inj h
      exact zf [vi (-1 : Int)] (.one (.rfl _ rfl))
     ·refine zq fun K28 hK28 => ?_
      refine zw 8 [(28, vk .u64 p2.size.2.1), (27, .one (.pv (.rp [(qa815 p2)] 0 2))), (26, .one (.pv (.rp [(qa815 p2)] 0 1))), (25, vi (1 : Int)), (24, vk .u64 p1.size.2.1), (23, .one (.pv (.rp [(qa814 p1)] 0 2))), (22, .one (.pv (.rp [(qa814 p1)] 0 1))), (21, vi (1 : Int)), (2, .one (.pv (.rp [(qa814 p1)] 0 0))), (3, .one (.pv (.rp [(qa815 p2)] 0 0))), (5, vi (1 : Int)), (10, vb (decide (p1.size.2.1 < p2.size.2.1)))] ?_ ?_
      ·refine zyo 8 [(qa814 p1), (qa815 p2)] [0 ≤ (1 : Int) ∧ (1 : Int) < 4, ([(qa814 p1)] : List (List PV))[0]? = some (qa814 p1), 0 ≤ (1 : Int) ∧ (1 : Int) < 4, ([(qa815 p2)] : List (List PV))[0]? = some (qa815 p2)] (⟨by decide, rfl, by decide, rfl, trivial⟩) ?_
       exact zyd
      refine zg [] 2 [2,3,5,20] (zd (hK28 _ _ (zC h (fun b29 h => ?_) (fun b29 h => ?_))))
      ·refine zq fun K30 hK30 => zr (zg [] 1 [4] (zd (hK30 _ _ (ze (hQ1 _ _ _ ?_)))))
       obtain rfl := Option.some.inj h
       exact zf [vi (1 : Int)] (.one (.rfl _ rfl))
      ·refine zs (hK24 _ _ (zr (zv [] 3 [2,3,5] [] [(2, .one (.pv (.rp [(qa814 p1)] 0 0))), (3, .one (.pv (.rp [(qa815 p2)] 0 0))), (5, vi (0 : Int))] [] (zd (XR.one (zq fun K31 hK31 => zq fun K32 hK32 => ?_))))))
       refine zr (zg [] 2 [2,3,5,7] (zd (hK32 _ _ (zc true (fun _ => ?_) (fun hx => by cases hx)))))
       refine zs (hK31 _ _ (zq fun K33 hK33 => zb 1 (zb 2 (zq fun K34 hK34 => ?_))))
       refine zw 8 [(18, vk .u64 p2.size.1), (17, .one (.pv (.rp [(qa815 p2)] 0 1))), (16, .one (.pv (.rp [(qa815 p2)] 0 1))), (15, vi (0 : Int)), (14, vk .u64 p1.size.1), (13, .one (.pv (.rp [(qa814 p1)] 0 1))), (12, .one (.pv (.rp [(qa814 p1)] 0 1))), (11, vi (0 : Int)), (2, .one (.pv (.rp [(qa814 p1)] 0 0))), (3, .one (.pv (.rp [(qa815 p2)] 0 0))), (5, vi (0 : Int)), (7, vb true)] ?_ ?_
       ·refine zyo 8 [(qa814 p1), (qa815 p2)] [0 ≤ (0 : Int) ∧ (0 : Int) < 4, ([(qa814 p1)] : List (List PV))[0]? = some (qa814 p1), 0 ≤ (0 : Int) ∧ (0 : Int) < 4, ([(qa815 p2)] : List (List PV))[0]? = some (qa815 p2)] (⟨by decide, rfl, by decide, rfl, trivial⟩) ?_
        exact zyd
       refine zg [] 2 [2,3,5,10] (zd (hK34 _ _ (zC h (fun b35 h => ?_) (fun b35 h => ?_))))
       ·refine zq fun K36 hK36 => zr (zv [] 1 [4] [] [(4, vi (-1 : Int))] [] (zd (hK36 _ _ (ze (hQ1 _ _ _ ?_)))))
        obtain rfl := Option.some.inj h
        exact zf [vi (-1 : Int)] (.one (.rfl _ rfl))
       ·refine zq fun K37 hK37 => ?_
        refine zw 8 [(28, vk .u64 p2.size.1), (27, .one (.pv (.rp [(qa815 p2)] 0 1))), (26, .one (.pv (.rp [(qa815 p2)] 0 1))), (25, vi (0 : Int)), (24, vk .u64 p1.size.1), (23, .one (.pv (.rp [(qa814 p1)] 0 1))), (22, .one (.pv (.rp [(qa814 p1)] 0 1))), (21, vi (0 : Int)), (2, .one (.pv (.rp [(qa814 p1)] 0 0))), (3, .one (.pv (.rp [(qa815 p2)] 0 0))), (5, vi (0 : Int)), (10, vb (decide (p1.size.1 < p2.size.1)))] ?_ ?_
        ·refine zyo 8 [(qa814 p1), (qa815 p2)] [0 ≤ (0 : Int) ∧ (0 : Int) < 4, ([(qa814 p1)] : List (List PV))[0]? = some (qa814 p1), 0 ≤ (0 : Int) ∧ (0 : Int) < 4, ([(qa815 p2)] : List (List PV))[0]? = some (qa815 p2)] (⟨by decide, rfl, by decide, rfl, trivial⟩) ?_
         exact zyd
        refine zg [] 2 [2,3,5,20] (zd (hK37 _ _ (zC h (fun b38 h => ?_) (fun b38 h => ?_))))
        ·refine zq fun K39 hK39 => zr (zg [] 1 [4] (zd (hK39 _ _ (ze (hQ1 _ _ _ ?_)))))
         obtain rfl := Option.some.inj h
         exact zf [vi (1 : Int)] (.one (.rfl _ rfl))
        ·refine zs (hK33 _ _ (zr (zv [] 3 [2,3,5] [] [(2, .one (.pv (.rp [(qa814 p1)] 0 0))), (3, .one (.pv (.rp [(qa815 p2)] 0 0))), (5, vi (-1 : Int))] [] (zd (XR.one (zq fun K40 hK40 => zq fun K41 hK41 => ?_))))))
         refine zr (zg [] 2 [2,3,5,7] (zd (hK41 _ _ (zc false (fun hx => by cases hx) (fun _ => ?_)))))
         refine zx 0 (hQ1 _ _ _ (hK2 _ _ (zq fun K42 hK42 => zr (zg [] 1 [4] (zd (hK42 _ _ ?_))))))
         refine ze ?_
         obtain rfl := Option.some.inj h
         exact zf [vi (0 : Int)] (.one (.rfl _ rfl))

def value_wide_minus_j1 (z1 : Bool) (z2 : Int) (z3 : Int) (z4 : Int) (z5 : Int) (z6 : Bool) (z7 : Int) (z8 : Int) (z9 : Int) (z10 : Int) : Option GWide :=
    grd (0 ≤ z2 ∧ 0 ≤ z7 ∧ z7 < 18446744073709551616 ∧ 0 ≤ (0 : Int) ∧ (0 : Int) ≤ 1) <|
    grd (0 ≤ z3 ∧ 0 ≤ z8 ∧ z8 < 18446744073709551616 ∧ 0 ≤ (if z2 < z7 + (0 : Int) then (1 : Int) else (0 : Int)) ∧ (if z2 < z7 + (0 : Int) then (1 : Int) else (0 : Int)) ≤ 1) <|
    bnd (some ((z3 - z8 - (if z2 < z7 + (0 : Int) then (1 : Int) else (0 : Int))) % 18446744073709551616)) fun y1 =>
    bnd (some (if z3 < z8 + (if z2 < z7 + (0 : Int) then (1 : Int) else (0 : Int)) then (1 : Int) else (0 : Int))) fun y2 =>
    grd (0 ≤ z4 ∧ 0 ≤ z9 ∧ z9 < 18446744073709551616 ∧ 0 ≤ y2 ∧ y2 ≤ 1) <|
    grd (0 ≤ z5 ∧ 0 ≤ z10 ∧ z10 < 18446744073709551616 ∧ 0 ≤ (if z4 < z9 + y2 then (1 : Int) else (0 : Int)) ∧ (if z4 < z9 + y2 then (1 : Int) else (0 : Int)) ≤ 1) <|
    bnd (some ((z5 - z10 - (if z4 < z9 + y2 then (1 : Int) else (0 : Int))) % 18446744073709551616)) fun y3 =>
    bnd (some (if z5 < z10 + (if z4 < z9 + y2 then (1 : Int) else (0 : Int)) then (1 : Int) else (0 : Int))) fun y4 =>
    some (GWide.mk z1 (((z2 - z7 - (0 : Int)) % 18446744073709551616), y1, ((z4 - z9 - y2) % 18446744073709551616), y3))

mutual

def value_wide_minus : Nat → GWide → GWide → Option GWide
  | 0, _, _ => none
  | k0 + 1, p1, p2 =>
    ift (!(p1.neg == p2.neg))
      (bnd (value_wide_negated (GWide.mk p2.neg (p2.size.1, p2.size.2.1, p2.size.2.2.1, p2.size.2.2.2))) fun r1 =>
       bnd ((value_wide_plus k0) (GWide.mk p1.neg (p1.size.1, p1.size.2.1, p1.size.2.2.1, p1.size.2.2.2)) (GWide.mk r1.neg (r1.size.1, r1.size.2.1, r1.size.2.2.1, r1.size.2.2.2))) fun r2 =>
       some (GWide.mk r2.neg (r2.size.1, r2.size.2.1, r2.size.2.2.1, r2.size.2.2.2)))
      (bnd (value_compareSize (GWide.mk p1.neg (p1.size.1, p1.size.2.1, p1.size.2.2.1, p1.size.2.2.2)) (GWide.mk p2.neg (p2.size.1, p2.size.2.1, p2.size.2.2.1, p2.size.2.2.2))) fun r3 =>
       ift (decide (r3 < (0 : Int)))
         (bnd (value_wide_negated (GWide.mk p2.neg (p2.size.1, p2.size.2.1, p2.size.2.2.1, p2.size.2.2.2))) fun r4 =>
          value_wide_minus_j1 r4.neg r4.size.1 r4.size.2.1 r4.size.2.2.1 r4.size.2.2.2 p1.neg p1.size.1 p1.size.2.1 p1.size.2.2.1 p1.size.2.2.2)
         (value_wide_minus_j1 p1.neg p1.size.1 p1.size.2.1 p1.size.2.2.1 p1.size.2.2.2 p2.neg p2.size.1 p2.size.2.1 p2.size.2.2.1 p2.size.2.2.2))

def value_wide_plus : Nat → GWide → GWide → Option GWide
  | 0, _, _ => none
  | k0 + 1, p1, p2 =>
    ift (!(p1.neg == p2.neg))
      (bnd (value_wide_negated (GWide.mk p2.neg (p2.size.1, p2.size.2.1, p2.size.2.2.1, p2.size.2.2.2))) fun r1 =>
       bnd ((value_wide_minus k0) (GWide.mk p1.neg (p1.size.1, p1.size.2.1, p1.size.2.2.1, p1.size.2.2.2)) (GWide.mk r1.neg (r1.size.1, r1.size.2.1, r1.size.2.2.1, r1.size.2.2.2))) fun r2 =>
       some (GWide.mk r2.neg (r2.size.1, r2.size.2.1, r2.size.2.2.1, r2.size.2.2.2)))
      (grd (0 ≤ p1.size.1 ∧ 0 ≤ p2.size.1 ∧ 0 ≤ (0 : Int) ∧ (0 : Int) ≤ 1) <|
       grd (0 ≤ p1.size.2.1 ∧ 0 ≤ p2.size.2.1 ∧ 0 ≤ ((p1.size.1 + p2.size.1 + (0 : Int)) / 18446744073709551616) ∧ ((p1.size.1 + p2.size.1 + (0 : Int)) / 18446744073709551616) ≤ 1) <|
       bnd (some ((p1.size.2.1 + p2.size.2.1 + ((p1.size.1 + p2.size.1 + (0 : Int)) / 18446744073709551616)) % 18446744073709551616)) fun y1 =>
       bnd (some ((p1.size.2.1 + p2.size.2.1 + ((p1.size.1 + p2.size.1 + (0 : Int)) / 18446744073709551616)) / 18446744073709551616)) fun y2 =>
       grd (0 ≤ p1.size.2.2.1 ∧ 0 ≤ p2.size.2.2.1 ∧ 0 ≤ y2 ∧ y2 ≤ 1) <|
       grd (0 ≤ p1.size.2.2.2 ∧ 0 ≤ p2.size.2.2.2 ∧ 0 ≤ ((p1.size.2.2.1 + p2.size.2.2.1 + y2) / 18446744073709551616) ∧ ((p1.size.2.2.1 + p2.size.2.2.1 + y2) / 18446744073709551616) ≤ 1) <|
       bnd (some ((p1.size.2.2.2 + p2.size.2.2.2 + ((p1.size.2.2.1 + p2.size.2.2.1 + y2) / 18446744073709551616)) % 18446744073709551616)) fun y3 =>
       bnd (some ((p1.size.2.2.2 + p2.size.2.2.2 + ((p1.size.2.2.1 + p2.size.2.2.1 + y2) / 18446744073709551616)) / 18446744073709551616)) fun y4 =>
       some (GWide.mk p1.neg (((p1.size.1 + p2.size.1 + (0 : Int)) % 18446744073709551616), y1, ((p1.size.2.2.1 + p2.size.2.2.1 + y2) % 18446744073709551616), y3)))

end

abbrev qa831 (p1 : GWide) : List CV := [cb p1.neg, ck .u64 p1.size.1, ck .u64 p1.size.2.1, ck .u64 p1.size.2.2.1, ck .u64 p1.size.2.2.2]
abbrev qa832 (p2 : GWide) : List CV := [cb p2.neg, ck .u64 p2.size.1, ck .u64 p2.size.2.1, ck .u64 p2.size.2.2.1, ck .u64 p2.size.2.2.2]
abbrev qa834 (r1 : GWide) : List CV := [cb r1.neg, ck .u64 r1.size.1, ck .u64 r1.size.2.1, ck .u64 r1.size.2.2.1, ck .u64 r1.size.2.2.2]
abbrev qa835 (r2 : GWide) : List CV := [cb r2.neg, ck .u64 r2.size.1, ck .u64 r2.size.2.1, ck .u64 r2.size.2.2.1, ck .u64 r2.size.2.2.2]
abbrev qa838 (z6 : Bool) (z7 : Int) (z8 : Int) (z9 : Int) (z10 : Int) : List CV := [cb z6, ck .u64 z7, ck .u64 z8, ck .u64 z9, ck .u64 z10]
abbrev qa839 : List CV := [cb false, ck .u64 (0 : Int), ck .u64 (0 : Int), ck .u64 (0 : Int), ck .u64 (0 : Int)]
abbrev qa842 (z2 : Int) (z7 : Int) : Fr := [(41, .one (.pt 0 0 0 1)), (40, .one (.pt 0 0 0 1)), (39, vk .u64 (if z2 < z7 + (0 : Int) then (1 : Int) else (0 : Int))), (38, vk .u64 ((z2 - z7 - (0 : Int)) % 18446744073709551616)), (26, .tp [vk .u64 ((z2 - z7 - (0 : Int)) % 18446744073709551616), vk .u64 (if z2 < z7 + (0 : Int) then (1 : Int) else (0 : Int))]), (37, .tp [vk .u64 ((z2 - z7 - (0 : Int)) % 18446744073709551616), vk .u64 (if z2 < z7 + (0 : Int) then (1 : Int) else (0 : Int))]), (36, vk .u64 (0 : Int)), (35, vk .u64 z7), (34, .one (.pt 1 0 0 1)), (33, .one (.pt 1 0 0 1)), (32, vi (0 : Int)), (31, vk .u64 z2), (30, .one (.pt 0 0 0 1)), (29, .one (.pt 0 0 0 1)), (28, vi (0 : Int)), (27, vi (0 : Int)), (2, .one (.pt 0 0 0 0)), (3, .one (.pt 1 0 0 0)), (4, .one (.pt 2 0 0 0)), (5, vk .u64 (0 : Int)), (6, vi (0 : Int)), (23, vi (0 : Int))]
abbrev qa843 (z1 : Bool) (z2 : Int) (z3 : Int) (z4 : Int) (z5 : Int) (z7 : Int) : List CV := [cb z1, ck .u64 ((z2 - z7 - (0 : Int)) % 18446744073709551616), ck .u64 z3, ck .u64 z4, ck .u64 z5]
abbrev qa848 (z2 : Int) (z3 : Int) (z7 : Int) (z8 : Int) (y1 : Int) (y2 : Int) : Fr := [(41, .one (.pt 0 0 0 2)), (40, .one (.pt 0 0 0 1)), (39, vk .u64 y2), (38, vk .u64 y1), (26, .tp [vk .u64 y1, vk .u64 y2]), (37, .tp [vk .u64 y1, vk .u64 y2]), (36, vk .u64 (if z2 < z7 + (0 : Int) then (1 : Int) else (0 : Int))), (35, vk .u64 z8), (34, .one (.pt 1 0 0 2)), (33, .one (.pt 1 0 0 1)), (32, vi (1 : Int)), (31, vk .u64 z3), (30, .one (.pt 0 0 0 2)), (29, .one (.pt 0 0 0 1)), (28, vi (1 : Int)), (27, vi (1 : Int)), (2, .one (.pt 0 0 0 0)), (3, .one (.pt 1 0 0 0)), (4, .one (.pt 2 0 0 0)), (5, vk .u64 (if z2 < z7 + (0 : Int) then (1 : Int) else (0 : Int))), (6, vi (1 : Int)), (23, vi (1 : Int))]
abbrev qa849 (z1 : Bool) (z2 : Int) (z4 : Int) (z5 : Int) (z7 : Int) (y1 : Int) : List CV := [cb z1, ck .u64 ((z2 - z7 - (0 : Int)) % 18446744073709551616), ck .u64 y1, ck .u64 z4, ck .u64 z5]
abbrev qa854 (z4 : Int) (z9 : Int) (y2 : Int) : Fr := [(41, .one (.pt 0 0 0 3)), (40, .one (.pt 0 0 0 1)), (39, vk .u64 (if z4 < z9 + y2 then (1 : Int) else (0 : Int))), (38, vk .u64 ((z4 - z9 - y2) % 18446744073709551616)), (26, .tp [vk .u64 ((z4 - z9 - y2) % 18446744073709551616), vk .u64 (if z4 < z9 + y2 then (1 : Int) else (0 : Int))]), (37, .tp [vk .u64 ((z4 - z9 - y2) % 18446744073709551616), vk .u64 (if z4 < z9 + y2 then (1 : Int) else (0 : Int))]), (36, vk .u64 y2), (35, vk .u64 z9), (34, .one (.pt 1 0 0 3)), (33, .one (.pt 1 0 0 1)), (32, vi (2 : Int)), (31, vk .u64 z4), (30, .one (.pt 0 0 0 3)), (29, .one (.pt 0 0 0 1)), (28, vi (2 : Int)), (27, vi (2 : Int)), (2, .one (.pt 0 0 0 0)), (3, .one (.pt 1 0 0 0)), (4, .one (.pt 2 0 0 0)), (5, vk .u64 y2), (6, vi (2 : Int)), (23, vi (2 : Int))]
abbrev qa855 (z1 : Bool) (z2 : Int) (z4 : Int) (z5 : Int) (z7 : Int) (z9 : Int) (y1 : Int) (y2 : Int) : List CV := [cb z1, ck .u64 ((z2 - z7 - (0 : Int)) % 18446744073709551616), ck .u64 y1, ck .u64 ((z4 - z9 - y2) % 18446744073709551616), ck .u64 z5]
abbrev qa860 (z4 : Int) (z5 : Int) (z9 : Int) (z10 : Int) (y2 : Int) (y3 : Int) (y4 : Int) : Fr := [(41, .one (.pt 0 0 0 4)), (40, .one (.pt 0 0 0 1)), (39, vk .u64 y4), (38, vk .u64 y3), (26, .tp [vk .u64 y3, vk .u64 y4]), (37, .tp [vk .u64 y3, vk .u64 y4]), (36, vk .u64 (if z4 < z9 + y2 then (1 : Int) else (0 : Int))), (35, vk .u64 z10), (34, .one (.pt 1 0 0 4)), (33, .one (.pt 1 0 0 1)), (32, vi (3 : Int)), (31, vk .u64 z5), (30, .one (.pt 0 0 0 4)), (29, .one (.pt 0 0 0 1)), (28, vi (3 : Int)), (27, vi (3 : Int)), (2, .one (.pt 0 0 0 0)), (3, .one (.pt 1 0 0 0)), (4, .one (.pt 2 0 0 0)), (5, vk .u64 (if z4 < z9 + y2 then (1 : Int) else (0 : Int))), (6, vi (3 : Int)), (23, vi (3 : Int))]
abbrev qa861 (z1 : Bool) (z2 : Int) (z4 : Int) (z7 : Int) (z9 : Int) (y1 : Int) (y2 : Int) (y3 : Int) : List CV := [cb z1, ck .u64 ((z2 - z7 - (0 : Int)) % 18446744073709551616), ck .u64 y1, ck .u64 ((z4 - z9 - y2) % 18446744073709551616), ck .u64 y3]
abbrev qa865 (r4 : GWide) : List CV := [cb r4.neg, ck .u64 r4.size.1, ck .u64 r4.size.2.1, ck .u64 r4.size.2.2.1, ck .u64 r4.size.2.2.2]
abbrev qa877 (p1 : GWide) : List CV := [cb p1.neg, ck .u64 p1.size.1, ck .u64 p1.size.2.1, ck .u64 p1.size.2.2.1, ck .u64 p1.size.2.2.2]
abbrev qa878 (p2 : GWide) : List CV := [cb p2.neg, ck .u64 p2.size.1, ck .u64 p2.size.2.1, ck .u64 p2.size.2.2.1, ck .u64 p2.size.2.2.2]
abbrev qa880 (p2 : GWide) : List PV := [.s (.bool p2.neg), .s (.int .u64 p2.size.1), .s (.int .u64 p2.size.2.1), .s (.int .u64 p2.size.2.2.1), .s (.int .u64 p2.size.2.2.2)]
abbrev qa881 (r1 : GWide) : List CV := [cb r1.neg, ck .u64 r1.size.1, ck .u64 r1.size.2.1, ck .u64 r1.size.2.2.1, ck .u64 r1.size.2.2.2]
abbrev qa882 (r2 : GWide) : List CV := [cb r2.neg, ck .u64 r2.size.1, ck .u64 r2.size.2.1, ck .u64 r2.size.2.2.1, ck .u64 r2.size.2.2.2]
abbrev qa883 : List CV := [cb false, ck .u64 (0 : Int), ck .u64 (0 : Int), ck .u64 (0 : Int), ck .u64 (0 : Int)]
abbrev qa884 (p1 : GWide) (p2 : GWide) : List CV := [cb p1.neg, ck .u64 ((p1.size.1 + p2.size.1 + (0 : Int)) % 18446744073709551616), ck .u64 p1.size.2.1, ck .u64 p1.size.2.2.1, ck .u64 p1.size.2.2.2]
abbrev qa885 (p1 : GWide) (p2 : GWide) (y1 : Int) : List CV := [cb p1.neg, ck .u64 ((p1.size.1 + p2.size.1 + (0 : Int)) % 18446744073709551616), ck .u64 y1, ck .u64 p1.size.2.2.1, ck .u64 p1.size.2.2.2]
abbrev qa886 (p1 : GWide) (p2 : GWide) (y1 : Int) (y2 : Int) : List CV := [cb p1.neg, ck .u64 ((p1.size.1 + p2.size.1 + (0 : Int)) % 18446744073709551616), ck .u64 y1, ck .u64 ((p1.size.2.2.1 + p2.size.2.2.1 + y2) % 18446744073709551616), ck .u64 p1.size.2.2.2]
abbrev qa887 (p1 : GWide) (p2 : GWide) (y1 : Int) (y2 : Int) (y3 : Int) : List CV := [cb p1.neg, ck .u64 ((p1.size.1 + p2.size.1 + (0 : Int)) % 18446744073709551616), ck .u64 y1, ck .u64 ((p1.size.2.2.1 + p2.size.2.2.1 + y2) % 18446744073709551616), ck .u64 y3]
abbrev qa894 (p1 : GWide) (p2 : GWide) : Fr := [(34, .one (.pt 0 0 0 1)), (33, .one (.pt 0 0 0 1)), (32, vk .u64 ((p1.size.1 + p2.size.1 + (0 : Int)) / 18446744073709551616)), (31, vk .u64 ((p1.size.1 + p2.size.1 + (0 : Int)) % 18446744073709551616)), (19, .tp [vk .u64 ((p1.size.1 + p2.size.1 + (0 : Int)) % 18446744073709551616), vk .u64 ((p1.size.1 + p2.size.1 + (0 : Int)) / 18446744073709551616)]), (30, .tp [vk .u64 ((p1.size.1 + p2.size.1 + (0 : Int)) % 18446744073709551616), vk .u64 ((p1.size.1 + p2.size.1 + (0 : Int)) / 18446744073709551616)]), (29, vk .u64 (0 : Int)), (28, vk .u64 p2.size.1), (27, .one (.pv (.rp [(qa880 p2)] 0 1))), (26, .one (.pv (.rp [(qa880 p2)] 0 1))), (25, vi (0 : Int)), (24, vk .u64 p1.size.1), (23, .one (.pt 0 0 0 1)), (22, .one (.pt 0 0 0 1)), (21, vi (0 : Int)), (20, vi (0 : Int)), (2, .one (.pt 0 0 0 0)), (3, .one (.pv (.rp [(qa880 p2)] 0 0))), (4, .one (.pt 1 0 0 0)), (5, vk .u64 (0 : Int)), (6, vi (0 : Int)), (16, vi (0 : Int))]
abbrev qa900 (p1 : GWide) (p2 : GWide) (y1 : Int) (y2 : Int) : Fr := [(34, .one (.pt 0 0 0 2)), (33, .one (.pt 0 0 0 1)), (32, vk .u64 y2), (31, vk .u64 y1), (19, .tp [vk .u64 y1, vk .u64 y2]), (30, .tp [vk .u64 y1, vk .u64 y2]), (29, vk .u64 ((p1.size.1 + p2.size.1 + (0 : Int)) / 18446744073709551616)), (28, vk .u64 p2.size.2.1), (27, .one (.pv (.rp [(qa880 p2)] 0 2))), (26, .one (.pv (.rp [(qa880 p2)] 0 1))), (25, vi (1 : Int)), (24, vk .u64 p1.size.2.1), (23, .one (.pt 0 0 0 2)), (22, .one (.pt 0 0 0 1)), (21, vi (1 : Int)), (20, vi (1 : Int)), (2, .one (.pt 0 0 0 0)), (3, .one (.pv (.rp [(qa880 p2)] 0 0))), (4, .one (.pt 1 0 0 0)), (5, vk .u64 ((p1.size.1 + p2.size.1 + (0 : Int)) / 18446744073709551616)), (6, vi (1 : Int)), (16, vi (1 : Int))]
abbrev qa906 (p1 : GWide) (p2 : GWide) (y2 : Int) : Fr := [(34, .one (.pt 0 0 0 3)), (33, .one (.pt 0 0 0 1)), (32, vk .u64 ((p1.size.2.2.1 + p2.size.2.2.1 + y2) / 18446744073709551616)), (31, vk .u64 ((p1.size.2.2.1 + p2.size.2.2.1 + y2) % 18446744073709551616)), (19, .tp [vk .u64 ((p1.size.2.2.1 + p2.size.2.2.1 + y2) % 18446744073709551616), vk .u64 ((p1.size.2.2.1 + p2.size.2.2.1 + y2) / 18446744073709551616)]), (30, .tp [vk .u64 ((p1.size.2.2.1 + p2.size.2.2.1 + y2) % 18446744073709551616), vk .u64 ((p1.size.2.2.1 + p2.size.2.2.1 + y2) / 18446744073709551616)]), (29, vk .u64 y2), (28, vk .u64 p2.size.2.2.1), (27, .one (.pv (.rp [(qa880 p2)] 0 3))), (26, .one (.pv (.rp [(qa880 p2)] 0 1))), (25, vi (2 : Int)), (24, vk .u64 p1.size.2.2.1), (23, .one (.pt 0 0 0 3)), (22, .one (.pt 0 0 0 1)), (21, vi (2 : Int)), (20, vi (2 : Int)), (2, .one (.pt 0 0 0 0)), (3, .one (.pv (.rp [(qa880 p2)] 0 0))), (4, .one (.pt 1 0 0 0)), (5, vk .u64 y2), (6, vi (2 : Int)), (16, vi (2 : Int))]
abbrev qa912 (p1 : GWide) (p2 : GWide) (y2 : Int) (y3 : Int) (y4 : Int) : Fr := [(34, .one (.pt 0 0 0 4)), (33, .one (.pt 0 0 0 1)), (32, vk .u64 y4), (31, vk .u64 y3), (19, .tp [vk .u64 y3, vk .u64 y4]), (30, .tp [vk .u64 y3, vk .u64 y4]), (29, vk .u64 ((p1.size.2.2.1 + p2.size.2.2.1 + y2) / 18446744073709551616)), (28, vk .u64 p2.size.2.2.2), (27, .one (.pv (.rp [(qa880 p2)] 0 4))), (26, .one (.pv (.rp [(qa880 p2)] 0 1))), (25, vi (3 : Int)), (24, vk .u64 p1.size.2.2.2), (23, .one (.pt 0 0 0 4)), (22, .one (.pt 0 0 0 1)), (21, vi (3 : Int)), (20, vi (3 : Int)), (2, .one (.pt 0 0 0 0)), (3, .one (.pv (.rp [(qa880 p2)] 0 0))), (4, .one (.pt 1 0 0 0)), (5, vk .u64 ((p1.size.2.2.1 + p2.size.2.2.1 + y2) / 18446744073709551616)), (6, vi (3 : Int)), (16, vi (3 : Int))]

mutual

theorem c_value_wide_minus : ∀ (k0 : Nat) (p1 : GWide) (p2 : GWide) (r : GWide), value_wide_minus k0 p1 p2 = some r → PC Tryd.prog 107 [.ag (qa831 p1), .ag (qa832 p2)] (.ag [cb r.neg, ck .u64 r.size.1, ck .u64 r.size.2.1, ck .u64 r.size.2.2.1, ck .u64 r.size.2.2.2])
 | 0, _, _, r, h => by rw [value_wide_minus.eq_1] at h; cases h
 | k0 + 1, p1, p2, r, h => by
  rw [value_wide_minus.eq_2] at h
  refine zF 44 Tryd.f107 (zq fun K1 hK1 => zr (zg [2, 3, 4] 3 [2,3,4] (zd (hK1 _ _ (zq fun K2 hK2 => zq fun K3 hK3 => ?_)))))
  refine zr (zg [2, 3, 4] 5 [2,3,4,11] (zd (hK3 _ _ (zC h (fun b4 h => ?_) (fun b4 h => ?_)))))
  ·refine zq fun K5 hK5 => ?_
   obtain ⟨r1, c6, h⟩ := zB h
   obtain ⟨r2, c7, h⟩ := zB h
   refine zw 3 [(14, .ag (qa834 r1)), (13, .ag (qa832 p2)), (12, .ag (qa831 p1)), (2, .one (.pt 0 0 0 0)), (3, .one (.pt 1 0 0 0)), (4, .one (.pt 2 0 0 0)), (11, vb (!(p1.neg == p2.neg)))] ?_ ?_
   ·exact zyv 2 [] [(13, .ag (qa832 p2)), (12, .ag (qa831 p1)), (2, .one (.pt 0 0 0 0)), (3, .one (.pt 1 0 0 0)), (4, .one (.pt 2 0 0 0)), (11, vb (!(p1.neg == p2.neg)))] (zya (c_value_wide_negated _ _ c6) zyd)
   refine zl 97 [.ag (qa831 p1), .ag (qa834 r1)] (.ag (qa835 r2)) [(15, .ag (qa835 r2)), (14, .ag (qa834 r1)), (13, .ag (qa832 p2)), (12, .ag (qa831 p1)), (2, .one (.pt 0 0 0 0)), (3, .one (.pt 1 0 0 0)), (4, .one (.pt 2 0 0 0)), (11, vb (!(p1.neg == p2.neg)))] (c_value_wide_plus k0 _ _ _ c7) ?_
   refine zg [2, 3, 4] 1 [4] (zd (hK5 _ _ (ze ?_)))
   obtain rfl := Option.some.inj h
   exact zf [.ag (qa835 r2)] (.ag (.cons (.rfl _ rfl) (.cons (.rfl _ rfl) (.cons (.rfl _ rfl) (.cons (.rfl _ rfl) (.cons (.rfl _ rfl) .nil))))))
  ·refine zs (hK2 _ _ (zq fun K8 hK8 => ?_))
   have hJ1 : ∀ (z1 : Bool) (z2 : Int) (z3 : Int) (z4 : Int) (z5 : Int) (z6 : Bool) (z7 : Int) (z8 : Int) (z9 : Int) (z10 : Int), value_wide_minus_j1 z1 z2 z3 z4 z5 z6 z7 z8 z9 z10 = some r → ∀ fr1 st1, Sub 44 0 [] fr1 st1 [(2, .one (.pt 0 0 0 0)), (3, .one (.pt 1 0 0 0)), (4, .one (.pt 2 0 0 0))] [.box [cb z1, ck .u64 z2, ck .u64 z3, ck .u64 z4, ck .u64 z5], .box (qa838 z6 z7 z8 z9 z10), .box qa839] → K8 fr1 st1 := by
    intro z1 z2 z3 z4 z5 z6 z7 z8 z9 z10 h fr1 st1 hS
    unfold value_wide_minus_j1 at h
    refine hK8 _ _ (XW.sub hS ?_)
    refine zq fun K13 hK13 => zr (zg [2, 3, 4] 1 [2,3,4,5] (zd (hK13 _ _ (zq fun K14 hK14 => zq fun K15 hK15 => zr ?_))))
    refine zg [2, 3, 4] 1 [2,3,4,5,23] (zd (hK15 _ _ (zb 0 (XW.rounds' 5 (x := cd Tryd.f107 [1,1,1,1,0,1,0,0]) (by kernel_rfl) fun Q1 hQ1 => XR.one (zq fun K16 hK16 => zr ?_)))))
    refine zv [2, 3, 4] 1 [2,3,4,5,23,24] [] [(2, .one (.pt 0 0 0 0)), (3, .one (.pt 1 0 0 0)), (4, .one (.pt 2 0 0 0)), (5, vk .u64 (0 : Int)), (23, vi (0 : Int)), (24, vb true)] [.box [cb z1, ck .u64 z2, ck .u64 z3, ck .u64 z4, ck .u64 z5], .box (qa838 z6 z7 z8 z9 z10), .box qa839] (zd (hK16 _ _ (zq fun K17 hK17 => zc true (fun _ => ?_) (fun hx => by cases hx))))
    refine zs (hK17 _ _ (zq fun K18 hK18 => zb 1 (zq fun K19 hK19 => zr (zv [2, 3, 4] 2 [2,3,4,5,6,23] [] [(2, .one (.pt 0 0 0 0)), (3, .one (.pt 1 0 0 0)), (4, .one (.pt 2 0 0 0)), (5, vk .u64 (0 : Int)), (6, vi (0 : Int)), (23, vi (0 : Int))] [.box [cb z1, ck .u64 z2, ck .u64 z3, ck .u64 z4, ck .u64 z5], .box (qa838 z6 z7 z8 z9 z10), .box qa839] (zd ?_)))))
    refine hK19 _ _ ?_
    obtain ⟨g20, h⟩ := zG h
    refine XW.drwG 17 [3] [([], []), ([], []), ([0], []), ([0], []), ([0], []), ([], []), ([1], []), ([1], []), ([1], []), ([], []), ([], []), ([], []), ([], []), ([], []), ([0], []), ([0], []), ([0], [0])] (qa842 z2 z7) [.box (qa843 z1 z2 z3 z4 z5 z7), .box (qa838 z6 z7 z8 z9 z10), .box qa839] (by kernel_rfl) (by kernel_rfl) ?_ ?_
    ·refine GY.go 10 [] [(36, vk .u64 (0 : Int)), (35, vk .u64 z7), (34, .one (.pt 1 0 0 1)), (33, .one (.pt 1 0 0 1)), (32, vi (0 : Int)), (31, vk .u64 z2), (30, .one (.pt 0 0 0 1)), (29, .one (.pt 0 0 0 1)), (28, vi (0 : Int)), (27, vi (0 : Int)), (2, .one (.pt 0 0 0 0)), (3, .one (.pt 1 0 0 0)), (4, .one (.pt 2 0 0 0)), (5, vk .u64 (0 : Int)), (6, vi (0 : Int)), (23, vi (0 : Int))] [0 ≤ (0 : Int) ∧ (0 : Int) < 4, 0 ≤ (0 : Int) ∧ (0 : Int) < 4] (by kernel_rfl) (⟨by decide, by decide, trivial⟩) ?_
     refine GY.ext 123 [.int .u64 z2, .int .u64 z7, .int .u64 (0 : Int)] [.int .u64 ((z2 - z7 - (0 : Int)) % 18446744073709551616), .int .u64 (if z2 < z7 + (0 : Int) then (1 : Int) else (0 : Int))] [(37, .tp [vk .u64 ((z2 - z7 - (0 : Int)) % 18446744073709551616), vk .u64 (if z2 < z7 + (0 : Int) then (1 : Int) else (0 : Int))]), (36, vk .u64 (0 : Int)), (35, vk .u64 z7), (34, .one (.pt 1 0 0 1)), (33, .one (.pt 1 0 0 1)), (32, vi (0 : Int)), (31, vk .u64 z2), (30, .one (.pt 0 0 0 1)), (29, .one (.pt 0 0 0 1)), (28, vi (0 : Int)), (27, vi (0 : Int)), (2, .one (.pt 0 0 0 0)), (3, .one (.pt 1 0 0 0)), (4, .one (.pt 2 0 0 0)), (5, vk .u64 (0 : Int)), (6, vi (0 : Int)), (23, vi (0 : Int))] [] (by kernel_rfl) (by kernel_rfl) (ext_Sub64 (fn := Tryd.f123) (by kernel_rfl) (by kernel_rfl) (by kernel_rfl) (by kernel_rfl) (by kernel_rfl) g20.1 g20.2.1 g20.2.2.1 g20.2.2.2.1 g20.2.2.2.2) rfl (by kernel_rfl) (by kernel_rfl) (by kernel_rfl) ?_
     refine GY.go 5 [] (qa842 z2 z7) [0 ≤ (0 : Int) ∧ (0 : Int) < 4] (by kernel_rfl) (⟨by decide, trivial⟩) ?_
     refine GY.wr [] (qa842 z2 z7) [0] [.box (qa843 z1 z2 z3 z4 z5 z7), .box (qa838 z6 z7 z8 z9 z10), .box qa839] [] (by kernel_rfl) (by kernel_rfl) trivial ?_
     exact GY.done (by kernel_rfl) (by kernel_rfl)
    refine zg [2, 3, 4] 1 [2,3,4,5,23] (zd (hK18 _ _ (zr (zv [2, 3, 4] 2 [2,3,4,5,23] [] [(2, .one (.pt 0 0 0 0)), (3, .one (.pt 1 0 0 0)), (4, .one (.pt 2 0 0 0)), (5, vk .u64 (if z2 < z7 + (0 : Int) then (1 : Int) else (0 : Int))), (23, vi (1 : Int))] [.box (qa843 z1 z2 z3 z4 z5 z7), .box (qa838 z6 z7 z8 z9 z10), .box qa839] (zd (XR.one (zq fun K21 hK21 => ?_)))))))
    refine zr (zg [2, 3, 4] 1 [2,3,4,5,23,24] (zd (hK21 _ _ (zq fun K22 hK22 => zc true (fun _ => ?_) (fun hx => by cases hx)))))
    refine zs (hK22 _ _ (zq fun K23 hK23 => zb 1 (zq fun K24 hK24 => zr (zv [2, 3, 4] 2 [2,3,4,5,6,23] [] [(2, .one (.pt 0 0 0 0)), (3, .one (.pt 1 0 0 0)), (4, .one (.pt 2 0 0 0)), (5, vk .u64 (if z2 < z7 + (0 : Int) then (1 : Int) else (0 : Int))), (6, vi (1 : Int)), (23, vi (1 : Int))] [.box (qa843 z1 z2 z3 z4 z5 z7), .box (qa838 z6 z7 z8 z9 z10), .box qa839] (zd ?_)))))
    refine hK24 _ _ ?_
    obtain ⟨g25, h⟩ := zG h
    obtain ⟨y1, hy26, h⟩ := zB h
    obtain ⟨y2, hy27, h⟩ := zB h
    refine XW.drwG 17 [3] [([], []), ([], []), ([0], []), ([0], []), ([0], []), ([], []), ([1], []), ([1], []), ([1], []), ([], []), ([], []), ([], []), ([], []), ([], []), ([0], []), ([0], []), ([0], [0])] (qa848 z2 z3 z7 z8 y1 y2) [.box (qa849 z1 z2 z4 z5 z7 y1), .box (qa838 z6 z7 z8 z9 z10), .box qa839] (by kernel_rfl) (by kernel_rfl) ?_ ?_
    ·refine GY.go 10 [] [(36, vk .u64 (if z2 < z7 + (0 : Int) then (1 : Int) else (0 : Int))), (35, vk .u64 z8), (34, .one (.pt 1 0 0 2)), (33, .one (.pt 1 0 0 1)), (32, vi (1 : Int)), (31, vk .u64 z3), (30, .one (.pt 0 0 0 2)), (29, .one (.pt 0 0 0 1)), (28, vi (1 : Int)), (27, vi (1 : Int)), (2, .one (.pt 0 0 0 0)), (3, .one (.pt 1 0 0 0)), (4, .one (.pt 2 0 0 0)), (5, vk .u64 (if z2 < z7 + (0 : Int) then (1 : Int) else (0 : Int))), (6, vi (1 : Int)), (23, vi (1 : Int))] [0 ≤ (1 : Int) ∧ (1 : Int) < 4, 0 ≤ (1 : Int) ∧ (1 : Int) < 4] (by kernel_rfl) (⟨by decide, by decide, trivial⟩) ?_
     refine GY.ext 123 [.int .u64 z3, .int .u64 z8, .int .u64 (if z2 < z7 + (0 : Int) then (1 : Int) else (0 : Int))] [.int .u64 ((z3 - z8 - (if z2 < z7 + (0 : Int) then (1 : Int) else (0 : Int))) % 18446744073709551616), .int .u64 (if z3 < z8 + (if z2 < z7 + (0 : Int) then (1 : Int) else (0 : Int)) then (1 : Int) else (0 : Int))] [(37, .tp [vk .u64 ((z3 - z8 - (if z2 < z7 + (0 : Int) then (1 : Int) else (0 : Int))) % 18446744073709551616), vk .u64 (if z3 < z8 + (if z2 < z7 + (0 : Int) then (1 : Int) else (0 : Int)) then (1 : Int) else (0 : Int))]), (36, vk .u64 (if z2 < z7 + (0 : Int) then (1 : Int) else (0 : Int))), (35, vk .u64 z8), (34, .one (.pt 1 0 0 2)), (33, .one (.pt 1 0 0 1)), (32, vi (1 : Int)), (31, vk .u64 z3), (30, .one (.pt 0 0 0 2)), (29, .one (.pt 0 0 0 1)), (28, vi (1 : Int)), (27, vi (1 : Int)), (2, .one (.pt 0 0 0 0)), (3, .one (.pt 1 0 0 0)), (4, .one (.pt 2 0 0 0)), (5, vk .u64 (if z2 < z7 + (0 : Int) then (1 : Int) else (0 : Int))), (6, vi (1 : Int)), (23, vi (1 : Int))] [] (by kernel_rfl) (by kernel_rfl) (ext_Sub64 (fn := Tryd.f123) (by kernel_rfl) (by kernel_rfl) (by kernel_rfl) (by kernel_rfl) (by kernel_rfl) g25.1 g25.2.1 g25.2.2.1 g25.2.2.2.1 g25.2.2.2.2) rfl (by kernel_rfl) (by kernel_rfl) (by kernel_rfl) ?_
     refine zgv 2 [] [(38, vk .u64 ((z3 - z8 - (if z2 < z7 + (0 : Int) then (1 : Int) else (0 : Int))) % 18446744073709551616)), (26, .tp [vk .u64 ((z3 - z8 - (if z2 < z7 + (0 : Int) then (1 : Int) else (0 : Int))) % 18446744073709551616), vk .u64 (if z3 < z8 + (if z2 < z7 + (0 : Int) then (1 : Int) else (0 : Int)) then (1 : Int) else (0 : Int))]), (37, .tp [vk .u64 ((z3 - z8 - (if z2 < z7 + (0 : Int) then (1 : Int) else (0 : Int))) % 18446744073709551616), vk .u64 (if z3 < z8 + (if z2 < z7 + (0 : Int) then (1 : Int) else (0 : Int)) then (1 : Int) else (0 : Int))]), (36, vk .u64 (if z2 < z7 + (0 : Int) then (1 : Int) else (0 : Int))), (35, vk .u64 z8), (34, .one (.pt 1 0 0 2)), (33, .one (.pt 1 0 0 1)), (32, vi (1 : Int)), (31, vk .u64 z3), (30, .one (.pt 0 0 0 2)), (29, .one (.pt 0 0 0 1)), (28, vi (1 : Int)), (27, vi (1 : Int)), (2, .one (.pt 0 0 0 0)), (3, .one (.pt 1 0 0 0)), (4, .one (.pt 2 0 0 0)), (5, vk .u64 (if z2 < z7 + (0 : Int) then (1 : Int) else (0 : Int))), (6, vi (1 : Int)), (23, vi (1 : Int))] ?_
     rw [show ((z3 - z8 - (if z2 < z7 + (0 : Int) then (1 : Int) else (0 : Int))) % 18446744073709551616) = y1 from Option.some.inj hy26]
     refine zgv 1 [] [(39, vk .u64 (if z3 < z8 + (if z2 < z7 + (0 : Int) then (1 : Int) else (0 : Int)) then (1 : Int) else (0 : Int))), (38, vk .u64 y1), (26, .tp [vk .u64 y1, vk .u64 (if z3 < z8 + (if z2 < z7 + (0 : Int) then (1 : Int) else (0 : Int)) then (1 : Int) else (0 : Int))]), (37, .tp [vk .u64 y1, vk .u64 (if z3 < z8 + (if z2 < z7 + (0 : Int) then (1 : Int) else (0 : Int)) then (1 : Int) else (0 : Int))]), (36, vk .u64 (if z2 < z7 + (0 : Int) then (1 : Int) else (0 : Int))), (35, vk .u64 z8), (34, .one (.pt 1 0 0 2)), (33, .one (.pt 1 0 0 1)), (32, vi (1 : Int)), (31, vk .u64 z3), (30, .one (.pt 0 0 0 2)), (29, .one (.pt 0 0 0 1)), (28, vi (1 : Int)), (27, vi (1 : Int)), (2, .one (.pt 0 0 0 0)), (3, .one (.pt 1 0 0 0)), (4, .one (.pt 2 0 0 0)), (5, vk .u64 (if z2 < z7 + (0 : Int) then (1 : Int) else (0 : Int))), (6, vi (1 : Int)), (23, vi (1 : Int))] ?_
     rw [show (if z3 < z8 + (if z2 < z7 + (0 : Int) then (1 : Int) else (0 : Int)) then (1 : Int) else (0 : Int)) = y2 from Option.some.inj hy27]
     refine GY.go 2 [] (qa848 z2 z3 z7 z8 y1 y2) [0 ≤ (1 : Int) ∧ (1 : Int) < 4] (by kernel_rfl) (⟨by decide, trivial⟩) ?_
     refine GY.wr [] (qa848 z2 z3 z7 z8 y1 y2) [0] [.box (qa849 z1 z2 z4 z5 z7 y1), .box (qa838 z6 z7 z8 z9 z10), .box qa839] [] (by kernel_rfl) (by kernel_rfl) trivial ?_
     exact GY.done (by kernel_rfl) (by kernel_rfl)
    refine zg [2, 3, 4] 1 [2,3,4,5,23] (zd (hK23 _ _ (zr (zv [2, 3, 4] 2 [2,3,4,5,23] [] [(2, .one (.pt 0 0 0 0)), (3, .one (.pt 1 0 0 0)), (4, .one (.pt 2 0 0 0)), (5, vk .u64 y2), (23, vi (2 : Int))] [.box (qa849 z1 z2 z4 z5 z7 y1), .box (qa838 z6 z7 z8 z9 z10), .box qa839] (zd (XR.one (zq fun K28 hK28 => ?_)))))))
    refine zr (zg [2, 3, 4] 1 [2,3,4,5,23,24] (zd (hK28 _ _ (zq fun K29 hK29 => zc true (fun _ => ?_) (fun hx => by cases hx)))))
    refine zs (hK29 _ _ (zq fun K30 hK30 => zb 1 (zq fun K31 hK31 => zr (zv [2, 3, 4] 2 [2,3,4,5,6,23] [] [(2, .one (.pt 0 0 0 0)), (3, .one (.pt 1 0 0 0)), (4, .one (.pt 2 0 0 0)), (5, vk .u64 y2), (6, vi (2 : Int)), (23, vi (2 : Int))] [.box (qa849 z1 z2 z4 z5 z7 y1), .box (qa838 z6 z7 z8 z9 z10), .box qa839] (zd ?_)))))
    refine hK31 _ _ ?_
    obtain ⟨g32, h⟩ := zG h
    refine XW.drwG 17 [3] [([], []), ([], []), ([0], []), ([0], []), ([0], []), ([], []), ([1], []), ([1], []), ([1], []), ([], []), ([], []), ([], []), ([], []), ([], []), ([0], []), ([0], []), ([0], [0])] (qa854 z4 z9 y2) [.box (qa855 z1 z2 z4 z5 z7 z9 y1 y2), .box (qa838 z6 z7 z8 z9 z10), .box qa839] (by kernel_rfl) (by kernel_rfl) ?_ ?_
    ·refine GY.go 10 [] [(36, vk .u64 y2), (35, vk .u64 z9), (34, .one (.pt 1 0 0 3)), (33, .one (.pt 1 0 0 1)), (32, vi (2 : Int)), (31, vk .u64 z4), (30, .one (.pt 0 0 0 3)), (29, .one (.pt 0 0 0 1)), (28, vi (2 : Int)), (27, vi (2 : Int)), (2, .one (.pt 0 0 0 0)), (3, .one (.pt 1 0 0 0)), (4, .one (.pt 2 0 0 0)), (5, vk .u64 y2), (6, vi (2 : Int)), (23, vi (2 : Int))] [0 ≤ (2 : Int) ∧ (2 : Int) < 4, 0 ≤ (2 : Int) ∧ (2 : Int) < 4] (by kernel_rfl) (⟨by decide, by decide, trivial⟩) ?_
     refine GY.ext 123 [.int .u64 z4, .int .u64 z9, .int .u64 y2] [.int .u64 ((z4 - z9 - y2) % 18446744073709551616), .int .u64 (if z4 < z9 + y2 then (1 : Int) else (0 : Int))] [(37, .tp [vk .u64 ((z4 - z9 - y2) % 18446744073709551616), vk .u64 (if z4 < z9 + y2 then (1 : Int) else (0 : Int))]), (36, vk .u64 y2), (35, vk .u64 z9), (34, .one (.pt 1 0 0 3)), (33, .one (.pt 1 0 0 1)), (32, vi (2 : Int)), (31, vk .u64 z4), (30, .one (.pt 0 0 0 3)), (29, .one (.pt 0 0 0 1)), (28, vi (2 : Int)), (27, vi (2 : Int)), (2, .one (.pt 0 0 0 0)), (3, .one (.pt 1 0 0 0)), (4, .one (.pt 2 0 0 0)), (5, vk .u64 y2), (6, vi (2 : Int)), (23, vi (2 : Int))] [] (by kernel_rfl) (by kernel_rfl) (ext_Sub64 (fn := Tryd.f123) (by kernel_rfl) (by kernel_rfl) (by kernel_rfl) (by kernel_rfl) (by kernel_rfl) g32.1 g32.2.1 g32.2.2.1 g32.2.2.2.1 g32.2.2.2.2) rfl (by kernel_rfl) (by kernel_rfl) (by kernel_rfl) ?_
     refine GY.go 5 [] (qa854 z4 z9 y2) [0 ≤ (2 : Int) ∧ (2 : Int) < 4] (by kernel_rfl) (⟨by decide, trivial⟩) ?_
     refine GY.wr [] (qa854 z4 z9 y2) [0] [.box (qa855 z1 z2 z4 z5 z7 z9 y1 y2), .box (qa838 z6 z7 z8 z9 z10), .box qa839] [] (by kernel_rfl) (by kernel_rfl) trivial ?_
     exact GY.done (by kernel_rfl) (by kernel_rfl)
    refine zg [2, 3, 4] 1 [2,3,4,5,23] (zd (hK30 _ _ (zr (zv [2, 3, 4] 2 [2,3,4,5,23] [] [(2, .one (.pt 0 0 0 0)), (3, .one (.pt 1 0 0 0)), (4, .one (.pt 2 0 0 0)), (5, vk .u64 (if z4 < z9 + y2 then (1 : Int) else (0 : Int))), (23, vi (3 : Int))] [.box (qa855 z1 z2 z4 z5 z7 z9 y1 y2), .box (qa838 z6 z7 z8 z9 z10), .box qa839] (zd (XR.one (zq fun K33 hK33 => ?_)))))))
    refine zr (zg [2, 3, 4] 1 [2,3,4,5,23,24] (zd (hK33 _ _ (zq fun K34 hK34 => zc true (fun _ => ?_) (fun hx => by cases hx)))))
    refine zs (hK34 _ _ (zq fun K35 hK35 => zb 1 (zq fun K36 hK36 => zr (zv [2, 3, 4] 2 [2,3,4,5,6,23] [] [(2, .one (.pt 0 0 0 0)), (3, .one (.pt 1 0 0 0)), (4, .one (.pt 2 0 0 0)), (5, vk .u64 (if z4 < z9 + y2 then (1 : Int) else (0 : Int))), (6, vi (3 : Int)), (23, vi (3 : Int))] [.box (qa855 z1 z2 z4 z5 z7 z9 y1 y2), .box (qa838 z6 z7 z8 z9 z10), .box qa839] (zd ?_)))))
    refine hK36 _ _ ?_
    obtain ⟨g37, h⟩ := zG h
    obtain ⟨y3, hy38, h⟩ := zB h
    obtain ⟨y4, hy39, h⟩ := zB h
    refine XW.drwG 17 [3] [([], []), ([], []), ([0], []), ([0], []), ([0], []), ([], []), ([1], []), ([1], []), ([1], []), ([], []), ([], []), ([], []), ([], []), ([], []), ([0], []), ([0], []), ([0], [0])] (qa860 z4 z5 z9 z10 y2 y3 y4) [.box (qa861 z1 z2 z4 z7 z9 y1 y2 y3), .box (qa838 z6 z7 z8 z9 z10), .box qa839] (by kernel_rfl) (by kernel_rfl) ?_ ?_
    ·refine GY.go 10 [] [(36, vk .u64 (if z4 < z9 + y2 then (1 : Int) else (0 : Int))), (35, vk .u64 z10), (34, .one (.pt 1 0 0 4)), (33, .one (.pt 1 0 0 1)), (32, vi (3 : Int)), (31, vk .u64 z5), (30, .one (.pt 0 0 0 4)), (29, .one (.pt 0 0 0 1)), (28, vi (3 : Int)), (27, vi (3 : Int)), (2, .one (.pt 0 0 0 0)), (3, .one (.pt 1 0 0 0)), (4, .one (.pt 2 0 0 0)), (5, vk .u64 (if z4 < z9 + y2 then (1 : Int) else (0 : Int))), (6, vi (3 : Int)), (23, vi (3 : Int))] [0 ≤ (3 : Int) ∧ (3 : Int) < 4, 0 ≤ (3 : Int) ∧ (3 : Int) < 4] (by kernel_rfl) (⟨by decide, by decide, trivial⟩) ?_
     refine GY.ext 123 [.int .u64 z5, .int .u64 z10, .int .u64 (if z4 < z9 + y2 then (1 : Int) else (0 : Int))] [.int .u64 ((z5 - z10 - (if z4 < z9 + y2 then (1 : Int) else (0 : Int))) % 18446744073709551616), .int .u64 (if z5 < z10 + (if z4 < z9 + y2 then (1 : Int) else (0 : Int)) then (1 : Int) else (0 : Int))] [(37, .tp [vk .u64 ((z5 - z10 - (if z4 < z9 + y2 then (1 : Int) else (0 : Int))) % 18446744073709551616), vk .u64 (if z5 < z10 + (if z4 < z9 + y2 then (1 : Int) else (0 : Int)) then (1 : Int) else (0 : Int))]), (36, vk .u64 (if z4 < z9 + y2 then (1 : Int) else (0 : Int))), (35, vk .u64 z10), (34, .one (.pt 1 0 0 4)), (33, .one (.pt 1 0 0 1)), (32, vi (3 : Int)), (31, vk .u64 z5), (30, .one (.pt 0 0 0 4)), (29, .one (.pt 0 0 0 1)), (28, vi (3 : Int)), (27, vi (3 : Int)), (2, .one (.pt 0 0 0 0)), (3, .one (.pt 1 0 0 0)), (4, .one (.pt 2 0 0 0)), (5, vk .u64 (if z4 < z9 + y2 then (1 : Int) else (0 : Int))), (6, vi (3 : Int)), (23, vi (3 : Int))] [] (by kernel_rfl) (by kernel_rfl) (ext_Sub64 (fn := Tryd.f123) (by kernel_rfl) (by kernel_rfl) (by kernel_rfl) (by kernel_rfl) (by kernel_rfl) g37.1 g37.2.1 g37.2.2.1 g37.2.2.2.1 g37.2.2.2.2) rfl (by kernel_rfl) (by kernel_rfl) (by kernel_rfl) ?_
     refine zgv 2 [] [(38, vk .u64 ((z5 - z10 - (if z4 < z9 + y2 then (1 : Int) else (0 : Int))) % 18446744073709551616)), (26, .tp [vk .u64 ((z5 - z10 - (if z4 < z9 + y2 then (1 : Int) else (0 : Int))) % 18446744073709551616), vk .u64 (if z5 < z10 + (if z4 < z9 + y2 then (1 : Int) else (0 : Int)) then (1 : Int) else (0 : Int))]), (37, .tp [vk .u64 ((z5 - z10 - (if z4 < z9 + y2 then (1 : Int) else (0 : Int))) % 18446744073709551616), vk .u64 (if z5 < z10 + (if z4 < z9 + y2 then (1 : Int) else (0 : Int)) then (1 : Int) else (0 : Int))]), (36, vk .u64 (if z4 < z9 + y2 then (1 : Int) else (0 : Int))), (35, vk .u64 z10), (34, .one (.pt 1 0 0 4)), (33, .one (.pt 1 0 0 1)), (32, vi (3 : Int)), (31, vk .u64 z5), (30, .one (.pt 0 0 0 4)), (29, .one (.pt 0 0 0 1)), (28, vi (3 : Int)), (27, vi (3 : Int)), (2, .one (.pt 0 0 0 0)), (3, .one (.pt 1 0 0 0)), (4, .one (.pt 2 0 0 0)), (5, vk .u64 (if z4 < z9 + y2 then (1 : Int) else (0 : Int))), (6, vi (3 : Int)), (23, vi (3 : Int))] ?_
     rw [show ((z5 - z10 - (if z4 < z9 + y2 then (1 : Int) else (0 : Int))) % 18446744073709551616) = y3 from Option.some.inj hy38]
     refine zgv 1 [] [(39, vk .u64 (if z5 < z10 + (if z4 < z9 + y2 then (1 : Int) else (0 : Int)) then (1 : Int) else (0 : Int))), (38, vk .u64 y3), (26, .tp [vk .u64 y3, vk .u64 (if z5 < z10 + (if z4 < z9 + y2 then (1 : Int) else (0 : Int)) then (1 : Int) else (0 : Int))]), (37, .tp [vk .u64 y3, vk .u64 (if z5 < z10 + (if z4 < z9 + y2 then (1 : Int) else (0 : Int)) then (1 : Int) else (0 : Int))]), (36, vk .u64 (if z4 < z9 + y2 then (1 : Int) else (0 : Int))), (35, vk .u64 z10), (34, .one (.pt 1 0 0 4)), (33, .one (.pt 1 0 0 1)), (32, vi (3 : Int)), (31, vk .u64 z5), (30, .one (.pt 0 0 0 4)), (29, .one (.pt 0 0 0 1)), (28, vi (3 : Int)), (27, vi (3 : Int)), (2, .one (.pt 0 0 0 0)), (3, .one (.pt 1 0 0 0)), (4, .one (.pt 2 0 0 0)), (5, vk .u64 (if z4 < z9 + y2 then (1 : Int) else (0 : Int))), (6, vi (3 : Int)), (23, vi (3 : Int))] ?_
     rw [show (if z5 < z10 + (if z4 < z9 + y2 then (1 : Int) else (0 : Int)) then (1 : Int) else (0 : Int)) = y4 from Option.some.inj hy39]
     refine GY.go 2 [] (qa860 z4 z5 z9 z10 y2 y3 y4) [0 ≤ (3 : Int) ∧ (3 : Int) < 4] (by kernel_rfl) (⟨by decide, trivial⟩) ?_
     refine GY.wr [] (qa860 z4 z5 z9 z10 y2 y3 y4) [0] [.box (qa861 z1 z2 z4 z7 z9 y1 y2 y3), .box (qa838 z6 z7 z8 z9 z10), .box qa839] [] (by kernel_rfl) (by kernel_rfl) trivial ?_
     exact GY.done (by kernel_rfl) (by kernel_rfl)
    refine zg [2, 3, 4] 1 [2,3,4,5,23] (zd (hK35 _ _ (zr (zv [2, 3, 4] 2 [2,3,4,5,23] [] [(2, .one (.pt 0 0 0 0)), (3, .one (.pt 1 0 0 0)), (4, .one (.pt 2 0 0 0)), (5, vk .u64 y4), (23, vi (4 : Int))] [.box (qa861 z1 z2 z4 z7 z9 y1 y2 y3), .box (qa838 z6 z7 z8 z9 z10), .box qa839] (zd (XR.one (zq fun K40 hK40 => ?_)))))))
    refine zr (zg [2, 3, 4] 1 [2,3,4,5,23,24] (zd (hK40 _ _ (zq fun K41 hK41 => zc false (fun hx => by cases hx) (fun _ => ?_)))))
    refine zx 0 (hQ1 _ _ _ (hK14 _ _ (zq fun K42 hK42 => zr (zg [2, 3, 4] 2 [4] (zd (hK42 _ _ ?_))))))
    refine ze ?_
    obtain rfl := Option.some.inj h
    exact zf [.ag (qa861 z1 z2 z4 z7 z9 y1 y2 y3)] (.ag (.cons (.rfl _ rfl) (.cons (.rfl _ rfl) (.cons (.rfl _ rfl) (.cons (.rfl _ rfl) (.cons (.rfl _ rfl) .nil))))))
   refine zq fun K9 hK9 => ?_
   obtain ⟨r3, c10, h⟩ := zB h
   refine zr (zg [2, 3, 4] 2 [2,3,4,16,17] ?_)
   refine zl 95 [.ag (qa831 p1), .ag (qa832 p2)] (vi r3) [(18, vi r3), (2, .one (.pt 0 0 0 0)), (3, .one (.pt 1 0 0 0)), (4, .one (.pt 2 0 0 0)), (16, .ag (qa831 p1)), (17, .ag (qa832 p2))] (c_value_compareSize _ _ _ c10) (zg [2, 3, 4] 1 [2,3,4,19] ?_)
   refine zd (hK9 _ _ (zC h (fun b11 h => ?_) (fun b11 h => ?_)))
   ·obtain ⟨r4, c12, h⟩ := zB h
    refine zw 3 [(22, .ag (qa831 p1)), (21, .ag (qa865 r4)), (20, .ag (qa832 p2)), (2, .one (.pt 0 0 0 0)), (3, .one (.pt 1 0 0 0)), (4, .one (.pt 2 0 0 0)), (19, vb (decide (r3 < (0 : Int))))] ?_ ?_
    ·refine zyg 1 ?_
     refine DX.cal 122 [.ag (qa832 p2)] (.ag (qa865 r4)) [(21, .ag (qa865 r4)), (20, .ag (qa832 p2)), (2, .one (.pt 0 0 0 0)), (3, .one (.pt 1 0 0 0)), (4, .one (.pt 2 0 0 0)), (19, vb (decide (r3 < (0 : Int))))] (by kernel_rfl) (c_value_wide_negated _ _ c12) rfl rfl (by kernel_rfl) ?_
     exact zyg 1 zyd
    exact zg [2, 3, 4] 2 [2,3,4] (zd (hJ1 r4.neg r4.size.1 r4.size.2.1 r4.size.2.2.1 r4.size.2.2.2 p1.neg p1.size.1 p1.size.2.1 p1.size.2.2.1 p1.size.2.2.2 h _ _ (zk [2,3,4])))
   ·exact zs (hJ1 p1.neg p1.size.1 p1.size.2.1 p1.size.2.2.1 p1.size.2.2.2 p2.neg p2.size.1 p2.size.2.1 p2.size.2.2.1 p2.size.2.2.2 h _ _ (zk [2,3,4]))

theorem c_value_wide_plus : ∀ (k0 : Nat) (p1 : GWide) (p2 : GWide) (r : GWide), value_wide_plus k0 p1 p2 = some r → PC Tryd.prog 97 [.ag (qa877 p1), .ag (qa878 p2)] (.ag [cb r.neg, ck .u64 r.size.1, ck .u64 r.size.2.1, ck .u64 r.size.2.2.1, ck .u64 r.size.2.2.2])
 | 0, _, _, r, h => by rw [value_wide_plus.eq_1] at h; cases h
 | k0 + 1, p1, p2, r, h => by
  rw [value_wide_plus.eq_2] at h
  refine zF 37 Tryd.f97 (zq fun K1 hK1 => zr (zg [2, 4] 3 [2,3,4] (zd (hK1 _ _ (zq fun K2 hK2 => zq fun K3 hK3 => ?_)))))
  refine zr (zu [2, 4] 5 [2,3,4,11] [(qa880 p2)] (zd (hK3 _ _ (zC h (fun b4 h => ?_) (fun b4 h => ?_)))))
  ·refine zq fun K5 hK5 => ?_
   obtain ⟨r1, c6, h⟩ := zB h
   obtain ⟨r2, c7, h⟩ := zB h
   refine zw 3 [(14, .ag (qa881 r1)), (13, .ag (qa878 p2)), (12, .ag (qa877 p1)), (2, .one (.pt 0 0 0 0)), (3, .one (.pv (.rp [(qa880 p2)] 0 0))), (4, .one (.pt 1 0 0 0)), (11, vb (!(p1.neg == p2.neg)))] ?_ ?_
   ·refine zyv 2 [(qa880 p2)] [(13, .ag (qa878 p2)), (12, .ag (qa877 p1)), (2, .one (.pt 0 0 0 0)), (3, .one (.pv (.rp [(qa880 p2)] 0 0))), (4, .one (.pt 1 0 0 0)), (11, vb (!(p1.neg == p2.neg)))] ?_
    exact zya (c_value_wide_negated _ _ c6) zyd
   refine zl 107 [.ag (qa877 p1), .ag (qa881 r1)] (.ag (qa882 r2)) [(15, .ag (qa882 r2)), (14, .ag (qa881 r1)), (13, .ag (qa878 p2)), (12, .ag (qa877 p1)), (2, .one (.pt 0 0 0 0)), (3, .one (.pv (.rp [(qa880 p2)] 0 0))), (4, .one (.pt 1 0 0 0)), (11, vb (!(p1.neg == p2.neg)))] (c_value_wide_minus k0 _ _ _ c7) ?_
   refine zg [2, 4] 1 [4] (zd (hK5 _ _ (ze ?_)))
   obtain rfl := Option.some.inj h
   exact zf [.ag (qa882 r2)] (.ag (.cons (.rfl _ rfl) (.cons (.rfl _ rfl) (.cons (.rfl _ rfl) (.cons (.rfl _ rfl) (.cons (.rfl _ rfl) .nil))))))
  ·refine zs (hK2 _ _ (zq fun K8 hK8 => zr (zg [2, 4] 1 [2,3,4,5] (zd (hK8 _ _ (zq fun K9 hK9 => ?_))))))
   refine zq fun K10 hK10 => zr (zv [2, 4] 1 [2,3,4,5,16] [] [(2, .one (.pt 0 0 0 0)), (3, .one (.pv (.rp [(qa880 p2)] 0 0))), (4, .one (.pt 1 0 0 0)), (5, vk .u64 (0 : Int)), (16, vi (0 : Int))] [.box (qa877 p1), .box qa883] (zd (hK10 _ _ (zb 0 ?_))))
   refine XW.rounds' 5 (x := cd Tryd.f97 [1,1,1,0,1,0,0]) (by kernel_rfl) fun Q1 hQ1 => XR.one (zq fun K11 hK11 => zr (zg [2, 4] 1 [2,3,4,5,16,17] (zd (hK11 _ _ (zq fun K12 hK12 => ?_)))))
   refine zc true (fun _ => ?_) (fun hx => by cases hx)
   refine zs (hK12 _ _ (zq fun K13 hK13 => zb 1 (zq fun K14 hK14 => zr (zv [2, 4] 2 [2,3,4,5,6,16] [] [(2, .one (.pt 0 0 0 0)), (3, .one (.pv (.rp [(qa880 p2)] 0 0))), (4, .one (.pt 1 0 0 0)), (5, vk .u64 (0 : Int)), (6, vi (0 : Int)), (16, vi (0 : Int))] [.box (qa877 p1), .box qa883] (zd ?_)))))
   refine hK14 _ _ ?_
   obtain ⟨g15, h⟩ := zG h
   refine XW.drwG 17 [2] [([], []), ([], []), ([0], []), ([0], []), ([0], []), ([], []), ([], []), ([], []), ([], []), ([], []), ([], []), ([], []), ([], []), ([], []), ([0], []), ([0], []), ([0], [0])] (qa894 p1 p2) [.box (qa884 p1 p2), .box qa883] (by kernel_rfl) (by kernel_rfl) ?_ ?_
   ·refine GY.go 10 [(qa880 p2)] [(29, vk .u64 (0 : Int)), (28, vk .u64 p2.size.1), (27, .one (.pv (.rp [(qa880 p2)] 0 1))), (26, .one (.pv (.rp [(qa880 p2)] 0 1))), (25, vi (0 : Int)), (24, vk .u64 p1.size.1), (23, .one (.pt 0 0 0 1)), (22, .one (.pt 0 0 0 1)), (21, vi (0 : Int)), (20, vi (0 : Int)), (2, .one (.pt 0 0 0 0)), (3, .one (.pv (.rp [(qa880 p2)] 0 0))), (4, .one (.pt 1 0 0 0)), (5, vk .u64 (0 : Int)), (6, vi (0 : Int)), (16, vi (0 : Int))] [0 ≤ (0 : Int) ∧ (0 : Int) < 4, 0 ≤ (0 : Int) ∧ (0 : Int) < 4, ([(qa880 p2)] : List (List PV))[0]? = some (qa880 p2)] (by kernel_rfl) (⟨by decide, by decide, rfl, trivial⟩) ?_
    refine GY.ext 121 [.int .u64 p1.size.1, .int .u64 p2.size.1, .int .u64 (0 : Int)] [.int .u64 ((p1.size.1 + p2.size.1 + (0 : Int)) % 18446744073709551616), .int .u64 ((p1.size.1 + p2.size.1 + (0 : Int)) / 18446744073709551616)] [(30, .tp [vk .u64 ((p1.size.1 + p2.size.1 + (0 : Int)) % 18446744073709551616), vk .u64 ((p1.size.1 + p2.size.1 + (0 : Int)) / 18446744073709551616)]), (29, vk .u64 (0 : Int)), (28, vk .u64 p2.size.1), (27, .one (.pv (.rp [(qa880 p2)] 0 1))), (26, .one (.pv (.rp [(qa880 p2)] 0 1))), (25, vi (0 : Int)), (24, vk .u64 p1.size.1), (23, .one (.pt 0 0 0 1)), (22, .one (.pt 0 0 0 1)), (21, vi (0 : Int)), (20, vi (0 : Int)), (2, .one (.pt 0 0 0 0)), (3, .one (.pv (.rp [(qa880 p2)] 0 0))), (4, .one (.pt 1 0 0 0)), (5, vk .u64 (0 : Int)), (6, vi (0 : Int)), (16, vi (0 : Int))] [] (by kernel_rfl) (by kernel_rfl) (ext_Add64 (fn := Tryd.f121) (by kernel_rfl) (by kernel_rfl) (by kernel_rfl) (by kernel_rfl) (by kernel_rfl) g15.1 g15.2.1 g15.2.2.1 g15.2.2.2) rfl (by kernel_rfl) (by kernel_rfl) (by kernel_rfl) ?_
    refine GY.go 5 [] (qa894 p1 p2) [0 ≤ (0 : Int) ∧ (0 : Int) < 4] (by kernel_rfl) (⟨by decide, trivial⟩) ?_
    refine GY.wr [] (qa894 p1 p2) [0] [.box (qa884 p1 p2), .box qa883] [] (by kernel_rfl) (by kernel_rfl) trivial ?_
    exact GY.done (by kernel_rfl) (by kernel_rfl)
   refine zg [2, 4] 1 [2,3,4,5,16] (zd (hK13 _ _ (zr ?_)))
   refine zv [2, 4] 2 [2,3,4,5,16] [] [(2, .one (.pt 0 0 0 0)), (3, .one (.pv (.rp [(qa880 p2)] 0 0))), (4, .one (.pt 1 0 0 0)), (5, vk .u64 ((p1.size.1 + p2.size.1 + (0 : Int)) / 18446744073709551616)), (16, vi (1 : Int))] [.box (qa884 p1 p2), .box qa883] ?_
   refine zd (XR.one (zq fun K16 hK16 => zr (zg [2, 4] 1 [2,3,4,5,16,17] (zd (hK16 _ _ (zq fun K17 hK17 => ?_))))))
   refine zc true (fun _ => ?_) (fun hx => by cases hx)
   refine zs (hK17 _ _ (zq fun K18 hK18 => zb 1 (zq fun K19 hK19 => zr ?_)))
   refine zv [2, 4] 2 [2,3,4,5,6,16] [] [(2, .one (.pt 0 0 0 0)), (3, .one (.pv (.rp [(qa880 p2)] 0 0))), (4, .one (.pt 1 0 0 0)), (5, vk .u64 ((p1.size.1 + p2.size.1 + (0 : Int)) / 18446744073709551616)), (6, vi (1 : Int)), (16, vi (1 : Int))] [.box (qa884 p1 p2), .box qa883] ?_
   refine zd (hK19 _ _ ?_)
   obtain ⟨g20, h⟩ := zG h
   obtain ⟨y1, hy21, h⟩ := zB h
   obtain ⟨y2, hy22, h⟩ := zB h
   refine XW.drwG 17 [2] [([], []), ([], []), ([0], []), ([0], []), ([0], []), ([], []), ([], []), ([], []), ([], []), ([], []), ([], []), ([], []), ([], []), ([], []), ([0], []), ([0], []), ([0], [0])] (qa900 p1 p2 y1 y2) [.box (qa885 p1 p2 y1), .box qa883] (by kernel_rfl) (by kernel_rfl) ?_ ?_
   ·refine GY.go 10 [(qa880 p2)] [(29, vk .u64 ((p1.size.1 + p2.size.1 + (0 : Int)) / 18446744073709551616)), (28, vk .u64 p2.size.2.1), (27, .one (.pv (.rp [(qa880 p2)] 0 2))), (26, .one (.pv (.rp [(qa880 p2)] 0 1))), (25, vi (1 : Int)), (24, vk .u64 p1.size.2.1), (23, .one (.pt 0 0 0 2)), (22, .one (.pt 0 0 0 1)), (21, vi (1 : Int)), (20, vi (1 : Int)), (2, .one (.pt 0 0 0 0)), (3, .one (.pv (.rp [(qa880 p2)] 0 0))), (4, .one (.pt 1 0 0 0)), (5, vk .u64 ((p1.size.1 + p2.size.1 + (0 : Int)) / 18446744073709551616)), (6, vi (1 : Int)), (16, vi (1 : Int))] [0 ≤ (1 : Int) ∧ (1 : Int) < 4, 0 ≤ (1 : Int) ∧ (1 : Int) < 4, ([(qa880 p2)] : List (List PV))[0]? = some (qa880 p2)] (by kernel_rfl) (⟨by decide, by decide, rfl, trivial⟩) ?_
    refine GY.ext 121 [.int .u64 p1.size.2.1, .int .u64 p2.size.2.1, .int .u64 ((p1.size.1 + p2.size.1 + (0 : Int)) / 18446744073709551616)] [.int .u64 ((p1.size.2.1 + p2.size.2.1 + ((p1.size.1 + p2.size.1 + (0 : Int)) / 18446744073709551616)) % 18446744073709551616), .int .u64 ((p1.size.2.1 + p2.size.2.1 + ((p1.size.1 + p2.size.1 + (0 : Int)) / 18446744073709551616)) / 18446744073709551616)] [(30, .tp [vk .u64 ((p1.size.2.1 + p2.size.2.1 + ((p1.size.1 + p2.size.1 + (0 : Int)) / 18446744073709551616)) % 18446744073709551616), vk .u64 ((p1.size.2.1 + p2.size.2.1 + ((p1.size.1 + p2.size.1 + (0 : Int)) / 18446744073709551616)) / 18446744073709551616)]), (29, vk .u64 ((p1.size.1 + p2.size.1 + (0 : Int)) / 18446744073709551616)), (28, vk .u64 p2.size.2.1), (27, .one (.pv (.rp [(qa880 p2)] 0 2))), (26, .one (.pv (.rp [(qa880 p2)] 0 1))), (25, vi (1 : Int)), (24, vk .u64 p1.size.2.1), (23, .one (.pt 0 0 0 2)), (22, .one (.pt 0 0 0 1)), (21, vi (1 : Int)), (20, vi (1 : Int)), (2, .one (.pt 0 0 0 0)), (3, .one (.pv (.rp [(qa880 p2)] 0 0))), (4, .one (.pt 1 0 0 0)), (5, vk .u64 ((p1.size.1 + p2.size.1 + (0 : Int)) / 18446744073709551616)), (6, vi (1 : Int)), (16, vi (1 : Int))] [] (by kernel_rfl) (by kernel_rfl) (ext_Add64 (fn := Tryd.f121) (by kernel_rfl) (by kernel_rfl) (by kernel_rfl) (by kernel_rfl) (by kernel_rfl) g20.1 g20.2.1 g20.2.2.1 g20.2.2.2) rfl (by kernel_rfl) (by kernel_rfl) (by kernel_rfl) ?_
    refine zgv 2 [] [(31, vk .u64 ((p1.size.2.1 + p2.size.2.1 + ((p1.size.1 + p2.size.1 + (0 : Int)) / 18446744073709551616)) % 18446744073709551616)), (19, .tp [vk .u64 ((p1.size.2.1 + p2.size.2.1 + ((p1.size.1 + p2.size.1 + (0 : Int)) / 18446744073709551616)) % 18446744073709551616), vk .u64 ((p1.size.2.1 + p2.size.2.1 + ((p1.size.1 + p2.size.1 + (0 : Int)) / 18446744073709551616)) / 18446744073709551616)]), (30, .tp [vk .u64 ((p1.size.2.1 + p2.size.2.1 + ((p1.size.1 + p2.size.1 + (0 : Int)) / 18446744073709551616)) % 18446744073709551616), vk .u64 ((p1.size.2.1 + p2.size.2.1 + ((p1.size.1 + p2.size.1 + (0 : Int)) / 18446744073709551616)) / 18446744073709551616)]), (29, vk .u64 ((p1.size.1 + p2.size.1 + (0 : Int)) / 18446744073709551616)), (28, vk .u64 p2.size.2.1), (27, .one (.pv (.rp [[.s (.bool p2.neg), .s (.int .u64 p2.size.1), .s (.int .u64 p2.size.2.1), .s (.int .u64 p2.size.2.2.1), .s (.int .u64 p2.size.2.2.2)]] 0 2))), (26, .one (.pv (.rp [[.s (.bool p2.neg), .s (.int .u64 p2.size.1), .s (.int .u64 p2.size.2.1), .s (.int .u64 p2.size.2.2.1), .s (.int .u64 p2.size.2.2.2)]] 0 1))), (25, vi (1 : Int)), (24, vk .u64 p1.size.2.1), (23, .one (.pt 0 0 0 2)), (22, .one (.pt 0 0 0 1)), (21, vi (1 : Int)), (20, vi (1 : Int)), (2, .one (.pt 0 0 0 0)), (3, .one (.pv (.rp [[.s (.bool p2.neg), .s (.int .u64 p2.size.1), .s (.int .u64 p2.size.2.1), .s (.int .u64 p2.size.2.2.1), .s (.int .u64 p2.size.2.2.2)]] 0 0))), (4, .one (.pt 1 0 0 0)), (5, vk .u64 ((p1.size.1 + p2.size.1 + (0 : Int)) / 18446744073709551616)), (6, vi (1 : Int)), (16, vi (1 : Int))] ?_
    rw [show ((p1.size.2.1 + p2.size.2.1 + ((p1.size.1 + p2.size.1 + (0 : Int)) / 18446744073709551616)) % 18446744073709551616) = y1 from Option.some.inj hy21]
    refine zgv 1 [] [(32, vk .u64 ((p1.size.2.1 + p2.size.2.1 + ((p1.size.1 + p2.size.1 + (0 : Int)) / 18446744073709551616)) / 18446744073709551616)), (31, vk .u64 y1), (19, .tp [vk .u64 y1, vk .u64 ((p1.size.2.1 + p2.size.2.1 + ((p1.size.1 + p2.size.1 + (0 : Int)) / 18446744073709551616)) / 18446744073709551616)]), (30, .tp [vk .u64 y1, vk .u64 ((p1.size.2.1 + p2.size.2.1 + ((p1.size.1 + p2.size.1 + (0 : Int)) / 18446744073709551616)) / 18446744073709551616)]), (29, vk .u64 ((p1.size.1 + p2.size.1 + (0 : Int)) / 18446744073709551616)), (28, vk .u64 p2.size.2.1), (27, .one (.pv (.rp [[.s (.bool p2.neg), .s (.int .u64 p2.size.1), .s (.int .u64 p2.size.2.1), .s (.int .u64 p2.size.2.2.1), .s (.int .u64 p2.size.2.2.2)]] 0 2))), (26, .one (.pv (.rp [[.s (.bool p2.neg), .s (.int .u64 p2.size.1), .s (.int .u64 p2.size.2.1), .s (.int .u64 p2.size.2.2.1), .s (.int .u64 p2.size.2.2.2)]] 0 1))), (25, vi (1 : Int)), (24, vk .u64 p1.size.2.1), (23, .one (.pt 0 0 0 2)), (22, .one (.pt 0 0 0 1)), (21, vi (1 : Int)), (20, vi (1 : Int)), (2, .one (.pt 0 0 0 0)), (3, .one (.pv (.rp [[.s (.bool p2.neg), .s (.int .u64 p2.size.1), .s (.int .u64 p2.size.2.1), .s (.int .u64 p2.size.2.2.1), .s (.int .u64 p2.size.2.2.2)]] 0 0))), (4, .one (.pt 1 0 0 0)), (5, vk .u64 ((p1.size.1 + p2.size.1 + (0 : Int)) / 18446744073709551616)), (6, vi (1 : Int)), (16, vi (1 : Int))] ?_
    rw [show ((p1.size.2.1 + p2.size.2.1 + ((p1.size.1 + p2.size.1 + (0 : Int)) / 18446744073709551616)) / 18446744073709551616) = y2 from Option.some.inj hy22]
    refine GY.go 2 [] (qa900 p1 p2 y1 y2) [0 ≤ (1 : Int) ∧ (1 : Int) < 4] (by kernel_rfl) (⟨by decide, trivial⟩) ?_
    refine GY.wr [] (qa900 p1 p2 y1 y2) [0] [.box (qa885 p1 p2 y1), .box qa883] [] (by kernel_rfl) (by kernel_rfl) trivial ?_
    exact GY.done (by kernel_rfl) (by kernel_rfl)
   refine zg [2, 4] 1 [2,3,4,5,16] (zd (hK18 _ _ (zr (zv [2, 4] 2 [2,3,4,5,16] [] [(2, .one (.pt 0 0 0 0)), (3, .one (.pv (.rp [(qa880 p2)] 0 0))), (4, .one (.pt 1 0 0 0)), (5, vk .u64 y2), (16, vi (2 : Int))] [.box (qa885 p1 p2 y1), .box qa883] (zd (XR.one ?_))))))
   refine zq fun K23 hK23 => zr (zg [2, 4] 1 [2,3,4,5,16,17] (zd (hK23 _ _ (zq fun K24 hK24 => zc true (fun _ => ?_) (fun hx => by cases hx)))))
   refine zs (hK24 _ _ (zq fun K25 hK25 => zb 1 (zq fun K26 hK26 => zr ?_)))
   refine zv [2, 4] 2 [2,3,4,5,6,16] [] [(2, .one (.pt 0 0 0 0)), (3, .one (.pv (.rp [(qa880 p2)] 0 0))), (4, .one (.pt 1 0 0 0)), (5, vk .u64 y2), (6, vi (2 : Int)), (16, vi (2 : Int))] [.box (qa885 p1 p2 y1), .box qa883] (zd (hK26 _ _ ?_))
   obtain ⟨g27, h⟩ := zG h
   refine XW.drwG 17 [2] [([], []), ([], []), ([0], []), ([0], []), ([0], []), ([], []), ([], []), ([], []), ([], []), ([], []), ([], []), ([], []), ([], []), ([], []), ([0], []), ([0], []), ([0], [0])] (qa906 p1 p2 y2) [.box (qa886 p1 p2 y1 y2), .box qa883] (by kernel_rfl) (by kernel_rfl) ?_ ?_
   ·refine GY.go 10 [(qa880 p2)] [(29, vk .u64 y2), (28, vk .u64 p2.size.2.2.1), (27, .one (.pv (.rp [(qa880 p2)] 0 3))), (26, .one (.pv (.rp [(qa880 p2)] 0 1))), (25, vi (2 : Int)), (24, vk .u64 p1.size.2.2.1), (23, .one (.pt 0 0 0 3)), (22, .one (.pt 0 0 0 1)), (21, vi (2 : Int)), (20, vi (2 : Int)), (2, .one (.pt 0 0 0 0)), (3, .one (.pv (.rp [(qa880 p2)] 0 0))), (4, .one (.pt 1 0 0 0)), (5, vk .u64 y2), (6, vi (2 : Int)), (16, vi (2 : Int))] [0 ≤ (2 : Int) ∧ (2 : Int) < 4, 0 ≤ (2 : Int) ∧ (2 : Int) < 4, ([(qa880 p2)] : List (List PV))[0]? = some (qa880 p2)] (by kernel_rfl) (⟨by decide, by decide, rfl, trivial⟩) ?_
    refine GY.ext 121 [.int .u64 p1.size.2.2.1, .int .u64 p2.size.2.2.1, .int .u64 y2] [.int .u64 ((p1.size.2.2.1 + p2.size.2.2.1 + y2) % 18446744073709551616), .int .u64 ((p1.size.2.2.1 + p2.size.2.2.1 + y2) / 18446744073709551616)] [(30, .tp [vk .u64 ((p1.size.2.2.1 + p2.size.2.2.1 + y2) % 18446744073709551616), vk .u64 ((p1.size.2.2.1 + p2.size.2.2.1 + y2) / 18446744073709551616)]), (29, vk .u64 y2), (28, vk .u64 p2.size.2.2.1), (27, .one (.pv (.rp [(qa880 p2)] 0 3))), (26, .one (.pv (.rp [(qa880 p2)] 0 1))), (25, vi (2 : Int)), (24, vk .u64 p1.size.2.2.1), (23, .one (.pt 0 0 0 3)), (22, .one (.pt 0 0 0 1)), (21, vi (2 : Int)), (20, vi (2 : Int)), (2, .one (.pt 0 0 0 0)), (3, .one (.pv (.rp [(qa880 p2)] 0 0))), (4, .one (.pt 1 0 0 0)), (5, vk .u64 y2), (6, vi (2 : Int)), (16, vi (2 : Int))] [] (by kernel_rfl) (by kernel_rfl) (ext_Add64 (fn := Tryd.f121) (by kernel_rfl) (by kernel_rfl) (by kernel_rfl) (by kernel_rfl) (by kernel_rfl) g27.1 g27.2.1 g27.2.2.1 g27.2.2.2) rfl (by kernel_rfl) (by kernel_rfl) (by kernel_rfl) ?_
    refine GY.go 5 [] (qa906 p1 p2 y2) [0 ≤ (2 : Int) ∧ (2 : Int) < 4] (by kernel_rfl) (⟨by decide, trivial⟩) ?_
    refine GY.wr [] (qa906 p1 p2 y2) [0] [.box (qa886 p1 p2 y1 y2), .box qa883] [] (by kernel_rfl) (by kernel_rfl) trivial ?_
    exact GY.done (by kernel_rfl) (by kernel_rfl)
   refine zg [2, 4] 1 [2,3,4,5,16] (zd (hK25 _ _ (zr ?_)))
   refine zv [2, 4] 2 [2,3,4,5,16] [] [(2, .one (.pt 0 0 0 0)), (3, .one (.pv (.rp [(qa880 p2)] 0 0))), (4, .one (.pt 1 0 0 0)), (5, vk .u64 ((p1.size.2.2.1 + p2.size.2.2.1 + y2) / 18446744073709551616)), (16, vi (3 : Int))] [.box (qa886 p1 p2 y1 y2), .box qa883] ?_
   refine zd (XR.one (zq fun K28 hK28 => zr (zg [2, 4] 1 [2,3,4,5,16,17] (zd (hK28 _ _ (zq fun K29 hK29 => ?_))))))
   refine zc true (fun _ => ?_) (fun hx => by cases hx)
   refine zs (hK29 _ _ (zq fun K30 hK30 => zb 1 (zq fun K31 hK31 => zr ?_)))
   refine zv [2, 4] 2 [2,3,4,5,6,16] [] [(2, .one (.pt 0 0 0 0)), (3, .one (.pv (.rp [(qa880 p2)] 0 0))), (4, .one (.pt 1 0 0 0)), (5, vk .u64 ((p1.size.2.2.1 + p2.size.2.2.1 + y2) / 18446744073709551616)), (6, vi (3 : Int)), (16, vi (3 : Int))] [.box (qa886 p1 p2 y1 y2), .box qa883] ?_
   refine zd (hK31 _ _ ?_)
   obtain ⟨g32, h⟩ := zG h
   obtain ⟨y3, hy33, h⟩ := zB h
   obtain ⟨y4, hy34, h⟩ := zB h
   refine XW.drwG 17 [2] [([], []), ([], []), ([0], []), ([0], []), ([0], []), ([], []), ([], []), ([], []), ([], []), ([], []), ([], []), ([], []), ([], []), ([], []), ([0], []), ([0], []), ([0], [0])] (qa912 p1 p2 y2 y3 y4) [.box (qa887 p1 p2 y1 y2 y3), .box qa883] (by kernel_rfl) (by kernel_rfl) ?_ ?_
   ·refine GY.go 10 [(qa880 p2)] [(29, vk .u64 ((p1.size.2.2.1 + p2.size.2.2.1 + y2) / 18446744073709551616)), (28, vk .u64 p2.size.2.2.2), (27, .one (.pv (.rp [(qa880 p2)] 0 4))), (26, .one (.pv (.rp [(qa880 p2)] 0 1))), (25, vi (3 : Int)), (24, vk .u64 p1.size.2.2.2), (23, .one (.pt 0 0 0 4)), (22, .one (.pt 0 0 0 1)), (21, vi (3 : Int)), (20, vi (3 : Int)), (2, .one (.pt 0 0 0 0)), (3, .one (.pv (.rp [(qa880 p2)] 0 0))), (4, .one (.pt 1 0 0 0)), (5, vk .u64 ((p1.size.2.2.1 + p2.size.2.2.1 + y2) / 18446744073709551616)), (6, vi (3 : Int)), (16, vi (3 : Int))] [0 ≤ (3 : Int) ∧ (3 : Int) < 4, 0 ≤ (3 : Int) ∧ (3 : Int) < 4, ([(qa880 p2)] : List (List PV))[0]? = some (qa880 p2)] (by kernel_rfl) (⟨by decide, by decide, rfl, trivial⟩) ?_
    refine GY.ext 121 [.int .u64 p1.size.2.2.2, .int .u64 p2.size.2.2.2, .int .u64 ((p1.size.2.2.1 + p2.size.2.2.1 + y2) / 18446744073709551616)] [.int .u64 ((p1.size.2.2.2 + p2.size.2.2.2 + ((p1.size.2.2.1 + p2.size.2.2.1 + y2) / 18446744073709551616)) % 18446744073709551616), .int .u64 ((p1.size.2.2.2 + p2.size.2.2.2 + ((p1.size.2.2.1 + p2.size.2.2.1 + y2) / 18446744073709551616)) / 18446744073709551616)] [(30, .tp [vk .u64 ((p1.size.2.2.2 + p2.size.2.2.2 + ((p1.size.2.2.1 + p2.size.2.2.1 + y2) / 18446744073709551616)) % 18446744073709551616), vk .u64 ((p1.size.2.2.2 + p2.size.2.2.2 + ((p1.size.2.2.1 + p2.size.2.2.1 + y2) / 18446744073709551616)) / 18446744073709551616)]), (29, vk .u64 ((p1.size.2.2.1 + p2.size.2.2.1 + y2) / 18446744073709551616)), (28, vk .u64 p2.size.2.2.2), (27, .one (.pv (.rp [(qa880 p2)] 0 4))), (26, .one (.pv (.rp [(qa880 p2)] 0 1))), (25, vi (3 : Int)), (24, vk .u64 p1.size.2.2.2), (23, .one (.pt 0 0 0 4)), (22, .one (.pt 0 0 0 1)), (21, vi (3 : Int)), (20, vi (3 : Int)), (2, .one (.pt 0 0 0 0)), (3, .one (.pv (.rp [(qa880 p2)] 0 0))), (4, .one (.pt 1 0 0 0)), (5, vk .u64 ((p1.size.2.2.1 + p2.size.2.2.1 + y2) / 18446744073709551616)), (6, vi (3 : Int)), (16, vi (3 : Int))] [] (by kernel_rfl) (by kernel_rfl) (ext_Add64 (fn := Tryd.f121) (by kernel_rfl) (by kernel_rfl) (by kernel_rfl) (by kernel_rfl) (by kernel_rfl) g32.1 g32.2.1 g32.2.2.1 g32.2.2.2) rfl (by kernel_rfl) (by kernel_rfl) (by kernel_rfl) ?_
    refine zgv 2 [] [(31, vk .u64 ((p1.size.2.2.2 + p2.size.2.2.2 + ((p1.size.2.2.1 + p2.size.2.2.1 + y2) / 18446744073709551616)) % 18446744073709551616)), (19, .tp [vk .u64 ((p1.size.2.2.2 + p2.size.2.2.2 + ((p1.size.2.2.1 + p2.size.2.2.1 + y2) / 18446744073709551616)) % 18446744073709551616), vk .u64 ((p1.size.2.2.2 + p2.size.2.2.2 + ((p1.size.2.2.1 + p2.size.2.2.1 + y2) / 18446744073709551616)) / 18446744073709551616)]), (30, .tp [vk .u64 ((p1.size.2.2.2 + p2.size.2.2.2 + ((p1.size.2.2.1 + p2.size.2.2.1 + y2) / 18446744073709551616)) % 18446744073709551616), vk .u64 ((p1.size.2.2.2 + p2.size.2.2.2 + ((p1.size.2.2.1 + p2.size.2.2.1 + y2) / 18446744073709551616)) / 18446744073709551616)]), (29, vk .u64 ((p1.size.2.2.1 + p2.size.2.2.1 + y2) / 18446744073709551616)), (28, vk .u64 p2.size.2.2.2), (27, .one (.pv (.rp [[.s (.bool p2.neg), .s (.int .u64 p2.size.1), .s (.int .u64 p2.size.2.1), .s (.int .u64 p2.size.2.2.1), .s (.int .u64 p2.size.2.2.2)]] 0 4))), (26, .one (.pv (.rp [[.s (.bool p2.neg), .s (.int .u64 p2.size.1), .s (.int .u64 p2.size.2.1), .s (.int .u64 p2.size.2.2.1), .s (.int .u64 p2.size.2.2.2)]] 0 1))), (25, vi (3 : Int)), (24, vk .u64 p1.size.2.2.2), (23, .one (.pt 0 0 0 4)), (22, .one (.pt 0 0 0 1)), (21, vi (3 : Int)), (20, vi (3 : Int)), (2, .one (.pt 0 0 0 0)), (3, .one (.pv (.rp [[.s (.bool p2.neg), .s (.int .u64 p2.size.1), .s (.int .u64 p2.size.2.1), .s (.int .u64 p2.size.2.2.1), .s (.int .u64 p2.size.2.2.2)]] 0 0))), (4, .one (.pt 1 0 0 0)), (5, vk .u64 ((p1.size.2.2.1 + p2.size.2.2.1 + y2) / 18446744073709551616)), (6, vi (3 : Int)), (16, vi (3 : Int))] ?_
    rw [show ((p1.size.2.2.2 + p2.size.2.2.2 + ((p1.size.2.2.1 + p2.size.2.2.1 + y2) / 18446744073709551616)) % 18446744073709551616) = y3 from Option.some.inj hy33]
    refine zgv 1 [] [(32, vk .u64 ((p1.size.2.2.2 + p2.size.2.2.2 + ((p1.size.2.2.1 + p2.size.2.2.1 + y2) / 18446744073709551616)) / 18446744073709551616)), (31, vk .u64 y3), (19, .tp [vk .u64 y3, vk .u64 ((p1.size.2.2.2 + p2.size.2.2.2 + ((p1.size.2.2.1 + p2.size.2.2.1 + y2) / 18446744073709551616)) / 18446744073709551616)]), (30, .tp [vk .u64 y3, vk .u64 ((p1.size.2.2.2 + p2.size.2.2.2 + ((p1.size.2.2.1 + p2.size.2.2.1 + y2) / 18446744073709551616)) / 18446744073709551616)]), (29, vk .u64 ((p1.size.2.2.1 + p2.size.2.2.1 + y2) / 18446744073709551616)), (28, vk .u64 p2.size.2.2.2), (27, .one (.pv (.rp [[.s (.bool p2.neg), .s (.int .u64 p2.size.1), .s (.int .u64 p2.size.2.1), .s (.int .u64 p2.size.2.2.1), .s (.int .u64 p2.size.2.2.2)]] 0 4))), (26, .one (.pv (.rp [[.s (.bool p2.neg), .s (.int .u64 p2.size.1), .s (.int .u64 p2.size.2.1), .s (.int .u64 p2.size.2.2.1), .s (.int .u64 p2.size.2.2.2)]] 0 1))), (25, vi (3 : Int)), (24, vk .u64 p1.size.2.2.2), (23, .one (.pt 0 0 0 4)), (22, .one (.pt 0 0 0 1)), (21, vi (3 : Int)), (20, vi (3 : Int)), (2, .one (.pt 0 0 0 0)), (3, .one (.pv (.rp [[.s (.bool p2.neg), .s (.int .u64 p2.size.1), .s (.int .u64 p2.size.2.1), .s (.int .u64 p2.size.2.2.1), .s (.int .u64 p2.size.2.2.2)]] 0 0))), (4, .one (.pt 1 0 0 0)), (5, vk .u64 ((p1.size.2.2.1 + p2.size.2.2.1 + y2) / 18446744073709551616)), (6, vi (3 : Int)), (16, vi (3 : Int))] ?_
    rw [show ((p1.size.2.2.2 + p2.size.2.2.2 + ((p1.size.2.2.1 + p2.size.2.2.1 + y2) / 18446744073709551616)) / 18446744073709551616) = y4 from Option.some.inj hy34]
    refine GY.go 2 [] (qa912 p1 p2 y2 y3 y4) [0 ≤ (3 : Int) ∧ (3 : Int) < 4] (by kernel_rfl) (⟨by decide, trivial⟩) ?_
    refine GY.wr [] (qa912 p1 p2 y2 y3 y4) [0] [.box (qa887 p1 p2 y1 y2 y3), .box qa883] [] (by kernel_rfl) (by kernel_rfl) trivial ?_
    exact GY.done (by kernel_rfl) (by kernel_rfl)
   refine zg [2, 4] 1 [2,3,4,5,16] (zd (hK30 _ _ (zr ?_)))
   refine zv [2, 4] 2 [2,3,4,5,16] [] [(2, .one (.pt 0 0 0 0)), (3, .one (.pv (.rp [(qa880 p2)] 0 0))), (4, .one (.pt 1 0 0 0)), (5, vk .u64 y4), (16, vi (4 : Int))] [.box (qa887 p1 p2 y1 y2 y3), .box qa883] (zd (XR.one (zq fun K35 hK35 => ?_)))
   refine zr (zg [2, 4] 1 [2,3,4,5,16,17] (zd (hK35 _ _ (zq fun K36 hK36 => zc false (fun hx => by cases hx) (fun _ => ?_)))))
   refine zx 0 (hQ1 _ _ _ (hK9 _ _ (zq fun K37 hK37 => zr (zg [2, 4] 2 [4] (zd (hK37 _ _ ?_))))))
   refine ze ?_
   obtain rfl := Option.some.inj h
   exact zf [.ag (qa887 p1 p2 y1 y2 y3)] (.ag (.cons (.rfl _ rfl) (.cons (.rfl _ rfl) (.cons (.rfl _ rfl) (.cons (.rfl _ rfl) (.cons (.rfl _ rfl) .nil))))))

end

def value_wide_bytes_s (p1 : GWide) (p2 : (List Int)) : Option (Unit × (List Int)) :=
    bnd (value_whole (1 : Int)) fun r1 =>
    bnd (value_wide_times (GWide.mk r1.neg (r1.size.1, r1.size.2.1, r1.size.2.2.1, r1.size.2.2.2)) (9223372036854775808 : Int)) fun r2 =>
    bnd (value_wide_times (GWide.mk r2.neg (r2.size.1, r2.size.2.1, r2.size.2.2.1, r2.size.2.2.2)) (9223372036854775808 : Int)) fun r3 =>
    bnd (value_wide_times (GWide.mk r3.neg (r3.size.1, r3.size.2.1, r3.size.2.2.1, r3.size.2.2.2)) (2 : Int)) fun r4 =>
    bnd (value_wide_plus BIG (GWide.mk r4.neg (r4.size.1, r4.size.2.1, r4.size.2.2.1, r4.size.2.2.2)) (GWide.mk p1.neg (p1.size.1, p1.size.2.1, p1.size.2.2.1, p1.size.2.2.2))) fun r5 =>
    bnd (value_word_s r5.size.2.1 p2) fun r6 =>
    bnd (value_word_s r5.size.1 r6.2) fun r7 =>
    some ((), r7.2)

abbrev qa917 (p1 : GWide) : List CV := [cb p1.neg, ck .u64 p1.size.1, ck .u64 p1.size.2.1, ck .u64 p1.size.2.2.1, ck .u64 p1.size.2.2.2]
abbrev qa920 (p1 : GWide) : List PV := [.s (.bool p1.neg), .s (.int .u64 p1.size.1), .s (.int .u64 p1.size.2.1), .s (.int .u64 p1.size.2.2.1), .s (.int .u64 p1.size.2.2.2)]
abbrev qa921 (r5 : GWide) : List CV := [cb r5.neg, ck .u64 r5.size.1, ck .u64 r5.size.2.1, ck .u64 r5.size.2.2.1, ck .u64 r5.size.2.2.2]
abbrev qa922 (r4 : GWide) : List CV := [cb r4.neg, ck .u64 r4.size.1, ck .u64 r4.size.2.1, ck .u64 r4.size.2.2.1, ck .u64 r4.size.2.2.2]
abbrev qa923 (r3 : GWide) : List CV := [cb r3.neg, ck .u64 r3.size.1, ck .u64 r3.size.2.1, ck .u64 r3.size.2.2.1, ck .u64 r3.size.2.2.2]
abbrev qa924 (r2 : GWide) : List CV := [cb r2.neg, ck .u64 r2.size.1, ck .u64 r2.size.2.1, ck .u64 r2.size.2.2.1, ck .u64 r2.size.2.2.2]
abbrev qa925 (r1 : GWide) : List CV := [cb r1.neg, ck .u64 r1.size.1, ck .u64 r1.size.2.1, ck .u64 r1.size.2.2.1, ck .u64 r1.size.2.2.2]
abbrev qa926 : List CV := [cb false, ck .u64 (0 : Int), ck .u64 (0 : Int), ck .u64 (0 : Int), ck .u64 (0 : Int)]
abbrev qa938 (p1 : GWide) (p2 : (List Int)) (r1 : GWide) (r2 : GWide) (r3 : GWide) (r4 : GWide) (r5 : GWide) : Fr := [(5, .one (.pt 1 0 0 0)), (12, .ag (qa921 r5)), (11, .ag (qa917 p1)), (10, .ag (qa922 r4)), (9, .ag (qa923 r3)), (8, .ag (qa924 r2)), (7, .ag (qa925 r1)), (1, .one (.sl 0 1 0 p2.length)), (2, .one (.pv (.rp [(qa920 p1)] 0 0)))]

theorem c_value_wide_bytes_s (p1 : GWide) (p2 : (List Int)) (r : (Unit × (List Int))) (h : value_wide_bytes_s p1 p2 = some r) : MX Tryd.prog 88 [.ag (qa917 p1), .one (.sl 0 1 0 p2.length)] [.arr 1 ((eK .u8).els p2)] [0] (.one (.sl 0 1 0 r.2.length)) [.arr 1 ((eK .u8).els r.2)] := by
 unfold value_wide_bytes_s at h
 refine MX.of 1 1 rfl (n := 24) (fn := Tryd.f88) (c := cd Tryd.f88 []) (by kernel_rfl) (by kernel_rfl) (by kernel_rfl) (Nat.le_of_ble_eq_true rfl) rfl (zq fun K1 hK1 => zr (zv [5] 2 [1,2] [] [(1, .one (.sl 0 1 0 p2.length)), (2, .one (.pv (.rp [(qa920 p1)] 0 0)))] [.arr 1 ((eK .u8).els p2)] (zd (hK1 _ _ (zq fun K2 hK2 => ?_)))))
 obtain ⟨r1, c3, h⟩ := zB h
 obtain ⟨r2, c4, h⟩ := zB h
 obtain ⟨r3, c5, h⟩ := zB h
 obtain ⟨r4, c6, h⟩ := zB h
 obtain ⟨r5, c7, h⟩ := zB h
 refine XW.sub (Sub.dead 1) ?_
 refine XW.drwG 7 [1, 2] [([], []), ([], []), ([], []), ([], []), ([], []), ([], []), ([1], [1])] (qa938 p1 p2 r1 r2 r3 r4 r5) [.arr 1 ((eK .u8).els p2), .box qa926] (by kernel_rfl) (by kernel_rfl) ?_ ?_
 ·refine GY.cal 46 [vi (1 : Int)] (.ag (qa925 r1)) [(7, .ag (qa925 r1)), (1, .one (.sl 0 1 0 p2.length)), (2, .one (.pv (.rp [(qa920 p1)] 0 0)))] [] (by kernel_rfl) (by kernel_rfl) (c_value_whole _ _ c3) rfl rfl (by kernel_rfl) (by kernel_rfl) (by kernel_rfl) ?_
  refine GY.cal 96 [.ag (qa925 r1), vk .u64 (9223372036854775808 : Int)] (.ag (qa924 r2)) [(8, .ag (qa924 r2)), (7, .ag (qa925 r1)), (1, .one (.sl 0 1 0 p2.length)), (2, .one (.pv (.rp [(qa920 p1)] 0 0)))] [] (by kernel_rfl) (by kernel_rfl) (c_value_wide_times _ _ _ c4) rfl rfl (by kernel_rfl) (by kernel_rfl) (by kernel_rfl) ?_
  refine GY.cal 96 [.ag (qa924 r2), vk .u64 (9223372036854775808 : Int)] (.ag (qa923 r3)) [(9, .ag (qa923 r3)), (8, .ag (qa924 r2)), (7, .ag (qa925 r1)), (1, .one (.sl 0 1 0 p2.length)), (2, .one (.pv (.rp [(qa920 p1)] 0 0)))] [] (by kernel_rfl) (by kernel_rfl) (c_value_wide_times _ _ _ c5) rfl rfl (by kernel_rfl) (by kernel_rfl) (by kernel_rfl) ?_
  refine GY.cal 96 [.ag (qa923 r3), vk .u64 (2 : Int)] (.ag (qa922 r4)) [(10, .ag (qa922 r4)), (9, .ag (qa923 r3)), (8, .ag (qa924 r2)), (7, .ag (qa925 r1)), (1, .one (.sl 0 1 0 p2.length)), (2, .one (.pv (.rp [(qa920 p1)] 0 0)))] [] (by kernel_rfl) (by kernel_rfl) (c_value_wide_times _ _ _ c6) rfl rfl (by kernel_rfl) (by kernel_rfl) (by kernel_rfl) ?_
  refine zgv 1 [(qa920 p1)] [(11, .ag (qa917 p1)), (10, .ag (qa922 r4)), (9, .ag (qa923 r3)), (8, .ag (qa924 r2)), (7, .ag (qa925 r1)), (1, .one (.sl 0 1 0 p2.length)), (2, .one (.pv (.rp [(qa920 p1)] 0 0)))] ?_
  refine GY.cal 97 [.ag (qa922 r4), .ag (qa917 p1)] (.ag (qa921 r5)) [(12, .ag (qa921 r5)), (11, .ag (qa917 p1)), (10, .ag (qa922 r4)), (9, .ag (qa923 r3)), (8, .ag (qa924 r2)), (7, .ag (qa925 r1)), (1, .one (.sl 0 1 0 p2.length)), (2, .one (.pv (.rp [(qa920 p1)] 0 0)))] [] (by kernel_rfl) (by kernel_rfl) (c_value_wide_plus BIG _ _ _ c7) rfl rfl (by kernel_rfl) (by kernel_rfl) (by kernel_rfl) ?_
  refine GY.new true 1 [] (qa938 p1 p2 r1 r2 r3 r4 r5) [1] [.arr 1 ((eK .u8).els p2), .box qa926] [] (by kernel_rfl) (by kernel_rfl) trivial ?_
  exact GY.done (by kernel_rfl) (by kernel_rfl)
 refine zg [5] 1 [1,5] (zd (hK2 _ _ (zq fun K8 hK8 => zq fun K9 hK9 => zr (zg [5] 1 [1,5,6] (zd ?_)))))
 refine hK9 _ _ (zb 0 (XW.rounds' 3 (x := cd Tryd.f88 [1,1,0,1,0,0]) (by kernel_rfl) fun Q1 hQ1 => XR.one (zq fun K10 hK10 => zq fun K11 hK11 => zr (zv [5] 2 [1,5,6,14] [] [(1, .one (.sl 0 1 0 p2.length)), (5, .one (.pt 1 0 0 0)), (6, vi (1 : Int)), (14, vb true)] [.arr 1 ((eK .u8).els p2), .box (qa921 r5)] ?_))))
 refine zd (hK11 _ _ (zc true (fun _ => ?_) (fun hx => by cases hx)))
 refine zs (hK10 _ _ (zq fun K12 hK12 => zb 1 ?_))
 obtain ⟨r6, c13, h⟩ := zB h
 refine zr (zp [5] 5 [5,6,17,21] [] [(5, .one (.pt 1 0 0 0)), (6, vi (1 : Int)), (17, .one (.sl 0 1 0 p2.length)), (21, vk .u64 r5.size.2.1)] [.arr 1 ((eK .u8).els p2), .box (qa921 r5)] [0 ≤ (1 : Int) ∧ (1 : Int) < 4] (⟨by decide, trivial⟩) ?_)
 refine XO.calx 87 [.one (.sl 0 1 0 p2.length), vk .u64 r5.size.2.1] [.arr 1 ((eK .u8).els p2)] [.arr 1 ((eK .u8).els r6.2)] [0] (.one (.sl 0 1 0 r6.2.length)) [0] [0] [(22, .one (.sl 0 1 0 r6.2.length)), (5, .one (.pt 1 0 0 0)), (6, vi (1 : Int)), (17, .j), (21, vk .u64 r5.size.2.1)] [.arr 1 ((eK .u8).els r6.2), .box (qa921 r5)] (by kernel_rfl) (c_value_word_s _ _ _ c13) (by kernel_rfl) (by kernel_rfl) (by kernel_rfl) (by kernel_rfl) (by kernel_rfl) (by kernel_rfl) (by kernel_rfl) (zg [5] 1 [1,5,6] (zd ?_))
 refine hK12 _ _ (zr (zv [5] 3 [1,5,6] [] [(1, .one (.sl 0 1 0 r6.2.length)), (5, .one (.pt 1 0 0 0)), (6, vi (0 : Int))] [.arr 1 ((eK .u8).els r6.2), .box (qa921 r5)] (zd (XR.one (zq fun K14 hK14 => zq fun K15 hK15 => zr ?_)))))
 refine zg [5] 2 [1,5,6,14] (zd (hK15 _ _ (zc true (fun _ => ?_) (fun hx => by cases hx))))
 refine zs (hK14 _ _ (zq fun K16 hK16 => zb 1 ?_))
 obtain ⟨r7, c17, h⟩ := zB h
 refine zr (zp [5] 5 [5,6,17,21] [] [(5, .one (.pt 1 0 0 0)), (6, vi (0 : Int)), (17, .one (.sl 0 1 0 r6.2.length)), (21, vk .u64 r5.size.1)] [.arr 1 ((eK .u8).els r6.2), .box (qa921 r5)] [0 ≤ (0 : Int) ∧ (0 : Int) < 4] (⟨by decide, trivial⟩) ?_)
 refine XO.calx 87 [.one (.sl 0 1 0 r6.2.length), vk .u64 r5.size.1] [.arr 1 ((eK .u8).els r6.2)] [.arr 1 ((eK .u8).els r7.2)] [0] (.one (.sl 0 1 0 r7.2.length)) [0] [0] [(22, .one (.sl 0 1 0 r7.2.length)), (5, .one (.pt 1 0 0 0)), (6, vi (0 : Int)), (17, .j), (21, vk .u64 r5.size.1)] [.arr 1 ((eK .u8).els r7.2), .box (qa921 r5)] (by kernel_rfl) (c_value_word_s _ _ _ c17) (by kernel_rfl) (by kernel_rfl) (by kernel_rfl) (by kernel_rfl) (by kernel_rfl) (by kernel_rfl) (by kernel_rfl) (zg [5] 1 [1,5,6] (zd ?_))
 refine hK16 _ _ (zr (zv [5] 3 [1,5,6] [] [(1, .one (.sl 0 1 0 r7.2.length)), (5, .one (.pt 1 0 0 0)), (6, vi (-1 : Int))] [.arr 1 ((eK .u8).els r7.2), .box (qa921 r5)] (zd (XR.one (zq fun K18 hK18 => zq fun K19 hK19 => zr ?_)))))
 refine zg [5] 2 [1,5,6,14] (zd (hK19 _ _ (zc false (fun hx => by cases hx) (fun _ => ?_))))
 refine zx 0 (hQ1 _ _ _ (hK8 _ _ (zq fun K20 hK20 => zr (zv [5] 2 [4] [] [(4, .one (.sl 0 1 0 r7.2.length))] [.arr 1 ((eK .u8).els r7.2), .box (qa921 r5)] (zd (hK20 _ _ ?_))))))
 refine ze ?_
 obtain rfl := Option.some.inj h
 exact FinM.fin (.inr rfl) [] [.one (.sl 0 1 0 r7.2.length)] [] (by kernel_rfl) trivial (by kernel_rfl) (by kernel_rfl) (.one (.rfl _ rfl))

def value_key_s_j2 (l2 : List Int) : Option (Unit × (List Int)) :=
    grd (l2.length + 1 ≤ 4294967296) <|
    some ((), (l2 ++ [(0 : Int)]))

def value_key_s_l1 (q_value_key_s : GValue → (List Int) → Option (Unit × (List Int))) (p1 : GValue) : Nat → List Int → Int → Option (Unit × (List Int))
  | 0, _, _ => none
  | k1 + 1, l1, x2 =>
    ift (decide (x2 < (p1.items.length : Int)))
      (bnd (at? p1.items x2) fun e1 =>
       grd (l1.length + 1 ≤ 4294967296) <|
       bnd (q_value_key_s e1 (l1 ++ [(1 : Int)])) fun r4 =>
       (value_key_s_l1 q_value_key_s p1 k1) r4.2 (IntKind.i64.wrap (x2 + (1 : Int))))
      (value_key_s_j2 l1)

def value_key_s_j1 (q_value_key_s : GValue → (List Int) → Option (Unit × (List Int))) (p1 : GValue) (p2 : (List Int)) (x1 : Bool) : Option (Unit × (List Int)) :=
    ift x1
      (bnd (some (IntKind.u64.wrap ((IntKind.u64.wrap p1.n) + (9223372036854775808 : Int)))) fun y1 =>
       bnd (value_word_s y1 (p2 ++ [(IntKind.u8.wrap p1.kind)])) fun r1 =>
       some ((), r1.2))
      (ift (p1.kind == (3 : Int))
         (bnd (value_scaled p1.n (IntKind.i64.wrap ((12 : Int) - p1.scale))) fun r2 =>
          bnd (value_wide_bytes_s (GWide.mk r2.neg (r2.size.1, r2.size.2.1, r2.size.2.2.1, r2.size.2.2.2)) (p2 ++ [(IntKind.u8.wrap p1.kind)])) fun r3 =>
          grd (r3.2.length + 1 ≤ 4294967296) <|
          some ((), (r3.2 ++ [(IntKind.u8.wrap p1.scale)])))
         (ift (p1.kind == (4 : Int))
            (grd ((p2 ++ [(IntKind.u8.wrap p1.kind)]).length + (bytesL p1.s).length ≤ 4294967296) <|
             grd (((p2 ++ [(IntKind.u8.wrap p1.kind)]) ++ (bytesL p1.s)).length + 1 ≤ 4294967296) <|
             some ((), (((p2 ++ [(IntKind.u8.wrap p1.kind)]) ++ (bytesL p1.s)) ++ [(0 : Int)])))
            (value_key_s_l1 q_value_key_s p1 BIG (p2 ++ [(IntKind.u8.wrap p1.kind)]) (0 : Int))))

def value_key_s : Nat → GValue → (List Int) → Option (Unit × (List Int))
  | 0, _, _ => none
  | k0 + 1, p1, p2 =>
    ift (p1.kind == (0 : Int))
      (grd (p2.length + 1 ≤ 4294967296) <|
       some ((), (p2 ++ [(8 : Int)])))
      (grd (p2.length + 1 ≤ 4294967296) <|
       ift (p1.kind == (1 : Int))
         (grd ((p2 ++ [(IntKind.u8.wrap p1.kind)]).length + 1 ≤ 4294967296) <|
          some ((), ((p2 ++ [(IntKind.u8.wrap p1.kind)]) ++ [(IntKind.u8.wrap p1.n)])))
         (ift (p1.kind == (2 : Int))
            (value_key_s_j1 (value_key_s k0) p1 p2 (p1.kind == (2 : Int)))
            (value_key_s_j1 (value_key_s k0) p1 p2 (p1.kind == (5 : Int)))))

abbrev qa952 (p1 : GValue) : List PV := [pi p1.kind, pi p1.n, pi p1.scale, .s (.string p1.s), .ro (eValue.els p1.items)]
abbrev qa955 (p1 : GValue) (p2 : (List Int)) : St := [.arr 1 ((eK .u8).els (p2 ++ [(IntKind.u8.wrap p1.kind)]))]
abbrev qa961 (r2 : GWide) : List CV := [cb r2.neg, ck .u64 r2.size.1, ck .u64 r2.size.2.1, ck .u64 r2.size.2.2.1, ck .u64 r2.size.2.2.2]
abbrev qa975 (e1 : GValue) : List CV := [ci e1.kind, ci e1.n, ci e1.scale, cst e1.s, cl eValue e1.items]
abbrev qa979 (p1 : GValue) (x2 : Int) (r4 : (Unit × (List Int))) : Fr := [(0, .one (.sl 0 1 0 r4.2.length)), (62, vl eValue p1.items), (63, vi (p1.items.length : Int)), (64, vi (IntKind.i64.wrap (x2 + (1 : Int))))]
abbrev qa982 (p1 : GValue) (r2 : GWide) (r3 : (Unit × (List Int))) : Fr := [(51, vl (eK .u8) [(IntKind.u8.wrap p1.scale)]), (50, vk .u8 (IntKind.u8.wrap p1.scale)), (49, vi p1.scale), (48, .one (.pv (.rp [(qa952 p1)] 0 2))), (47, .one (.sl 0 1 0 r3.2.length)), (46, .j), (45, .ag (qa961 r2)), (44, vi (IntKind.i64.wrap ((12 : Int) - p1.scale))), (43, vi p1.scale), (42, .one (.pv (.rp [(qa952 p1)] 0 2))), (41, vi p1.n), (40, .one (.pv (.rp [(qa952 p1)] 0 1))), (0, .j), (3, .one (.pv (.rp [(qa952 p1)] 0 0))), (20, vi p1.kind), (38, vb (p1.kind == (3 : Int)))]
abbrev qa988 (p1 : GValue) (l1 : List Int) (x2 : Int) (e1 : GValue) : Fr := [(71, .ag (qa975 e1)), (70, .one (.sl 0 1 0 ((l1 ++ [(1 : Int)]).length))), (69, vl (eK .u8) [(1 : Int)]), (68, .j), (0, .j), (6, .one (.pt 1 0 0 0)), (62, vl eValue p1.items), (63, vi (p1.items.length : Int)), (64, vi x2)]

theorem c_value_key_s : ∀ (k0 : Nat) (p1 : GValue) (p2 : (List Int)) (r : (Unit × (List Int))), value_key_s k0 p1 p2 = some r → MX Tryd.prog 41 [.one (.sl 0 1 0 p2.length), .ag [ci p1.kind, ci p1.n, ci p1.scale, cst p1.s, cl eValue p1.items]] [.arr 1 ((eK .u8).els p2)] [0] (.one (.sl 0 1 0 r.2.length)) [.arr 1 ((eK .u8).els r.2)]
 | 0, _, _, r, h => by rw [value_key_s.eq_1] at h; cases h
 | k0 + 1, p1, p2, r, h => by
  rw [value_key_s.eq_2] at h
  refine MX.of 1 1 rfl (n := 77) (fn := Tryd.f41) (c := cd Tryd.f41 []) (by kernel_rfl) (by kernel_rfl) (by kernel_rfl) (Nat.le_of_ble_eq_true rfl) rfl (zq fun K1 hK1 => zr (zg [6] 2 [0,3] (zd (hK1 _ _ (zq fun K2 hK2 => zq fun K3 hK3 => ?_)))))
  refine zr (zu [6] 3 [0,3,9] [(qa952 p1)] (zd (hK3 _ _ (zC h (fun b4 h => ?_) (fun b4 h => ?_)))))
  ·refine zq fun K5 hK5 => ?_
   obtain ⟨g6, h⟩ := zG h
   refine zr (zp [6] 3 [12] [] [(12, .one (.sl 0 1 0 (p2.length + ((eK .u8).els [(8 : Int)]).length)))] [.arr 1 ((eK .u8).els p2 ++ (eK .u8).els [(8 : Int)])] [elemsOk 1 ((eK .u8).els [(8 : Int)]), p2.length = ((eK .u8).els p2).length, p2.length + ((eK .u8).els [(8 : Int)]).length ≤ 4294967296] (⟨(eK .u8).ok _, ((eK .u8).len p2).symm, g6, trivial⟩) ?_)
   rw [show p2.length + ((eK .u8).els [(8 : Int)]).length = (p2 ++ [(8 : Int)]).length from (eK .u8).lapp _ _]
   rw [show (eK .u8).els p2 ++ (eK .u8).els [(8 : Int)] = (eK .u8).els (p2 ++ [(8 : Int)]) from (eK .u8).app2 _ _]
   refine zv [6] 1 [4] [] [(4, .one (.sl 0 1 0 ((p2 ++ [(8 : Int)]).length)))] [.arr 1 ((eK .u8).els (p2 ++ [(8 : Int)]))] (zd (hK5 _ _ (ze ?_)))
   obtain rfl := Option.some.inj h
   exact FinM.fin (.inr rfl) [] [.one (.sl 0 1 0 ((p2 ++ [(8 : Int)]).length))] [] (by kernel_rfl) trivial (by kernel_rfl) (by kernel_rfl) (.one (.rfl _ rfl))
  ·refine zs (hK2 _ _ (zq fun K7 hK7 => ?_))
   obtain ⟨g8, h⟩ := zG h
   refine zr ?_
   refine zp [6] 6 [3,18] [[pi p1.kind, pi p1.n, pi p1.scale, .s (.string p1.s), .ro (eValue.els p1.items)]] [(3, .one (.pv (.rp [[pi p1.kind, pi p1.n, pi p1.scale, .s (.string p1.s), .ro (eValue.els p1.items)]] 0 0))), (18, .one (.sl 0 1 0 (p2.length + ((eK .u8).els [(IntKind.u8.wrap p1.kind)]).length)))] [.arr 1 ((eK .u8).els p2 ++ (eK .u8).els [(IntKind.u8.wrap p1.kind)])] [([[pi p1.kind, pi p1.n, pi p1.scale, .s (.string p1.s), .ro (eValue.els p1.items)]] : List (List PV))[0]? = some [pi p1.kind, pi p1.n, pi p1.scale, .s (.string p1.s), .ro (eValue.els p1.items)], elemsOk 1 ((eK .u8).els [(IntKind.u8.wrap p1.kind)]), p2.length = ((eK .u8).els p2).length, p2.length + ((eK .u8).els [(IntKind.u8.wrap p1.kind)]).length ≤ 4294967296] (⟨rfl, (eK .u8).ok _, ((eK .u8).len p2).symm, g8, trivial⟩) ?_
   rw [show p2.length + ((eK .u8).els [(IntKind.u8.wrap p1.kind)]).length = (p2 ++ [(IntKind.u8.wrap p1.kind)]).length from (eK .u8).lapp _ _]
   rw [show (eK .u8).els p2 ++ (eK .u8).els [(IntKind.u8.wrap p1.kind)] = (eK .u8).els (p2 ++ [(IntKind.u8.wrap p1.kind)]) from (eK .u8).app2 _ _]
   refine zg [6] 1 [0,3] (zd (hK7 _ _ (zq fun K9 hK9 => zq fun K10 hK10 => zr (zu [6] 2 [0,3,20] [(qa952 p1)] (zd ?_)))))
   refine hK10 _ _ (zb 0 (zq fun K11 hK11 => zr (zv [6] 2 [0,3,20,21] [] [(0, .one (.sl 0 1 0 ((p2 ++ [(IntKind.u8.wrap p1.kind)]).length))), (3, .one (.pv (.rp [(qa952 p1)] 0 0))), (20, vi p1.kind), (21, vb (p1.kind == (1 : Int)))] (qa955 p1 p2) (zd (hK11 _ _ (zC h (fun b12 h => ?_) (fun b12 h => ?_)))))))
   ·refine zq fun K13 hK13 => ?_
    obtain ⟨g14, h⟩ := zG h
    refine zr ?_
    refine zp [6] 6 [28] [[pi p1.kind, pi p1.n, pi p1.scale, .s (.string p1.s), .ro (eValue.els p1.items)]] [(28, .one (.sl 0 1 0 ((p2 ++ [(IntKind.u8.wrap p1.kind)]).length + ((eK .u8).els [(IntKind.u8.wrap p1.n)]).length)))] [.arr 1 ((eK .u8).els (p2 ++ [(IntKind.u8.wrap p1.kind)]) ++ (eK .u8).els [(IntKind.u8.wrap p1.n)])] [([[pi p1.kind, pi p1.n, pi p1.scale, .s (.string p1.s), .ro (eValue.els p1.items)]] : List (List PV))[0]? = some [pi p1.kind, pi p1.n, pi p1.scale, .s (.string p1.s), .ro (eValue.els p1.items)], elemsOk 1 ((eK .u8).els [(IntKind.u8.wrap p1.n)]), (p2 ++ [(IntKind.u8.wrap p1.kind)]).length = ((eK .u8).els (p2 ++ [(IntKind.u8.wrap p1.kind)])).length, (p2 ++ [(IntKind.u8.wrap p1.kind)]).length + ((eK .u8).els [(IntKind.u8.wrap p1.n)]).length ≤ 4294967296] (⟨rfl, (eK .u8).ok _, ((eK .u8).len (p2 ++ [(IntKind.u8.wrap p1.kind)])).symm, g14, trivial⟩) ?_
    rw [show (p2 ++ [(IntKind.u8.wrap p1.kind)]).length + ((eK .u8).els [(IntKind.u8.wrap p1.n)]).length = ((p2 ++ [(IntKind.u8.wrap p1.kind)]) ++ [(IntKind.u8.wrap p1.n)]).length from (eK .u8).lapp _ _]
    rw [show (eK .u8).els (p2 ++ [(IntKind.u8.wrap p1.kind)]) ++ (eK .u8).els [(IntKind.u8.wrap p1.n)] = (eK .u8).els ((p2 ++ [(IntKind.u8.wrap p1.kind)]) ++ [(IntKind.u8.wrap p1.n)]) from (eK .u8).app2 _ _]
    refine zv [6] 1 [4] [] [(4, .one (.sl 0 1 0 (((p2 ++ [(IntKind.u8.wrap p1.kind)]) ++ [(IntKind.u8.wrap p1.n)]).length)))] [.arr 1 ((eK .u8).els ((p2 ++ [(IntKind.u8.wrap p1.kind)]) ++ [(IntKind.u8.wrap p1.n)]))] (zd (hK13 _ _ (ze ?_)))
    obtain rfl := Option.some.inj h
    exact FinM.fin (.inr rfl) [] [.one (.sl 0 1 0 (((p2 ++ [(IntKind.u8.wrap p1.kind)]) ++ [(IntKind.u8.wrap p1.n)]).length))] [] (by kernel_rfl) trivial (by kernel_rfl) (by kernel_rfl) (.one (.rfl _ rfl))
   ·refine zq fun K15 hK15 => ?_
    have hJ1 : ∀ (x1 : Bool), value_key_s_j1 (value_key_s k0) p1 p2 x1 = some r → ∀ fr1 st1, Sub 77 1 [0] fr1 st1 [(0, .one (.sl 0 1 0 ((p2 ++ [(IntKind.u8.wrap p1.kind)]).length))), (3, .one (.pv (.rp [(qa952 p1)] 0 0))), (20, vi p1.kind), (29, vb x1)] (qa955 p1 p2) → K15 fr1 st1 := by
     intro x1 h fr1 st1 hS
     unfold value_key_s_j1 at h
     refine hK15 _ _ (XW.sub hS ?_)
     refine zC h (fun b18 h => ?_) (fun b18 h => ?_)
     ·refine zq fun K19 hK19 => ?_
      obtain ⟨y1, hy20, h⟩ := zB h
      obtain ⟨r1, c21, h⟩ := zB h
      refine zr (zv [6] 5 [32,36] [[pi p1.kind, pi p1.n, pi p1.scale, .s (.string p1.s), .ro (eValue.els p1.items)]] [(32, .one (.sl 0 1 0 ((p2 ++ [(IntKind.u8.wrap p1.kind)]).length))), (36, vk .u64 (IntKind.u64.wrap ((IntKind.u64.wrap p1.n) + (9223372036854775808 : Int))))] [.arr 1 ((eK .u8).els (p2 ++ [(IntKind.u8.wrap p1.kind)]))] ?_)
      rw [show (IntKind.u64.wrap ((IntKind.u64.wrap p1.n) + (9223372036854775808 : Int))) = y1 from Option.some.inj hy20]
      refine XO.calx 87 [.one (.sl 0 1 0 ((p2 ++ [(IntKind.u8.wrap p1.kind)]).length)), vk .u64 y1] (qa955 p1 p2) [.arr 1 ((eK .u8).els r1.2)] [0] (.one (.sl 0 1 0 r1.2.length)) [0] [0] [(37, .one (.sl 0 1 0 r1.2.length)), (32, .j), (36, vk .u64 y1)] [.arr 1 ((eK .u8).els r1.2)] (by kernel_rfl) (c_value_word_s _ _ _ c21) (by kernel_rfl) (by kernel_rfl) (by kernel_rfl) (by kernel_rfl) (by kernel_rfl) (by kernel_rfl) (by kernel_rfl) (zv [6] 1 [4] [] [(4, .one (.sl 0 1 0 r1.2.length))] [.arr 1 ((eK .u8).els r1.2)] (zd (hK19 _ _ (ze ?_))))
      obtain rfl := Option.some.inj h
      exact FinM.fin (.inr rfl) [] [.one (.sl 0 1 0 r1.2.length)] [] (by kernel_rfl) trivial (by kernel_rfl) (by kernel_rfl) (.one (.rfl _ rfl))
     ·refine zq fun K22 hK22 => zr (zg [6] 2 [0,3,20,38] (zd (hK22 _ _ (zC h (fun b23 h => ?_) (fun b23 h => ?_)))))
      ·refine zq fun K24 hK24 => ?_
       obtain ⟨r2, c25, h⟩ := zB h
       obtain ⟨r3, c26, h⟩ := zB h
       obtain ⟨g27, h⟩ := zG h
       refine XW.drwG 12 [0, 1] [([], []), ([], []), ([], []), ([], []), ([], []), ([], []), ([0], []), ([0], [0]), ([], []), ([], []), ([], []), ([], [])] (qa982 p1 r2 r3) [.arr 1 ((eK .u8).els r3.2)] (by kernel_rfl) (by kernel_rfl) ?_ ?_
       ·refine zgv 5 [(qa952 p1), (qa952 p1)] [(44, vi (IntKind.i64.wrap ((12 : Int) - p1.scale))), (43, vi p1.scale), (42, .one (.pv (.rp [(qa952 p1)] 0 2))), (41, vi p1.n), (40, .one (.pv (.rp [(qa952 p1)] 0 1))), (0, .one (.sl 0 1 0 ((p2 ++ [(IntKind.u8.wrap p1.kind)]).length))), (3, .one (.pv (.rp [(qa952 p1)] 0 0))), (20, vi p1.kind), (38, vb (p1.kind == (3 : Int)))] ?_
        refine GY.cal 50 [vi p1.n, vi (IntKind.i64.wrap ((12 : Int) - p1.scale))] (.ag (qa961 r2)) [(45, .ag (qa961 r2)), (44, vi (IntKind.i64.wrap ((12 : Int) - p1.scale))), (43, vi p1.scale), (42, .one (.pv (.rp [(qa952 p1)] 0 2))), (41, vi p1.n), (40, .one (.pv (.rp [(qa952 p1)] 0 1))), (0, .one (.sl 0 1 0 ((p2 ++ [(IntKind.u8.wrap p1.kind)]).length))), (3, .one (.pv (.rp [(qa952 p1)] 0 0))), (20, vi p1.kind), (38, vb (p1.kind == (3 : Int)))] [] (by kernel_rfl) (by kernel_rfl) (c_value_scaled _ _ _ c25) rfl rfl (by kernel_rfl) (by kernel_rfl) (by kernel_rfl) ?_
        refine zgv 1 [] [(46, .one (.sl 0 1 0 ((p2 ++ [(IntKind.u8.wrap p1.kind)]).length))), (45, .ag (qa961 r2)), (44, vi (IntKind.i64.wrap ((12 : Int) - p1.scale))), (43, vi p1.scale), (42, .one (.pv (.rp [(qa952 p1)] 0 2))), (41, vi p1.n), (40, .one (.pv (.rp [(qa952 p1)] 0 1))), (0, .one (.sl 0 1 0 ((p2 ++ [(IntKind.u8.wrap p1.kind)]).length))), (3, .one (.pv (.rp [(qa952 p1)] 0 0))), (20, vi p1.kind), (38, vb (p1.kind == (3 : Int)))] ?_
        refine GY.calx 88 [.ag (qa961 r2), .one (.sl 0 1 0 ((p2 ++ [(IntKind.u8.wrap p1.kind)]).length))] (qa955 p1 p2) [.arr 1 ((eK .u8).els r3.2)] [0] (.one (.sl 0 1 0 r3.2.length)) [0] [0] [(47, .one (.sl 0 1 0 r3.2.length)), (46, .j), (45, .ag (qa961 r2)), (44, vi (IntKind.i64.wrap ((12 : Int) - p1.scale))), (43, vi p1.scale), (42, .one (.pv (.rp [(qa952 p1)] 0 2))), (41, vi p1.n), (40, .one (.pv (.rp [(qa952 p1)] 0 1))), (0, .j), (3, .one (.pv (.rp [(qa952 p1)] 0 0))), (20, vi p1.kind), (38, vb (p1.kind == (3 : Int)))] [0] [.arr 1 ((eK .u8).els r3.2)] (by kernel_rfl) (by kernel_rfl) (c_value_wide_bytes_s _ _ _ c26) (by kernel_rfl) (by kernel_rfl) (by kernel_rfl) (by kernel_rfl) (by kernel_rfl) (by kernel_rfl) (by kernel_rfl) ?_
        refine zgv 4 [(qa952 p1)] (qa982 p1 r2 r3) ?_
        exact GY.done (by kernel_rfl) (by kernel_rfl)
       refine zp [6] 1 [52] [] [(52, .one (.sl 0 1 0 (r3.2.length + ((eK .u8).els [(IntKind.u8.wrap p1.scale)]).length)))] [.arr 1 ((eK .u8).els r3.2 ++ (eK .u8).els [(IntKind.u8.wrap p1.scale)])] [elemsOk 1 ((eK .u8).els [(IntKind.u8.wrap p1.scale)]), r3.2.length = ((eK .u8).els r3.2).length, r3.2.length + ((eK .u8).els [(IntKind.u8.wrap p1.scale)]).length ≤ 4294967296] (⟨(eK .u8).ok _, ((eK .u8).len r3.2).symm, g27, trivial⟩) ?_
       rw [show r3.2.length + ((eK .u8).els [(IntKind.u8.wrap p1.scale)]).length = (r3.2 ++ [(IntKind.u8.wrap p1.scale)]).length from (eK .u8).lapp _ _]
       rw [show (eK .u8).els r3.2 ++ (eK .u8).els [(IntKind.u8.wrap p1.scale)] = (eK .u8).els (r3.2 ++ [(IntKind.u8.wrap p1.scale)]) from (eK .u8).app2 _ _]
       refine zv [6] 1 [4] [] [(4, .one (.sl 0 1 0 ((r3.2 ++ [(IntKind.u8.wrap p1.scale)]).length)))] [.arr 1 ((eK .u8).els (r3.2 ++ [(IntKind.u8.wrap p1.scale)]))] (zd (hK24 _ _ (ze ?_)))
       obtain rfl := Option.some.inj h
       exact FinM.fin (.inr rfl) [] [.one (.sl 0 1 0 ((r3.2 ++ [(IntKind.u8.wrap p1.scale)]).length))] [] (by kernel_rfl) trivial (by kernel_rfl) (by kernel_rfl) (.one (.rfl _ rfl))
      ·refine zq fun K28 hK28 => zr (zg [6] 2 [0,3,53] (zd (hK28 _ _ (zC h (fun b29 h => ?_) (fun b29 h => ?_)))))
       ·refine zq fun K30 hK30 => ?_
        obtain ⟨g31, h⟩ := zG h
        obtain ⟨g32, h⟩ := zG h
        refine zr ?_
        refine zp [6] 4 [58] [[pi p1.kind, pi p1.n, pi p1.scale, .s (.string p1.s), .ro (eValue.els p1.items)]] [(58, .one (.sl 0 1 0 ((p2 ++ [(IntKind.u8.wrap p1.kind)]).length + (byteEls p1.s).length)))] [.arr 1 ((eK .u8).els (p2 ++ [(IntKind.u8.wrap p1.kind)]) ++ byteEls p1.s)] [([[pi p1.kind, pi p1.n, pi p1.scale, .s (.string p1.s), .ro (eValue.els p1.items)]] : List (List PV))[0]? = some [pi p1.kind, pi p1.n, pi p1.scale, .s (.string p1.s), .ro (eValue.els p1.items)], elemsOk 1 (byteEls p1.s), (p2 ++ [(IntKind.u8.wrap p1.kind)]).length = ((eK .u8).els (p2 ++ [(IntKind.u8.wrap p1.kind)])).length, (p2 ++ [(IntKind.u8.wrap p1.kind)]).length + (byteEls p1.s).length ≤ 4294967296] (⟨rfl, byteEls_ok _, ((eK .u8).len (p2 ++ [(IntKind.u8.wrap p1.kind)])).symm, (by rw [byteEls_len]; exact g31), trivial⟩) ?_
        rw [show (p2 ++ [(IntKind.u8.wrap p1.kind)]).length + (byteEls p1.s).length = ((p2 ++ [(IntKind.u8.wrap p1.kind)]) ++ (bytesL p1.s)).length from byteEls_lapp _ _]
        rw [show (eK .u8).els (p2 ++ [(IntKind.u8.wrap p1.kind)]) ++ byteEls p1.s = (eK .u8).els ((p2 ++ [(IntKind.u8.wrap p1.kind)]) ++ (bytesL p1.s)) from byteEls_app _ _]
        refine zp [6] 2 [60] [] [(60, .one (.sl 0 1 0 (((p2 ++ [(IntKind.u8.wrap p1.kind)]) ++ (bytesL p1.s)).length + ((eK .u8).els [(0 : Int)]).length)))] [.arr 1 ((eK .u8).els ((p2 ++ [(IntKind.u8.wrap p1.kind)]) ++ (bytesL p1.s)) ++ (eK .u8).els [(0 : Int)])] [elemsOk 1 ((eK .u8).els [(0 : Int)]), ((p2 ++ [(IntKind.u8.wrap p1.kind)]) ++ (bytesL p1.s)).length = ((eK .u8).els ((p2 ++ [(IntKind.u8.wrap p1.kind)]) ++ (bytesL p1.s))).length, ((p2 ++ [(IntKind.u8.wrap p1.kind)]) ++ (bytesL p1.s)).length + ((eK .u8).els [(0 : Int)]).length ≤ 4294967296] (⟨(eK .u8).ok _, ((eK .u8).len ((p2 ++ [(IntKind.u8.wrap p1.kind)]) ++ (bytesL p1.s))).symm, g32, trivial⟩) ?_
        rw [show ((p2 ++ [(IntKind.u8.wrap p1.kind)]) ++ (bytesL p1.s)).length + ((eK .u8).els [(0 : Int)]).length = (((p2 ++ [(IntKind.u8.wrap p1.kind)]) ++ (bytesL p1.s)) ++ [(0 : Int)]).length from (eK .u8).lapp _ _]
        rw [show (eK .u8).els ((p2 ++ [(IntKind.u8.wrap p1.kind)]) ++ (bytesL p1.s)) ++ (eK .u8).els [(0 : Int)] = (eK .u8).els (((p2 ++ [(IntKind.u8.wrap p1.kind)]) ++ (bytesL p1.s)) ++ [(0 : Int)]) from (eK .u8).app2 _ _]
        refine zv [6] 1 [4] [] [(4, .one (.sl 0 1 0 ((((p2 ++ [(IntKind.u8.wrap p1.kind)]) ++ (bytesL p1.s)) ++ [(0 : Int)]).length)))] [.arr 1 ((eK .u8).els (((p2 ++ [(IntKind.u8.wrap p1.kind)]) ++ (bytesL p1.s)) ++ [(0 : Int)]))] (zd (hK30 _ _ (ze ?_)))
        obtain rfl := Option.some.inj h
        exact FinM.fin (.inr rfl) [] [.one (.sl 0 1 0 ((((p2 ++ [(IntKind.u8.wrap p1.kind)]) ++ (bytesL p1.s)) ++ [(0 : Int)]).length))] [] (by kernel_rfl) trivial (by kernel_rfl) (by kernel_rfl) (.one (.rfl _ rfl))
       ·refine zs (hK9 _ _ (zq fun K33 hK33 => ?_))
        have hJ2 : ∀ (l2 : List Int), value_key_s_j2 l2 = some r → ∀ fr1 st1, Sub 77 1 [0] fr1 st1 [(0, .one (.sl 0 1 0 l2.length))] [.arr 1 ((eK .u8).els l2)] → K33 fr1 st1 := by
         intro l2 h fr1 st1 hS
         unfold value_key_s_j2 at h
         refine hK33 _ _ (XW.sub hS ?_)
         refine zq fun K43 hK43 => ?_
         obtain ⟨g44, h⟩ := zG h
         refine zr (zp [6] 3 [76] [] [(76, .one (.sl 0 1 0 (l2.length + ((eK .u8).els [(0 : Int)]).length)))] [.arr 1 ((eK .u8).els l2 ++ (eK .u8).els [(0 : Int)])] [elemsOk 1 ((eK .u8).els [(0 : Int)]), l2.length = ((eK .u8).els l2).length, l2.length + ((eK .u8).els [(0 : Int)]).length ≤ 4294967296] (⟨(eK .u8).ok _, ((eK .u8).len l2).symm, g44, trivial⟩) ?_)
         rw [show l2.length + ((eK .u8).els [(0 : Int)]).length = (l2 ++ [(0 : Int)]).length from (eK .u8).lapp _ _]
         rw [show (eK .u8).els l2 ++ (eK .u8).els [(0 : Int)] = (eK .u8).els (l2 ++ [(0 : Int)]) from (eK .u8).app2 _ _]
         refine zv [6] 1 [4] [] [(4, .one (.sl 0 1 0 ((l2 ++ [(0 : Int)]).length)))] [.arr 1 ((eK .u8).els (l2 ++ [(0 : Int)]))] (zd (hK43 _ _ (ze ?_)))
         obtain rfl := Option.some.inj h
         exact FinM.fin (.inr rfl) [] [.one (.sl 0 1 0 ((l2 ++ [(0 : Int)]).length))] [] (by kernel_rfl) trivial (by kernel_rfl) (by kernel_rfl) (.one (.rfl _ rfl))
        refine zq fun K34 hK34 => zr (zv [6] 3 [0,62,63] [[pi p1.kind, pi p1.n, pi p1.scale, .s (.string p1.s), .ro (eValue.els p1.items)]] [(0, .one (.sl 0 1 0 ((p2 ++ [(IntKind.u8.wrap p1.kind)]).length))), (62, vl eValue p1.items), (63, vi ((eValue.els p1.items).length : Int))] [.arr 1 ((eK .u8).els (p2 ++ [(IntKind.u8.wrap p1.kind)]))] ?_)
        rw [eValue.len p1.items]
        refine zg [6] 1 [0,62,63,64] (zd (hK34 _ _ (zb 1 (XW.rounds' BIG (x := cd Tryd.f41 [1,1,1,1,0,1,0,0]) (by kernel_rfl) fun Q1 hQ1 => ?_))))
        have hL1 : ∀ (k1 : Nat) (l1 : List Int) (x2 : Int), value_key_s_l1 (value_key_s k0) p1 k1 l1 x2 = some r → XR Tryd.prog 77 1 [0] (cd Tryd.f41 [1,1,1,1,0,1,0,0]) Q1 k1 [(0, .one (.sl 0 1 0 l1.length)), (62, vl eValue p1.items), (63, vi (p1.items.length : Int)), (64, vi x2)] [.arr 1 ((eK .u8).els l1)] := by
         intro k1
         induction k1 with
         | zero => intro l1 x2 h; rw [value_key_s_l1.eq_1] at h; cases h
         | succ k1 ih1 =>
          intro l1 x2 h
          rw [value_key_s_l1.eq_2] at h
          refine zq fun K35 hK35 => zr (zg [6] 1 [0,62,63,64,65] (zd (hK35 _ _ (zq fun K36 hK36 => zC h (fun b37 h => ?_) (fun b37 h => ?_)))))
          ·refine zs (hK36 _ _ (zq fun K38 hK38 => zb 2 (zq fun K39 hK39 => ?_)))
           obtain ⟨e1, a40, h⟩ := zB h
           refine zr ?_
           refine zp [6] 4 [0,6,62,63,64] [[pi e1.kind, pi e1.n, pi e1.scale, .s (.string e1.s), .ro (eValue.els e1.items)]] [(0, .one (.sl 0 1 0 l1.length)), (6, .one (.pt 1 0 0 0)), (62, vl eValue p1.items), (63, vi (p1.items.length : Int)), (64, vi x2)] [.arr 1 ((eK .u8).els l1), .box (qa975 e1)] [0 ≤ x2 ∧ x2 < ((eValue.els p1.items).length : Int) ∧ elemsOk 5 (eValue.els p1.items), (eValue.els p1.items)[x2.toNat]? = some [pi e1.kind, pi e1.n, pi e1.scale, .s (.string e1.s), .ro (eValue.els e1.items)]] (⟨eValue.inb a40, ((eValue.get a40).trans (by cases e1; rfl)), trivial⟩) ?_
           refine zd (hK39 _ _ ?_)
           obtain ⟨g41, h⟩ := zG h
           obtain ⟨r4, c42, h⟩ := zB h
           refine XW.drwG 4 [0, 2] [([0], []), ([], []), ([0], [0]), ([1], [])] (qa988 p1 l1 x2 e1) [.arr 1 ((eK .u8).els (l1 ++ [(1 : Int)])), .box (qa975 e1)] (by kernel_rfl) (by kernel_rfl) ?_ ?_
           ·refine zgv 2 [] [(69, vl (eK .u8) [(1 : Int)]), (68, .one (.sl 0 1 0 l1.length)), (0, .one (.sl 0 1 0 l1.length)), (6, .one (.pt 1 0 0 0)), (62, vl eValue p1.items), (63, vi (p1.items.length : Int)), (64, vi x2)] ?_
            refine GY.wr [] [(70, .one (.sl 0 1 0 (l1.length + ((eK .u8).els [(1 : Int)]).length))), (69, vl (eK .u8) [(1 : Int)]), (68, .j), (0, .j), (6, .one (.pt 1 0 0 0)), (62, vl eValue p1.items), (63, vi (p1.items.length : Int)), (64, vi x2)] [0] [.arr 1 ((eK .u8).els l1 ++ (eK .u8).els [(1 : Int)]), .box [ci e1.kind, ci e1.n, ci e1.scale, cst e1.s, cl eValue e1.items]] [elemsOk 1 ((eK .u8).els [(1 : Int)]), l1.length = ((eK .u8).els l1).length, l1.length + ((eK .u8).els [(1 : Int)]).length ≤ 4294967296] (by kernel_rfl) (by kernel_rfl) (⟨(eK .u8).ok _, ((eK .u8).len l1).symm, g41, trivial⟩) ?_
            rw [show l1.length + ((eK .u8).els [(1 : Int)]).length = (l1 ++ [(1 : Int)]).length from (eK .u8).lapp _ _]
            rw [show (eK .u8).els l1 ++ (eK .u8).els [(1 : Int)] = (eK .u8).els (l1 ++ [(1 : Int)]) from (eK .u8).app2 _ _]
            exact zgv 1 [] (qa988 p1 l1 x2 e1) (GY.done (by kernel_rfl) (by kernel_rfl))
           refine XO.calx 41 [.one (.sl 0 1 0 ((l1 ++ [(1 : Int)]).length)), .ag (qa975 e1)] [.arr 1 ((eK .u8).els (l1 ++ [(1 : Int)]))] [.arr 1 ((eK .u8).els r4.2)] [0] (.one (.sl 0 1 0 r4.2.length)) [0] [0] [(72, .one (.sl 0 1 0 r4.2.length)), (71, .ag (qa975 e1)), (70, .j), (69, vl (eK .u8) [(1 : Int)]), (68, .j), (0, .j), (6, .one (.pt 1 0 0 0)), (62, vl eValue p1.items), (63, vi (p1.items.length : Int)), (64, vi x2)] [.arr 1 ((eK .u8).els r4.2), .box (qa975 e1)] (by kernel_rfl) (c_value_key_s k0 _ _ _ c42) (by kernel_rfl) (by kernel_rfl) (by kernel_rfl) (by kernel_rfl) (by kernel_rfl) (by kernel_rfl) (by kernel_rfl) ?_
           exact zg [6] 1 [0,62,63,64] (zd (hK38 _ _ (zr (zg [6] 2 [0,62,63,64] (zd (XR.sub (Sub.trans (Sub.pick (fr' := (qa979 p1 x2 r4)) [0,62,63,64] (by kernel_rfl)) (Sub.take (fr' := (qa979 p1 x2 r4)) 1 (by decide) (by kernel_rfl) (by kernel_rfl))) (ih1 r4.2 (IntKind.i64.wrap (x2 + (1 : Int))) h)))))))
          ·exact zx 1 (hQ1 _ _ _ (hJ2 l1 h _ _ (zk [0])))
        exact XR.sub (zk [0,62,63,64]) (hL1 BIG (p2 ++ [(IntKind.u8.wrap p1.kind)]) (0 : Int) h)
    refine zq fun K16 hK16 => zr (zg [6] 2 [0,3,20,29] (zd (hK16 _ _ (zC h (fun b17 h => ?_) (fun b17 h => ?_)))))
    ·exact zs (hJ1 (p1.kind == (2 : Int)) h _ _ (zk [0,3,20,29]))
    ·exact zr (zg [6] 2 [0,3,20,29] (zd (hJ1 (p1.kind == (5 : Int)) h _ _ (zk [0,3,20,29]))))

def slices_Clip_byte_byte (p1 : (List Int)) : Option (List Int) :=
    grd (0 ≤ (0 : Int) ∧ (0 : Int) ≤ (p1.length : Int) ∧ (p1.length : Int) ≤ (p1.length : Int) ∧ (p1.length : Int) ≤ (p1.length : Int)) <|
    some ((p1.drop (0 : Int).toNat).take ((p1.length : Int).toNat - (0 : Int).toNat))


theorem c_slices_Clip_byte_byte (p1 : (List Int)) (r : (List Int)) (h : slices_Clip_byte_byte p1 = some r) : PC Tryd.prog 42 [vl (eK .u8) p1] (vl (eK .u8) r) := by
 unfold slices_Clip_byte_byte at h
 refine zF 9 Tryd.f42 (zq fun K1 hK1 => zr (zg [] 1 [0] (zd (hK1 _ _ (zq fun K2 hK2 => ?_)))))
 obtain ⟨g3, h⟩ := zG h
 refine zr (zv [] 3 [0,3,5] [] [(0, vl (eK .u8) p1), (3, vl (eK .u8) p1), (5, vi (((eK .u8).els p1).length : Int))] [] ?_)
 rw [(eK .u8).len p1]
 refine zv [] 2 [3,5,7] [] [(3, vl (eK .u8) p1), (5, vi (p1.length : Int)), (7, vi (((eK .u8).els p1).length : Int))] [] ?_
 rw [(eK .u8).len p1]
 refine zp [] 1 [8] [] [(8, .one (.pv (.ro ((((eK .u8).els p1).drop (0 : Int).toNat).take ((p1.length : Int).toNat - (0 : Int).toNat)))))] [] [(0 ≤ (0 : Int) ∧ (0 : Int) ≤ (p1.length : Int) ∧ (p1.length : Int) ≤ (p1.length : Int) ∧ (p1.length : Int) ≤ (((eK .u8).els p1).length : Int)) ∧ elemsOk 1 ((eK .u8).els p1)] (⟨(eK .u8).cutMOk g3, trivial⟩) ?_
 rw [show (((eK .u8).els p1).drop (0 : Int).toNat).take ((p1.length : Int).toNat - (0 : Int).toNat) = (eK .u8).els ((p1.drop (0 : Int).toNat).take ((p1.length : Int).toNat - (0 : Int).toNat)) from (eK .u8).cut _ _ _]
 refine zg [] 1 [2] (zd (hK2 _ _ (ze ?_)))
 obtain rfl := Option.some.inj h
 exact zf [vl (eK .u8) ((p1.drop (0 : Int).toNat).take ((p1.length : Int).toNat - (0 : Int).toNat))] (.one (.rfl _ rfl))

def value_Key_j1 (l2 : List Int) : Option (List Int) :=
    bnd (slices_Clip_byte_byte l2) fun r3 =>
    some r3

def value_Key_l1 (p1 : (List GValue)) : Nat → List Int → Int → Option (List Int)
  | 0, _, _ => none
  | k1 + 1, l1, x1 =>
    ift (decide (x1 < (p1.length : Int)))
      (bnd (at? p1 x1) fun e1 =>
       bnd (value_key_s BIG e1 l1) fun r2 =>
       (value_Key_l1 p1 k1) r2.2 (IntKind.i64.wrap (x1 + (1 : Int))))
      (value_Key_j1 l1)

def value_Key (p1 : (List GValue)) : Option (List Int) :=
    bnd (slices_ContainsFunc_api_Value_api_Value_of_value_Key_1 p1) fun r1 =>
    ift r1
      (some [])
      (value_Key_l1 p1 BIG [] (0 : Int))

abbrev qa1000 (e1 : GValue) : List CV := [ci e1.kind, ci e1.n, ci e1.scale, cst e1.s, cl eValue e1.items]

theorem c_value_Key (p1 : (List GValue)) (r : (List Int)) (h : value_Key p1 = some r) : PC Tryd.prog 15 [vl eValue p1] (vl (eK .u8) r) := by
 unfold value_Key at h
 refine zF 20 Tryd.f15 (zq fun K1 hK1 => zr (zg [5] 1 [0] (zd (hK1 _ _ (zq fun K2 hK2 => zq fun K3 hK3 => ?_)))))
 obtain ⟨r1, c4, h⟩ := zB h
 refine zr (zg [5] 1 [0,6] (zl 39 [vl eValue p1, .one (.pv (.fn 40 []))] (vb r1) [(7, vb r1), (0, vl eValue p1), (6, vl eValue p1)] (c_slices_ContainsFunc_api_Value_api_Value_of_value_Key_1 _ _ c4) (zd (hK3 _ _ (zC h (fun b5 h => ?_) (fun b5 h => ?_))))))
 ·refine zq fun K6 hK6 => zr (zg [5] 1 [2] (zd (hK6 _ _ (ze ?_))))
  obtain rfl := Option.some.inj h
  exact zf [.one (.pv (.s (.slice none 0 0)))] (.one (.nl))
 ·refine zs (hK2 _ _ (zq fun K7 hK7 => zr (zg [5] 1 [0,3] (zd (hK7 _ _ (zq fun K8 hK8 => ?_))))))
  have hJ1 : ∀ (l2 : List Int), value_Key_j1 l2 = some r → ∀ fr1 st1, Sub 20 0 [] fr1 st1 [(3, .one (.sl 0 1 0 l2.length))] [.arr 1 ((eK .u8).els l2)] → K8 fr1 st1 := by
   intro l2 h fr1 st1 hS
   unfold value_Key_j1 at h
   refine hK8 _ _ (XW.sub hS ?_)
   refine zq fun K17 hK17 => ?_
   obtain ⟨r3, c18, h⟩ := zB h
   refine zr (zv [5] 1 [18] [] [(18, .one (.sl 0 1 0 l2.length))] [.arr 1 ((eK .u8).els l2)] (XO.sub (Sub.kill (fr' := [(18, vl (eK .u8) l2)]) 0 (Nat.zero_le _) (by kernel_rfl) ⟨.one (cf_sl (eK .u8) l2 rfl rfl rfl), trivial⟩) (za (c_slices_Clip_byte_byte _ _ c18) (zg [5] 1 [2] (zd (hK17 _ _ (ze ?_)))))))
   obtain rfl := Option.some.inj h
   exact zf [vl (eK .u8) r3] (.one (.rfl _ rfl))
  refine zq fun K9 hK9 => zr (zv [5] 2 [3,8,9] [] [(3, .one (.pv (.s (.slice none 0 0)))), (8, vl eValue p1), (9, vi ((eValue.els p1).length : Int))] [] ?_)
  rw [eValue.len p1]
  refine zv [5] 1 [3,8,9,10] [] [(3, .one (.pv (.s (.slice none 0 0)))), (8, vl eValue p1), (9, vi (p1.length : Int)), (10, vi (0 : Int))] [] (zd (hK9 _ _ (zb 0 (XW.sub (Sub.list (t := 3) (sz := 1) rfl) (XW.rounds' BIG (x := cd Tryd.f15 [1,1,1,0,1,0,0]) (by kernel_rfl) fun Q1 hQ1 => ?_)))))
  have hL1 : ∀ (k1 : Nat) (l1 : List Int) (x1 : Int), value_Key_l1 p1 k1 l1 x1 = some r → XR Tryd.prog 20 0 [] (cd Tryd.f15 [1,1,1,0,1,0,0]) Q1 k1 [(3, .one (.sl 0 1 0 l1.length)), (8, vl eValue p1), (9, vi (p1.length : Int)), (10, vi x1)] [.arr 1 ((eK .u8).els l1)] := by
   intro k1
   induction k1 with
   | zero => intro l1 x1 h; rw [value_Key_l1.eq_1] at h; cases h
   | succ k1 ih1 =>
    intro l1 x1 h
    rw [value_Key_l1.eq_2] at h
    refine zq fun K10 hK10 => zr (zg [5] 1 [3,8,9,10,11] (zd (hK10 _ _ (zq fun K11 hK11 => zC h (fun b12 h => ?_) (fun b12 h => ?_)))))
    ·refine zs (hK11 _ _ (zq fun K13 hK13 => zb 1 (zq fun K14 hK14 => ?_)))
     obtain ⟨e1, a15, h⟩ := zB h
     refine zr (zo [5] 4 [3,5,8,9,10] [[pi e1.kind, pi e1.n, pi e1.scale, .s (.string e1.s), .ro (eValue.els e1.items)]] [0 ≤ x1 ∧ x1 < ((eValue.els p1).length : Int) ∧ elemsOk 5 (eValue.els p1), (eValue.els p1)[x1.toNat]? = some [pi e1.kind, pi e1.n, pi e1.scale, .s (.string e1.s), .ro (eValue.els e1.items)]] (⟨eValue.inb a15, ((eValue.get a15).trans (by cases e1; rfl)), trivial⟩) (zd (hK14 _ _ ?_)))
     obtain ⟨r2, c16, h⟩ := zB h
     refine zr (zv [5] 2 [8,9,10,14,15] [] [(8, vl eValue p1), (9, vi (p1.length : Int)), (10, vi x1), (14, .one (.sl 0 1 0 l1.length)), (15, .ag (qa1000 e1))] [.arr 1 ((eK .u8).els l1), .box (qa1000 e1)] ?_)
     refine XO.calx 41 [.one (.sl 0 1 0 l1.length), .ag (qa1000 e1)] [.arr 1 ((eK .u8).els l1)] [.arr 1 ((eK .u8).els r2.2)] [0] (.one (.sl 0 1 0 r2.2.length)) [0] [0] [(16, .one (.sl 0 1 0 r2.2.length)), (8, vl eValue p1), (9, vi (p1.length : Int)), (10, vi x1), (14, .j), (15, .ag (qa1000 e1))] [.arr 1 ((eK .u8).els r2.2), .box (qa1000 e1)] (by kernel_rfl) (c_value_key_s BIG _ _ _ c16) (by kernel_rfl) (by kernel_rfl) (by kernel_rfl) (by kernel_rfl) (by kernel_rfl) (by kernel_rfl) (by kernel_rfl) ?_
     exact zg [5] 1 [3,8,9,10] (zd (hK13 _ _ (zr (zg [5] 2 [3,8,9,10] (zd (XR.sub (Sub.trans (Sub.pick (fr' := [(3, .one (.sl 0 1 0 r2.2.length)), (8, vl eValue p1), (9, vi (p1.length : Int)), (10, vi (IntKind.i64.wrap (x1 + (1 : Int))))]) [3,8,9,10] (by kernel_rfl)) (Sub.take (fr' := [(3, .one (.sl 0 1 0 r2.2.length)), (8, vl eValue p1), (9, vi (p1.length : Int)), (10, vi (IntKind.i64.wrap (x1 + (1 : Int))))]) 1 (Nat.zero_le _) (by kernel_rfl) (by kernel_rfl))) (ih1 r2.2 (IntKind.i64.wrap (x1 + (1 : Int))) h)))))))
    ·exact zx 0 (hQ1 _ _ _ (hJ1 l1 h _ _ (zk [3])))
  exact XR.sub (zk [3,8,9,10]) (hL1 BIG [] (0 : Int) h)

def value_HashBytes_j1 (x3 : Int) : Option Int :=
    some x3

def value_HashBytes_l1 (p1 : (List Int)) : Nat → Int → Int → Option Int
  | 0, _, _ => none
  | k1 + 1, x1, x2 =>
    ift (decide (x2 < (p1.length : Int)))
      (bnd (at? p1 x2) fun e1 =>
       bnd (some (IntKind.u64.wrap (BitVec.ofInt (IntKind.u64).bits x1 ^^^ BitVec.ofInt (IntKind.u64).bits (IntKind.u64.wrap e1)).toNat)) fun y1 =>
       (value_HashBytes_l1 p1 k1) (IntKind.u64.wrap (y1 * (1099511628211 : Int))) (IntKind.i64.wrap (x2 + (1 : Int))))
      (value_HashBytes_j1 x1)

def value_HashBytes (p1 : (List Int)) : Option Int :=
    value_HashBytes_l1 p1 BIG (14695981039346656037 : Int) (0 : Int)


theorem c_value_HashBytes (p1 : (List Int)) (r : Int) (h : value_HashBytes p1 = some r) : PC Tryd.prog 44 [vl (eK .u8) p1] (vk .u64 r) := by
 unfold value_HashBytes at h
 refine zF 19 Tryd.f44 (zq fun K1 hK1 => zr (zg [] 1 [0] (zd (hK1 _ _ (zq fun K2 hK2 => zr ?_)))))
 refine zg [] 1 [0,3] (zd (hK2 _ _ (zq fun K3 hK3 => ?_)))
 have hJ1 : ∀ (x3 : Int), value_HashBytes_j1 x3 = some r → ∀ fr1 st1, Sub 19 0 [] fr1 st1 [(3, vk .u64 x3)] [] → K3 fr1 st1 := by
  intro x3 h fr1 st1 hS
  unfold value_HashBytes_j1 at h
  refine hK3 _ _ (XW.sub hS ?_)
  refine zq fun K12 hK12 => zr (zg [] 2 [2] (zd (hK12 _ _ (ze ?_))))
  obtain rfl := Option.some.inj h
  exact zf [vk .u64 x3] (.one (.rfl _ rfl))
 refine zq fun K4 hK4 => zr (zv [] 2 [3,6,7] [] [(3, vk .u64 (14695981039346656037 : Int)), (6, vl (eK .u8) p1), (7, vi (((eK .u8).els p1).length : Int))] [] ?_)
 rw [(eK .u8).len p1]
 refine zg [] 1 [3,6,7,8] (zd (hK4 _ _ (zb 0 (XW.rounds' BIG (x := cd Tryd.f44 [1,1,0,1,0,0]) (by kernel_rfl) fun Q1 hQ1 => ?_))))
 have hL1 : ∀ (k1 : Nat) (x1 : Int) (x2 : Int), value_HashBytes_l1 p1 k1 x1 x2 = some r → XR Tryd.prog 19 0 [] (cd Tryd.f44 [1,1,0,1,0,0]) Q1 k1 [(3, vk .u64 x1), (6, vl (eK .u8) p1), (7, vi (p1.length : Int)), (8, vi x2)] [] := by
  intro k1
  induction k1 with
  | zero => intro x1 x2 h; rw [value_HashBytes_l1.eq_1] at h; cases h
  | succ k1 ih1 =>
   intro x1 x2 h
   rw [value_HashBytes_l1.eq_2] at h
   refine zq fun K5 hK5 => zr (zg [] 1 [3,6,7,8,9] (zd (hK5 _ _ (zq fun K6 hK6 => zC h (fun b7 h => ?_) (fun b7 h => ?_)))))
   ·refine zs (hK6 _ _ (zq fun K8 hK8 => zb 1 (zq fun K9 hK9 => ?_)))
    obtain ⟨e1, a10, h⟩ := zB h
    refine zr (zo [] 3 [3,5,6,7,8] [[.s (.int .u8 e1)]] [0 ≤ x2 ∧ x2 < (((eK .u8).els p1).length : Int) ∧ elemsOk 1 ((eK .u8).els p1), ((eK .u8).els p1)[x2.toNat]? = some [.s (.int .u8 e1)]] (⟨(eK .u8).inb a10, ((eK .u8).get a10), trivial⟩) (zd (hK9 _ _ ?_)))
    obtain ⟨y1, hy11, h⟩ := zB h
    refine zr (zv [] 4 [6,7,8,15] [] [(6, vl (eK .u8) p1), (7, vi (p1.length : Int)), (8, vi x2), (15, vk .u64 (IntKind.u64.wrap (BitVec.ofInt (IntKind.u64).bits x1 ^^^ BitVec.ofInt (IntKind.u64).bits (IntKind.u64.wrap e1)).toNat))] [] ?_)
    rw [show (IntKind.u64.wrap (BitVec.ofInt (IntKind.u64).bits x1 ^^^ BitVec.ofInt (IntKind.u64).bits (IntKind.u64.wrap e1)).toNat) = y1 from Option.some.inj hy11]
    exact zg [] 2 [3,6,7,8] (zd (hK8 _ _ (zr (zg [] 2 [3,6,7,8] (zd (XR.sub (zk [3,6,7,8]) (ih1 (IntKind.u64.wrap (y1 * (1099511628211 : Int))) (IntKind.i64.wrap (x2 + (1 : Int))) h)))))))
   ·exact zx 0 (hQ1 _ _ _ (hJ1 x1 h _ _ (zk [3])))
 exact XR.sub (zk [3,6,7,8]) (hL1 BIG (14695981039346656037 : Int) (0 : Int) h)

def value_Hash (p1 : GValue) : Option Int :=
    bnd (value_Key [p1]) fun r1 =>
    bnd (value_HashBytes r1) fun r2 =>
    some r2


theorem c_value_Hash (p1 : GValue) (r : Int) (h : value_Hash p1 = some r) : PC Tryd.prog 17 [.ag [ci p1.kind, ci p1.n, ci p1.scale, cst p1.s, cl eValue p1.items]] (vk .u64 r) := by
 unfold value_Hash at h
 refine zF 7 Tryd.f17 (zq fun K1 hK1 => zr (zg [] 2 [1] (zd (hK1 _ _ (zq fun K2 hK2 => ?_)))))
 obtain ⟨r1, c3, h⟩ := zB h
 obtain ⟨r2, c4, h⟩ := zB h
 refine zr (zv [] 2 [4] [[pi p1.kind, pi p1.n, pi p1.scale, .s (.string p1.s), .ro (eValue.els p1.items)]] [(4, .one (.pv (.ro [[pi p1.kind, pi p1.n, pi p1.scale, .s (.string p1.s), .ro (eValue.els p1.items)]])))] [] ?_)
 rw [show ([[pi p1.kind, pi p1.n, pi p1.scale, .s (.string p1.s), .ro (eValue.els p1.items)]] : List (List PV)) = eValue.els [p1] from by cases p1; rfl]
 refine za (c_value_Key _ _ c3) (za (c_value_HashBytes _ _ c4) (zv [] 1 [2] [] [(2, vk .u64 r2)] [] (zd (hK2 _ _ (ze ?_)))))
 obtain rfl := Option.some.inj h
 exact zf [vk .u64 r2] (.one (.rfl _ rfl))

def ref1_within_j1 (x1 : Bool) : Option Bool :=
    some x1

def ref1_within (p1 : Int) (p2 : Int) (p3 : Int) : Option Bool :=
    ift (decide (p2 ≤ p1))
      (ref1_within_j1 (decide (p1 ≤ p3)))
      (ref1_within_j1 false)


theorem c_ref1_within (p1 : Int) (p2 : Int) (p3 : Int) (r : Bool) (h : ref1_within p1 p2 p3 = some r) : PC Tryd.prog 68 [vi p1, vi p2, vi p3] (vb r) := by
 unfold ref1_within at h
 refine zF 15 Tryd.f68 (zq fun K1 hK1 => zr (zg [] 1 [0,1,2] (zd (hK1 _ _ (zq fun K2 hK2 => ?_)))))
 have hJ1 : ∀ (x1 : Bool), ref1_within_j1 x1 = some r → ∀ fr1 st1, Sub 15 0 [] fr1 st1 [(6, vb x1)] [] → K2 fr1 st1 := by
  intro x1 h fr1 st1 hS
  unfold ref1_within_j1 at h
  refine hK2 _ _ (XW.sub hS ?_)
  refine ze ?_
  obtain rfl := Option.some.inj h
  exact zf [vb x1] (.one (.rfl _ rfl))
 rcases zW h with ⟨b3, h⟩ | ⟨b3, h⟩
 ·exact zr (zg [] 4 [0,2,10] (zt 10 b3 (zv [] 5 [6] [] [(6, vb (decide (p1 ≤ p3)))] [] (zd (hJ1 (decide (p1 ≤ p3)) h _ _ (zk [6]))))))
 ·exact zr (zg [] 4 [0,2,10] (zt 10 b3 (zg [] 5 [6] (zd (hJ1 false h _ _ (zk [6]))))))

def ref1_characters_j2 (rec1 : Int → Option Bool) (x2 : Int) (x3 : Bool) : Option Bool :=
    ift x3
      (some false)
      (rec1 (IntKind.i64.wrap (x2 + (1 : Int))))

def ref1_characters_j3 : Option Bool :=
    some true

def ref1_characters_l1 (p1 : ByteArray) : Nat → Int → Option Bool
  | 0, _ => none
  | k1 + 1, x2 =>
    ift (decide (x2 < (p1.size : Int)))
      (grd (0 ≤ x2 ∧ x2 < (p1.size : Int)) <|
       bnd (some (decide (((p1.data.toList.getD x2.toNat 0).toNat : Int) < (32 : Int)))) fun y1 =>
       ift y1
         (ref1_characters_j2 (ref1_characters_l1 p1 k1) x2 true)
         (grd (0 ≤ x2 ∧ x2 < (p1.size : Int)) <|
          ref1_characters_j2 (ref1_characters_l1 p1 k1) x2 (((p1.data.toList.getD x2.toNat 0).toNat : Int) == (127 : Int))))
      (ref1_characters_j3)

def ref1_characters_j1 (p1 : ByteArray) (x1 : Bool) : Option Bool :=
    ift x1
      (some false)
      (ref1_characters_l1 p1 BIG (0 : Int))

def ref1_characters (p1 : ByteArray) : Option Bool :=
    bnd (utf8_ValidString p1) fun r1 =>
    ift (!r1)
      (ref1_characters_j1 p1 true)
      (ref1_characters_j1 p1 (decide ((256 : Int) < (p1.size : Int))))


theorem c_ref1_characters (p1 : ByteArray) (r : Bool) (h : ref1_characters p1 = some r) : PC Tryd.prog 115 [vs p1] (vb r) := by
 unfold ref1_characters at h
 refine zF 28 Tryd.f115 (zq fun K1 hK1 => zr (zg [] 1 [0] (zd (hK1 _ _ (zq fun K2 hK2 => zq fun K3 hK3 => ?_)))))
 have hJ1 : ∀ (x1 : Bool), ref1_characters_j1 p1 x1 = some r → ∀ fr1 st1, Sub 28 0 [] fr1 st1 [(0, vs p1), (11, vb x1)] [] → K3 fr1 st1 := by
  intro x1 h fr1 st1 hS
  unfold ref1_characters_j1 at h
  refine hK3 _ _ (XW.sub hS ?_)
  refine zC h (fun b6 h => ?_) (fun b6 h => ?_)
  ·refine zq fun K7 hK7 => zr (zg [] 1 [2] (zd (hK7 _ _ (ze ?_))))
   obtain rfl := Option.some.inj h
   exact zf [vb false] (.one (.rfl _ rfl))
  ·refine zs (hK2 _ _ (zq fun K8 hK8 => ?_))
   have hJ3 : ∀ (_ : Unit), ref1_characters_j3 = some r → ∀ fr1 st1, Sub 28 0 [] fr1 st1 [] [] → K8 fr1 st1 := by
    intro _ h fr1 st1 hS
    unfold ref1_characters_j3 at h
    refine hK8 _ _ (XW.sub hS ?_)
    refine zq fun K21 hK21 => zr (zg [] 1 [2] (zd (hK21 _ _ (ze ?_))))
    obtain rfl := Option.some.inj h
    exact zf [vb true] (.one (.rfl _ rfl))
   refine zq fun K9 hK9 => zr (zg [] 1 [0,3] (zd (hK9 _ _ (zb 0 (XW.rounds' BIG (x := cd Tryd.f115 [1,1,0,1,0,0]) (by kernel_rfl) fun Q1 hQ1 => ?_)))))
   have hL1 : ∀ (k1 : Nat) (x2 : Int), ref1_characters_l1 p1 k1 x2 = some r → XR Tryd.prog 28 0 [] (cd Tryd.f115 [1,1,0,1,0,0]) Q1 k1 [(0, vs p1), (3, vi x2)] [] := by
    intro k1
    induction k1 with
    | zero => intro x2 h; rw [ref1_characters_l1.eq_1] at h; cases h
    | succ k1 ih1 =>
     intro x2 h
     rw [ref1_characters_l1.eq_2] at h
     refine zq fun K10 hK10 => zq fun K11 hK11 => zr (zg [] 4 [0,3,15] (zd (hK11 _ _ (zC h (fun b12 h => ?_) (fun b12 h => ?_)))))
     ·refine zs (hK10 _ _ (zq fun K13 hK13 => zb 1 (zq fun K14 hK14 => ?_)))
      have hJ2 : ∀ (x3 : Bool), ref1_characters_j2 (ref1_characters_l1 p1 k1) x2 x3 = some r → ∀ fr1 st1, Sub 28 0 [] fr1 st1 [(0, vs p1), (3, vi x2), (27, vb x3)] [] → K14 fr1 st1 := by
       intro x3 h fr1 st1 hS
       unfold ref1_characters_j2 at h
       refine hK14 _ _ (XW.sub hS ?_)
       refine zC h (fun b19 h => ?_) (fun b19 h => ?_)
       ·refine zq fun K20 hK20 => zr (zg [] 1 [2] (zd (hK20 _ _ (ze (hQ1 _ _ _ ?_)))))
        obtain rfl := Option.some.inj h
        exact zf [vb false] (.one (.rfl _ rfl))
       ·exact zs (hK13 _ _ (zr (zg [] 3 [0,3] (zd (XR.sub (zk [0,3]) (ih1 (IntKind.i64.wrap (x2 + (1 : Int))) h))))))
      obtain ⟨g15, h⟩ := zG h
      obtain ⟨y1, hy16, h⟩ := zB h
      rcases zW h with ⟨b17, h⟩ | ⟨b17, h⟩
      ·refine zr (zp [] 4 [0,3,21] [] [(0, vs p1), (3, vi x2), (21, vb (decide (((p1.data.toList.getD x2.toNat 0).toNat : Int) < (32 : Int))))] [] [0 ≤ x2 ∧ x2 < (p1.size : Int)] (⟨g15, trivial⟩) ?_)
       rw [show (decide (((p1.data.toList.getD x2.toNat 0).toNat : Int) < (32 : Int))) = y1 from Option.some.inj hy16]
       exact zg [] 1 [0,3,22] (zt 22 b17 (zg [] 5 [0,3,27] (zd (hJ2 true h _ _ (zk [0,3,27])))))
      ·obtain ⟨g18, h⟩ := zG h
       refine zr (zp [] 4 [0,3,21] [] [(0, vs p1), (3, vi x2), (21, vb (decide (((p1.data.toList.getD x2.toNat 0).toNat : Int) < (32 : Int))))] [] [0 ≤ x2 ∧ x2 < (p1.size : Int)] (⟨g15, trivial⟩) ?_)
       rw [show (decide (((p1.data.toList.getD x2.toNat 0).toNat : Int) < (32 : Int))) = y1 from Option.some.inj hy16]
       exact zg [] 1 [0,3,22] (zt 22 b17 (zo [] 5 [0,3,27] [] [0 ≤ x2 ∧ x2 < (p1.size : Int)] (⟨g18, trivial⟩) (zd (hJ2 (((p1.data.toList.getD x2.toNat 0).toNat : Int) == (127 : Int)) h _ _ (zk [0,3,27])))))
     ·exact zx 0 (hQ1 _ _ _ (hJ3 () h _ _ (zk [])))
   exact XR.sub (zk [0,3]) (hL1 BIG (0 : Int) h)
 obtain ⟨r1, c4, h⟩ := zB h
 rcases zW h with ⟨b5, h⟩ | ⟨b5, h⟩
 ·exact zr (zg [] 1 [0,4] (zl 126 [vs p1] (vb r1) [(5, vb r1), (0, vs p1), (4, vs p1)] (c_utf8_ValidString _ _ c4) (zg [] 2 [0,7] (zt 7 b5 (zg [] 4 [0,11] (zd (hJ1 true h _ _ (zk [0,11]))))))))
 ·exact zr (zv [] 1 [0,4] [] [(0, vs p1), (4, vs p1)] [] (za (c_utf8_ValidString _ _ c4) (zg [] 2 [0,7] (zt 7 b5 (zv [] 4 [0,11] [] [(0, vs p1), (11, vb (decide ((256 : Int) < (p1.size : Int))))] [] (zd (hJ1 (decide ((256 : Int) < (p1.size : Int))) h _ _ (zk [0,11]))))))))


end Go.Proofs.YtdkmclmdemngfaaDoor
