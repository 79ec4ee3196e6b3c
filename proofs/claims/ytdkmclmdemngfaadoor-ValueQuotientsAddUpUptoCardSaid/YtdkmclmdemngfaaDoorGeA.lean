/- The shelf's contract of utf8.ValidString, laid at this program. Printed by a program: what the functions compute, and the proofs of their contracts. -/
import Derived.Test.YtdkmclmdemngfaaDoorProg
import Derived.Test.YtdkmclmdemngfaaDoorChecked
import Derived.Test.YtdkmclmdemngfaaDoorSxB
namespace Go.Proofs.YtdkmclmdemngfaaDoor
open Go Go.SX Go.Shelf Go.Lib
set_option linter.unusedVariables false

def u8ren : Ren where
 f := fun n => if n = 196 then 126 else if n = 259 then 132 else n
 t := fun n => if n = 0 then 0 else if n = 3 then 3 else if n = 4 then 4 else if n = 5 then 5 else if n = 9 then 9 else if n = 12 then 12 else if n = 46 then 131 else if n = 53 then 36 else if n = 119 then 133 else if n = 138 then 135 else if n = 139 then 136 else n
 g := fun n => if n = 3 then 1 else if n = 4 then 2 else n

set_option maxRecDepth 100000 in
theorem u8lays : Lays.n196 Tryd.prog u8ren where
 mixed := by kernel_rfl
 f196 := by kernel_rfl
 f259 := by kernel_rfl
 t0 := by kernel_rfl
 a0 := fun w => by kernel_rfl
 z0 := fun w => by kernel_rfl
 v0 := fun w => by kernel_rfl
 t3 := by kernel_rfl
 a3 := fun w => by kernel_rfl
 z3 := fun w => by kernel_rfl
 v3 := fun w => by kernel_rfl
 t4 := by kernel_rfl
 a4 := fun w => by kernel_rfl
 z4 := fun w => by kernel_rfl
 v4 := fun w => by kernel_rfl
 t5 := by kernel_rfl
 a5 := fun w => by kernel_rfl
 z5 := fun w => by kernel_rfl
 v5 := fun w => by kernel_rfl
 t9 := by kernel_rfl
 a9 := fun w => by kernel_rfl
 z9 := fun w => by kernel_rfl
 v9 := fun w => by kernel_rfl
 t12 := by kernel_rfl
 a12 := fun w => by kernel_rfl
 z12 := fun w => by kernel_rfl
 v12 := fun w => by kernel_rfl
 t46 := by kernel_rfl
 a46 := fun w => by kernel_rfl
 z46 := fun w => by kernel_rfl
 v46 := fun w => by kernel_rfl
 t53 := by kernel_rfl
 a53 := fun w => by kernel_rfl
 z53 := fun w => by kernel_rfl
 v53 := fun w => by kernel_rfl
 t119 := by kernel_rfl
 a119 := fun w => by kernel_rfl
 z119 := fun w => by kernel_rfl
 t138 := by kernel_rfl
 a138 := fun w => by kernel_rfl
 z138 := fun w => by kernel_rfl
 v138 := fun w => by kernel_rfl
 t139 := by kernel_rfl
 a139 := fun w => by kernel_rfl
 z139 := fun w => by kernel_rfl
 v139 := fun w => by kernel_rfl
 g3 := by kernel_rfl
 g4 := by kernel_rfl

def utf8_ValidString (p1 : ByteArray) : Option Bool := grd (p1.size ≤ 9223372036854775807) <| some (validD p1.data.toList)

theorem c_utf8_ValidString (p1 : ByteArray) (r : Bool) (h : utf8_ValidString p1 = some r) : PC Tryd.prog 126 [vs p1] (vb r) := by
 unfold utf8_ValidString at h
 obtain ⟨g1, h⟩ := grd_some h
 obtain rfl := Option.some.inj h
 exact pc_validString u8lays (by kernel_rfl) (by kernel_rfl) p1 g1

end Go.Proofs.YtdkmclmdemngfaaDoor
namespace Go.Proofs.YtdkmclmdemngfaaDoor
open Go.SX Go
set_option linter.unusedVariables false
set_option linter.unusedSimpArgs false
set_option maxRecDepth 100000
set_option maxHeartbeats 8000000

def law1_number (p1 : Int) : Option GValue :=
    some (GValue.mk (2 : Int) p1 (0 : Int) ByteArray.empty [])


theorem c_law1_number (p1 : Int) (r : GValue) (h : law1_number p1 = some r) : PC Tryd.prog 10 [vi p1] (.ag [ci r.kind, ci r.n, ci r.scale, cst r.s, cl eValue r.items]) := by
 unfold law1_number at h
 refine zF 5 Tryd.f10 (zq fun K1 hK1 => zr (zg [2] 1 [0,2] (zd (hK1 _ _ (zq fun K2 hK2 => zr ?_)))))
 refine zg [2] 3 [2] (zd (hK2 _ _ (ze ?_)))
 obtain rfl := Option.some.inj h
 exact zf [.ag [ci (2 : Int), ci p1, ci (0 : Int), cst ByteArray.empty, .pv (.s (.slice none 0 0))]] (.ag (.cons (.rfl _ rfl) (.cons (.rfl _ rfl) (.cons (.rfl _ rfl) (.cons (.rfl _ rfl) (.cons (.nl) .nil))))))

def value_within_j1 (x1 : Bool) : Option Bool :=
    some x1

def value_within (p1 : Int) (p2 : Int) (p3 : Int) : Option Bool :=
    ift (decide (p2 ≤ p1))
      (value_within_j1 (decide (p1 ≤ p3)))
      (value_within_j1 false)


theorem c_value_within (p1 : Int) (p2 : Int) (p3 : Int) (r : Bool) (h : value_within p1 p2 p3 = some r) : PC Tryd.prog 63 [vi p1, vi p2, vi p3] (vb r) := by
 unfold value_within at h
 refine zF 15 Tryd.f63 (zq fun K1 hK1 => zr (zg [] 1 [0,1,2] (zd (hK1 _ _ (zq fun K2 hK2 => ?_)))))
 have hJ1 : ∀ (x1 : Bool), value_within_j1 x1 = some r → ∀ fr1 st1, Sub 15 0 [] fr1 st1 [(6, vb x1)] [] → K2 fr1 st1 := by
  intro x1 h fr1 st1 hS
  unfold value_within_j1 at h
  refine hK2 _ _ (XW.sub hS ?_)
  refine ze ?_
  obtain rfl := Option.some.inj h
  exact zf [vb x1] (.one (.rfl _ rfl))
 rcases zW h with ⟨b3, h⟩ | ⟨b3, h⟩
 ·exact zr (zg [] 4 [0,2,10] (zt 10 b3 (zv [] 5 [6] [] [(6, vb (decide (p1 ≤ p3)))] [] (zd (hJ1 (decide (p1 ≤ p3)) h _ _ (zk [6]))))))
 ·exact zr (zg [] 4 [0,2,10] (zt 10 b3 (zg [] 5 [6] (zd (hJ1 false h _ _ (zk [6]))))))

def value_text_j2 (rec1 : Nat → Option Bool) (p1 : ByteArray) (z1 : Nat) (x2 : Bool) : Option Bool :=
    ift x2
      (some false)
      (rec1 (z1 + (Utf8.decode p1 z1).2))

def value_text_j3 : Option Bool :=
    some true

def value_text_l1 (p1 : ByteArray) : Nat → Nat → Option Bool
  | 0, _ => none
  | k1 + 1, z1 =>
    ift (decide (z1 < p1.size))
      (ift (decide (Int.ofNat (Utf8.decode p1 z1).1 < (32 : Int)))
         (value_text_j2 (value_text_l1 p1 k1) p1 z1 true)
         (value_text_j2 (value_text_l1 p1 k1) p1 z1 (Int.ofNat (Utf8.decode p1 z1).1 == (127 : Int))))
      (value_text_j3)

def value_text_j1 (p1 : ByteArray) (x1 : Bool) : Option Bool :=
    ift x1
      (some false)
      (value_text_l1 p1 BIG 0)

def value_text (p1 : ByteArray) : Option Bool :=
    ift (decide ((256 : Int) < (p1.size : Int)))
      (value_text_j1 p1 true)
      (bnd (utf8_ValidString p1) fun r1 =>
       value_text_j1 p1 (!r1))

abbrev qa1470 (p1 : ByteArray) (z1 : Nat) : St := [.raw (.stringIter p1 (z1 + (Utf8.decode p1 z1).2))]

theorem c_value_text (p1 : ByteArray) (r : Bool) (h : value_text p1 = some r) : PC Tryd.prog 114 [vs p1] (vb r) := by
 unfold value_text at h
 refine zF 24 Tryd.f114 (zq fun K1 hK1 => zr (zg [] 1 [0] (zd (hK1 _ _ (zq fun K2 hK2 => zq fun K3 hK3 => ?_)))))
 have hJ1 : ∀ (x1 : Bool), value_text_j1 p1 x1 = some r → ∀ fr1 st1, Sub 24 0 [] fr1 st1 [(0, vs p1), (12, vb x1)] [] → K3 fr1 st1 := by
  intro x1 h fr1 st1 hS
  unfold value_text_j1 at h
  refine hK3 _ _ (XW.sub hS ?_)
  refine zC h (fun b6 h => ?_) (fun b6 h => ?_)
  ·refine zq fun K7 hK7 => zr (zg [] 1 [2] (zd (hK7 _ _ (ze ?_))))
   obtain rfl := Option.some.inj h
   exact zf [vb false] (.one (.rfl _ rfl))
  ·refine zs (hK2 _ _ (zq fun K8 hK8 => ?_))
   have hJ3 : ∀ (_ : Unit), value_text_j3 = some r → ∀ fr1 st1, Sub 24 0 [] fr1 st1 [] [] → K8 fr1 st1 := by
    intro _ h fr1 st1 hS
    unfold value_text_j3 at h
    refine hK8 _ _ (XW.sub hS ?_)
    refine zq fun K19 hK19 => zr (zg [] 1 [2] (zd (hK19 _ _ (ze ?_))))
    obtain rfl := Option.some.inj h
    exact zf [vb true] (.one (.rfl _ rfl))
   refine zq fun K9 hK9 => zr (zv [] 1 [13] [] [(13, vs p1)] [] (XO.rng p1 [(14, .one (.pt 0 0 0 0)), (13, vs p1)] [.raw (.stringIter p1 0)] (by kernel_rfl) (by kernel_rfl) (by kernel_rfl) (zd (hK9 _ _ (zb 0 (XW.rounds' BIG (x := cd Tryd.f114 [1,1,0,1,0,0]) (by kernel_rfl) fun Q1 hQ1 => ?_))))))
   have hL1 : ∀ (k1 : Nat) (z1 : Nat), value_text_l1 p1 k1 z1 = some r → XR Tryd.prog 24 0 [] (cd Tryd.f114 [1,1,0,1,0,0]) Q1 k1 [(14, .one (.pt 0 0 0 0))] [.raw (.stringIter p1 z1)] := by
    intro k1
    induction k1 with
    | zero => intro z1 h; rw [value_text_l1.eq_1] at h; cases h
    | succ k1 ih1 =>
     intro z1 h
     rw [value_text_l1.eq_2] at h
     refine zq fun K10 hK10 => ?_
     rcases zW h with ⟨b11, h⟩ | ⟨b11, h⟩
     ·refine zr (XO.nxt 0 p1 z1 [(15, .tp [vb true, vi (Int.ofNat z1), vk .i32 (Int.ofNat (Utf8.decode p1 z1).1)]), (14, .one (.pt 0 0 0 0))] (qa1470 p1 z1) (by kernel_rfl) (by kernel_rfl) (by kernel_rfl) (by kernel_rfl) b11 (zg [] 1 [14,15,16] (zd (hK10 _ _ (zq fun K12 hK12 => zc true (fun _ => ?_) (fun hx => by cases hx))))))
      refine zs (hK12 _ _ (zb 1 (zq fun K13 hK13 => zr (zg [] 2 [4,14] (zd (hK13 _ _ ?_))))))
      refine zq fun K14 hK14 => ?_
      have hJ2 : ∀ (x2 : Bool), value_text_j2 (value_text_l1 p1 k1) p1 z1 x2 = some r → ∀ fr1 st1, Sub 24 0 [] fr1 st1 [(14, .one (.pt 0 0 0 0)), (23, vb x2)] (qa1470 p1 z1) → K14 fr1 st1 := by
       intro x2 h fr1 st1 hS
       unfold value_text_j2 at h
       refine hK14 _ _ (XW.sub hS ?_)
       refine zC h (fun b16 h => ?_) (fun b16 h => ?_)
       ·refine zq fun K17 hK17 => zr (zg [] 1 [2] (zd (hK17 _ _ (ze (hQ1 _ _ _ ?_)))))
        obtain rfl := Option.some.inj h
        exact zf [vb false] (.one (.rfl _ rfl))
       ·exact zs (XR.sub (zk [14]) (ih1 (z1 + (Utf8.decode p1 z1).2) h))
      rcases zW h with ⟨b15, h⟩ | ⟨b15, h⟩
      ·exact zr (zv [] 3 [4,14,20] [] [(4, vk .i32 (Int.ofNat (Utf8.decode p1 z1).1)), (14, .one (.pt 0 0 0 0)), (20, vb (decide (Int.ofNat (Utf8.decode p1 z1).1 < (32 : Int))))] (qa1470 p1 z1) (zt 20 b15 (zg [] 3 [14,23] (zd (hJ2 true h _ _ (zk [14,23]))))))
      ·exact zr (zg [] 3 [4,14,20] (zt 20 b15 (zv [] 3 [14,23] [] [(14, .one (.pt 0 0 0 0)), (23, vb (Int.ofNat (Utf8.decode p1 z1).1 == (127 : Int)))] (qa1470 p1 z1) (zd (hJ2 (Int.ofNat (Utf8.decode p1 z1).1 == (127 : Int)) h _ _ (zk [14,23]))))))
     ·refine zr (XO.nxtE 0 p1 z1 [(15, .tp [vb false]), (14, .one (.pt 0 0 0 0))] (by kernel_rfl) (by kernel_rfl) (by kernel_rfl) b11 (zv [] 1 [14,15,16] [] [(14, .one (.pt 0 0 0 0)), (15, .tp [vb false]), (16, vb false)] [.raw (.stringIter p1 z1)] (zd (hK10 _ _ (zq fun K18 hK18 => zc false (fun hx => by cases hx) (fun _ => ?_))))))
      exact zx 0 (hQ1 _ _ _ (hJ3 () h _ _ (Sub.trans (Sub.pick (fr' := []) [] (by kernel_rfl)) (Sub.take (fr' := []) 0 (Nat.zero_le _) (by kernel_rfl) (by kernel_rfl)))))
   exact XR.sub (zk [14]) (hL1 BIG 0 h)
 rcases zW h with ⟨b4, h⟩ | ⟨b4, h⟩
 ·exact zr (zg [] 4 [0,8] (zt 8 b4 (zv [] 4 [0,12] [] [(0, vs p1), (12, vb true)] [] (zd (hJ1 true h _ _ (zk [0,12]))))))
 ·obtain ⟨r1, c5, h⟩ := zB h
  exact zr (zg [] 4 [0,8] (zt 8 b4 (zg [] 1 [0,8,9] (zl 126 [vs p1] (vb r1) [(10, vb r1), (0, vs p1), (8, vb false), (9, vs p1)] (c_utf8_ValidString _ _ c5) (zg [] 2 [0,12] (zd (hJ1 (!r1) h _ _ (zk [0,12]))))))))

def value_plain_j2 (x2 : Bool) : Option Bool :=
    some x2

def value_plain_j3 (x3 : Bool) : Option Bool :=
    some x3

def value_plain_j4 (x4 : Bool) : Option Bool :=
    some x4

def value_plain_j5 (x5 : Bool) : Option Bool :=
    some x5

def value_plain_j6 (x6 : Bool) : Option Bool :=
    some x6

def value_plain_j7 (x7 : Bool) : Option Bool :=
    some x7

def value_plain_j8 (x8 : Bool) : Option Bool :=
    some x8

def value_plain_j9 (x9 : Bool) : Option Bool :=
    some x9

def value_plain_j1 (p1 : GValue) (x1 : Bool) : Option Bool :=
    ift (p1.kind == (0 : Int))
      (ift x1
         (ift (p1.s.toList == (ByteArray.mk #[]).toList)
            (value_plain_j2 ((p1.items.length : Int) == (0 : Int)))
            (value_plain_j2 false))
         (value_plain_j2 false))
      (ift (p1.kind == (1 : Int))
         (bnd (value_within p1.n (0 : Int) (1 : Int)) fun r1 =>
          ift r1
            (ift (p1.scale == (0 : Int))
               (ift (p1.s.toList == (ByteArray.mk #[]).toList)
                  (value_plain_j3 ((p1.items.length : Int) == (0 : Int)))
                  (value_plain_j3 false))
               (value_plain_j3 false))
            (value_plain_j3 false))
         (ift (p1.kind == (2 : Int))
            (bnd (value_within p1.n (-999999999999999999 : Int) (999999999999999999 : Int)) fun r2 =>
             ift r2
               (ift (p1.scale == (0 : Int))
                  (ift (p1.s.toList == (ByteArray.mk #[]).toList)
                     (value_plain_j4 ((p1.items.length : Int) == (0 : Int)))
                     (value_plain_j4 false))
                  (value_plain_j4 false))
               (value_plain_j4 false))
            (ift (p1.kind == (3 : Int))
               (bnd (value_within p1.n (-999999999999999999 : Int) (999999999999999999 : Int)) fun r3 =>
                ift r3
                  (bnd (value_within p1.scale (0 : Int) (12 : Int)) fun r4 =>
                   ift r4
                     (ift (p1.s.toList == (ByteArray.mk #[]).toList)
                        (value_plain_j5 ((p1.items.length : Int) == (0 : Int)))
                        (value_plain_j5 false))
                     (value_plain_j5 false))
                  (value_plain_j5 false))
               (ift (p1.kind == (4 : Int))
                  (ift x1
                     (bnd (value_text p1.s) fun r5 =>
                      ift r5
                        (value_plain_j6 ((p1.items.length : Int) == (0 : Int)))
                        (value_plain_j6 false))
                     (value_plain_j6 false))
                  (ift (p1.kind == (5 : Int))
                     (bnd (value_within p1.n (-62135596800 : Int) (253402300799 : Int)) fun r6 =>
                      ift r6
                        (ift (p1.scale == (0 : Int))
                           (ift (p1.s.toList == (ByteArray.mk #[]).toList)
                              (value_plain_j7 ((p1.items.length : Int) == (0 : Int)))
                              (value_plain_j7 false))
                           (value_plain_j7 false))
                        (value_plain_j7 false))
                     (ift (p1.kind == (6 : Int))
                        (ift x1
                           (ift (p1.s.toList == (ByteArray.mk #[]).toList)
                              (value_plain_j8 (decide ((p1.items.length : Int) ≤ (64 : Int))))
                              (value_plain_j8 false))
                           (value_plain_j8 false))
                        (ift (p1.kind == (7 : Int))
                           (ift x1
                              (ift (p1.s.toList == (ByteArray.mk #[]).toList)
                                 (value_plain_j9 (decide ((0 : Int) < (p1.items.length : Int))))
                                 (value_plain_j9 false))
                              (value_plain_j9 false))
                           (some false))))))))

def value_plain (p1 : GValue) : Option Bool :=
    ift (p1.n == (0 : Int))
      (value_plain_j1 p1 (p1.scale == (0 : Int)))
      (value_plain_j1 p1 false)

abbrev qa1479 (p1 : GValue) : List PV := [pi p1.kind, pi p1.n, pi p1.scale, .s (.string p1.s), .ro (eValue.els p1.items)]
abbrev qa1496 (p1 : GValue) (r2 : Bool) : Fr := [(53, vb r2), (1, .one (.pv (.rp [(qa1479 p1)] 0 0))), (52, vi p1.n)]
abbrev qa1498 (p1 : GValue) : Fr := [(1, .one (.pv (.rp [(qa1479 p1)] 0 0))), (73, vi p1.n)]
abbrev qa1504 (p1 : GValue) (r6 : Bool) : Fr := [(109, vb r6), (1, .one (.pv (.rp [(qa1479 p1)] 0 0))), (108, vi p1.n)]

theorem c_value_plain (p1 : GValue) (r : Bool) (h : value_plain p1 = some r) : PC Tryd.prog 77 [.ag [ci p1.kind, ci p1.n, ci p1.scale, cst p1.s, cl eValue p1.items]] (vb r) := by
 unfold value_plain at h
 refine zF 154 Tryd.f77 (zq fun K1 hK1 => zr (zg [] 2 [1] (zd (hK1 _ _ (zq fun K2 hK2 => ?_)))))
 have hJ1 : ∀ (x1 : Bool), value_plain_j1 p1 x1 = some r → ∀ fr1 st1, Sub 154 0 [] fr1 st1 [(1, .one (.pv (.rp [(qa1479 p1)] 0 0))), (3, vb x1)] [] → K2 fr1 st1 := by
  intro x1 h fr1 st1 hS
  unfold value_plain_j1 at h
  refine hK2 _ _ (XW.sub hS ?_)
  refine zq fun K4 hK4 => zq fun K5 hK5 => zr (zu [] 2 [1,3,13] [(qa1479 p1)] (zd (hK5 _ _ (zb 0 (zq fun K6 hK6 => ?_)))))
  refine zr (zg [] 2 [1,3,13,14] (zd (hK6 _ _ (zC h (fun b7 h => ?_) (fun b7 h => ?_)))))
  ·refine zq fun K8 hK8 => ?_
   have hJ2 : ∀ (x2 : Bool), value_plain_j2 x2 = some r → ∀ fr1 st1, Sub 154 0 [] fr1 st1 [(2, vb x2)] [] → K8 fr1 st1 := by
    intro x2 h fr1 st1 hS
    unfold value_plain_j2 at h
    refine hK8 _ _ (XW.sub hS ?_)
    refine ze ?_
    obtain rfl := Option.some.inj h
    exact zf [vb x2] (.one (.rfl _ rfl))
   rcases zW h with ⟨b9, h⟩ | ⟨b9, h⟩
   ·rcases zW h with ⟨b10, h⟩ | ⟨b10, h⟩
    ·refine zr (zv [] 2 [1,17] [] [(1, .one (.pv (.rp [[pi p1.kind, pi p1.n, pi p1.scale, .s (.string p1.s), .ro (eValue.els p1.items)]] 0 0))), (17, vb x1)] [] (zt 17 b9 (zu [] 5 [1,22] [[pi p1.kind, pi p1.n, pi p1.scale, .s (.string p1.s), .ro (eValue.els p1.items)]] (zt 22 b10 (zv [] 3 [22,25] [[pi p1.kind, pi p1.n, pi p1.scale, .s (.string p1.s), .ro (eValue.els p1.items)]] [(22, vb true), (25, vi ((eValue.els p1.items).length : Int))] [] ?_)))))
     rw [eValue.len p1.items]
     exact zg [] 3 [2] (zd (hJ2 ((p1.items.length : Int) == (0 : Int)) h _ _ (zk [2])))
    ·exact zr (zg [] 2 [1,17] (zt 17 b9 (zv [] 5 [1,22] [(qa1479 p1)] [(1, .one (.pv (.rp [(qa1479 p1)] 0 0))), (22, vb (p1.s.toList == (ByteArray.mk #[]).toList))] [] (zt 22 b10 (zg [] 6 [2] (zd (hJ2 false h _ _ (zk [2]))))))))
   ·exact zr (zv [] 2 [1,17] [] [(1, .one (.pv (.rp [(qa1479 p1)] 0 0))), (17, vb x1)] [] (zt 17 b9 (zg [] 11 [2] (zd (hJ2 false h _ _ (zk [2]))))))
  ·refine zq fun K11 hK11 => zr (zv [] 2 [1,3,13,28] [] [(1, .one (.pv (.rp [(qa1479 p1)] 0 0))), (3, vb x1), (13, vi p1.kind), (28, vb (p1.kind == (1 : Int)))] [] (zd (hK11 _ _ (zC h (fun b12 h => ?_) (fun b12 h => ?_)))))
   ·refine zq fun K13 hK13 => ?_
    have hJ3 : ∀ (x3 : Bool), value_plain_j3 x3 = some r → ∀ fr1 st1, Sub 154 0 [] fr1 st1 [(2, vb x3)] [] → K13 fr1 st1 := by
     intro x3 h fr1 st1 hS
     unfold value_plain_j3 at h
     refine hK13 _ _ (XW.sub hS ?_)
     refine ze ?_
     obtain rfl := Option.some.inj h
     exact zf [vb x3] (.one (.rfl _ rfl))
    obtain ⟨r1, c14, h⟩ := zB h
    rcases zW h with ⟨b15, h⟩ | ⟨b15, h⟩
    ·rcases zW h with ⟨b16, h⟩ | ⟨b16, h⟩
     ·rcases zW h with ⟨b17, h⟩ | ⟨b17, h⟩
      ·refine zr (zu [] 2 [1,31] [(qa1479 p1)] (za (c_value_within _ _ _ _ c14) (zv [] 1 [1,33] [] [(1, .one (.pv (.rp [(qa1479 p1)] 0 0))), (33, vb r1)] [] (zt 33 b15 (zu [] 5 [1,38] [(qa1479 p1)] (zt 38 b16 (zu [] 5 [1,43] [(qa1479 p1)] ?_)))))))
       refine zt 43 b17 (zv [] 3 [43,46] [[pi p1.kind, pi p1.n, pi p1.scale, .s (.string p1.s), .ro (eValue.els p1.items)]] [(43, vb true), (46, vi ((eValue.els p1.items).length : Int))] [] ?_)
       rw [eValue.len p1.items]
       exact zg [] 3 [2] (zd (hJ3 ((p1.items.length : Int) == (0 : Int)) h _ _ (zk [2])))
      ·refine zr (zu [] 2 [1,31] [(qa1479 p1)] (zl 63 [vi p1.n, vi (0 : Int), vi (1 : Int)] (vb r1) [(32, vb r1), (1, .one (.pv (.rp [(qa1479 p1)] 0 0))), (31, vi p1.n)] (c_value_within _ _ _ _ c14) (zg [] 1 [1,33] (zt 33 b15 (zu [] 5 [1,38] [(qa1479 p1)] (zt 38 b16 ?_))))))
       exact zv [] 5 [1,43] [(qa1479 p1)] [(1, .one (.pv (.rp [(qa1479 p1)] 0 0))), (43, vb (p1.s.toList == (ByteArray.mk #[]).toList))] [] (zt 43 b17 (zg [] 6 [2] (zd (hJ3 false h _ _ (zk [2])))))
     ·refine zr (zu [] 2 [1,31] [(qa1479 p1)] (za (c_value_within _ _ _ _ c14) (zv [] 1 [1,33] [] [(1, .one (.pv (.rp [(qa1479 p1)] 0 0))), (33, vb r1)] [] (zt 33 b15 (zu [] 5 [1,38] [(qa1479 p1)] (zt 38 b16 (zg [] 11 [2] ?_)))))))
      exact zd (hJ3 false h _ _ (zk [2]))
    ·exact zr (zu [] 2 [1,31] [(qa1479 p1)] (za (c_value_within _ _ _ _ c14) (zv [] 1 [1,33] [] [(1, .one (.pv (.rp [(qa1479 p1)] 0 0))), (33, vb r1)] [] (zt 33 b15 (zg [] 16 [2] (zd (hJ3 false h _ _ (zk [2]))))))))
   ·refine zq fun K18 hK18 => zr (zg [] 2 [1,3,13,49] (zd (hK18 _ _ (zC h (fun b19 h => ?_) (fun b19 h => ?_)))))
    ·refine zq fun K20 hK20 => ?_
     have hJ4 : ∀ (x4 : Bool), value_plain_j4 x4 = some r → ∀ fr1 st1, Sub 154 0 [] fr1 st1 [(2, vb x4)] [] → K20 fr1 st1 := by
      intro x4 h fr1 st1 hS
      unfold value_plain_j4 at h
      refine hK20 _ _ (XW.sub hS ?_)
      refine ze ?_
      obtain rfl := Option.some.inj h
      exact zf [vb x4] (.one (.rfl _ rfl))
     obtain ⟨r2, c21, h⟩ := zB h
     rcases zW h with ⟨b22, h⟩ | ⟨b22, h⟩
     ·rcases zW h with ⟨b23, h⟩ | ⟨b23, h⟩
      ·rcases zW h with ⟨b24, h⟩ | ⟨b24, h⟩
       ·refine zr (zu [] 2 [1,52] [(qa1479 p1)] (zl 63 [vi p1.n, vi (-999999999999999999 : Int), vi (999999999999999999 : Int)] (vb r2) (qa1496 p1 r2) (c_value_within _ _ _ _ c21) (zg [] 1 [1,54] (zt 54 b22 (zu [] 5 [1,59] [(qa1479 p1)] (zt 59 b23 ?_))))))
        refine zv [] 5 [1,64] [[pi p1.kind, pi p1.n, pi p1.scale, .s (.string p1.s), .ro (eValue.els p1.items)]] [(1, .one (.pv (.rp [[pi p1.kind, pi p1.n, pi p1.scale, .s (.string p1.s), .ro (eValue.els p1.items)]] 0 0))), (64, vb (p1.s.toList == (ByteArray.mk #[]).toList))] [] (zt 64 b24 (zv [] 3 [64,67] [[pi p1.kind, pi p1.n, pi p1.scale, .s (.string p1.s), .ro (eValue.els p1.items)]] [(64, vb true), (67, vi ((eValue.els p1.items).length : Int))] [] ?_))
        rw [eValue.len p1.items]
        exact zg [] 3 [2] (zd (hJ4 ((p1.items.length : Int) == (0 : Int)) h _ _ (zk [2])))
       ·refine zr (zu [] 2 [1,52] [(qa1479 p1)] (zl 63 [vi p1.n, vi (-999999999999999999 : Int), vi (999999999999999999 : Int)] (vb r2) (qa1496 p1 r2) (c_value_within _ _ _ _ c21) (zg [] 1 [1,54] (zt 54 b22 (zu [] 5 [1,59] [(qa1479 p1)] (zt 59 b23 ?_))))))
        exact zv [] 5 [1,64] [(qa1479 p1)] [(1, .one (.pv (.rp [(qa1479 p1)] 0 0))), (64, vb (p1.s.toList == (ByteArray.mk #[]).toList))] [] (zt 64 b24 (zg [] 6 [2] (zd (hJ4 false h _ _ (zk [2])))))
      ·refine zr (zu [] 2 [1,52] [(qa1479 p1)] (zl 63 [vi p1.n, vi (-999999999999999999 : Int), vi (999999999999999999 : Int)] (vb r2) (qa1496 p1 r2) (c_value_within _ _ _ _ c21) (zg [] 1 [1,54] (zt 54 b22 (zu [] 5 [1,59] [(qa1479 p1)] (zt 59 b23 (zv [] 11 [2] [] [(2, vb false)] [] ?_)))))))
       exact zd (hJ4 false h _ _ (zk [2]))
     ·exact zr (zu [] 2 [1,52] [(qa1479 p1)] (zl 63 [vi p1.n, vi (-999999999999999999 : Int), vi (999999999999999999 : Int)] (vb r2) (qa1496 p1 r2) (c_value_within _ _ _ _ c21) (zg [] 1 [1,54] (zt 54 b22 (zg [] 16 [2] (zd (hJ4 false h _ _ (zk [2]))))))))
    ·refine zq fun K25 hK25 => zr (zg [] 2 [1,3,13,70] (zd (hK25 _ _ (zC h (fun b26 h => ?_) (fun b26 h => ?_)))))
     ·refine zq fun K27 hK27 => ?_
      have hJ5 : ∀ (x5 : Bool), value_plain_j5 x5 = some r → ∀ fr1 st1, Sub 154 0 [] fr1 st1 [(2, vb x5)] [] → K27 fr1 st1 := by
       intro x5 h fr1 st1 hS
       unfold value_plain_j5 at h
       refine hK27 _ _ (XW.sub hS ?_)
       refine ze ?_
       obtain rfl := Option.some.inj h
       exact zf [vb x5] (.one (.rfl _ rfl))
      obtain ⟨r3, c28, h⟩ := zB h
      rcases zW h with ⟨b29, h⟩ | ⟨b29, h⟩
      ·obtain ⟨r4, c30, h⟩ := zB h
       rcases zW h with ⟨b31, h⟩ | ⟨b31, h⟩
       ·rcases zW h with ⟨b32, h⟩ | ⟨b32, h⟩
        ·refine zr (zv [] 2 [1,73] [(qa1479 p1)] (qa1498 p1) [] (za (c_value_within _ _ _ _ c28) (zg [] 1 [1,75] (zt 75 b29 (zv [] 2 [1,75,77] [(qa1479 p1)] [(1, .one (.pv (.rp [(qa1479 p1)] 0 0))), (75, vb true), (77, vi p1.scale)] [] (za (c_value_within _ _ _ _ c30) ?_))))))
         refine zg [] 2 [1,80] (zt 80 b31 (zv [] 5 [1,85] [[pi p1.kind, pi p1.n, pi p1.scale, .s (.string p1.s), .ro (eValue.els p1.items)]] [(1, .one (.pv (.rp [[pi p1.kind, pi p1.n, pi p1.scale, .s (.string p1.s), .ro (eValue.els p1.items)]] 0 0))), (85, vb (p1.s.toList == (ByteArray.mk #[]).toList))] [] (zt 85 b32 (zv [] 3 [85,88] [[pi p1.kind, pi p1.n, pi p1.scale, .s (.string p1.s), .ro (eValue.els p1.items)]] [(85, vb true), (88, vi ((eValue.els p1.items).length : Int))] [] ?_))))
         rw [eValue.len p1.items]
         exact zg [] 3 [2] (zd (hJ5 ((p1.items.length : Int) == (0 : Int)) h _ _ (zk [2])))
        ·refine zr (zu [] 2 [1,73] [(qa1479 p1)] (zl 63 [vi p1.n, vi (-999999999999999999 : Int), vi (999999999999999999 : Int)] (vb r3) [(74, vb r3), (1, .one (.pv (.rp [(qa1479 p1)] 0 0))), (73, vi p1.n)] (c_value_within _ _ _ _ c28) (zg [] 1 [1,75] (zt 75 b29 (zu [] 2 [1,75,77] [(qa1479 p1)] ?_)))))
         exact zl 63 [vi p1.scale, vi (0 : Int), vi (12 : Int)] (vb r4) [(78, vb r4), (1, .one (.pv (.rp [(qa1479 p1)] 0 0))), (75, vb true), (77, vi p1.scale)] (c_value_within _ _ _ _ c30) (zg [] 2 [1,80] (zt 80 b31 (zu [] 5 [1,85] [(qa1479 p1)] (zt 85 b32 (zv [] 6 [2] [] [(2, vb false)] [] (zd (hJ5 false h _ _ (zk [2]))))))))
       ·refine zr (zv [] 2 [1,73] [(qa1479 p1)] (qa1498 p1) [] (za (c_value_within _ _ _ _ c28) (zg [] 1 [1,75] (zt 75 b29 (zv [] 2 [1,75,77] [(qa1479 p1)] [(1, .one (.pv (.rp [(qa1479 p1)] 0 0))), (75, vb true), (77, vi p1.scale)] [] (za (c_value_within _ _ _ _ c30) ?_))))))
        exact zg [] 2 [1,80] (zt 80 b31 (zv [] 11 [2] [] [(2, vb false)] [] (zd (hJ5 false h _ _ (zk [2])))))
      ·exact zr (zv [] 2 [1,73] [(qa1479 p1)] (qa1498 p1) [] (za (c_value_within _ _ _ _ c28) (zg [] 1 [1,75] (zt 75 b29 (zv [] 16 [2] [] [(2, vb false)] [] (zd (hJ5 false h _ _ (zk [2]))))))))
     ·refine zq fun K33 hK33 => zr (zv [] 2 [1,3,13,91] [] [(1, .one (.pv (.rp [(qa1479 p1)] 0 0))), (3, vb x1), (13, vi p1.kind), (91, vb (p1.kind == (4 : Int)))] [] (zd (hK33 _ _ (zC h (fun b34 h => ?_) (fun b34 h => ?_)))))
      ·refine zq fun K35 hK35 => ?_
       have hJ6 : ∀ (x6 : Bool), value_plain_j6 x6 = some r → ∀ fr1 st1, Sub 154 0 [] fr1 st1 [(2, vb x6)] [] → K35 fr1 st1 := by
        intro x6 h fr1 st1 hS
        unfold value_plain_j6 at h
        refine hK35 _ _ (XW.sub hS ?_)
        refine ze ?_
        obtain rfl := Option.some.inj h
        exact zf [vb x6] (.one (.rfl _ rfl))
       rcases zW h with ⟨b36, h⟩ | ⟨b36, h⟩
       ·obtain ⟨r5, c37, h⟩ := zB h
        rcases zW h with ⟨b38, h⟩ | ⟨b38, h⟩
        ·refine zr (zg [] 2 [1,94] (zt 94 b36 (zu [] 2 [1,94,96] [[pi p1.kind, pi p1.n, pi p1.scale, .s (.string p1.s), .ro (eValue.els p1.items)]] (zl 114 [vs p1.s] (vb r5) [(97, vb r5), (1, .one (.pv (.rp [[pi p1.kind, pi p1.n, pi p1.scale, .s (.string p1.s), .ro (eValue.els p1.items)]] 0 0))), (94, vb true), (96, vs p1.s)] (c_value_text _ _ c37) (zg [] 2 [1,99] (zt 99 b38 (zv [] 3 [99,102] [[pi p1.kind, pi p1.n, pi p1.scale, .s (.string p1.s), .ro (eValue.els p1.items)]] [(99, vb true), (102, vi ((eValue.els p1.items).length : Int))] [] ?_)))))))
         rw [eValue.len p1.items]
         exact zg [] 3 [2] (zd (hJ6 ((p1.items.length : Int) == (0 : Int)) h _ _ (zk [2])))
        ·refine zr (zg [] 2 [1,94] (zt 94 b36 (zv [] 2 [1,94,96] [(qa1479 p1)] [(1, .one (.pv (.rp [(qa1479 p1)] 0 0))), (94, vb true), (96, vs p1.s)] [] (za (c_value_text _ _ c37) (zg [] 2 [1,99] (zt 99 b38 (zv [] 6 [2] [] [(2, vb false)] [] ?_)))))))
         exact zd (hJ6 false h _ _ (zk [2]))
       ·exact zr (zg [] 2 [1,94] (zt 94 b36 (zg [] 11 [2] (zd (hJ6 false h _ _ (zk [2]))))))
      ·refine zq fun K39 hK39 => zr (zg [] 2 [1,3,13,105] (zd (hK39 _ _ (zC h (fun b40 h => ?_) (fun b40 h => ?_)))))
       ·refine zq fun K41 hK41 => ?_
        have hJ7 : ∀ (x7 : Bool), value_plain_j7 x7 = some r → ∀ fr1 st1, Sub 154 0 [] fr1 st1 [(2, vb x7)] [] → K41 fr1 st1 := by
         intro x7 h fr1 st1 hS
         unfold value_plain_j7 at h
         refine hK41 _ _ (XW.sub hS ?_)
         refine ze ?_
         obtain rfl := Option.some.inj h
         exact zf [vb x7] (.one (.rfl _ rfl))
        obtain ⟨r6, c42, h⟩ := zB h
        rcases zW h with ⟨b43, h⟩ | ⟨b43, h⟩
        ·rcases zW h with ⟨b44, h⟩ | ⟨b44, h⟩
         ·rcases zW h with ⟨b45, h⟩ | ⟨b45, h⟩
          ·refine zr (zu [] 2 [1,108] [(qa1479 p1)] (zl 63 [vi p1.n, vi (-62135596800 : Int), vi (253402300799 : Int)] (vb r6) (qa1504 p1 r6) (c_value_within _ _ _ _ c42) (zg [] 1 [1,110] (zt 110 b43 (zu [] 5 [1,115] [(qa1479 p1)] (zt 115 b44 ?_))))))
           refine zv [] 5 [1,120] [[pi p1.kind, pi p1.n, pi p1.scale, .s (.string p1.s), .ro (eValue.els p1.items)]] [(1, .one (.pv (.rp [[pi p1.kind, pi p1.n, pi p1.scale, .s (.string p1.s), .ro (eValue.els p1.items)]] 0 0))), (120, vb (p1.s.toList == (ByteArray.mk #[]).toList))] [] (zt 120 b45 (zv [] 3 [120,123] [[pi p1.kind, pi p1.n, pi p1.scale, .s (.string p1.s), .ro (eValue.els p1.items)]] [(120, vb true), (123, vi ((eValue.els p1.items).length : Int))] [] ?_))
           rw [eValue.len p1.items]
           exact zg [] 3 [2] (zd (hJ7 ((p1.items.length : Int) == (0 : Int)) h _ _ (zk [2])))
          ·refine zr (zu [] 2 [1,108] [(qa1479 p1)] (zl 63 [vi p1.n, vi (-62135596800 : Int), vi (253402300799 : Int)] (vb r6) (qa1504 p1 r6) (c_value_within _ _ _ _ c42) (zg [] 1 [1,110] (zt 110 b43 (zu [] 5 [1,115] [(qa1479 p1)] (zt 115 b44 ?_))))))
           exact zv [] 5 [1,120] [(qa1479 p1)] [(1, .one (.pv (.rp [(qa1479 p1)] 0 0))), (120, vb (p1.s.toList == (ByteArray.mk #[]).toList))] [] (zt 120 b45 (zg [] 6 [2] (zd (hJ7 false h _ _ (zk [2])))))
         ·refine zr (zu [] 2 [1,108] [(qa1479 p1)] (zl 63 [vi p1.n, vi (-62135596800 : Int), vi (253402300799 : Int)] (vb r6) (qa1504 p1 r6) (c_value_within _ _ _ _ c42) (zg [] 1 [1,110] (zt 110 b43 (zu [] 5 [1,115] [(qa1479 p1)] (zt 115 b44 (zv [] 11 [2] [] [(2, vb false)] [] ?_)))))))
          exact zd (hJ7 false h _ _ (zk [2]))
        ·exact zr (zu [] 2 [1,108] [(qa1479 p1)] (zl 63 [vi p1.n, vi (-62135596800 : Int), vi (253402300799 : Int)] (vb r6) (qa1504 p1 r6) (c_value_within _ _ _ _ c42) (zg [] 1 [1,110] (zt 110 b43 (zg [] 16 [2] (zd (hJ7 false h _ _ (zk [2]))))))))
       ·refine zq fun K46 hK46 => zr (zg [] 2 [1,3,13,126] (zd (hK46 _ _ (zC h (fun b47 h => ?_) (fun b47 h => ?_)))))
        ·refine zq fun K48 hK48 => ?_
         have hJ8 : ∀ (x8 : Bool), value_plain_j8 x8 = some r → ∀ fr1 st1, Sub 154 0 [] fr1 st1 [(2, vb x8)] [] → K48 fr1 st1 := by
          intro x8 h fr1 st1 hS
          unfold value_plain_j8 at h
          refine hK48 _ _ (XW.sub hS ?_)
          refine ze ?_
          obtain rfl := Option.some.inj h
          exact zf [vb x8] (.one (.rfl _ rfl))
         rcases zW h with ⟨b49, h⟩ | ⟨b49, h⟩
         ·rcases zW h with ⟨b50, h⟩ | ⟨b50, h⟩
          ·refine zr (zv [] 2 [1,129] [] [(1, .one (.pv (.rp [[pi p1.kind, pi p1.n, pi p1.scale, .s (.string p1.s), .ro (eValue.els p1.items)]] 0 0))), (129, vb x1)] [] (zt 129 b49 (zu [] 5 [1,134] [[pi p1.kind, pi p1.n, pi p1.scale, .s (.string p1.s), .ro (eValue.els p1.items)]] (zt 134 b50 (zv [] 3 [134,137] [[pi p1.kind, pi p1.n, pi p1.scale, .s (.string p1.s), .ro (eValue.els p1.items)]] [(134, vb true), (137, vi ((eValue.els p1.items).length : Int))] [] ?_)))))
           rw [eValue.len p1.items]
           exact zg [] 3 [2] (zd (hJ8 (decide ((p1.items.length : Int) ≤ (64 : Int))) h _ _ (zk [2])))
          ·exact zr (zg [] 2 [1,129] (zt 129 b49 (zv [] 5 [1,134] [(qa1479 p1)] [(1, .one (.pv (.rp [(qa1479 p1)] 0 0))), (134, vb (p1.s.toList == (ByteArray.mk #[]).toList))] [] (zt 134 b50 (zg [] 6 [2] (zd (hJ8 false h _ _ (zk [2]))))))))
         ·exact zr (zv [] 2 [1,129] [] [(1, .one (.pv (.rp [(qa1479 p1)] 0 0))), (129, vb x1)] [] (zt 129 b49 (zg [] 11 [2] (zd (hJ8 false h _ _ (zk [2]))))))
        ·refine zq fun K51 hK51 => zr (zv [] 2 [1,3,140] [] [(1, .one (.pv (.rp [(qa1479 p1)] 0 0))), (3, vb x1), (140, vb (p1.kind == (7 : Int)))] [] (zd (hK51 _ _ (zC h (fun b52 h => ?_) (fun b52 h => ?_)))))
         ·refine zq fun K53 hK53 => ?_
          have hJ9 : ∀ (x9 : Bool), value_plain_j9 x9 = some r → ∀ fr1 st1, Sub 154 0 [] fr1 st1 [(2, vb x9)] [] → K53 fr1 st1 := by
           intro x9 h fr1 st1 hS
           unfold value_plain_j9 at h
           refine hK53 _ _ (XW.sub hS ?_)
           refine ze ?_
           obtain rfl := Option.some.inj h
           exact zf [vb x9] (.one (.rfl _ rfl))
          rcases zW h with ⟨b54, h⟩ | ⟨b54, h⟩
          ·rcases zW h with ⟨b55, h⟩ | ⟨b55, h⟩
           ·refine zr (zg [] 2 [1,143] (zt 143 b54 (zu [] 5 [1,148] [[pi p1.kind, pi p1.n, pi p1.scale, .s (.string p1.s), .ro (eValue.els p1.items)]] (zt 148 b55 (zv [] 3 [148,151] [[pi p1.kind, pi p1.n, pi p1.scale, .s (.string p1.s), .ro (eValue.els p1.items)]] [(148, vb true), (151, vi ((eValue.els p1.items).length : Int))] [] ?_)))))
            rw [eValue.len p1.items]
            exact zg [] 3 [2] (zd (hJ9 (decide ((0 : Int) < (p1.items.length : Int))) h _ _ (zk [2])))
           ·exact zr (zg [] 2 [1,143] (zt 143 b54 (zv [] 5 [1,148] [(qa1479 p1)] [(1, .one (.pv (.rp [(qa1479 p1)] 0 0))), (148, vb (p1.s.toList == (ByteArray.mk #[]).toList))] [] (zt 148 b55 (zg [] 6 [2] (zd (hJ9 false h _ _ (zk [2]))))))))
          ·exact zr (zg [] 2 [1,143] (zt 143 b54 (zg [] 11 [2] (zd (hJ9 false h _ _ (zk [2]))))))
         ·refine zs (hK4 _ _ (zq fun K56 hK56 => zr (zg [] 1 [2] (zd (hK56 _ _ (ze ?_))))))
          obtain rfl := Option.some.inj h
          exact zf [vb false] (.one (.rfl _ rfl))
 rcases zW h with ⟨b3, h⟩ | ⟨b3, h⟩
 ·exact zr (zu [] 4 [1,7] [(qa1479 p1)] (zt 7 b3 (zv [] 5 [1,3] [(qa1479 p1)] [(1, .one (.pv (.rp [(qa1479 p1)] 0 0))), (3, vb (p1.scale == (0 : Int)))] [] (zd (hJ1 (p1.scale == (0 : Int)) h _ _ (zk [1,3]))))))
 ·exact zr (zu [] 4 [1,7] [(qa1479 p1)] (zt 7 b3 (zg [] 5 [1,3] (zd (hJ1 false h _ _ (zk [1,3]))))))

def slices_IndexFunc_api_Value_api_Value_of_value_sound_1_j1 (z2 : Int) : Option (Int × Int) :=
    some ((-1 : Int), z2)

def slices_IndexFunc_api_Value_api_Value_of_value_sound_1_l1 (q_value_sound_1_s : GValue → Int → Int → Option (Bool × Int)) (p1 : (List GValue)) (p2 : Int) : Nat → Int → Int → Option (Int × Int)
  | 0, _, _ => none
  | k1 + 1, z1, x1 =>
    ift (decide (x1 < (p1.length : Int)))
      (bnd (at? p1 x1) fun e1 =>
       bnd (q_value_sound_1_s e1 p2 z1) fun r1 =>
       ift r1.1
         (some (x1, r1.2))
         ((slices_IndexFunc_api_Value_api_Value_of_value_sound_1_l1 q_value_sound_1_s p1 p2 k1) r1.2 (IntKind.i64.wrap (x1 + (1 : Int)))))
      (slices_IndexFunc_api_Value_api_Value_of_value_sound_1_j1 z1)

def value_sound_j2 (q_slices_ContainsFunc_api_Value_api_Value_of_value_sound_1 : (List GValue) → Int → Int → Option (Bool × Int)) (p1 : GValue) (p2 : Int) (z1 : Int) (x1 : Bool) : Option (Bool × Int) :=
    ift x1
      (some (false, z1))
      (bnd (q_slices_ContainsFunc_api_Value_api_Value_of_value_sound_1 p1.items p2 z1) fun r2 =>
       some ((!r2.1), r2.2))

def value_sound_j1 (q_slices_ContainsFunc_api_Value_api_Value_of_value_sound_1 : (List GValue) → Int → Int → Option (Bool × Int)) (p1 : GValue) (p2 : Int) (z1 : Int) : Option (Bool × Int) :=
    ift (decide ((4 : Int) < p2))
      (value_sound_j2 q_slices_ContainsFunc_api_Value_api_Value_of_value_sound_1 p1 p2 z1 true)
      (ift (decide ((256 : Int) < z1))
         (value_sound_j2 q_slices_ContainsFunc_api_Value_api_Value_of_value_sound_1 p1 p2 z1 true)
         (bnd (value_plain p1) fun r1 =>
          value_sound_j2 q_slices_ContainsFunc_api_Value_api_Value_of_value_sound_1 p1 p2 z1 (!r1)))

mutual

def slices_ContainsFunc_api_Value_api_Value_of_value_sound_1 : Nat → (List GValue) → Int → Int → Option (Bool × Int)
  | 0, _, _, _ => none
  | k0 + 1, p1, p2, p3 =>
    bnd ((slices_IndexFunc_api_Value_api_Value_of_value_sound_1 k0) p1 p2 p3) fun r1 =>
    some ((decide ((0 : Int) ≤ r1.1)), r1.2)

def slices_IndexFunc_api_Value_api_Value_of_value_sound_1 : Nat → (List GValue) → Int → Int → Option (Int × Int)
  | 0, _, _, _ => none
  | k0 + 1, p1, p2, p3 =>
    slices_IndexFunc_api_Value_api_Value_of_value_sound_1_l1 (value_sound_1_s k0) p1 p2 BIG p3 (0 : Int)

def value_sound : Nat → GValue → Int → Int → Option (Bool × Int)
  | 0, _, _, _ => none
  | k0 + 1, p1, p2, p3 =>
    ift (p1.kind != (0 : Int))
      (value_sound_j1 (slices_ContainsFunc_api_Value_api_Value_of_value_sound_1 k0) p1 p2 (IntKind.i64.wrap (p3 + (1 : Int))))
      (value_sound_j1 (slices_ContainsFunc_api_Value_api_Value_of_value_sound_1 k0) p1 p2 p3)

def value_sound_1_s : Nat → GValue → Int → Int → Option (Bool × Int)
  | 0, _, _, _ => none
  | k0 + 1, p1, p2, p3 =>
    bnd ((value_sound k0) p1 (IntKind.i64.wrap (p2 + (1 : Int))) p3) fun r1 =>
    some ((!r1.1), r1.2)

end

abbrev qa1523 : List CV := [.pt 1 0 0 0]
abbrev qa1530 (e1 : GValue) : List CV := [ci e1.kind, ci e1.n, ci e1.scale, cst e1.s, cl eValue e1.items]
abbrev qa1541 (p1 : GValue) : List CV := [ci p1.kind, ci p1.n, ci p1.scale, cst p1.s, cl eValue p1.items]
abbrev qa1544 (p1 : GValue) : List PV := [pi p1.kind, pi p1.n, pi p1.scale, .s (.string p1.s), .ro (eValue.els p1.items)]
abbrev qa1547 : List CV := [.pt 0 0 0 0]
abbrev qa1555 (p1 : GValue) (p2 : Int) : Fr := [(3, .one (.pv (.rp [(qa1544 p1)] 0 0))), (4, .one (.pv (.rp [[pi p2]] 0 0))), (5, .one (.pt 1 0 0 0))]
abbrev qa1556 (z1 : Int) : St := [.box [ci z1], .box qa1547]
abbrev qa1563 (p1 : GValue) (p2 : Int) : Fr := [(3, .one (.pv (.rp [(qa1544 p1)] 0 0))), (4, .one (.pv (.rp [[pi p2]] 0 0))), (5, .one (.pt 1 0 0 0)), (17, vb (decide ((4 : Int) < p2)))]
abbrev qa1566 (p1 : GValue) : List CV := [ci p1.kind, ci p1.n, ci p1.scale, cst p1.s, cl eValue p1.items]

mutual

theorem c_slices_ContainsFunc_api_Value_api_Value_of_value_sound_1 : ∀ (k0 : Nat) (p1 : (List GValue)) (p2 : Int) (p3 : Int) (r : (Bool × Int)), slices_ContainsFunc_api_Value_api_Value_of_value_sound_1 k0 p1 p2 p3 = some r → MC Tryd.prog 39 [vl eValue p1, .one (.fn 78 [.pv (.rp [[pi p2]] 0 0), .pt 0 0 0 0])] [.box [.pt 1 0 0 0], .box [ci p3]] (vb r.1) [.box [.pt 1 0 0 0], .box [ci r.2]]
 | 0, _, _, _, r, h => by rw [slices_ContainsFunc_api_Value_api_Value_of_value_sound_1.eq_1] at h; cases h
 | k0 + 1, p1, p2, p3, r, h => by
  rw [slices_ContainsFunc_api_Value_api_Value_of_value_sound_1.eq_2] at h
  refine MC.of 2 (n := 9) (fn := Tryd.f39) (c := cd Tryd.f39 []) (by kernel_rfl) (by kernel_rfl) (by kernel_rfl) (Nat.le_of_ble_eq_true rfl) rfl (zq fun K1 hK1 => zr (zg [] 1 [0,1] (zd (hK1 _ _ (zq fun K2 hK2 => ?_)))))
  obtain ⟨r1, c3, h⟩ := zB h
  refine zr (zv [] 2 [5,6] [] [(5, vl eValue p1), (6, .one (.fn 78 [.pv (.rp [[pi p2]] 0 0), .pt 0 0 0 0]))] [.box [.pt 1 0 0 0], .box [ci p3]] (XO.calm 86 [vl eValue p1, .one (.fn 78 [.pv (.rp [[pi p2]] 0 0), .pt 0 0 0 0])] [.box [.pt 1 0 0 0], .box [ci p3]] [.box [.pt 1 0 0 0], .box [ci r1.2]] (vi r1.1) [0, 1] [(7, vi r1.1), (5, vl eValue p1), (6, .one (.fn 78 [.pv (.rp [[pi p2]] 0 0), .pt 0 0 0 0]))] [.box [.pt 1 0 0 0], .box [ci r1.2]] (by kernel_rfl) (c_slices_IndexFunc_api_Value_api_Value_of_value_sound_1 k0 _ _ _ _ c3) (by kernel_rfl) (by kernel_rfl) (by kernel_rfl) (by kernel_rfl) ?_))
  refine zv [] 2 [4] [] [(4, vb (decide ((0 : Int) ≤ r1.1)))] [.box [.pt 1 0 0 0], .box [ci r1.2]] (zd (hK2 _ _ (ze ?_)))
  obtain rfl := Option.some.inj h
  exact FinM.fin (.inr rfl) [] [vb (decide ((0 : Int) ≤ r1.1))] [] (by kernel_rfl) trivial (by kernel_rfl) (by kernel_rfl) (.one (.rfl _ rfl))

theorem c_slices_IndexFunc_api_Value_api_Value_of_value_sound_1 : ∀ (k0 : Nat) (p1 : (List GValue)) (p2 : Int) (p3 : Int) (r : (Int × Int)), slices_IndexFunc_api_Value_api_Value_of_value_sound_1 k0 p1 p2 p3 = some r → MC Tryd.prog 86 [vl eValue p1, .one (.fn 78 [.pv (.rp [[pi p2]] 0 0), .pt 0 0 0 0])] [.box qa1523, .box [ci p3]] (vi r.1) [.box qa1523, .box [ci r.2]]
 | 0, _, _, _, r, h => by rw [slices_IndexFunc_api_Value_api_Value_of_value_sound_1.eq_1] at h; cases h
 | k0 + 1, p1, p2, p3, r, h => by
  rw [slices_IndexFunc_api_Value_api_Value_of_value_sound_1.eq_2] at h
  refine MC.of 2 (n := 19) (fn := Tryd.f86) (c := cd Tryd.f86 []) (by kernel_rfl) (by kernel_rfl) (by kernel_rfl) (Nat.le_of_ble_eq_true rfl) rfl (zq fun K1 hK1 => zr (zg [] 1 [0,1] (zd (hK1 _ _ (zq fun K2 hK2 => ?_)))))
  have hJ1 : ∀ (z2 : Int), slices_IndexFunc_api_Value_api_Value_of_value_sound_1_j1 z2 = some r → ∀ fr1 st1, Sub 19 2 [] fr1 st1 [] [.box qa1523, .box [ci z2]] → K2 fr1 st1 := by
   intro z2 h fr1 st1 hS
   unfold slices_IndexFunc_api_Value_api_Value_of_value_sound_1_j1 at h
   refine hK2 _ _ (XW.sub hS ?_)
   refine zq fun K14 hK14 => zr (zv [] 1 [4] [] [(4, vi (-1 : Int))] [.box qa1523, .box [ci z2]] (zd (hK14 _ _ (ze ?_))))
   obtain rfl := Option.some.inj h
   exact FinM.fin (.inr rfl) [] [vi (-1 : Int)] [] (by kernel_rfl) trivial (by kernel_rfl) (by kernel_rfl) (.one (.rfl _ rfl))
  refine zq fun K3 hK3 => zr (zv [] 2 [0,1,7] [] [(0, vl eValue p1), (1, .one (.fn 78 [.pv (.rp [[pi p2]] 0 0), .pt 0 0 0 0])), (7, vi ((eValue.els p1).length : Int))] [.box [.pt 1 0 0 0], .box [ci p3]] ?_)
  rw [eValue.len p1]
  refine zg [] 1 [0,1,7,8] (zd (hK3 _ _ (zb 0 (XW.rounds' BIG (x := cd Tryd.f86 [1,0,1,0,0]) (by kernel_rfl) fun Q1 hQ1 => ?_))))
  have hL1 : ∀ (k1 : Nat) (z1 : Int) (x1 : Int), slices_IndexFunc_api_Value_api_Value_of_value_sound_1_l1 (value_sound_1_s k0) p1 p2 k1 z1 x1 = some r → XR Tryd.prog 19 2 [] (cd Tryd.f86 [1,0,1,0,0]) Q1 k1 [(0, vl eValue p1), (1, .one (.fn 78 [.pv (.rp [[pi p2]] 0 0), .pt 0 0 0 0])), (7, vi (p1.length : Int)), (8, vi x1)] [.box qa1523, .box [ci z1]] := by
   intro k1
   induction k1 with
   | zero => intro z1 x1 h; rw [slices_IndexFunc_api_Value_api_Value_of_value_sound_1_l1.eq_1] at h; cases h
   | succ k1 ih1 =>
    intro z1 x1 h
    rw [slices_IndexFunc_api_Value_api_Value_of_value_sound_1_l1.eq_2] at h
    refine zq fun K4 hK4 => zr (zg [] 1 [0,1,7,8,9] (zd (hK4 _ _ (zq fun K5 hK5 => zC h (fun b6 h => ?_) (fun b6 h => ?_)))))
    ·refine zs (hK5 _ _ (zq fun K7 hK7 => zb 1 (zq fun K8 hK8 => zr (zg [] 2 [0,1,5,7,8] (zd ?_)))))
     refine hK8 _ _ (zq fun K9 hK9 => ?_)
     obtain ⟨e1, a10, h⟩ := zB h
     obtain ⟨r1, c11, h⟩ := zB h
     refine zr ?_
     refine zp [] 5 [0,1,5,7,8,11,15] [[pi e1.kind, pi e1.n, pi e1.scale, .s (.string e1.s), .ro (eValue.els e1.items)]] [(0, vl eValue p1), (1, .one (.fn 78 [.pv (.rp [[pi p2]] 0 0), .pt 0 0 0 0])), (5, vi x1), (7, vi (p1.length : Int)), (8, vi x1), (11, .one (.fn 78 [.pv (.rp [[pi p2]] 0 0), .pt 0 0 0 0])), (15, .ag (qa1530 e1))] [.box qa1523, .box [ci z1]] [0 ≤ x1 ∧ x1 < ((eValue.els p1).length : Int) ∧ elemsOk 5 (eValue.els p1), (eValue.els p1)[x1.toNat]? = some [pi e1.kind, pi e1.n, pi e1.scale, .s (.string e1.s), .ro (eValue.els e1.items)]] (⟨eValue.inb a10, ((eValue.get a10).trans (by cases e1; rfl)), trivial⟩) ?_
     refine XO.calm 78 [.ag (qa1530 e1), .one (.pv (.rp [[pi p2]] 0 0)), .one (.pt 0 0 0 0)] [.box qa1523, .box [ci z1]] [.box qa1523, .box [ci r1.2]] (vb r1.1) [0, 1] [(16, vb r1.1), (0, vl eValue p1), (1, .one (.fn 78 [.pv (.rp [[pi p2]] 0 0), .pt 0 0 0 0])), (5, vi x1), (7, vi (p1.length : Int)), (8, vi x1), (11, .one (.fn 78 [.pv (.rp [[pi p2]] 0 0), .pt 0 0 0 0])), (15, .ag (qa1530 e1))] [.box qa1523, .box [ci r1.2]] (by kernel_rfl) (c_value_sound_1_s k0 _ _ _ _ c11) (by kernel_rfl) (by kernel_rfl) (by kernel_rfl) (by kernel_rfl) ?_
     refine zd (hK9 _ _ (zC h (fun b12 h => ?_) (fun b12 h => ?_)))
     ·refine zq fun K13 hK13 => zr (zv [] 2 [4] [] [(4, vi x1)] [.box qa1523, .box [ci r1.2]] (zd (hK13 _ _ (ze (hQ1 _ _ _ ?_)))))
      obtain rfl := Option.some.inj h
      exact FinM.fin (.inr rfl) [] [vi x1] [] (by kernel_rfl) trivial (by kernel_rfl) (by kernel_rfl) (.one (.rfl _ rfl))
     ·exact zs (hK7 _ _ (zr (zg [] 2 [0,1,7,8] (zd (XR.sub (zk [0,1,7,8]) (ih1 r1.2 (IntKind.i64.wrap (x1 + (1 : Int))) h))))))
    ·exact zx 0 (hQ1 _ _ _ (hJ1 z1 h _ _ (zk [])))
  exact XR.sub (zk [0,1,7,8]) (hL1 BIG p3 (0 : Int) h)

theorem c_value_sound : ∀ (k0 : Nat) (p1 : GValue) (p2 : Int) (p3 : Int) (r : (Bool × Int)), value_sound k0 p1 p2 p3 = some r → MC Tryd.prog 31 [.ag (qa1541 p1), vi p2, .one (.pt 0 0 0 0)] [.box [ci p3]] (vb r.1) [.box [ci r.2]]
 | 0, _, _, _, r, h => by rw [value_sound.eq_1] at h; cases h
 | k0 + 1, p1, p2, p3, r, h => by
  rw [value_sound.eq_2] at h
  refine MC.of 1 (n := 33) (fn := Tryd.f31) (c := cd Tryd.f31 []) (by kernel_rfl) (by kernel_rfl) (by kernel_rfl) (Nat.le_of_ble_eq_true rfl) rfl (zq fun K1 hK1 => zr (zg [5] 4 [3,4,5] (zd (hK1 _ _ (zq fun K2 hK2 => ?_)))))
  have hJ1 : ∀ (z1 : Int), value_sound_j1 (slices_ContainsFunc_api_Value_api_Value_of_value_sound_1 k0) p1 p2 z1 = some r → ∀ fr1 st1, Sub 33 1 [] fr1 st1 (qa1555 p1 p2) (qa1556 z1) → K2 fr1 st1 := by
   intro z1 h fr1 st1 hS
   unfold value_sound_j1 at h
   refine hK2 _ _ (XW.sub hS ?_)
   refine zq fun K5 hK5 => zq fun K6 hK6 => ?_
   have hJ2 : ∀ (x1 : Bool), value_sound_j2 (slices_ContainsFunc_api_Value_api_Value_of_value_sound_1 k0) p1 p2 z1 x1 = some r → ∀ fr1 st1, Sub 33 1 [] fr1 st1 [(3, .one (.pv (.rp [(qa1544 p1)] 0 0))), (4, .one (.pv (.rp [[pi p2]] 0 0))), (5, .one (.pt 1 0 0 0)), (27, vb x1)] (qa1556 z1) → K6 fr1 st1 := by
    intro x1 h fr1 st1 hS
    unfold value_sound_j2 at h
    refine hK6 _ _ (XW.sub hS ?_)
    refine zC h (fun b10 h => ?_) (fun b10 h => ?_)
    ·refine zq fun K11 hK11 => zr (zv [5] 1 [6] [] [(6, vb false)] (qa1556 z1) (zd (hK11 _ _ (ze ?_))))
     obtain rfl := Option.some.inj h
     exact FinM.fin (.inr rfl) [] [vb false] [] (by kernel_rfl) trivial (by kernel_rfl) (by kernel_rfl) (.one (.rfl _ rfl))
    ·refine zs (hK5 _ _ (zq fun K12 hK12 => ?_))
     obtain ⟨r2, c13, h⟩ := zB h
     refine zr (zv [5] 3 [29,30] [(qa1544 p1)] [(29, vl eValue p1.items), (30, .one (.fn 78 [.pv (.rp [[pi p2]] 0 0), .pt 1 0 0 0]))] (qa1556 z1) ?_)
     refine XO.calm 39 [vl eValue p1.items, .one (.fn 78 [.pv (.rp [[pi p2]] 0 0), .pt 0 0 0 0])] [.box [.pt 1 0 0 0], .box [ci z1]] [.box [.pt 1 0 0 0], .box [ci r2.2]] (vb r2.1) [1, 0] [(31, vb r2.1), (29, vl eValue p1.items), (30, .one (.fn 78 [.pv (.rp [[pi p2]] 0 0), .pt 1 0 0 0]))] [.box [ci r2.2], .box qa1547] (by kernel_rfl) (c_slices_ContainsFunc_api_Value_api_Value_of_value_sound_1 k0 _ _ _ _ c13) (by kernel_rfl) (by kernel_rfl) (by kernel_rfl) (by kernel_rfl) (zv [5] 2 [6] [] [(6, vb (!r2.1))] [.box [ci r2.2], .box qa1547] (zd (hK12 _ _ (ze ?_))))
     obtain rfl := Option.some.inj h
     exact FinM.fin (.inr rfl) [] [vb (!r2.1)] [] (by kernel_rfl) trivial (by kernel_rfl) (by kernel_rfl) (.one (.rfl _ rfl))
   rcases zW h with ⟨b7, h⟩ | ⟨b7, h⟩
   ·exact zr (zu [5] 3 [3,4,5,17] [[pi p2]] (zt 17 b7 (zg [5] 10 [3,4,5,27] (zd (hJ2 true h _ _ (zk [3,4,5,27]))))))
   ·rcases zW h with ⟨b8, h⟩ | ⟨b8, h⟩
    ·exact zr (zv [5] 3 [3,4,5,17] [[pi p2]] (qa1563 p1 p2) (qa1556 z1) (zt 17 b7 (zg [5] 6 [3,4,5,23] (zt 23 b8 (zg [5] 4 [3,4,5,27] (zd (hJ2 true h _ _ (zk [3,4,5,27]))))))))
    ·obtain ⟨r1, c9, h⟩ := zB h
     refine zr (zv [5] 3 [3,4,5,17] [[pi p2]] (qa1563 p1 p2) (qa1556 z1) (zt 17 b7 (zg [5] 6 [3,4,5,23] (zt 23 b8 (zu [5] 1 [3,4,5,23,24] [(qa1544 p1)] ?_)))))
     exact zl 77 [.ag (qa1541 p1)] (vb r1) [(25, vb r1), (3, .one (.pv (.rp [(qa1544 p1)] 0 0))), (4, .one (.pv (.rp [[pi p2]] 0 0))), (5, .one (.pt 1 0 0 0)), (23, vb false), (24, .ag (qa1541 p1))] (c_value_plain _ _ c9) (zg [5] 2 [3,4,5,27] (zd (hJ2 (!r1) h _ _ (zk [3,4,5,27]))))
  refine zq fun K3 hK3 => zr (zu [5] 3 [3,4,5,9] [(qa1544 p1)] (zd (hK3 _ _ (zC h (fun b4 h => ?_) (fun b4 h => ?_)))))
  ·exact zr (zv [5] 6 [3,4,5] [] (qa1555 p1 p2) [.box [ci (IntKind.i64.wrap (p3 + (1 : Int)))], .box qa1547] (zd (hJ1 (IntKind.i64.wrap (p3 + (1 : Int))) h _ _ (zk [3,4,5]))))
  ·exact zs (hJ1 p3 h _ _ (zk [3,4,5]))

theorem c_value_sound_1_s : ∀ (k0 : Nat) (p1 : GValue) (p2 : Int) (p3 : Int) (r : (Bool × Int)), value_sound_1_s k0 p1 p2 p3 = some r → MC Tryd.prog 78 [.ag (qa1566 p1), .one (.pv (.rp [[pi p2]] 0 0)), .one (.pt 0 0 0 0)] [.box [.pt 1 0 0 0], .box [ci p3]] (vb r.1) [.box [.pt 1 0 0 0], .box [ci r.2]]
 | 0, _, _, _, r, h => by rw [value_sound_1_s.eq_1] at h; cases h
 | k0 + 1, p1, p2, p3, r, h => by
  rw [value_sound_1_s.eq_2] at h
  refine MC.of 2 (n := 11) (fn := Tryd.f78) (c := cd Tryd.f78 []) (by kernel_rfl) (by kernel_rfl) (by kernel_rfl) (Nat.le_of_ble_eq_true rfl) rfl (zq fun K1 hK1 => zr (zg [] 2 [1,2,3] (zd (hK1 _ _ (zq fun K2 hK2 => ?_)))))
  obtain ⟨r1, c3, h⟩ := zB h
  refine zr (zv [] 4 [5,7,8] [[pi p1.kind, pi p1.n, pi p1.scale, .s (.string p1.s), .ro (eValue.els p1.items)], [pi p2]] [(5, .ag (qa1566 p1)), (7, vi (IntKind.i64.wrap (p2 + (1 : Int)))), (8, .one (.pt 1 0 0 0))] [.box [.pt 1 0 0 0], .box [ci p3]] ?_)
  refine XO.calm 31 [.ag (qa1566 p1), vi (IntKind.i64.wrap (p2 + (1 : Int))), .one (.pt 0 0 0 0)] [.box [ci p3]] [.box [ci r1.2]] (vb r1.1) [1] [(9, vb r1.1), (5, .ag (qa1566 p1)), (7, vi (IntKind.i64.wrap (p2 + (1 : Int)))), (8, .one (.pt 1 0 0 0))] [.box [.pt 1 0 0 0], .box [ci r1.2]] (by kernel_rfl) (c_value_sound k0 _ _ _ _ c3) (by kernel_rfl) (by kernel_rfl) (by kernel_rfl) (by kernel_rfl) (zv [] 2 [4] [] [(4, vb (!r1.1))] [.box [.pt 1 0 0 0], .box [ci r1.2]] (zd (hK2 _ _ (ze ?_))))
  obtain rfl := Option.some.inj h
  exact FinM.fin (.inr rfl) [] [vb (!r1.1)] [] (by kernel_rfl) trivial (by kernel_rfl) (by kernel_rfl) (.one (.rfl _ rfl))

end

def value_Sound (p1 : GValue) : Option Bool :=
    bnd (value_sound BIG p1 (1 : Int) (0 : Int)) fun r1 =>
    some r1.1

abbrev qa1581 (p1 : GValue) : List CV := [ci p1.kind, ci p1.n, ci p1.scale, cst p1.s, cl eValue p1.items]

theorem c_value_Sound (p1 : GValue) (r : Bool) (h : value_Sound p1 = some r) : PC Tryd.prog 9 [.ag (qa1581 p1)] (vb r) := by
 unfold value_Sound at h
 refine zF 6 Tryd.f9 (zq fun K1 hK1 => zr (zg [3] 2 [1] (zd (hK1 _ _ (zq fun K2 hK2 => zr ?_)))))
 refine zg [3] 2 [1,3] (zd (hK2 _ _ (zq fun K3 hK3 => ?_)))
 obtain ⟨r1, c4, h⟩ := zB h
 refine zr (zv [3] 1 [3,4] [[pi p1.kind, pi p1.n, pi p1.scale, .s (.string p1.s), .ro (eValue.els p1.items)]] [(3, .one (.pt 0 0 0 0)), (4, .ag (qa1581 p1))] [.box [ci (0 : Int)]] ?_)
 refine XO.calm 31 [.ag (qa1581 p1), vi (1 : Int), .one (.pt 0 0 0 0)] [.box [ci (0 : Int)]] [.box [ci r1.2]] (vb r1.1) [0] [(5, vb r1.1), (3, .one (.pt 0 0 0 0)), (4, .ag (qa1581 p1))] [.box [ci r1.2]] (by kernel_rfl) (c_value_sound BIG _ _ _ _ c4) (by kernel_rfl) (by kernel_rfl) (by kernel_rfl) (by kernel_rfl) (zg [3] 1 [2] (zd (hK3 _ _ (ze ?_))))
 obtain rfl := Option.some.inj h
 exact zf [vb r1.1] (.one (.rfl _ rfl))

def value_whole (p1 : Int) : Option GWide :=
    ift (decide (p1 < (0 : Int)))
      (some (GWide.mk true ((IntKind.u64.wrap (0 - (IntKind.u64.wrap p1))), (0 : Int), (0 : Int), (0 : Int))))
      (some (GWide.mk false ((IntKind.u64.wrap p1), (0 : Int), (0 : Int), (0 : Int))))

abbrev qa1591 (p1 : Int) : List CV := [cb true, ck .u64 (IntKind.u64.wrap (0 - (IntKind.u64.wrap p1))), ck .u64 (0 : Int), ck .u64 (0 : Int), ck .u64 (0 : Int)]

theorem c_value_whole (p1 : Int) (r : GWide) (h : value_whole p1 = some r) : PC Tryd.prog 46 [vi p1] (.ag [cb r.neg, ck .u64 r.size.1, ck .u64 r.size.2.1, ck .u64 r.size.2.2.1, ck .u64 r.size.2.2.2]) := by
 unfold value_whole at h
 refine zF 14 Tryd.f46 (zq fun K1 hK1 => zr (zg [2] 1 [0,2] (zd (hK1 _ _ (zq fun K2 hK2 => zq fun K3 hK3 => ?_)))))
 refine zr (zg [2] 2 [0,2,4] (zd (hK3 _ _ (zC h (fun b4 h => ?_) (fun b4 h => ?_)))))
 ·refine zq fun K5 hK5 => zr (zv [2] 6 [2] [] [(2, .one (.pt 0 0 0 0))] [.box (qa1591 p1)] (zd (hK5 _ _ (ze ?_))))
  obtain rfl := Option.some.inj h
  exact zf [.ag (qa1591 p1)] (.ag (.cons (.rfl _ rfl) (.cons (.rfl _ rfl) (.cons (.rfl _ rfl) (.cons (.rfl _ rfl) (.cons (.rfl _ rfl) .nil))))))
 ·refine zs (hK2 _ _ (zq fun K6 hK6 => zr (zg [2] 5 [2] (zd (hK6 _ _ (ze ?_))))))
  obtain rfl := Option.some.inj h
  exact zf [.ag [cb false, ck .u64 (IntKind.u64.wrap p1), ck .u64 (0 : Int), ck .u64 (0 : Int), ck .u64 (0 : Int)]] (.ag (.cons (.rfl _ rfl) (.cons (.rfl _ rfl) (.cons (.rfl _ rfl) (.cons (.rfl _ rfl) (.cons (.rfl _ rfl) .nil))))))

def math_bits_Mul64 (p1 : Int) (p2 : Int) : Option (Int × Int) :=
    bnd (some (IntKind.u64.wrap (BitVec.ofInt (IntKind.u64).bits p1 &&& BitVec.ofInt (IntKind.u64).bits (4294967295 : Int)).toNat)) fun y1 =>
    bnd (some (IntKind.u64.wrap (BitVec.ofInt (IntKind.u64).bits p2 &&& BitVec.ofInt (IntKind.u64).bits (4294967295 : Int)).toNat)) fun y2 =>
    bnd (some (IntKind.u64.wrap ((p1.fdiv (2 ^ (min (32 : Int).toNat (IntKind.u64).bits))) * y2))) fun y3 =>
    bnd (some ((IntKind.u64.wrap (y1 * y2)).fdiv (2 ^ (min (32 : Int).toNat (IntKind.u64).bits)))) fun y4 =>
    bnd (some (IntKind.u64.wrap (BitVec.ofInt (IntKind.u64).bits (IntKind.u64.wrap (y3 + y4)) &&& BitVec.ofInt (IntKind.u64).bits (4294967295 : Int)).toNat)) fun y5 =>
    bnd (some ((IntKind.u64.wrap (y3 + y4)).fdiv (2 ^ (min (32 : Int).toNat (IntKind.u64).bits)))) fun y6 =>
    bnd (some (IntKind.u64.wrap (y1 * (p2.fdiv (2 ^ (min (32 : Int).toNat (IntKind.u64).bits)))))) fun y7 =>
    bnd (some (IntKind.u64.wrap ((p1.fdiv (2 ^ (min (32 : Int).toNat (IntKind.u64).bits))) * (p2.fdiv (2 ^ (min (32 : Int).toNat (IntKind.u64).bits)))))) fun y8 =>
    bnd (some ((IntKind.u64.wrap (y5 + y7)).fdiv (2 ^ (min (32 : Int).toNat (IntKind.u64).bits)))) fun y9 =>
    some ((IntKind.u64.wrap ((IntKind.u64.wrap (y8 + y6)) + y9)), (IntKind.u64.wrap (p1 * p2)))


theorem c_math_bits_Mul64 (p1 : Int) (p2 : Int) (r : (Int × Int)) (h : math_bits_Mul64 p1 p2 = some r) : PC Tryd.prog 120 [vk .u64 p1, vk .u64 p2] (.tp [vk .u64 r.1, vk .u64 r.2]) := by
 unfold math_bits_Mul64 at h
 refine zF 51 Tryd.f120 (zq fun K1 hK1 => zr (zg [] 2 [0,1] (zd (hK1 _ _ (zq fun K2 hK2 => ?_)))))
 obtain ⟨y1, hy3, h⟩ := zB h
 refine zr (zv [] 2 [0,1,15] [] [(0, vk .u64 p1), (1, vk .u64 p2), (15, vk .u64 (IntKind.u64.wrap (BitVec.ofInt (IntKind.u64).bits p1 &&& BitVec.ofInt (IntKind.u64).bits (4294967295 : Int)).toNat))] [] ?_)
 rw [show (IntKind.u64.wrap (BitVec.ofInt (IntKind.u64).bits p1 &&& BitVec.ofInt (IntKind.u64).bits (4294967295 : Int)).toNat) = y1 from Option.some.inj hy3]
 refine zg [] 1 [0,1,6] (zd (hK2 _ _ (zq fun K4 hK4 => zr (zo [] 3 [0,1,6,7] [] [0 ≤ (32 : Int)] (⟨by decide, trivial⟩) (zd (hK4 _ _ ?_))))))
 refine zq fun K5 hK5 => ?_
 obtain ⟨y2, hy6, h⟩ := zB h
 refine zr (zv [] 2 [0,1,6,7,19] [] [(0, vk .u64 p1), (1, vk .u64 p2), (6, vk .u64 y1), (7, vk .u64 (p1.fdiv (2 ^ (min (32 : Int).toNat (IntKind.u64).bits)))), (19, vk .u64 (IntKind.u64.wrap (BitVec.ofInt (IntKind.u64).bits p2 &&& BitVec.ofInt (IntKind.u64).bits (4294967295 : Int)).toNat))] [] ?_)
 rw [show (IntKind.u64.wrap (BitVec.ofInt (IntKind.u64).bits p2 &&& BitVec.ofInt (IntKind.u64).bits (4294967295 : Int)).toNat) = y2 from Option.some.inj hy6]
 refine zg [] 1 [0,1,6,7,8] (zd (hK5 _ _ (zq fun K7 hK7 => zr (zo [] 3 [0,1,6,7,8,9] [] [0 ≤ (32 : Int)] (⟨by decide, trivial⟩) (zd (hK7 _ _ ?_))))))
 refine zq fun K8 hK8 => zr (zv [] 4 [0,1,6,7,8,9,10] [] [(0, vk .u64 p1), (1, vk .u64 p2), (6, vk .u64 y1), (7, vk .u64 (p1.fdiv (2 ^ (min (32 : Int).toNat (IntKind.u64).bits)))), (8, vk .u64 y2), (9, vk .u64 (p2.fdiv (2 ^ (min (32 : Int).toNat (IntKind.u64).bits)))), (10, vk .u64 (IntKind.u64.wrap (y1 * y2)))] [] (zd (hK8 _ _ (zq fun K9 hK9 => ?_))))
 obtain ⟨y3, hy10, h⟩ := zB h
 obtain ⟨y4, hy11, h⟩ := zB h
 refine zr (zv [] 3 [0,1,6,7,9,10,27] [] [(0, vk .u64 p1), (1, vk .u64 p2), (6, vk .u64 y1), (7, vk .u64 (p1.fdiv (2 ^ (min (32 : Int).toNat (IntKind.u64).bits)))), (9, vk .u64 (p2.fdiv (2 ^ (min (32 : Int).toNat (IntKind.u64).bits)))), (10, vk .u64 (IntKind.u64.wrap (y1 * y2))), (27, vk .u64 (IntKind.u64.wrap ((p1.fdiv (2 ^ (min (32 : Int).toNat (IntKind.u64).bits))) * y2)))] [] ?_)
 rw [show (IntKind.u64.wrap ((p1.fdiv (2 ^ (min (32 : Int).toNat (IntKind.u64).bits))) * y2)) = y3 from Option.some.inj hy10]
 refine zp [] 2 [0,1,6,7,9,27,29] [] [(0, vk .u64 p1), (1, vk .u64 p2), (6, vk .u64 y1), (7, vk .u64 (p1.fdiv (2 ^ (min (32 : Int).toNat (IntKind.u64).bits)))), (9, vk .u64 (p2.fdiv (2 ^ (min (32 : Int).toNat (IntKind.u64).bits)))), (27, vk .u64 y3), (29, vk .u64 ((IntKind.u64.wrap (y1 * y2)).fdiv (2 ^ (min (32 : Int).toNat (IntKind.u64).bits))))] [] [0 ≤ (32 : Int)] (⟨by decide, trivial⟩) ?_
 rw [show ((IntKind.u64.wrap (y1 * y2)).fdiv (2 ^ (min (32 : Int).toNat (IntKind.u64).bits))) = y4 from Option.some.inj hy11]
 refine zg [] 2 [0,1,6,7,9,11] (zd (hK9 _ _ (zq fun K12 hK12 => ?_)))
 obtain ⟨y5, hy13, h⟩ := zB h
 refine zr (zv [] 2 [0,1,6,7,9,11,32] [] [(0, vk .u64 p1), (1, vk .u64 p2), (6, vk .u64 y1), (7, vk .u64 (p1.fdiv (2 ^ (min (32 : Int).toNat (IntKind.u64).bits)))), (9, vk .u64 (p2.fdiv (2 ^ (min (32 : Int).toNat (IntKind.u64).bits)))), (11, vk .u64 (IntKind.u64.wrap (y3 + y4))), (32, vk .u64 (IntKind.u64.wrap (BitVec.ofInt (IntKind.u64).bits (IntKind.u64.wrap (y3 + y4)) &&& BitVec.ofInt (IntKind.u64).bits (4294967295 : Int)).toNat))] [] ?_)
 rw [show (IntKind.u64.wrap (BitVec.ofInt (IntKind.u64).bits (IntKind.u64.wrap (y3 + y4)) &&& BitVec.ofInt (IntKind.u64).bits (4294967295 : Int)).toNat) = y5 from Option.some.inj hy13]
 refine zg [] 1 [0,1,6,7,9,11,12] (zd (hK12 _ _ (zq fun K14 hK14 => ?_)))
 obtain ⟨y6, hy15, h⟩ := zB h
 refine zr (zp [] 2 [0,1,6,7,9,12,34] [] [(0, vk .u64 p1), (1, vk .u64 p2), (6, vk .u64 y1), (7, vk .u64 (p1.fdiv (2 ^ (min (32 : Int).toNat (IntKind.u64).bits)))), (9, vk .u64 (p2.fdiv (2 ^ (min (32 : Int).toNat (IntKind.u64).bits)))), (12, vk .u64 y5), (34, vk .u64 ((IntKind.u64.wrap (y3 + y4)).fdiv (2 ^ (min (32 : Int).toNat (IntKind.u64).bits))))] [] [0 ≤ (32 : Int)] (⟨by decide, trivial⟩) ?_)
 rw [show ((IntKind.u64.wrap (y3 + y4)).fdiv (2 ^ (min (32 : Int).toNat (IntKind.u64).bits))) = y6 from Option.some.inj hy15]
 refine zg [] 1 [0,1,6,7,9,12,13] (zd (hK14 _ _ (zq fun K16 hK16 => ?_)))
 obtain ⟨y7, hy17, h⟩ := zB h
 refine zr (zv [] 4 [0,1,7,9,13,35,38] [] [(0, vk .u64 p1), (1, vk .u64 p2), (7, vk .u64 (p1.fdiv (2 ^ (min (32 : Int).toNat (IntKind.u64).bits)))), (9, vk .u64 (p2.fdiv (2 ^ (min (32 : Int).toNat (IntKind.u64).bits)))), (13, vk .u64 y6), (35, vk .u64 y5), (38, vk .u64 (IntKind.u64.wrap (y1 * (p2.fdiv (2 ^ (min (32 : Int).toNat (IntKind.u64).bits))))))] [] ?_)
 rw [show (IntKind.u64.wrap (y1 * (p2.fdiv (2 ^ (min (32 : Int).toNat (IntKind.u64).bits))))) = y7 from Option.some.inj hy17]
 refine zg [] 2 [0,1,7,9,12,13] (zd (hK16 _ _ (zq fun K18 hK18 => ?_)))
 obtain ⟨y8, hy19, h⟩ := zB h
 obtain ⟨y9, hy20, h⟩ := zB h
 refine zr (zv [] 3 [0,1,12,13,42] [] [(0, vk .u64 p1), (1, vk .u64 p2), (12, vk .u64 (IntKind.u64.wrap (y5 + y7))), (13, vk .u64 y6), (42, vk .u64 (IntKind.u64.wrap ((p1.fdiv (2 ^ (min (32 : Int).toNat (IntKind.u64).bits))) * (p2.fdiv (2 ^ (min (32 : Int).toNat (IntKind.u64).bits))))))] [] ?_)
 rw [show (IntKind.u64.wrap ((p1.fdiv (2 ^ (min (32 : Int).toNat (IntKind.u64).bits))) * (p2.fdiv (2 ^ (min (32 : Int).toNat (IntKind.u64).bits))))) = y8 from Option.some.inj hy19]
 refine zp [] 4 [0,1,44,46] [] [(0, vk .u64 p1), (1, vk .u64 p2), (44, vk .u64 (IntKind.u64.wrap (y8 + y6))), (46, vk .u64 ((IntKind.u64.wrap (y5 + y7)).fdiv (2 ^ (min (32 : Int).toNat (IntKind.u64).bits))))] [] [0 ≤ (32 : Int)] (⟨by decide, trivial⟩) ?_
 rw [show ((IntKind.u64.wrap (y5 + y7)).fdiv (2 ^ (min (32 : Int).toNat (IntKind.u64).bits))) = y9 from Option.some.inj hy20]
 refine zg [] 2 [0,1,4] (zd (hK18 _ _ (zq fun K21 hK21 => zr (zg [] 4 [4,5] (zd (hK21 _ _ ?_))))))
 refine ze ?_
 obtain rfl := Option.some.inj h
 exact zf [vk .u64 (IntKind.u64.wrap ((IntKind.u64.wrap (y8 + y6)) + y9)), vk .u64 (IntKind.u64.wrap (p1 * p2))] (.tpc (.one (.rfl _ rfl)) (.tpc (.one (.rfl _ rfl)) (.tp0)))

def value_wide_times (p1 : GWide) (p2 : Int) : Option GWide :=
    bnd (math_bits_Mul64 p1.size.1 p2) fun r1 =>
    grd (0 ≤ r1.2 ∧ 0 ≤ (0 : Int) ∧ 0 ≤ (0 : Int) ∧ (0 : Int) ≤ 1) <|
    bnd (some (IntKind.u64.wrap (r1.1 + ((r1.2 + (0 : Int) + (0 : Int)) / 18446744073709551616)))) fun y1 =>
    bnd (math_bits_Mul64 p1.size.2.1 p2) fun r2 =>
    grd (0 ≤ r2.2 ∧ 0 ≤ y1 ∧ 0 ≤ (0 : Int) ∧ (0 : Int) ≤ 1) <|
    bnd (some (IntKind.u64.wrap (r2.1 + ((r2.2 + y1 + (0 : Int)) / 18446744073709551616)))) fun y2 =>
    bnd (math_bits_Mul64 p1.size.2.2.1 p2) fun r3 =>
    grd (0 ≤ r3.2 ∧ 0 ≤ y2 ∧ 0 ≤ (0 : Int) ∧ (0 : Int) ≤ 1) <|
    bnd (some (IntKind.u64.wrap (r3.1 + ((r3.2 + y2 + (0 : Int)) / 18446744073709551616)))) fun y3 =>
    bnd (math_bits_Mul64 p1.size.2.2.2 p2) fun r4 =>
    grd (0 ≤ r4.2 ∧ 0 ≤ y3 ∧ 0 ≤ (0 : Int) ∧ (0 : Int) ≤ 1) <|
    bnd (some (IntKind.u64.wrap (r4.1 + ((r4.2 + y3 + (0 : Int)) / 18446744073709551616)))) fun y4 =>
    some (GWide.mk p1.neg (((r1.2 + (0 : Int) + (0 : Int)) % 18446744073709551616), ((r2.2 + y1 + (0 : Int)) % 18446744073709551616), ((r3.2 + y2 + (0 : Int)) % 18446744073709551616), ((r4.2 + y3 + (0 : Int)) % 18446744073709551616)))

abbrev qa1595 (p1 : GWide) : List CV := [cb p1.neg, ck .u64 p1.size.1, ck .u64 p1.size.2.1, ck .u64 p1.size.2.2.1, ck .u64 p1.size.2.2.2]
abbrev qa1597 (p1 : GWide) : List CV := [ck .u64 p1.size.1, ck .u64 p1.size.2.1, ck .u64 p1.size.2.2.1, ck .u64 p1.size.2.2.2]
abbrev qa1598 : List CV := [cb false, ck .u64 (0 : Int), ck .u64 (0 : Int), ck .u64 (0 : Int), ck .u64 (0 : Int)]
abbrev qa1599 (p1 : GWide) (r1 : (Int × Int)) : List CV := [cb p1.neg, ck .u64 ((r1.2 + (0 : Int) + (0 : Int)) % 18446744073709551616), ck .u64 p1.size.2.1, ck .u64 p1.size.2.2.1, ck .u64 p1.size.2.2.2]
abbrev qa1600 (p1 : GWide) (r1 : (Int × Int)) (y1 : Int) (r2 : (Int × Int)) : List CV := [cb p1.neg, ck .u64 ((r1.2 + (0 : Int) + (0 : Int)) % 18446744073709551616), ck .u64 ((r2.2 + y1 + (0 : Int)) % 18446744073709551616), ck .u64 p1.size.2.2.1, ck .u64 p1.size.2.2.2]
abbrev qa1601 (p1 : GWide) (r1 : (Int × Int)) (y1 : Int) (r2 : (Int × Int)) (y2 : Int) (r3 : (Int × Int)) : List CV := [cb p1.neg, ck .u64 ((r1.2 + (0 : Int) + (0 : Int)) % 18446744073709551616), ck .u64 ((r2.2 + y1 + (0 : Int)) % 18446744073709551616), ck .u64 ((r3.2 + y2 + (0 : Int)) % 18446744073709551616), ck .u64 p1.size.2.2.2]
abbrev qa1602 (p1 : GWide) (r1 : (Int × Int)) (y1 : Int) (r2 : (Int × Int)) (y2 : Int) (r3 : (Int × Int)) (y3 : Int) (r4 : (Int × Int)) : List CV := [cb p1.neg, ck .u64 ((r1.2 + (0 : Int) + (0 : Int)) % 18446744073709551616), ck .u64 ((r2.2 + y1 + (0 : Int)) % 18446744073709551616), ck .u64 ((r3.2 + y2 + (0 : Int)) % 18446744073709551616), ck .u64 ((r4.2 + y3 + (0 : Int)) % 18446744073709551616)]

theorem c_value_wide_times (p1 : GWide) (p2 : Int) (r : GWide) (h : value_wide_times p1 p2 = some r) : PC Tryd.prog 96 [.ag (qa1595 p1), vk .u64 p2] (.ag [cb r.neg, ck .u64 r.size.1, ck .u64 r.size.2.1, ck .u64 r.size.2.2.1, ck .u64 r.size.2.2.2]) := by
 unfold value_wide_times at h
 refine zF 37 Tryd.f96 (zq fun K1 hK1 => zr (zg [2, 4] 2 [1,2,4] (zd (hK1 _ _ (zq fun K2 hK2 => zr ?_)))))
 refine zg [2, 4] 1 [1,2,4,5] (zd (hK2 _ _ (zq fun K3 hK3 => zq fun K4 hK4 => zr (zv [2, 4] 3 [1,2,4,5,12,13] [] [(1, vk .u64 p2), (2, .one (.pt 0 0 0 0)), (4, .one (.pt 1 0 0 0)), (5, vk .u64 (0 : Int)), (12, .ag (qa1597 p1)), (13, vi (0 : Int))] [.box (qa1595 p1), .box qa1598] (zd ?_)))))
 refine hK4 _ _ (zb 0 (XW.rounds' 5 (x := cd Tryd.f96 [1,1,0,1,0,0]) (by kernel_rfl) fun Q1 hQ1 => XR.one (zq fun K5 hK5 => zr (zg [2, 4] 1 [1,2,4,5,12,13,14] (zd ?_)))))
 refine hK5 _ _ (zq fun K6 hK6 => zc true (fun _ => ?_) (fun hx => by cases hx))
 refine zs (hK6 _ _ (zq fun K7 hK7 => zb 1 (zq fun K8 hK8 => zr (zo [2, 4] 4 [1,2,4,5,6,7,12,13] [] [0 ≤ (0 : Int) ∧ (0 : Int) < 4] (⟨by decide, trivial⟩) (zd ?_)))))
 refine hK8 _ _ (zq fun K9 hK9 => ?_)
 obtain ⟨r1, c10, h⟩ := zB h
 refine zr (zv [2, 4] 2 [1,2,4,5,6,12,13,18,19] [] [(1, vk .u64 p2), (2, .one (.pt 0 0 0 0)), (4, .one (.pt 1 0 0 0)), (5, vk .u64 (0 : Int)), (6, vi (0 : Int)), (12, .ag (qa1597 p1)), (13, vi (0 : Int)), (18, vk .u64 p1.size.1), (19, vk .u64 p2)] [.box (qa1595 p1), .box qa1598] (za (c_math_bits_Mul64 _ _ _ c10) (zg [2, 4] 5 [1,2,4,5,6,8,9,12,13] (zd ?_))))
 refine hK9 _ _ (zq fun K11 hK11 => zr (zv [2, 4] 1 [1,2,4,5,6,8,9,12,13] [] [(1, vk .u64 p2), (2, .one (.pt 0 0 0 0)), (4, .one (.pt 1 0 0 0)), (5, vk .u64 (0 : Int)), (6, vi (0 : Int)), (8, vk .u64 r1.1), (9, vk .u64 r1.2), (12, .ag (qa1597 p1)), (13, vi (0 : Int))] [.box (qa1595 p1), .box qa1598] (zd (hK11 _ _ (zq fun K12 hK12 => ?_)))))
 obtain ⟨g13, h⟩ := zG h
 refine zr (zv [2, 4] 3 [1,2,4,8,12,13,24,25,26] [] [(1, vk .u64 p2), (2, .one (.pt 0 0 0 0)), (4, .one (.pt 1 0 0 0)), (8, vk .u64 r1.1), (12, .ag (qa1597 p1)), (13, vi (0 : Int)), (24, vi (0 : Int)), (25, vk .u64 r1.2), (26, vk .u64 (0 : Int))] [.box (qa1595 p1), .box qa1598] ?_)
 refine XO.ext 121 [.int .u64 r1.2, .int .u64 (0 : Int), .int .u64 (0 : Int)] [.int .u64 ((r1.2 + (0 : Int) + (0 : Int)) % 18446744073709551616), .int .u64 ((r1.2 + (0 : Int) + (0 : Int)) / 18446744073709551616)] [(27, .tp [vk .u64 ((r1.2 + (0 : Int) + (0 : Int)) % 18446744073709551616), vk .u64 ((r1.2 + (0 : Int) + (0 : Int)) / 18446744073709551616)]), (1, vk .u64 p2), (2, .one (.pt 0 0 0 0)), (4, .one (.pt 1 0 0 0)), (8, vk .u64 r1.1), (12, .ag (qa1597 p1)), (13, vi (0 : Int)), (24, vi (0 : Int)), (25, vk .u64 r1.2), (26, vk .u64 (0 : Int))] (by kernel_rfl) (ext_Add64 (fn := Tryd.f121) (by kernel_rfl) (by kernel_rfl) (by kernel_rfl) (by kernel_rfl) (by kernel_rfl) g13.1 g13.2.1 g13.2.2.1 g13.2.2.2) rfl (by kernel_rfl) ?_
 refine zo [2, 4] 7 [1,2,4,8,10,12,13] [] [0 ≤ (0 : Int) ∧ (0 : Int) < 4] (⟨by decide, trivial⟩) (zd (hK12 _ _ ?_))
 obtain ⟨y1, hy14, h⟩ := zB h
 refine zr (zv [2, 4] 3 [1,2,4,12,13,34] [] [(1, vk .u64 p2), (2, .one (.pt 0 0 0 0)), (4, .one (.pt 1 0 0 0)), (12, .ag [ck .u64 p1.size.1, ck .u64 p1.size.2.1, ck .u64 p1.size.2.2.1, ck .u64 p1.size.2.2.2]), (13, vi (0 : Int)), (34, vk .u64 (IntKind.u64.wrap (r1.1 + ((r1.2 + (0 : Int) + (0 : Int)) / 18446744073709551616))))] [.box [cb p1.neg, ck .u64 ((r1.2 + (0 : Int) + (0 : Int)) % 18446744073709551616), ck .u64 p1.size.2.1, ck .u64 p1.size.2.2.1, ck .u64 p1.size.2.2.2], .box [cb false, ck .u64 (0 : Int), ck .u64 (0 : Int), ck .u64 (0 : Int), ck .u64 (0 : Int)]] ?_)
 rw [show (IntKind.u64.wrap (r1.1 + ((r1.2 + (0 : Int) + (0 : Int)) / 18446744073709551616))) = y1 from Option.some.inj hy14]
 refine zg [2, 4] 1 [1,2,4,5,12,13] (zd (hK7 _ _ (zr (zv [2, 4] 2 [1,2,4,5,12,13] [] [(1, vk .u64 p2), (2, .one (.pt 0 0 0 0)), (4, .one (.pt 1 0 0 0)), (5, vk .u64 y1), (12, .ag (qa1597 p1)), (13, vi (1 : Int))] [.box (qa1599 p1 r1), .box qa1598] (zd (XR.one (zq fun K15 hK15 => ?_)))))))
 refine zr (zg [2, 4] 1 [1,2,4,5,12,13,14] (zd (hK15 _ _ (zq fun K16 hK16 => zc true (fun _ => ?_) (fun hx => by cases hx)))))
 refine zs (hK16 _ _ (zq fun K17 hK17 => zb 1 (zq fun K18 hK18 => zr (zo [2, 4] 4 [1,2,4,5,6,7,12,13] [] [0 ≤ (1 : Int) ∧ (1 : Int) < 4] (⟨by decide, trivial⟩) (zd ?_)))))
 refine hK18 _ _ (zq fun K19 hK19 => ?_)
 obtain ⟨r2, c20, h⟩ := zB h
 refine zr (zv [2, 4] 2 [1,2,4,5,6,12,13,18,19] [] [(1, vk .u64 p2), (2, .one (.pt 0 0 0 0)), (4, .one (.pt 1 0 0 0)), (5, vk .u64 y1), (6, vi (1 : Int)), (12, .ag (qa1597 p1)), (13, vi (1 : Int)), (18, vk .u64 p1.size.2.1), (19, vk .u64 p2)] [.box (qa1599 p1 r1), .box qa1598] (za (c_math_bits_Mul64 _ _ _ c20) ?_))
 refine zg [2, 4] 5 [1,2,4,5,6,8,9,12,13] (zd (hK19 _ _ (zq fun K21 hK21 => zr ?_)))
 refine zv [2, 4] 1 [1,2,4,5,6,8,9,12,13] [] [(1, vk .u64 p2), (2, .one (.pt 0 0 0 0)), (4, .one (.pt 1 0 0 0)), (5, vk .u64 y1), (6, vi (1 : Int)), (8, vk .u64 r2.1), (9, vk .u64 r2.2), (12, .ag (qa1597 p1)), (13, vi (1 : Int))] [.box (qa1599 p1 r1), .box qa1598] (zd (hK21 _ _ (zq fun K22 hK22 => ?_)))
 obtain ⟨g23, h⟩ := zG h
 refine zr (zv [2, 4] 3 [1,2,4,8,12,13,24,25,26] [] [(1, vk .u64 p2), (2, .one (.pt 0 0 0 0)), (4, .one (.pt 1 0 0 0)), (8, vk .u64 r2.1), (12, .ag (qa1597 p1)), (13, vi (1 : Int)), (24, vi (1 : Int)), (25, vk .u64 r2.2), (26, vk .u64 y1)] [.box (qa1599 p1 r1), .box qa1598] ?_)
 refine XO.ext 121 [.int .u64 r2.2, .int .u64 y1, .int .u64 (0 : Int)] [.int .u64 ((r2.2 + y1 + (0 : Int)) % 18446744073709551616), .int .u64 ((r2.2 + y1 + (0 : Int)) / 18446744073709551616)] [(27, .tp [vk .u64 ((r2.2 + y1 + (0 : Int)) % 18446744073709551616), vk .u64 ((r2.2 + y1 + (0 : Int)) / 18446744073709551616)]), (1, vk .u64 p2), (2, .one (.pt 0 0 0 0)), (4, .one (.pt 1 0 0 0)), (8, vk .u64 r2.1), (12, .ag (qa1597 p1)), (13, vi (1 : Int)), (24, vi (1 : Int)), (25, vk .u64 r2.2), (26, vk .u64 y1)] (by kernel_rfl) (ext_Add64 (fn := Tryd.f121) (by kernel_rfl) (by kernel_rfl) (by kernel_rfl) (by kernel_rfl) (by kernel_rfl) g23.1 g23.2.1 g23.2.2.1 g23.2.2.2) rfl (by kernel_rfl) ?_
 refine zo [2, 4] 7 [1,2,4,8,10,12,13] [] [0 ≤ (1 : Int) ∧ (1 : Int) < 4] (⟨by decide, trivial⟩) (zd (hK22 _ _ ?_))
 obtain ⟨y2, hy24, h⟩ := zB h
 refine zr ?_
 refine zv [2, 4] 3 [1,2,4,12,13,34] [] [(1, vk .u64 p2), (2, .one (.pt 0 0 0 0)), (4, .one (.pt 1 0 0 0)), (12, .ag [ck .u64 p1.size.1, ck .u64 p1.size.2.1, ck .u64 p1.size.2.2.1, ck .u64 p1.size.2.2.2]), (13, vi (1 : Int)), (34, vk .u64 (IntKind.u64.wrap (r2.1 + ((r2.2 + y1 + (0 : Int)) / 18446744073709551616))))] [.box [cb p1.neg, ck .u64 ((r1.2 + (0 : Int) + (0 : Int)) % 18446744073709551616), ck .u64 ((r2.2 + y1 + (0 : Int)) % 18446744073709551616), ck .u64 p1.size.2.2.1, ck .u64 p1.size.2.2.2], .box [cb false, ck .u64 (0 : Int), ck .u64 (0 : Int), ck .u64 (0 : Int), ck .u64 (0 : Int)]] ?_
 rw [show (IntKind.u64.wrap (r2.1 + ((r2.2 + y1 + (0 : Int)) / 18446744073709551616))) = y2 from Option.some.inj hy24]
 refine zg [2, 4] 1 [1,2,4,5,12,13] (zd (hK17 _ _ (zr (zv [2, 4] 2 [1,2,4,5,12,13] [] [(1, vk .u64 p2), (2, .one (.pt 0 0 0 0)), (4, .one (.pt 1 0 0 0)), (5, vk .u64 y2), (12, .ag (qa1597 p1)), (13, vi (2 : Int))] [.box (qa1600 p1 r1 y1 r2), .box qa1598] (zd (XR.one ?_))))))
 refine zq fun K25 hK25 => zr (zg [2, 4] 1 [1,2,4,5,12,13,14] (zd (hK25 _ _ (zq fun K26 hK26 => zc true (fun _ => ?_) (fun hx => by cases hx)))))
 refine zs (hK26 _ _ (zq fun K27 hK27 => zb 1 (zq fun K28 hK28 => zr (zo [2, 4] 4 [1,2,4,5,6,7,12,13] [] [0 ≤ (2 : Int) ∧ (2 : Int) < 4] (⟨by decide, trivial⟩) (zd ?_)))))
 refine hK28 _ _ (zq fun K29 hK29 => ?_)
 obtain ⟨r3, c30, h⟩ := zB h
 refine zr ?_
 refine zv [2, 4] 2 [1,2,4,5,6,12,13,18,19] [] [(1, vk .u64 p2), (2, .one (.pt 0 0 0 0)), (4, .one (.pt 1 0 0 0)), (5, vk .u64 y2), (6, vi (2 : Int)), (12, .ag (qa1597 p1)), (13, vi (2 : Int)), (18, vk .u64 p1.size.2.2.1), (19, vk .u64 p2)] [.box (qa1600 p1 r1 y1 r2), .box qa1598] ?_
 refine za (c_math_bits_Mul64 _ _ _ c30) (zg [2, 4] 5 [1,2,4,5,6,8,9,12,13] (zd (hK29 _ _ (zq fun K31 hK31 => zr ?_))))
 refine zv [2, 4] 1 [1,2,4,5,6,8,9,12,13] [] [(1, vk .u64 p2), (2, .one (.pt 0 0 0 0)), (4, .one (.pt 1 0 0 0)), (5, vk .u64 y2), (6, vi (2 : Int)), (8, vk .u64 r3.1), (9, vk .u64 r3.2), (12, .ag (qa1597 p1)), (13, vi (2 : Int))] [.box (qa1600 p1 r1 y1 r2), .box qa1598] (zd ?_)
 refine hK31 _ _ (zq fun K32 hK32 => ?_)
 obtain ⟨g33, h⟩ := zG h
 refine zr (zv [2, 4] 3 [1,2,4,8,12,13,24,25,26] [] [(1, vk .u64 p2), (2, .one (.pt 0 0 0 0)), (4, .one (.pt 1 0 0 0)), (8, vk .u64 r3.1), (12, .ag (qa1597 p1)), (13, vi (2 : Int)), (24, vi (2 : Int)), (25, vk .u64 r3.2), (26, vk .u64 y2)] [.box (qa1600 p1 r1 y1 r2), .box qa1598] ?_)
 refine XO.ext 121 [.int .u64 r3.2, .int .u64 y2, .int .u64 (0 : Int)] [.int .u64 ((r3.2 + y2 + (0 : Int)) % 18446744073709551616), .int .u64 ((r3.2 + y2 + (0 : Int)) / 18446744073709551616)] [(27, .tp [vk .u64 ((r3.2 + y2 + (0 : Int)) % 18446744073709551616), vk .u64 ((r3.2 + y2 + (0 : Int)) / 18446744073709551616)]), (1, vk .u64 p2), (2, .one (.pt 0 0 0 0)), (4, .one (.pt 1 0 0 0)), (8, vk .u64 r3.1), (12, .ag (qa1597 p1)), (13, vi (2 : Int)), (24, vi (2 : Int)), (25, vk .u64 r3.2), (26, vk .u64 y2)] (by kernel_rfl) (ext_Add64 (fn := Tryd.f121) (by kernel_rfl) (by kernel_rfl) (by kernel_rfl) (by kernel_rfl) (by kernel_rfl) g33.1 g33.2.1 g33.2.2.1 g33.2.2.2) rfl (by kernel_rfl) ?_
 refine zo [2, 4] 7 [1,2,4,8,10,12,13] [] [0 ≤ (2 : Int) ∧ (2 : Int) < 4] (⟨by decide, trivial⟩) (zd (hK32 _ _ ?_))
 obtain ⟨y3, hy34, h⟩ := zB h
 refine zr ?_
 refine zv [2, 4] 3 [1,2,4,12,13,34] [] [(1, vk .u64 p2), (2, .one (.pt 0 0 0 0)), (4, .one (.pt 1 0 0 0)), (12, .ag [ck .u64 p1.size.1, ck .u64 p1.size.2.1, ck .u64 p1.size.2.2.1, ck .u64 p1.size.2.2.2]), (13, vi (2 : Int)), (34, vk .u64 (IntKind.u64.wrap (r3.1 + ((r3.2 + y2 + (0 : Int)) / 18446744073709551616))))] [.box [cb p1.neg, ck .u64 ((r1.2 + (0 : Int) + (0 : Int)) % 18446744073709551616), ck .u64 ((r2.2 + y1 + (0 : Int)) % 18446744073709551616), ck .u64 ((r3.2 + y2 + (0 : Int)) % 18446744073709551616), ck .u64 p1.size.2.2.2], .box [cb false, ck .u64 (0 : Int), ck .u64 (0 : Int), ck .u64 (0 : Int), ck .u64 (0 : Int)]] ?_
 rw [show (IntKind.u64.wrap (r3.1 + ((r3.2 + y2 + (0 : Int)) / 18446744073709551616))) = y3 from Option.some.inj hy34]
 refine zg [2, 4] 1 [1,2,4,5,12,13] (zd (hK27 _ _ (zr ?_)))
 refine zv [2, 4] 2 [1,2,4,5,12,13] [] [(1, vk .u64 p2), (2, .one (.pt 0 0 0 0)), (4, .one (.pt 1 0 0 0)), (5, vk .u64 y3), (12, .ag (qa1597 p1)), (13, vi (3 : Int))] [.box (qa1601 p1 r1 y1 r2 y2 r3), .box qa1598] (zd (XR.one (zq fun K35 hK35 => zr ?_)))
 refine zg [2, 4] 1 [1,2,4,5,12,13,14] (zd (hK35 _ _ (zq fun K36 hK36 => zc true (fun _ => ?_) (fun hx => by cases hx))))
 refine zs (hK36 _ _ (zq fun K37 hK37 => zb 1 (zq fun K38 hK38 => zr (zo [2, 4] 4 [1,2,4,5,6,7,12,13] [] [0 ≤ (3 : Int) ∧ (3 : Int) < 4] (⟨by decide, trivial⟩) (zd ?_)))))
 refine hK38 _ _ (zq fun K39 hK39 => ?_)
 obtain ⟨r4, c40, h⟩ := zB h
 refine zr ?_
 refine zv [2, 4] 2 [1,2,4,5,6,12,13,18,19] [] [(1, vk .u64 p2), (2, .one (.pt 0 0 0 0)), (4, .one (.pt 1 0 0 0)), (5, vk .u64 y3), (6, vi (3 : Int)), (12, .ag (qa1597 p1)), (13, vi (3 : Int)), (18, vk .u64 p1.size.2.2.2), (19, vk .u64 p2)] [.box (qa1601 p1 r1 y1 r2 y2 r3), .box qa1598] ?_
 refine za (c_math_bits_Mul64 _ _ _ c40) (zg [2, 4] 5 [1,2,4,5,6,8,9,12,13] (zd (hK39 _ _ (zq fun K41 hK41 => zr ?_))))
 refine zv [2, 4] 1 [1,2,4,5,6,8,9,12,13] [] [(1, vk .u64 p2), (2, .one (.pt 0 0 0 0)), (4, .one (.pt 1 0 0 0)), (5, vk .u64 y3), (6, vi (3 : Int)), (8, vk .u64 r4.1), (9, vk .u64 r4.2), (12, .ag (qa1597 p1)), (13, vi (3 : Int))] [.box (qa1601 p1 r1 y1 r2 y2 r3), .box qa1598] ?_
 refine zd (hK41 _ _ (zq fun K42 hK42 => ?_))
 obtain ⟨g43, h⟩ := zG h
 refine zr ?_
 refine zv [2, 4] 3 [1,2,4,8,12,13,24,25,26] [] [(1, vk .u64 p2), (2, .one (.pt 0 0 0 0)), (4, .one (.pt 1 0 0 0)), (8, vk .u64 r4.1), (12, .ag (qa1597 p1)), (13, vi (3 : Int)), (24, vi (3 : Int)), (25, vk .u64 r4.2), (26, vk .u64 y3)] [.box (qa1601 p1 r1 y1 r2 y2 r3), .box qa1598] ?_
 refine XO.ext 121 [.int .u64 r4.2, .int .u64 y3, .int .u64 (0 : Int)] [.int .u64 ((r4.2 + y3 + (0 : Int)) % 18446744073709551616), .int .u64 ((r4.2 + y3 + (0 : Int)) / 18446744073709551616)] [(27, .tp [vk .u64 ((r4.2 + y3 + (0 : Int)) % 18446744073709551616), vk .u64 ((r4.2 + y3 + (0 : Int)) / 18446744073709551616)]), (1, vk .u64 p2), (2, .one (.pt 0 0 0 0)), (4, .one (.pt 1 0 0 0)), (8, vk .u64 r4.1), (12, .ag (qa1597 p1)), (13, vi (3 : Int)), (24, vi (3 : Int)), (25, vk .u64 r4.2), (26, vk .u64 y3)] (by kernel_rfl) (ext_Add64 (fn := Tryd.f121) (by kernel_rfl) (by kernel_rfl) (by kernel_rfl) (by kernel_rfl) (by kernel_rfl) g43.1 g43.2.1 g43.2.2.1 g43.2.2.2) rfl (by kernel_rfl) ?_
 refine zo [2, 4] 7 [1,2,4,8,10,12,13] [] [0 ≤ (3 : Int) ∧ (3 : Int) < 4] (⟨by decide, trivial⟩) (zd (hK42 _ _ ?_))
 obtain ⟨y4, hy44, h⟩ := zB h
 refine zr ?_
 refine zv [2, 4] 3 [1,2,4,12,13,34] [] [(1, vk .u64 p2), (2, .one (.pt 0 0 0 0)), (4, .one (.pt 1 0 0 0)), (12, .ag [ck .u64 p1.size.1, ck .u64 p1.size.2.1, ck .u64 p1.size.2.2.1, ck .u64 p1.size.2.2.2]), (13, vi (3 : Int)), (34, vk .u64 (IntKind.u64.wrap (r4.1 + ((r4.2 + y3 + (0 : Int)) / 18446744073709551616))))] [.box [cb p1.neg, ck .u64 ((r1.2 + (0 : Int) + (0 : Int)) % 18446744073709551616), ck .u64 ((r2.2 + y1 + (0 : Int)) % 18446744073709551616), ck .u64 ((r3.2 + y2 + (0 : Int)) % 18446744073709551616), ck .u64 ((r4.2 + y3 + (0 : Int)) % 18446744073709551616)], .box [cb false, ck .u64 (0 : Int), ck .u64 (0 : Int), ck .u64 (0 : Int), ck .u64 (0 : Int)]] ?_
 rw [show (IntKind.u64.wrap (r4.1 + ((r4.2 + y3 + (0 : Int)) / 18446744073709551616))) = y4 from Option.some.inj hy44]
 refine zg [2, 4] 1 [1,2,4,5,12,13] (zd (hK37 _ _ (zr ?_)))
 refine zv [2, 4] 2 [1,2,4,5,12,13] [] [(1, vk .u64 p2), (2, .one (.pt 0 0 0 0)), (4, .one (.pt 1 0 0 0)), (5, vk .u64 y4), (12, .ag (qa1597 p1)), (13, vi (4 : Int))] [.box (qa1602 p1 r1 y1 r2 y2 r3 y3 r4), .box qa1598] (zd ?_)
 refine XR.one (zq fun K45 hK45 => zr (zg [2, 4] 1 [1,2,4,5,12,13,14] (zd (hK45 _ _ (zq fun K46 hK46 => zc false (fun hx => by cases hx) (fun _ => ?_))))))
 refine zx 0 (hQ1 _ _ _ (hK3 _ _ (zq fun K47 hK47 => zr (zg [2, 4] 2 [4] (zd (hK47 _ _ ?_))))))
 refine ze ?_
 obtain rfl := Option.some.inj h
 exact zf [.ag (qa1602 p1 r1 y1 r2 y2 r3 y3 r4)] (.ag (.cons (.rfl _ rfl) (.cons (.rfl _ rfl) (.cons (.rfl _ rfl) (.cons (.rfl _ rfl) (.cons (.rfl _ rfl) .nil))))))

def value_wide_shifted_j1 (z6 : Bool) (z7 : Int) (z8 : Int) (z9 : Int) (z10 : Int) : Option GWide :=
    some (GWide.mk z6 (z7, z8, z9, z10))

def value_wide_shifted_l1 (p2 : Int) : Nat → Bool → Int → Int → Int → Int → Int → Option GWide
  | 0, _, _, _, _, _, _ => none
  | k1 + 1, z1, z2, z3, z4, z5, x1 =>
    ift (decide (x1 < p2))
      (bnd (value_wide_times (GWide.mk z1 (z2, z3, z4, z5)) (10 : Int)) fun r1 =>
       (value_wide_shifted_l1 p2 k1) r1.neg r1.size.1 r1.size.2.1 r1.size.2.2.1 r1.size.2.2.2 (IntKind.i64.wrap (x1 + (1 : Int))))
      (value_wide_shifted_j1 z1 z2 z3 z4 z5)

def value_wide_shifted (p1 : GWide) (p2 : Int) : Option GWide :=
    value_wide_shifted_l1 p2 BIG p1.neg p1.size.1 p1.size.2.1 p1.size.2.2.1 p1.size.2.2.2 (0 : Int)

abbrev qa1633 : List CV := [cb false, ck .u64 (0 : Int), ck .u64 (0 : Int), ck .u64 (0 : Int), ck .u64 (0 : Int)]
abbrev qa1636 (r1 : GWide) : List CV := [cb r1.neg, ck .u64 r1.size.1, ck .u64 r1.size.2.1, ck .u64 r1.size.2.2.1, ck .u64 r1.size.2.2.2]

theorem c_value_wide_shifted (p1 : GWide) (p2 : Int) (r : GWide) (h : value_wide_shifted p1 p2 = some r) : PC Tryd.prog 51 [.ag [cb p1.neg, ck .u64 p1.size.1, ck .u64 p1.size.2.1, ck .u64 p1.size.2.2.1, ck .u64 p1.size.2.2.2], vi p2] (.ag [cb r.neg, ck .u64 r.size.1, ck .u64 r.size.2.1, ck .u64 r.size.2.2.1, ck .u64 r.size.2.2.2]) := by
 unfold value_wide_shifted at h
 refine zF 12 Tryd.f51 (zq fun K1 hK1 => zr (zg [2, 4] 2 [1,2,4] (zd (hK1 _ _ (zq fun K2 hK2 => ?_)))))
 have hJ1 : ∀ (z6 : Bool) (z7 : Int) (z8 : Int) (z9 : Int) (z10 : Int), value_wide_shifted_j1 z6 z7 z8 z9 z10 = some r → ∀ fr1 st1, Sub 12 0 [] fr1 st1 [(2, .one (.pt 0 0 0 0)), (4, .one (.pt 1 0 0 0))] [.box [cb z6, ck .u64 z7, ck .u64 z8, ck .u64 z9, ck .u64 z10], .box qa1633] → K2 fr1 st1 := by
  intro z6 z7 z8 z9 z10 h fr1 st1 hS
  unfold value_wide_shifted_j1 at h
  refine hK2 _ _ (XW.sub hS ?_)
  refine zq fun K9 hK9 => zr (zg [2, 4] 2 [4] (zd (hK9 _ _ (ze ?_))))
  obtain rfl := Option.some.inj h
  exact zf [.ag [cb z6, ck .u64 z7, ck .u64 z8, ck .u64 z9, ck .u64 z10]] (.ag (.cons (.rfl _ rfl) (.cons (.rfl _ rfl) (.cons (.rfl _ rfl) (.cons (.rfl _ rfl) (.cons (.rfl _ rfl) .nil))))))
 refine zq fun K3 hK3 => zr (zg [2, 4] 2 [2,4,5,6] (zd (hK3 _ _ (zb 0 (XW.rounds' BIG (x := cd Tryd.f51 [1,0,1,0,0]) (by kernel_rfl) fun Q1 hQ1 => ?_)))))
 have hL1 : ∀ (k1 : Nat) (z1 : Bool) (z2 : Int) (z3 : Int) (z4 : Int) (z5 : Int) (x1 : Int), value_wide_shifted_l1 p2 k1 z1 z2 z3 z4 z5 x1 = some r → XR Tryd.prog 12 0 [] (cd Tryd.f51 [1,0,1,0,0]) Q1 k1 [(2, .one (.pt 0 0 0 0)), (4, .one (.pt 1 0 0 0)), (5, vi p2), (6, vi x1)] [.box [cb z1, ck .u64 z2, ck .u64 z3, ck .u64 z4, ck .u64 z5], .box qa1633] := by
  intro k1
  induction k1 with
  | zero => intro z1 z2 z3 z4 z5 x1 h; rw [value_wide_shifted_l1.eq_1] at h; cases h
  | succ k1 ih1 =>
   intro z1 z2 z3 z4 z5 x1 h
   rw [value_wide_shifted_l1.eq_2] at h
   refine zq fun K4 hK4 => zr (zg [2, 4] 1 [2,4,5,6,7] (zd (hK4 _ _ (zq fun K5 hK5 => zC h (fun b6 h => ?_) (fun b6 h => ?_)))))
   ·refine zs (hK5 _ _ (zq fun K7 hK7 => zb 1 ?_))
    obtain ⟨r1, c8, h⟩ := zB h
    refine zr (zg [2, 4] 1 [2,4,5,6,8] (zl 96 [.ag [cb z1, ck .u64 z2, ck .u64 z3, ck .u64 z4, ck .u64 z5], vk .u64 (10 : Int)] (.ag (qa1636 r1)) [(9, .ag (qa1636 r1)), (2, .one (.pt 0 0 0 0)), (4, .one (.pt 1 0 0 0)), (5, vi p2), (6, vi x1), (8, .ag [cb z1, ck .u64 z2, ck .u64 z3, ck .u64 z4, ck .u64 z5])] (c_value_wide_times _ _ _ c8) (zg [2, 4] 1 [2,4,5,6] (zd (hK7 _ _ (zr (zg [2, 4] 2 [2,4,5,6] ?_)))))))
    exact zd (XR.sub (zk [2,4,5,6]) (ih1 r1.neg r1.size.1 r1.size.2.1 r1.size.2.2.1 r1.size.2.2.2 (IntKind.i64.wrap (x1 + (1 : Int))) h))
   ·exact zx 0 (hQ1 _ _ _ (hJ1 z1 z2 z3 z4 z5 h _ _ (zk [2,4])))
 exact XR.sub (zk [2,4,5,6]) (hL1 BIG p1.neg p1.size.1 p1.size.2.1 p1.size.2.2.1 p1.size.2.2.2 (0 : Int) h)

def value_scaled (p1 : Int) (p2 : Int) : Option GWide :=
    bnd (value_whole p1) fun r1 =>
    bnd (value_wide_shifted (GWide.mk r1.neg (r1.size.1, r1.size.2.1, r1.size.2.2.1, r1.size.2.2.2)) p2) fun r2 =>
    some (GWide.mk r2.neg (r2.size.1, r2.size.2.1, r2.size.2.2.1, r2.size.2.2.2))

abbrev qa1641 (r1 : GWide) : List CV := [cb r1.neg, ck .u64 r1.size.1, ck .u64 r1.size.2.1, ck .u64 r1.size.2.2.1, ck .u64 r1.size.2.2.2]
abbrev qa1643 (r2 : GWide) : List CV := [cb r2.neg, ck .u64 r2.size.1, ck .u64 r2.size.2.1, ck .u64 r2.size.2.2.1, ck .u64 r2.size.2.2.2]

theorem c_value_scaled (p1 : Int) (p2 : Int) (r : GWide) (h : value_scaled p1 p2 = some r) : PC Tryd.prog 50 [vi p1, vi p2] (.ag [cb r.neg, ck .u64 r.size.1, ck .u64 r.size.2.1, ck .u64 r.size.2.2.1, ck .u64 r.size.2.2.2]) := by
 unfold value_scaled at h
 refine zF 9 Tryd.f50 (zq fun K1 hK1 => zr (zg [4] 1 [0,1,4] (zd (hK1 _ _ (zq fun K2 hK2 => ?_)))))
 obtain ⟨r1, c3, h⟩ := zB h
 obtain ⟨r2, c4, h⟩ := zB h
 refine zr (zg [4] 1 [1,4,5] (zl 46 [vi p1] (.ag (qa1641 r1)) [(6, .ag (qa1641 r1)), (1, vi p2), (4, .one (.pt 0 0 0 0)), (5, vi p1)] (c_value_whole _ _ c3) (zg [4] 1 [4,6,7] (za (c_value_wide_shifted _ _ _ c4) (zv [4] 1 [4] [] [(4, .one (.pt 0 0 0 0))] [.box (qa1643 r2)] (zd (hK2 _ _ ?_)))))))
 refine ze ?_
 obtain rfl := Option.some.inj h
 exact zf [.ag (qa1643 r2)] (.ag (.cons (.rfl _ rfl) (.cons (.rfl _ rfl) (.cons (.rfl _ rfl) (.cons (.rfl _ rfl) (.cons (.rfl _ rfl) .nil))))))

def value_compareSize (p1 : GWide) (p2 : GWide) : Option Int :=
    ift (decide (p1.size.2.2.2 < p2.size.2.2.2))
      (some (-1 : Int))
      (ift (decide (p2.size.2.2.2 < p1.size.2.2.2))
         (some (1 : Int))
         (ift (decide (p1.size.2.2.1 < p2.size.2.2.1))
            (some (-1 : Int))
            (ift (decide (p2.size.2.2.1 < p1.size.2.2.1))
               (some (1 : Int))
               (ift (decide (p1.size.2.1 < p2.size.2.1))
                  (some (-1 : Int))
                  (ift (decide (p2.size.2.1 < p1.size.2.1))
                     (some (1 : Int))
                     (ift (decide (p1.size.1 < p2.size.1))
                        (some (-1 : Int))
                        (ift (decide (p2.size.1 < p1.size.1))
                           (some (1 : Int))
                           (some (0 : Int)))))))))

abbrev qa1648 (p1 : GWide) : List PV := [.s (.bool p1.neg), .s (.int .u64 p1.size.1), .s (.int .u64 p1.size.2.1), .s (.int .u64 p1.size.2.2.1), .s (.int .u64 p1.size.2.2.2)]
abbrev qa1649 (p2 : GWide) : List PV := [.s (.bool p2.neg), .s (.int .u64 p2.size.1), .s (.int .u64 p2.size.2.1), .s (.int .u64 p2.size.2.2.1), .s (.int .u64 p2.size.2.2.2)]
abbrev qa1653 (p1 : GWide) (p2 : GWide) : Fr := [(28, vk .u64 p2.size.2.2.2), (27, .one (.pv (.rp [(qa1649 p2)] 0 4))), (26, .one (.pv (.rp [(qa1649 p2)] 0 1))), (25, vi (3 : Int)), (24, vk .u64 p1.size.2.2.2), (23, .one (.pv (.rp [(qa1648 p1)] 0 4))), (22, .one (.pv (.rp [(qa1648 p1)] 0 1))), (21, vi (3 : Int)), (2, .one (.pv (.rp [(qa1648 p1)] 0 0))), (3, .one (.pv (.rp [(qa1649 p2)] 0 0))), (5, vi (3 : Int)), (10, vb (decide (p1.size.2.2.2 < p2.size.2.2.2)))]

theorem c_value_compareSize (p1 : GWide) (p2 : GWide) (r : Int) (h : value_compareSize p1 p2 = some r) : PC Tryd.prog 95 [.ag [cb p1.neg, ck .u64 p1.size.1, ck .u64 p1.size.2.1, ck .u64 p1.size.2.2.1, ck .u64 p1.size.2.2.2], .ag [cb p2.neg, ck .u64 p2.size.1, ck .u64 p2.size.2.1, ck .u64 p2.size.2.2.1, ck .u64 p2.size.2.2.2]] (vi r) := by
 unfold value_compareSize at h
 refine zF 30 Tryd.f95 (zq fun K1 hK1 => zr (zg [] 3 [2,3] (zd (hK1 _ _ (zq fun K2 hK2 => zq fun K3 hK3 => ?_)))))
 refine zr (zg [] 1 [2,3,5] (zd (hK3 _ _ (zb 0 (XW.rounds' 5 (x := cd Tryd.f95 [1,0,1,0,0]) (by kernel_rfl) fun Q1 hQ1 => XR.one (zq fun K4 hK4 => ?_))))))
 refine zq fun K5 hK5 => zr (zv [] 2 [2,3,5,7] [] [(2, .one (.pv (.rp [(qa1648 p1)] 0 0))), (3, .one (.pv (.rp [(qa1649 p2)] 0 0))), (5, vi (3 : Int)), (7, vb true)] [] (zd (hK5 _ _ (zc true (fun _ => ?_) (fun hx => by cases hx)))))
 refine zs (hK4 _ _ (zq fun K6 hK6 => zb 1 (zb 2 (zq fun K7 hK7 => ?_))))
 refine zw 8 [(18, vk .u64 p2.size.2.2.2), (17, .one (.pv (.rp [(qa1649 p2)] 0 4))), (16, .one (.pv (.rp [(qa1649 p2)] 0 1))), (15, vi (3 : Int)), (14, vk .u64 p1.size.2.2.2), (13, .one (.pv (.rp [(qa1648 p1)] 0 4))), (12, .one (.pv (.rp [(qa1648 p1)] 0 1))), (11, vi (3 : Int)), (2, .one (.pv (.rp [(qa1648 p1)] 0 0))), (3, .one (.pv (.rp [(qa1649 p2)] 0 0))), (5, vi (3 : Int)), (7, vb true)] ?_ ?_
 ·refine zyo 8 [(qa1648 p1), (qa1649 p2)] [0 ≤ (3 : Int) ∧ (3 : Int) < 4, ([(qa1648 p1)] : List (List PV))[0]? = some (qa1648 p1), 0 ≤ (3 : Int) ∧ (3 : Int) < 4, ([(qa1649 p2)] : List (List PV))[0]? = some (qa1649 p2)] (⟨by decide, rfl, by decide, rfl, trivial⟩) ?_
  exact zyd
 refine zg [] 2 [2,3,5,10] (zd (hK7 _ _ (zC h (fun b8 h => ?_) (fun b8 h => ?_))))
 ·refine zq fun K9 hK9 => zr (zg [] 1 [4] (zd (hK9 _ _ (ze (hQ1 _ _ _ ?_)))))
  obtain rfl := Option.some.inj h
  exact zf [vi (-1 : Int)] (.one (.rfl _ rfl))
 ·refine zq fun K10 hK10 => ?_
  refine zw 8 (qa1653 p1 p2) ?_ ?_
  ·refine zyp 8 [(qa1648 p1), (qa1649 p2)] (qa1653 p1 p2) [0 ≤ (3 : Int) ∧ (3 : Int) < 4, ([(qa1648 p1)] : List (List PV))[0]? = some (qa1648 p1), 0 ≤ (3 : Int) ∧ (3 : Int) < 4, ([(qa1649 p2)] : List (List PV))[0]? = some (qa1649 p2)] (⟨by decide, rfl, by decide, rfl, trivial⟩) ?_
   exact zyd
  refine zv [] 2 [2,3,5,20] [] [(2, .one (.pv (.rp [(qa1648 p1)] 0 0))), (3, .one (.pv (.rp [(qa1649 p2)] 0 0))), (5, vi (3 : Int)), (20, vb (decide (p2.size.2.2.2 < p1.size.2.2.2)))] [] (zd (hK10 _ _ (zC h (fun b11 h => ?_) (fun b11 h => ?_))))
  ·refine zq fun K12 hK12 => zr (zg [] 1 [4] (zd (hK12 _ _ (ze (hQ1 _ _ _ ?_)))))
   obtain rfl := Option.some.inj h
   exact zf [vi (1 : Int)] (.one (.rfl _ rfl))
  ·refine zs (hK6 _ _ (zr (zv [] 3 [2,3,5] [] [(2, .one (.pv (.rp [(qa1648 p1)] 0 0))), (3, .one (.pv (.rp [(qa1649 p2)] 0 0))), (5, vi (2 : Int))] [] (zd (XR.one (zq fun K13 hK13 => zq fun K14 hK14 => ?_))))))
   refine zr (zg [] 2 [2,3,5,7] (zd (hK14 _ _ (zc true (fun _ => ?_) (fun hx => by cases hx)))))
   refine zs (hK13 _ _ (zq fun K15 hK15 => zb 1 (zb 2 (zq fun K16 hK16 => ?_))))
   refine zw 8 [(18, vk .u64 p2.size.2.2.1), (17, .one (.pv (.rp [(qa1649 p2)] 0 3))), (16, .one (.pv (.rp [(qa1649 p2)] 0 1))), (15, vi (2 : Int)), (14, vk .u64 p1.size.2.2.1), (13, .one (.pv (.rp [(qa1648 p1)] 0 3))), (12, .one (.pv (.rp [(qa1648 p1)] 0 1))), (11, vi (2 : Int)), (2, .one (.pv (.rp [(qa1648 p1)] 0 0))), (3, .one (.pv (.rp [(qa1649 p2)] 0 0))), (5, vi (2 : Int)), (7, vb true)] ?_ ?_
   ·refine zyo 8 [(qa1648 p1), (qa1649 p2)] [0 ≤ (2 : Int) ∧ (2 : Int) < 4, ([(qa1648 p1)] : List (List PV))[0]? = some (qa1648 p1), 0 ≤ (2 : Int) ∧ (2 : Int) < 4, ([(qa1649 p2)] : List (List PV))[0]? = some (qa1649 p2)] (⟨by decide, rfl, by decide, rfl, trivial⟩) ?_
    exact zyd
   refine zg [] 2 [2,3,5,10] (zd (hK16 _ _ (zC h (fun b17 h => ?_) (fun b17 h => ?_))))
   ·refine zq fun K18 hK18 => zr (zv [] 1 [4] [] [(4, vi (-1 : Int))] [] (zd (hK18 _ _ (ze (hQ1 _ _ _ ?_)))))
    obtain rfl := Option.some.inj h
    exact zf [vi (-1 : Int)] (.one (.rfl _ rfl))
   ·refine zq fun K19 hK19 => ?_
    refine zw 8 [(28, vk .u64 p2.size.2.2.1), (27, .one (.pv (.rp [(qa1649 p2)] 0 3))), (26, .one (.pv (.rp [(qa1649 p2)] 0 1))), (25, vi (2 : Int)), (24, vk .u64 p1.size.2.2.1), (23, .one (.pv (.rp [(qa1648 p1)] 0 3))), (22, .one (.pv (.rp [(qa1648 p1)] 0 1))), (21, vi (2 : Int)), (2, .one (.pv (.rp [(qa1648 p1)] 0 0))), (3, .one (.pv (.rp [(qa1649 p2)] 0 0))), (5, vi (2 : Int)), (10, vb (decide (p1.size.2.2.1 < p2.size.2.2.1)))] ?_ ?_
    ·refine zyo 8 [(qa1648 p1), (qa1649 p2)] [0 ≤ (2 : Int) ∧ (2 : Int) < 4, ([(qa1648 p1)] : List (List PV))[0]? = some (qa1648 p1), 0 ≤ (2 : Int) ∧ (2 : Int) < 4, ([(qa1649 p2)] : List (List PV))[0]? = some (qa1649 p2)] (⟨by decide, rfl, by decide, rfl, trivial⟩) ?_
     exact zyd
    refine zg [] 2 [2,3,5,20] (zd (hK19 _ _ (zC h (fun b20 h => ?_) (fun b20 h => ?_))))
    ·refine zq fun K21 hK21 => zr (zg [] 1 [4] (zd (hK21 _ _ (ze (hQ1 _ _ _ ?_)))))
     obtain rfl := Option.some.inj h
     exact zf [vi (1 : Int)] (.one (.rfl _ rfl))
    ·refine zs (hK15 _ _ (zr (zv [] 3 [2,3,5] [] [(2, .one (.pv (.rp [(qa1648 p1)] 0 0))), (3, .one (.pv (.rp [(qa1649 p2)] 0 0))), (5, vi (1 : Int))] [] (zd (XR.one (zq fun K22 hK22 => zq fun K23 hK23 => ?_))))))
     refine zr (zg [] 2 [2,3,5,7] (zd (hK23 _ _ (zc true (fun _ => ?_) (fun hx => by cases hx)))))
     refine zs (hK22 _ _ (zq fun K24 hK24 => zb 1 (zb 2 (zq fun K25 hK25 => ?_))))
     refine zw 8 [(18, vk .u64 p2.size.2.1), (17, .one (.pv (.rp [(qa1649 p2)] 0 2))), (16, .one (.pv (.rp [(qa1649 p2)] 0 1))), (15, vi (1 : Int)), (14, vk .u64 p1.size.2.1), (13, .one (.pv (.rp [(qa1648 p1)] 0 2))), (12, .one (.pv (.rp [(qa1648 p1)] 0 1))), (11, vi (1 : Int)), (2, .one (.pv (.rp [(qa1648 p1)] 0 0))), (3, .one (.pv (.rp [(qa1649 p2)] 0 0))), (5, vi (1 : Int)), (7, vb true)] ?_ ?_
     ·refine zyo 8 [(qa1648 p1), (qa1649 p2)] [0 ≤ (1 : Int) ∧ (1 : Int) < 4, ([(qa1648 p1)] : List (List PV))[0]? = some (qa1648 p1), 0 ≤ (1 : Int) ∧ (1 : Int) < 4, ([(qa1649 p2)] : List (List PV))[0]? = some (qa1649 p2)] (⟨by decide, rfl, by decide, rfl, trivial⟩) ?_
      exact zyd
     refine zg [] 2 [2,3,5,10] (zd (hK25 _ _ (zC h (fun b26 h => ?_) (fun b26 h => ?_))))
     ·refine zq fun K27 hK27 => zr (zv [] 1 [4] [] [(4, vi (-1 : Int))] [] (zd (hK27 _ _ (ze (hQ1 _ _ _ ?_)))))
      obtain rfl := Option.some.inj h
      exact zf [vi (-1 : Int)] (.one (.rfl _ rfl))
     ·refine zq fun K28 hK28 => ?_
      refine zw 8 [(28, vk .u64 p2.size.2.1), (27, .one (.pv (.rp [(qa1649 p2)] 0 2))), (26, .one (.pv (.rp [(qa1649 p2)] 0 1))), (25, vi (1 : Int)), (24, vk .u64 p1.size.2.1), (23, .one (.pv (.rp [(qa1648 p1)] 0 2))), (22, .one (.pv (.rp [(qa1648 p1)] 0 1))), (21, vi (1 : Int)), (2, .one (.pv (.rp [(qa1648 p1)] 0 0))), (3, .one (.pv (.rp [(qa1649 p2)] 0 0))), (5, vi (1 : Int)), (10, vb (decide (p1.size.2.1 < p2.size.2.1)))] ?_ ?_
      ·refine zyo 8 [(qa1648 p1), (qa1649 p2)] [0 ≤ (1 : Int) ∧ (1 : Int) < 4, ([(qa1648 p1)] : List (List PV))[0]? = some (qa1648 p1), 0 ≤ (1 : Int) ∧ (1 : Int) < 4, ([(qa1649 p2)] : List (List PV))[0]? = some (qa1649 p2)] (⟨by decide, rfl, by decide, rfl, trivial⟩) ?_
       exact zyd
      refine zg [] 2 [2,3,5,20] (zd (hK28 _ _ (zC h (fun b29 h => ?_) (fun b29 h => ?_))))
      ·refine zq fun K30 hK30 => zr (zg [] 1 [4] (zd (hK30 _ _ (ze (hQ1 _ _ _ ?_)))))
       obtain rfl := Option.some.inj h
       exact zf [vi (1 : Int)] (.one (.rfl _ rfl))
      ·refine zs (hK24 _ _ (zr (zv [] 3 [2,3,5] [] [(2, .one (.pv (.rp [(qa1648 p1)] 0 0))), (3, .one (.pv (.rp [(qa1649 p2)] 0 0))), (5, vi (0 : Int))] [] (zd (XR.one (zq fun K31 hK31 => zq fun K32 hK32 => ?_))))))
       refine zr (zg [] 2 [2,3,5,7] (zd (hK32 _ _ (zc true (fun _ => ?_) (fun hx => by cases hx)))))
       refine zs (hK31 _ _ (zq fun K33 hK33 => zb 1 (zb 2 (zq fun K34 hK34 => ?_))))
       refine zw 8 [(18, vk .u64 p2.size.1), (17, .one (.pv (.rp [(qa1649 p2)] 0 1))), (16, .one (.pv (.rp [(qa1649 p2)] 0 1))), (15, vi (0 : Int)), (14, vk .u64 p1.size.1), (13, .one (.pv (.rp [(qa1648 p1)] 0 1))), (12, .one (.pv (.rp [(qa1648 p1)] 0 1))), (11, vi (0 : Int)), (2, .one (.pv (.rp [(qa1648 p1)] 0 0))), (3, .one (.pv (.rp [(qa1649 p2)] 0 0))), (5, vi (0 : Int)), (7, vb true)] ?_ ?_
       ·refine zyo 8 [(qa1648 p1), (qa1649 p2)] [0 ≤ (0 : Int) ∧ (0 : Int) < 4, ([(qa1648 p1)] : List (List PV))[0]? = some (qa1648 p1), 0 ≤ (0 : Int) ∧ (0 : Int) < 4, ([(qa1649 p2)] : List (List PV))[0]? = some (qa1649 p2)] (⟨by decide, rfl, by decide, rfl, trivial⟩) ?_
        exact zyd
       refine zg [] 2 [2,3,5,10] (zd (hK34 _ _ (zC h (fun b35 h => ?_) (fun b35 h => ?_))))
       ·refine zq fun K36 hK36 => zr (zv [] 1 [4] [] [(4, vi (-1 : Int))] [] (zd (hK36 _ _ (ze (hQ1 _ _ _ ?_)))))
        obtain rfl := Option.some.inj h
        exact zf [vi (-1 : Int)] (.one (.rfl _ rfl))
       ·refine zq fun K37 hK37 => ?_
        refine zw 8 [(28, vk .u64 p2.size.1), (27, .one (.pv (.rp [(qa1649 p2)] 0 1))), (26, .one (.pv (.rp [(qa1649 p2)] 0 1))), (25, vi (0 : Int)), (24, vk .u64 p1.size.1), (23, .one (.pv (.rp [(qa1648 p1)] 0 1))), (22, .one (.pv (.rp [(qa1648 p1)] 0 1))), (21, vi (0 : Int)), (2, .one (.pv (.rp [(qa1648 p1)] 0 0))), (3, .one (.pv (.rp [(qa1649 p2)] 0 0))), (5, vi (0 : Int)), (10, vb (decide (p1.size.1 < p2.size.1)))] ?_ ?_
        ·refine zyo 8 [(qa1648 p1), (qa1649 p2)] [0 ≤ (0 : Int) ∧ (0 : Int) < 4, ([(qa1648 p1)] : List (List PV))[0]? = some (qa1648 p1), 0 ≤ (0 : Int) ∧ (0 : Int) < 4, ([(qa1649 p2)] : List (List PV))[0]? = some (qa1649 p2)] (⟨by decide, rfl, by decide, rfl, trivial⟩) ?_
         exact zyd
        refine zg [] 2 [2,3,5,20] (zd (hK37 _ _ (zC h (fun b38 h => ?_) (fun b38 h => ?_))))
        ·refine zq fun K39 hK39 => zr (zg [] 1 [4] (zd (hK39 _ _ (ze (hQ1 _ _ _ ?_)))))
         obtain rfl := Option.some.inj h
         exact zf [vi (1 : Int)] (.one (.rfl _ rfl))
        ·refine zs (hK33 _ _ (zr (zv [] 3 [2,3,5] [] [(2, .one (.pv (.rp [(qa1648 p1)] 0 0))), (3, .one (.pv (.rp [(qa1649 p2)] 0 0))), (5, vi (-1 : Int))] [] (zd (XR.one (zq fun K40 hK40 => zq fun K41 hK41 => ?_))))))
         refine zr (zg [] 2 [2,3,5,7] (zd (hK41 _ _ (zc false (fun hx => by cases hx) (fun _ => ?_)))))
         refine zx 0 (hQ1 _ _ _ (hK2 _ _ (zq fun K42 hK42 => zr (zg [] 1 [4] (zd (hK42 _ _ ?_))))))
         refine ze ?_
         obtain rfl := Option.some.inj h
         exact zf [vi (0 : Int)] (.one (.rfl _ rfl))

def value_wide_negated (p1 : GWide) : Option GWide :=
    some (GWide.mk (!p1.neg) (p1.size.1, p1.size.2.1, p1.size.2.2.1, p1.size.2.2.2))

abbrev qa1668 (p1 : GWide) : List CV := [cb (!p1.neg), ck .u64 p1.size.1, ck .u64 p1.size.2.1, ck .u64 p1.size.2.2.1, ck .u64 p1.size.2.2.2]

theorem c_value_wide_negated (p1 : GWide) (r : GWide) (h : value_wide_negated p1 = some r) : PC Tryd.prog 122 [.ag [cb p1.neg, ck .u64 p1.size.1, ck .u64 p1.size.2.1, ck .u64 p1.size.2.2.1, ck .u64 p1.size.2.2.2]] (.ag [cb r.neg, ck .u64 r.size.1, ck .u64 r.size.2.1, ck .u64 r.size.2.2.1, ck .u64 r.size.2.2.2]) := by
 unfold value_wide_negated at h
 refine zF 8 Tryd.f122 (zq fun K1 hK1 => zr (zg [1, 2] 2 [1,2] (zd (hK1 _ _ (zq fun K2 hK2 => zr ?_)))))
 refine zg [1, 2] 5 [1,2] (zd (hK2 _ _ (zq fun K3 hK3 => zr (zv [1, 2] 2 [2] [] [(2, .one (.pt 1 0 0 0))] [.box (qa1668 p1), .box (qa1668 p1)] (zd (hK3 _ _ ?_))))))
 refine ze ?_
 obtain rfl := Option.some.inj h
 exact zf [.ag (qa1668 p1)] (.ag (.cons (.rfl _ rfl) (.cons (.rfl _ rfl) (.cons (.rfl _ rfl) (.cons (.rfl _ rfl) (.cons (.rfl _ rfl) .nil))))))

def value_wide_minus_j1 (z1 : Bool) (z2 : Int) (z3 : Int) (z4 : Int) (z5 : Int) (z6 : Bool) (z7 : Int) (z8 : Int) (z9 : Int) (z10 : Int) : Option GWide :=
    grd (0 ≤ z2 ∧ 0 ≤ z7 ∧ z7 < 18446744073709551616 ∧ 0 ≤ (0 : Int) ∧ (0 : Int) ≤ 1) <|
    grd (0 ≤ z3 ∧ 0 ≤ z8 ∧ z8 < 18446744073709551616 ∧ 0 ≤ (if z2 < z7 + (0 : Int) then (1 : Int) else (0 : Int)) ∧ (if z2 < z7 + (0 : Int) then (1 : Int) else (0 : Int)) ≤ 1) <|
    bnd (some ((z3 - z8 - (if z2 < z7 + (0 : Int) then (1 : Int) else (0 : Int))) % 18446744073709551616)) fun y1 =>
    bnd (some (if z3 < z8 + (if z2 < z7 + (0 : Int) then (1 : Int) else (0 : Int)) then (1 : Int) else (0 : Int))) fun y2 =>
    grd (0 ≤ z4 ∧ 0 ≤ z9 ∧ z9 < 18446744073709551616 ∧ 0 ≤ y2 ∧ y2 ≤ 1) <|
    grd (0 ≤ z5 ∧ 0 ≤ z10 ∧ z10 < 18446744073709551616 ∧ 0 ≤ (if z4 < z9 + y2 then (1 : Int) else (0 : Int)) ∧ (if z4 < z9 + y2 then (1 : Int) else (0 : Int)) ≤ 1) <|
    bnd (some ((z5 - z10 - (if z4 < z9 + y2 then (1 : Int) else (0 : Int))) % 18446744073709551616)) fun y3 =>
    bnd (some (if z5 < z10 + (if z4 < z9 + y2 then (1 : Int) else (0 : Int)) then (1 : Int) else (0 : Int))) fun y4 =>
    some (GWide.mk z1 (((z2 - z7 - (0 : Int)) % 18446744073709551616), y1, ((z4 - z9 - y2) % 18446744073709551616), y3))

mutual

def value_wide_minus : Nat → GWide → GWide → Option GWide
  | 0, _, _ => none
  | k0 + 1, p1, p2 =>
    ift (!(p1.neg == p2.neg))
      (bnd (value_wide_negated (GWide.mk p2.neg (p2.size.1, p2.size.2.1, p2.size.2.2.1, p2.size.2.2.2))) fun r1 =>
       bnd ((value_wide_plus k0) (GWide.mk p1.neg (p1.size.1, p1.size.2.1, p1.size.2.2.1, p1.size.2.2.2)) (GWide.mk r1.neg (r1.size.1, r1.size.2.1, r1.size.2.2.1, r1.size.2.2.2))) fun r2 =>
       some (GWide.mk r2.neg (r2.size.1, r2.size.2.1, r2.size.2.2.1, r2.size.2.2.2)))
      (bnd (value_compareSize (GWide.mk p1.neg (p1.size.1, p1.size.2.1, p1.size.2.2.1, p1.size.2.2.2)) (GWide.mk p2.neg (p2.size.1, p2.size.2.1, p2.size.2.2.1, p2.size.2.2.2))) fun r3 =>
       ift (decide (r3 < (0 : Int)))
         (bnd (value_wide_negated (GWide.mk p2.neg (p2.size.1, p2.size.2.1, p2.size.2.2.1, p2.size.2.2.2))) fun r4 =>
          value_wide_minus_j1 r4.neg r4.size.1 r4.size.2.1 r4.size.2.2.1 r4.size.2.2.2 p1.neg p1.size.1 p1.size.2.1 p1.size.2.2.1 p1.size.2.2.2)
         (value_wide_minus_j1 p1.neg p1.size.1 p1.size.2.1 p1.size.2.2.1 p1.size.2.2.2 p2.neg p2.size.1 p2.size.2.1 p2.size.2.2.1 p2.size.2.2.2))

def value_wide_plus : Nat → GWide → GWide → Option GWide
  | 0, _, _ => none
  | k0 + 1, p1, p2 =>
    ift (!(p1.neg == p2.neg))
      (bnd (value_wide_negated (GWide.mk p2.neg (p2.size.1, p2.size.2.1, p2.size.2.2.1, p2.size.2.2.2))) fun r1 =>
       bnd ((value_wide_minus k0) (GWide.mk p1.neg (p1.size.1, p1.size.2.1, p1.size.2.2.1, p1.size.2.2.2)) (GWide.mk r1.neg (r1.size.1, r1.size.2.1, r1.size.2.2.1, r1.size.2.2.2))) fun r2 =>
       some (GWide.mk r2.neg (r2.size.1, r2.size.2.1, r2.size.2.2.1, r2.size.2.2.2)))
      (grd (0 ≤ p1.size.1 ∧ 0 ≤ p2.size.1 ∧ 0 ≤ (0 : Int) ∧ (0 : Int) ≤ 1) <|
       grd (0 ≤ p1.size.2.1 ∧ 0 ≤ p2.size.2.1 ∧ 0 ≤ ((p1.size.1 + p2.size.1 + (0 : Int)) / 18446744073709551616) ∧ ((p1.size.1 + p2.size.1 + (0 : Int)) / 18446744073709551616) ≤ 1) <|
       bnd (some ((p1.size.2.1 + p2.size.2.1 + ((p1.size.1 + p2.size.1 + (0 : Int)) / 18446744073709551616)) % 18446744073709551616)) fun y1 =>
       bnd (some ((p1.size.2.1 + p2.size.2.1 + ((p1.size.1 + p2.size.1 + (0 : Int)) / 18446744073709551616)) / 18446744073709551616)) fun y2 =>
       grd (0 ≤ p1.size.2.2.1 ∧ 0 ≤ p2.size.2.2.1 ∧ 0 ≤ y2 ∧ y2 ≤ 1) <|
       grd (0 ≤ p1.size.2.2.2 ∧ 0 ≤ p2.size.2.2.2 ∧ 0 ≤ ((p1.size.2.2.1 + p2.size.2.2.1 + y2) / 18446744073709551616) ∧ ((p1.size.2.2.1 + p2.size.2.2.1 + y2) / 18446744073709551616) ≤ 1) <|
       bnd (some ((p1.size.2.2.2 + p2.size.2.2.2 + ((p1.size.2.2.1 + p2.size.2.2.1 + y2) / 18446744073709551616)) % 18446744073709551616)) fun y3 =>
       bnd (some ((p1.size.2.2.2 + p2.size.2.2.2 + ((p1.size.2.2.1 + p2.size.2.2.1 + y2) / 18446744073709551616)) / 18446744073709551616)) fun y4 =>
       some (GWide.mk p1.neg (((p1.size.1 + p2.size.1 + (0 : Int)) % 18446744073709551616), y1, ((p1.size.2.2.1 + p2.size.2.2.1 + y2) % 18446744073709551616), y3)))

end

abbrev qa1670 (p1 : GWide) : List CV := [cb p1.neg, ck .u64 p1.size.1, ck .u64 p1.size.2.1, ck .u64 p1.size.2.2.1, ck .u64 p1.size.2.2.2]
abbrev qa1671 (p2 : GWide) : List CV := [cb p2.neg, ck .u64 p2.size.1, ck .u64 p2.size.2.1, ck .u64 p2.size.2.2.1, ck .u64 p2.size.2.2.2]
abbrev qa1673 (r1 : GWide) : List CV := [cb r1.neg, ck .u64 r1.size.1, ck .u64 r1.size.2.1, ck .u64 r1.size.2.2.1, ck .u64 r1.size.2.2.2]
abbrev qa1674 (r2 : GWide) : List CV := [cb r2.neg, ck .u64 r2.size.1, ck .u64 r2.size.2.1, ck .u64 r2.size.2.2.1, ck .u64 r2.size.2.2.2]
abbrev qa1677 (z6 : Bool) (z7 : Int) (z8 : Int) (z9 : Int) (z10 : Int) : List CV := [cb z6, ck .u64 z7, ck .u64 z8, ck .u64 z9, ck .u64 z10]
abbrev qa1678 : List CV := [cb false, ck .u64 (0 : Int), ck .u64 (0 : Int), ck .u64 (0 : Int), ck .u64 (0 : Int)]
abbrev qa1681 (z2 : Int) (z7 : Int) : Fr := [(41, .one (.pt 0 0 0 1)), (40, .one (.pt 0 0 0 1)), (39, vk .u64 (if z2 < z7 + (0 : Int) then (1 : Int) else (0 : Int))), (38, vk .u64 ((z2 - z7 - (0 : Int)) % 18446744073709551616)), (26, .tp [vk .u64 ((z2 - z7 - (0 : Int)) % 18446744073709551616), vk .u64 (if z2 < z7 + (0 : Int) then (1 : Int) else (0 : Int))]), (37, .tp [vk .u64 ((z2 - z7 - (0 : Int)) % 18446744073709551616), vk .u64 (if z2 < z7 + (0 : Int) then (1 : Int) else (0 : Int))]), (36, vk .u64 (0 : Int)), (35, vk .u64 z7), (34, .one (.pt 1 0 0 1)), (33, .one (.pt 1 0 0 1)), (32, vi (0 : Int)), (31, vk .u64 z2), (30, .one (.pt 0 0 0 1)), (29, .one (.pt 0 0 0 1)), (28, vi (0 : Int)), (27, vi (0 : Int)), (2, .one (.pt 0 0 0 0)), (3, .one (.pt 1 0 0 0)), (4, .one (.pt 2 0 0 0)), (5, vk .u64 (0 : Int)), (6, vi (0 : Int)), (23, vi (0 : Int))]
abbrev qa1682 (z1 : Bool) (z2 : Int) (z3 : Int) (z4 : Int) (z5 : Int) (z7 : Int) : List CV := [cb z1, ck .u64 ((z2 - z7 - (0 : Int)) % 18446744073709551616), ck .u64 z3, ck .u64 z4, ck .u64 z5]
abbrev qa1687 (z2 : Int) (z3 : Int) (z7 : Int) (z8 : Int) (y1 : Int) (y2 : Int) : Fr := [(41, .one (.pt 0 0 0 2)), (40, .one (.pt 0 0 0 1)), (39, vk .u64 y2), (38, vk .u64 y1), (26, .tp [vk .u64 y1, vk .u64 y2]), (37, .tp [vk .u64 y1, vk .u64 y2]), (36, vk .u64 (if z2 < z7 + (0 : Int) then (1 : Int) else (0 : Int))), (35, vk .u64 z8), (34, .one (.pt 1 0 0 2)), (33, .one (.pt 1 0 0 1)), (32, vi (1 : Int)), (31, vk .u64 z3), (30, .one (.pt 0 0 0 2)), (29, .one (.pt 0 0 0 1)), (28, vi (1 : Int)), (27, vi (1 : Int)), (2, .one (.pt 0 0 0 0)), (3, .one (.pt 1 0 0 0)), (4, .one (.pt 2 0 0 0)), (5, vk .u64 (if z2 < z7 + (0 : Int) then (1 : Int) else (0 : Int))), (6, vi (1 : Int)), (23, vi (1 : Int))]
abbrev qa1688 (z1 : Bool) (z2 : Int) (z4 : Int) (z5 : Int) (z7 : Int) (y1 : Int) : List CV := [cb z1, ck .u64 ((z2 - z7 - (0 : Int)) % 18446744073709551616), ck .u64 y1, ck .u64 z4, ck .u64 z5]
abbrev qa1693 (z4 : Int) (z9 : Int) (y2 : Int) : Fr := [(41, .one (.pt 0 0 0 3)), (40, .one (.pt 0 0 0 1)), (39, vk .u64 (if z4 < z9 + y2 then (1 : Int) else (0 : Int))), (38, vk .u64 ((z4 - z9 - y2) % 18446744073709551616)), (26, .tp [vk .u64 ((z4 - z9 - y2) % 18446744073709551616), vk .u64 (if z4 < z9 + y2 then (1 : Int) else (0 : Int))]), (37, .tp [vk .u64 ((z4 - z9 - y2) % 18446744073709551616), vk .u64 (if z4 < z9 + y2 then (1 : Int) else (0 : Int))]), (36, vk .u64 y2), (35, vk .u64 z9), (34, .one (.pt 1 0 0 3)), (33, .one (.pt 1 0 0 1)), (32, vi (2 : Int)), (31, vk .u64 z4), (30, .one (.pt 0 0 0 3)), (29, .one (.pt 0 0 0 1)), (28, vi (2 : Int)), (27, vi (2 : Int)), (2, .one (.pt 0 0 0 0)), (3, .one (.pt 1 0 0 0)), (4, .one (.pt 2 0 0 0)), (5, vk .u64 y2), (6, vi (2 : Int)), (23, vi (2 : Int))]
abbrev qa1694 (z1 : Bool) (z2 : Int) (z4 : Int) (z5 : Int) (z7 : Int) (z9 : Int) (y1 : Int) (y2 : Int) : List CV := [cb z1, ck .u64 ((z2 - z7 - (0 : Int)) % 18446744073709551616), ck .u64 y1, ck .u64 ((z4 - z9 - y2) % 18446744073709551616), ck .u64 z5]
abbrev qa1699 (z4 : Int) (z5 : Int) (z9 : Int) (z10 : Int) (y2 : Int) (y3 : Int) (y4 : Int) : Fr := [(41, .one (.pt 0 0 0 4)), (40, .one (.pt 0 0 0 1)), (39, vk .u64 y4), (38, vk .u64 y3), (26, .tp [vk .u64 y3, vk .u64 y4]), (37, .tp [vk .u64 y3, vk .u64 y4]), (36, vk .u64 (if z4 < z9 + y2 then (1 : Int) else (0 : Int))), (35, vk .u64 z10), (34, .one (.pt 1 0 0 4)), (33, .one (.pt 1 0 0 1)), (32, vi (3 : Int)), (31, vk .u64 z5), (30, .one (.pt 0 0 0 4)), (29, .one (.pt 0 0 0 1)), (28, vi (3 : Int)), (27, vi (3 : Int)), (2, .one (.pt 0 0 0 0)), (3, .one (.pt 1 0 0 0)), (4, .one (.pt 2 0 0 0)), (5, vk .u64 (if z4 < z9 + y2 then (1 : Int) else (0 : Int))), (6, vi (3 : Int)), (23, vi (3 : Int))]
abbrev qa1700 (z1 : Bool) (z2 : Int) (z4 : Int) (z7 : Int) (z9 : Int) (y1 : Int) (y2 : Int) (y3 : Int) : List CV := [cb z1, ck .u64 ((z2 - z7 - (0 : Int)) % 18446744073709551616), ck .u64 y1, ck .u64 ((z4 - z9 - y2) % 18446744073709551616), ck .u64 y3]
abbrev qa1704 (r4 : GWide) : List CV := [cb r4.neg, ck .u64 r4.size.1, ck .u64 r4.size.2.1, ck .u64 r4.size.2.2.1, ck .u64 r4.size.2.2.2]
abbrev qa1716 (p1 : GWide) : List CV := [cb p1.neg, ck .u64 p1.size.1, ck .u64 p1.size.2.1, ck .u64 p1.size.2.2.1, ck .u64 p1.size.2.2.2]
abbrev qa1717 (p2 : GWide) : List CV := [cb p2.neg, ck .u64 p2.size.1, ck .u64 p2.size.2.1, ck .u64 p2.size.2.2.1, ck .u64 p2.size.2.2.2]
abbrev qa1719 (p2 : GWide) : List PV := [.s (.bool p2.neg), .s (.int .u64 p2.size.1), .s (.int .u64 p2.size.2.1), .s (.int .u64 p2.size.2.2.1), .s (.int .u64 p2.size.2.2.2)]
abbrev qa1720 (r1 : GWide) : List CV := [cb r1.neg, ck .u64 r1.size.1, ck .u64 r1.size.2.1, ck .u64 r1.size.2.2.1, ck .u64 r1.size.2.2.2]
abbrev qa1721 (r2 : GWide) : List CV := [cb r2.neg, ck .u64 r2.size.1, ck .u64 r2.size.2.1, ck .u64 r2.size.2.2.1, ck .u64 r2.size.2.2.2]
abbrev qa1722 : List CV := [cb false, ck .u64 (0 : Int), ck .u64 (0 : Int), ck .u64 (0 : Int), ck .u64 (0 : Int)]
abbrev qa1723 (p1 : GWide) (p2 : GWide) : List CV := [cb p1.neg, ck .u64 ((p1.size.1 + p2.size.1 + (0 : Int)) % 18446744073709551616), ck .u64 p1.size.2.1, ck .u64 p1.size.2.2.1, ck .u64 p1.size.2.2.2]
abbrev qa1724 (p1 : GWide) (p2 : GWide) (y1 : Int) : List CV := [cb p1.neg, ck .u64 ((p1.size.1 + p2.size.1 + (0 : Int)) % 18446744073709551616), ck .u64 y1, ck .u64 p1.size.2.2.1, ck .u64 p1.size.2.2.2]
abbrev qa1725 (p1 : GWide) (p2 : GWide) (y1 : Int) (y2 : Int) : List CV := [cb p1.neg, ck .u64 ((p1.size.1 + p2.size.1 + (0 : Int)) % 18446744073709551616), ck .u64 y1, ck .u64 ((p1.size.2.2.1 + p2.size.2.2.1 + y2) % 18446744073709551616), ck .u64 p1.size.2.2.2]
abbrev qa1726 (p1 : GWide) (p2 : GWide) (y1 : Int) (y2 : Int) (y3 : Int) : List CV := [cb p1.neg, ck .u64 ((p1.size.1 + p2.size.1 + (0 : Int)) % 18446744073709551616), ck .u64 y1, ck .u64 ((p1.size.2.2.1 + p2.size.2.2.1 + y2) % 18446744073709551616), ck .u64 y3]
abbrev qa1733 (p1 : GWide) (p2 : GWide) : Fr := [(34, .one (.pt 0 0 0 1)), (33, .one (.pt 0 0 0 1)), (32, vk .u64 ((p1.size.1 + p2.size.1 + (0 : Int)) / 18446744073709551616)), (31, vk .u64 ((p1.size.1 + p2.size.1 + (0 : Int)) % 18446744073709551616)), (19, .tp [vk .u64 ((p1.size.1 + p2.size.1 + (0 : Int)) % 18446744073709551616), vk .u64 ((p1.size.1 + p2.size.1 + (0 : Int)) / 18446744073709551616)]), (30, .tp [vk .u64 ((p1.size.1 + p2.size.1 + (0 : Int)) % 18446744073709551616), vk .u64 ((p1.size.1 + p2.size.1 + (0 : Int)) / 18446744073709551616)]), (29, vk .u64 (0 : Int)), (28, vk .u64 p2.size.1), (27, .one (.pv (.rp [(qa1719 p2)] 0 1))), (26, .one (.pv (.rp [(qa1719 p2)] 0 1))), (25, vi (0 : Int)), (24, vk .u64 p1.size.1), (23, .one (.pt 0 0 0 1)), (22, .one (.pt 0 0 0 1)), (21, vi (0 : Int)), (20, vi (0 : Int)), (2, .one (.pt 0 0 0 0)), (3, .one (.pv (.rp [(qa1719 p2)] 0 0))), (4, .one (.pt 1 0 0 0)), (5, vk .u64 (0 : Int)), (6, vi (0 : Int)), (16, vi (0 : Int))]
abbrev qa1739 (p1 : GWide) (p2 : GWide) (y1 : Int) (y2 : Int) : Fr := [(34, .one (.pt 0 0 0 2)), (33, .one (.pt 0 0 0 1)), (32, vk .u64 y2), (31, vk .u64 y1), (19, .tp [vk .u64 y1, vk .u64 y2]), (30, .tp [vk .u64 y1, vk .u64 y2]), (29, vk .u64 ((p1.size.1 + p2.size.1 + (0 : Int)) / 18446744073709551616)), (28, vk .u64 p2.size.2.1), (27, .one (.pv (.rp [(qa1719 p2)] 0 2))), (26, .one (.pv (.rp [(qa1719 p2)] 0 1))), (25, vi (1 : Int)), (24, vk .u64 p1.size.2.1), (23, .one (.pt 0 0 0 2)), (22, .one (.pt 0 0 0 1)), (21, vi (1 : Int)), (20, vi (1 : Int)), (2, .one (.pt 0 0 0 0)), (3, .one (.pv (.rp [(qa1719 p2)] 0 0))), (4, .one (.pt 1 0 0 0)), (5, vk .u64 ((p1.size.1 + p2.size.1 + (0 : Int)) / 18446744073709551616)), (6, vi (1 : Int)), (16, vi (1 : Int))]
abbrev qa1745 (p1 : GWide) (p2 : GWide) (y2 : Int) : Fr := [(34, .one (.pt 0 0 0 3)), (33, .one (.pt 0 0 0 1)), (32, vk .u64 ((p1.size.2.2.1 + p2.size.2.2.1 + y2) / 18446744073709551616)), (31, vk .u64 ((p1.size.2.2.1 + p2.size.2.2.1 + y2) % 18446744073709551616)), (19, .tp [vk .u64 ((p1.size.2.2.1 + p2.size.2.2.1 + y2) % 18446744073709551616), vk .u64 ((p1.size.2.2.1 + p2.size.2.2.1 + y2) / 18446744073709551616)]), (30, .tp [vk .u64 ((p1.size.2.2.1 + p2.size.2.2.1 + y2) % 18446744073709551616), vk .u64 ((p1.size.2.2.1 + p2.size.2.2.1 + y2) / 18446744073709551616)]), (29, vk .u64 y2), (28, vk .u64 p2.size.2.2.1), (27, .one (.pv (.rp [(qa1719 p2)] 0 3))), (26, .one (.pv (.rp [(qa1719 p2)] 0 1))), (25, vi (2 : Int)), (24, vk .u64 p1.size.2.2.1), (23, .one (.pt 0 0 0 3)), (22, .one (.pt 0 0 0 1)), (21, vi (2 : Int)), (20, vi (2 : Int)), (2, .one (.pt 0 0 0 0)), (3, .one (.pv (.rp [(qa1719 p2)] 0 0))), (4, .one (.pt 1 0 0 0)), (5, vk .u64 y2), (6, vi (2 : Int)), (16, vi (2 : Int))]
abbrev qa1751 (p1 : GWide) (p2 : GWide) (y2 : Int) (y3 : Int) (y4 : Int) : Fr := [(34, .one (.pt 0 0 0 4)), (33, .one (.pt 0 0 0 1)), (32, vk .u64 y4), (31, vk .u64 y3), (19, .tp [vk .u64 y3, vk .u64 y4]), (30, .tp [vk .u64 y3, vk .u64 y4]), (29, vk .u64 ((p1.size.2.2.1 + p2.size.2.2.1 + y2) / 18446744073709551616)), (28, vk .u64 p2.size.2.2.2), (27, .one (.pv (.rp [(qa1719 p2)] 0 4))), (26, .one (.pv (.rp [(qa1719 p2)] 0 1))), (25, vi (3 : Int)), (24, vk .u64 p1.size.2.2.2), (23, .one (.pt 0 0 0 4)), (22, .one (.pt 0 0 0 1)), (21, vi (3 : Int)), (20, vi (3 : Int)), (2, .one (.pt 0 0 0 0)), (3, .one (.pv (.rp [(qa1719 p2)] 0 0))), (4, .one (.pt 1 0 0 0)), (5, vk .u64 ((p1.size.2.2.1 + p2.size.2.2.1 + y2) / 18446744073709551616)), (6, vi (3 : Int)), (16, vi (3 : Int))]

mutual

theorem c_value_wide_minus : ∀ (k0 : Nat) (p1 : GWide) (p2 : GWide) (r : GWide), value_wide_minus k0 p1 p2 = some r → PC Tryd.prog 107 [.ag (qa1670 p1), .ag (qa1671 p2)] (.ag [cb r.neg, ck .u64 r.size.1, ck .u64 r.size.2.1, ck .u64 r.size.2.2.1, ck .u64 r.size.2.2.2])
 | 0, _, _, r, h => by rw [value_wide_minus.eq_1] at h; cases h
 | k0 + 1, p1, p2, r, h => by
  rw [value_wide_minus.eq_2] at h
  refine zF 44 Tryd.f107 (zq fun K1 hK1 => zr (zg [2, 3, 4] 3 [2,3,4] (zd (hK1 _ _ (zq fun K2 hK2 => zq fun K3 hK3 => ?_)))))
  refine zr (zg [2, 3, 4] 5 [2,3,4,11] (zd (hK3 _ _ (zC h (fun b4 h => ?_) (fun b4 h => ?_)))))
  ·refine zq fun K5 hK5 => ?_
   obtain ⟨r1, c6, h⟩ := zB h
   obtain ⟨r2, c7, h⟩ := zB h
   refine zw 3 [(14, .ag (qa1673 r1)), (13, .ag (qa1671 p2)), (12, .ag (qa1670 p1)), (2, .one (.pt 0 0 0 0)), (3, .one (.pt 1 0 0 0)), (4, .one (.pt 2 0 0 0)), (11, vb (!(p1.neg == p2.neg)))] ?_ ?_
   ·exact zyv 2 [] [(13, .ag (qa1671 p2)), (12, .ag (qa1670 p1)), (2, .one (.pt 0 0 0 0)), (3, .one (.pt 1 0 0 0)), (4, .one (.pt 2 0 0 0)), (11, vb (!(p1.neg == p2.neg)))] (zya (c_value_wide_negated _ _ c6) zyd)
   refine zl 97 [.ag (qa1670 p1), .ag (qa1673 r1)] (.ag (qa1674 r2)) [(15, .ag (qa1674 r2)), (14, .ag (qa1673 r1)), (13, .ag (qa1671 p2)), (12, .ag (qa1670 p1)), (2, .one (.pt 0 0 0 0)), (3, .one (.pt 1 0 0 0)), (4, .one (.pt 2 0 0 0)), (11, vb (!(p1.neg == p2.neg)))] (c_value_wide_plus k0 _ _ _ c7) ?_
   refine zg [2, 3, 4] 1 [4] (zd (hK5 _ _ (ze ?_)))
   obtain rfl := Option.some.inj h
   exact zf [.ag (qa1674 r2)] (.ag (.cons (.rfl _ rfl) (.cons (.rfl _ rfl) (.cons (.rfl _ rfl) (.cons (.rfl _ rfl) (.cons (.rfl _ rfl) .nil))))))
  ·refine zs (hK2 _ _ (zq fun K8 hK8 => ?_))
   have hJ1 : ∀ (z1 : Bool) (z2 : Int) (z3 : Int) (z4 : Int) (z5 : Int) (z6 : Bool) (z7 : Int) (z8 : Int) (z9 : Int) (z10 : Int), value_wide_minus_j1 z1 z2 z3 z4 z5 z6 z7 z8 z9 z10 = some r → ∀ fr1 st1, Sub 44 0 [] fr1 st1 [(2, .one (.pt 0 0 0 0)), (3, .one (.pt 1 0 0 0)), (4, .one (.pt 2 0 0 0))] [.box [cb z1, ck .u64 z2, ck .u64 z3, ck .u64 z4, ck .u64 z5], .box (qa1677 z6 z7 z8 z9 z10), .box qa1678] → K8 fr1 st1 := by
    intro z1 z2 z3 z4 z5 z6 z7 z8 z9 z10 h fr1 st1 hS
    unfold value_wide_minus_j1 at h
    refine hK8 _ _ (XW.sub hS ?_)
    refine zq fun K13 hK13 => zr (zg [2, 3, 4] 1 [2,3,4,5] (zd (hK13 _ _ (zq fun K14 hK14 => zq fun K15 hK15 => zr ?_))))
    refine zg [2, 3, 4] 1 [2,3,4,5,23] (zd (hK15 _ _ (zb 0 (XW.rounds' 5 (x := cd Tryd.f107 [1,1,1,1,0,1,0,0]) (by kernel_rfl) fun Q1 hQ1 => XR.one (zq fun K16 hK16 => zr ?_)))))
    refine zv [2, 3, 4] 1 [2,3,4,5,23,24] [] [(2, .one (.pt 0 0 0 0)), (3, .one (.pt 1 0 0 0)), (4, .one (.pt 2 0 0 0)), (5, vk .u64 (0 : Int)), (23, vi (0 : Int)), (24, vb true)] [.box [cb z1, ck .u64 z2, ck .u64 z3, ck .u64 z4, ck .u64 z5], .box (qa1677 z6 z7 z8 z9 z10), .box qa1678] (zd (hK16 _ _ (zq fun K17 hK17 => zc true (fun _ => ?_) (fun hx => by cases hx))))
    refine zs (hK17 _ _ (zq fun K18 hK18 => zb 1 (zq fun K19 hK19 => zr (zv [2, 3, 4] 2 [2,3,4,5,6,23] [] [(2, .one (.pt 0 0 0 0)), (3, .one (.pt 1 0 0 0)), (4, .one (.pt 2 0 0 0)), (5, vk .u64 (0 : Int)), (6, vi (0 : Int)), (23, vi (0 : Int))] [.box [cb z1, ck .u64 z2, ck .u64 z3, ck .u64 z4, ck .u64 z5], .box (qa1677 z6 z7 z8 z9 z10), .box qa1678] (zd ?_)))))
    refine hK19 _ _ ?_
    obtain ⟨g20, h⟩ := zG h
    refine XW.drwG 17 [3] [([], []), ([], []), ([0], []), ([0], []), ([0], []), ([], []), ([1], []), ([1], []), ([1], []), ([], []), ([], []), ([], []), ([], []), ([], []), ([0], []), ([0], []), ([0], [0])] (qa1681 z2 z7) [.box (qa1682 z1 z2 z3 z4 z5 z7), .box (qa1677 z6 z7 z8 z9 z10), .box qa1678] (by kernel_rfl) (by kernel_rfl) ?_ ?_
    ·refine GY.go 10 [] [(36, vk .u64 (0 : Int)), (35, vk .u64 z7), (34, .one (.pt 1 0 0 1)), (33, .one (.pt 1 0 0 1)), (32, vi (0 : Int)), (31, vk .u64 z2), (30, .one (.pt 0 0 0 1)), (29, .one (.pt 0 0 0 1)), (28, vi (0 : Int)), (27, vi (0 : Int)), (2, .one (.pt 0 0 0 0)), (3, .one (.pt 1 0 0 0)), (4, .one (.pt 2 0 0 0)), (5, vk .u64 (0 : Int)), (6, vi (0 : Int)), (23, vi (0 : Int))] [0 ≤ (0 : Int) ∧ (0 : Int) < 4, 0 ≤ (0 : Int) ∧ (0 : Int) < 4] (by kernel_rfl) (⟨by decide, by decide, trivial⟩) ?_
     refine GY.ext 123 [.int .u64 z2, .int .u64 z7, .int .u64 (0 : Int)] [.int .u64 ((z2 - z7 - (0 : Int)) % 18446744073709551616), .int .u64 (if z2 < z7 + (0 : Int) then (1 : Int) else (0 : Int))] [(37, .tp [vk .u64 ((z2 - z7 - (0 : Int)) % 18446744073709551616), vk .u64 (if z2 < z7 + (0 : Int) then (1 : Int) else (0 : Int))]), (36, vk .u64 (0 : Int)), (35, vk .u64 z7), (34, .one (.pt 1 0 0 1)), (33, .one (.pt 1 0 0 1)), (32, vi (0 : Int)), (31, vk .u64 z2), (30, .one (.pt 0 0 0 1)), (29, .one (.pt 0 0 0 1)), (28, vi (0 : Int)), (27, vi (0 : Int)), (2, .one (.pt 0 0 0 0)), (3, .one (.pt 1 0 0 0)), (4, .one (.pt 2 0 0 0)), (5, vk .u64 (0 : Int)), (6, vi (0 : Int)), (23, vi (0 : Int))] [] (by kernel_rfl) (by kernel_rfl) (ext_Sub64 (fn := Tryd.f123) (by kernel_rfl) (by kernel_rfl) (by kernel_rfl) (by kernel_rfl) (by kernel_rfl) g20.1 g20.2.1 g20.2.2.1 g20.2.2.2.1 g20.2.2.2.2) rfl (by kernel_rfl) (by kernel_rfl) (by kernel_rfl) ?_
     refine GY.go 5 [] (qa1681 z2 z7) [0 ≤ (0 : Int) ∧ (0 : Int) < 4] (by kernel_rfl) (⟨by decide, trivial⟩) ?_
     refine GY.wr [] (qa1681 z2 z7) [0] [.box (qa1682 z1 z2 z3 z4 z5 z7), .box (qa1677 z6 z7 z8 z9 z10), .box qa1678] [] (by kernel_rfl) (by kernel_rfl) trivial ?_
     exact GY.done (by kernel_rfl) (by kernel_rfl)
    refine zg [2, 3, 4] 1 [2,3,4,5,23] (zd (hK18 _ _ (zr (zv [2, 3, 4] 2 [2,3,4,5,23] [] [(2, .one (.pt 0 0 0 0)), (3, .one (.pt 1 0 0 0)), (4, .one (.pt 2 0 0 0)), (5, vk .u64 (if z2 < z7 + (0 : Int) then (1 : Int) else (0 : Int))), (23, vi (1 : Int))] [.box (qa1682 z1 z2 z3 z4 z5 z7), .box (qa1677 z6 z7 z8 z9 z10), .box qa1678] (zd (XR.one (zq fun K21 hK21 => ?_)))))))
    refine zr (zg [2, 3, 4] 1 [2,3,4,5,23,24] (zd (hK21 _ _ (zq fun K22 hK22 => zc true (fun _ => ?_) (fun hx => by cases hx)))))
    refine zs (hK22 _ _ (zq fun K23 hK23 => zb 1 (zq fun K24 hK24 => zr (zv [2, 3, 4] 2 [2,3,4,5,6,23] [] [(2, .one (.pt 0 0 0 0)), (3, .one (.pt 1 0 0 0)), (4, .one (.pt 2 0 0 0)), (5, vk .u64 (if z2 < z7 + (0 : Int) then (1 : Int) else (0 : Int))), (6, vi (1 : Int)), (23, vi (1 : Int))] [.box (qa1682 z1 z2 z3 z4 z5 z7), .box (qa1677 z6 z7 z8 z9 z10), .box qa1678] (zd ?_)))))
    refine hK24 _ _ ?_
    obtain ⟨g25, h⟩ := zG h
    obtain ⟨y1, hy26, h⟩ := zB h
    obtain ⟨y2, hy27, h⟩ := zB h
    refine XW.drwG 17 [3] [([], []), ([], []), ([0], []), ([0], []), ([0], []), ([], []), ([1], []), ([1], []), ([1], []), ([], []), ([], []), ([], []), ([], []), ([], []), ([0], []), ([0], []), ([0], [0])] (qa1687 z2 z3 z7 z8 y1 y2) [.box (qa1688 z1 z2 z4 z5 z7 y1), .box (qa1677 z6 z7 z8 z9 z10), .box qa1678] (by kernel_rfl) (by kernel_rfl) ?_ ?_
    ·refine GY.go 10 [] [(36, vk .u64 (if z2 < z7 + (0 : Int) then (1 : Int) else (0 : Int))), (35, vk .u64 z8), (34, .one (.pt 1 0 0 2)), (33, .one (.pt 1 0 0 1)), (32, vi (1 : Int)), (31, vk .u64 z3), (30, .one (.pt 0 0 0 2)), (29, .one (.pt 0 0 0 1)), (28, vi (1 : Int)), (27, vi (1 : Int)), (2, .one (.pt 0 0 0 0)), (3, .one (.pt 1 0 0 0)), (4, .one (.pt 2 0 0 0)), (5, vk .u64 (if z2 < z7 + (0 : Int) then (1 : Int) else (0 : Int))), (6, vi (1 : Int)), (23, vi (1 : Int))] [0 ≤ (1 : Int) ∧ (1 : Int) < 4, 0 ≤ (1 : Int) ∧ (1 : Int) < 4] (by kernel_rfl) (⟨by decide, by decide, trivial⟩) ?_
     refine GY.ext 123 [.int .u64 z3, .int .u64 z8, .int .u64 (if z2 < z7 + (0 : Int) then (1 : Int) else (0 : Int))] [.int .u64 ((z3 - z8 - (if z2 < z7 + (0 : Int) then (1 : Int) else (0 : Int))) % 18446744073709551616), .int .u64 (if z3 < z8 + (if z2 < z7 + (0 : Int) then (1 : Int) else (0 : Int)) then (1 : Int) else (0 : Int))] [(37, .tp [vk .u64 ((z3 - z8 - (if z2 < z7 + (0 : Int) then (1 : Int) else (0 : Int))) % 18446744073709551616), vk .u64 (if z3 < z8 + (if z2 < z7 + (0 : Int) then (1 : Int) else (0 : Int)) then (1 : Int) else (0 : Int))]), (36, vk .u64 (if z2 < z7 + (0 : Int) then (1 : Int) else (0 : Int))), (35, vk .u64 z8), (34, .one (.pt 1 0 0 2)), (33, .one (.pt 1 0 0 1)), (32, vi (1 : Int)), (31, vk .u64 z3), (30, .one (.pt 0 0 0 2)), (29, .one (.pt 0 0 0 1)), (28, vi (1 : Int)), (27, vi (1 : Int)), (2, .one (.pt 0 0 0 0)), (3, .one (.pt 1 0 0 0)), (4, .one (.pt 2 0 0 0)), (5, vk .u64 (if z2 < z7 + (0 : Int) then (1 : Int) else (0 : Int))), (6, vi (1 : Int)), (23, vi (1 : Int))] [] (by kernel_rfl) (by kernel_rfl) (ext_Sub64 (fn := Tryd.f123) (by kernel_rfl) (by kernel_rfl) (by kernel_rfl) (by kernel_rfl) (by kernel_rfl) g25.1 g25.2.1 g25.2.2.1 g25.2.2.2.1 g25.2.2.2.2) rfl (by kernel_rfl) (by kernel_rfl) (by kernel_rfl) ?_
     refine zgv 2 [] [(38, vk .u64 ((z3 - z8 - (if z2 < z7 + (0 : Int) then (1 : Int) else (0 : Int))) % 18446744073709551616)), (26, .tp [vk .u64 ((z3 - z8 - (if z2 < z7 + (0 : Int) then (1 : Int) else (0 : Int))) % 18446744073709551616), vk .u64 (if z3 < z8 + (if z2 < z7 + (0 : Int) then (1 : Int) else (0 : Int)) then (1 : Int) else (0 : Int))]), (37, .tp [vk .u64 ((z3 - z8 - (if z2 < z7 + (0 : Int) then (1 : Int) else (0 : Int))) % 18446744073709551616), vk .u64 (if z3 < z8 + (if z2 < z7 + (0 : Int) then (1 : Int) else (0 : Int)) then (1 : Int) else (0 : Int))]), (36, vk .u64 (if z2 < z7 + (0 : Int) then (1 : Int) else (0 : Int))), (35, vk .u64 z8), (34, .one (.pt 1 0 0 2)), (33, .one (.pt 1 0 0 1)), (32, vi (1 : Int)), (31, vk .u64 z3), (30, .one (.pt 0 0 0 2)), (29, .one (.pt 0 0 0 1)), (28, vi (1 : Int)), (27, vi (1 : Int)), (2, .one (.pt 0 0 0 0)), (3, .one (.pt 1 0 0 0)), (4, .one (.pt 2 0 0 0)), (5, vk .u64 (if z2 < z7 + (0 : Int) then (1 : Int) else (0 : Int))), (6, vi (1 : Int)), (23, vi (1 : Int))] ?_
     rw [show ((z3 - z8 - (if z2 < z7 + (0 : Int) then (1 : Int) else (0 : Int))) % 18446744073709551616) = y1 from Option.some.inj hy26]
     refine zgv 1 [] [(39, vk .u64 (if z3 < z8 + (if z2 < z7 + (0 : Int) then (1 : Int) else (0 : Int)) then (1 : Int) else (0 : Int))), (38, vk .u64 y1), (26, .tp [vk .u64 y1, vk .u64 (if z3 < z8 + (if z2 < z7 + (0 : Int) then (1 : Int) else (0 : Int)) then (1 : Int) else (0 : Int))]), (37, .tp [vk .u64 y1, vk .u64 (if z3 < z8 + (if z2 < z7 + (0 : Int) then (1 : Int) else (0 : Int)) then (1 : Int) else (0 : Int))]), (36, vk .u64 (if z2 < z7 + (0 : Int) then (1 : Int) else (0 : Int))), (35, vk .u64 z8), (34, .one (.pt 1 0 0 2)), (33, .one (.pt 1 0 0 1)), (32, vi (1 : Int)), (31, vk .u64 z3), (30, .one (.pt 0 0 0 2)), (29, .one (.pt 0 0 0 1)), (28, vi (1 : Int)), (27, vi (1 : Int)), (2, .one (.pt 0 0 0 0)), (3, .one (.pt 1 0 0 0)), (4, .one (.pt 2 0 0 0)), (5, vk .u64 (if z2 < z7 + (0 : Int) then (1 : Int) else (0 : Int))), (6, vi (1 : Int)), (23, vi (1 : Int))] ?_
     rw [show (if z3 < z8 + (if z2 < z7 + (0 : Int) then (1 : Int) else (0 : Int)) then (1 : Int) else (0 : Int)) = y2 from Option.some.inj hy27]
     refine GY.go 2 [] (qa1687 z2 z3 z7 z8 y1 y2) [0 ≤ (1 : Int) ∧ (1 : Int) < 4] (by kernel_rfl) (⟨by decide, trivial⟩) ?_
     refine GY.wr [] (qa1687 z2 z3 z7 z8 y1 y2) [0] [.box (qa1688 z1 z2 z4 z5 z7 y1), .box (qa1677 z6 z7 z8 z9 z10), .box qa1678] [] (by kernel_rfl) (by kernel_rfl) trivial ?_
     exact GY.done (by kernel_rfl) (by kernel_rfl)
    refine zg [2, 3, 4] 1 [2,3,4,5,23] (zd (hK23 _ _ (zr (zv [2, 3, 4] 2 [2,3,4,5,23] [] [(2, .one (.pt 0 0 0 0)), (3, .one (.pt 1 0 0 0)), (4, .one (.pt 2 0 0 0)), (5, vk .u64 y2), (23, vi (2 : Int))] [.box (qa1688 z1 z2 z4 z5 z7 y1), .box (qa1677 z6 z7 z8 z9 z10), .box qa1678] (zd (XR.one (zq fun K28 hK28 => ?_)))))))
    refine zr (zg [2, 3, 4] 1 [2,3,4,5,23,24] (zd (hK28 _ _ (zq fun K29 hK29 => zc true (fun _ => ?_) (fun hx => by cases hx)))))
    refine zs (hK29 _ _ (zq fun K30 hK30 => zb 1 (zq fun K31 hK31 => zr (zv [2, 3, 4] 2 [2,3,4,5,6,23] [] [(2, .one (.pt 0 0 0 0)), (3, .one (.pt 1 0 0 0)), (4, .one (.pt 2 0 0 0)), (5, vk .u64 y2), (6, vi (2 : Int)), (23, vi (2 : Int))] [.box (qa1688 z1 z2 z4 z5 z7 y1), .box (qa1677 z6 z7 z8 z9 z10), .box qa1678] (zd ?_)))))
    refine hK31 _ _ ?_
    obtain ⟨g32, h⟩ := zG h
    refine XW.drwG 17 [3] [([], []), ([], []), ([0], []), ([0], []), ([0], []), ([], []), ([1], []), ([1], []), ([1], []), ([], []), ([], []), ([], []), ([], []), ([], []), ([0], []), ([0], []), ([0], [0])] (qa1693 z4 z9 y2) [.box (qa1694 z1 z2 z4 z5 z7 z9 y1 y2), .box (qa1677 z6 z7 z8 z9 z10), .box qa1678] (by kernel_rfl) (by kernel_rfl) ?_ ?_
    ·refine GY.go 10 [] [(36, vk .u64 y2), (35, vk .u64 z9), (34, .one (.pt 1 0 0 3)), (33, .one (.pt 1 0 0 1)), (32, vi (2 : Int)), (31, vk .u64 z4), (30, .one (.pt 0 0 0 3)), (29, .one (.pt 0 0 0 1)), (28, vi (2 : Int)), (27, vi (2 : Int)), (2, .one (.pt 0 0 0 0)), (3, .one (.pt 1 0 0 0)), (4, .one (.pt 2 0 0 0)), (5, vk .u64 y2), (6, vi (2 : Int)), (23, vi (2 : Int))] [0 ≤ (2 : Int) ∧ (2 : Int) < 4, 0 ≤ (2 : Int) ∧ (2 : Int) < 4] (by kernel_rfl) (⟨by decide, by decide, trivial⟩) ?_
     refine GY.ext 123 [.int .u64 z4, .int .u64 z9, .int .u64 y2] [.int .u64 ((z4 - z9 - y2) % 18446744073709551616), .int .u64 (if z4 < z9 + y2 then (1 : Int) else (0 : Int))] [(37, .tp [vk .u64 ((z4 - z9 - y2) % 18446744073709551616), vk .u64 (if z4 < z9 + y2 then (1 : Int) else (0 : Int))]), (36, vk .u64 y2), (35, vk .u64 z9), (34, .one (.pt 1 0 0 3)), (33, .one (.pt 1 0 0 1)), (32, vi (2 : Int)), (31, vk .u64 z4), (30, .one (.pt 0 0 0 3)), (29, .one (.pt 0 0 0 1)), (28, vi (2 : Int)), (27, vi (2 : Int)), (2, .one (.pt 0 0 0 0)), (3, .one (.pt 1 0 0 0)), (4, .one (.pt 2 0 0 0)), (5, vk .u64 y2), (6, vi (2 : Int)), (23, vi (2 : Int))] [] (by kernel_rfl) (by kernel_rfl) (ext_Sub64 (fn := Tryd.f123) (by kernel_rfl) (by kernel_rfl) (by kernel_rfl) (by kernel_rfl) (by kernel_rfl) g32.1 g32.2.1 g32.2.2.1 g32.2.2.2.1 g32.2.2.2.2) rfl (by kernel_rfl) (by kernel_rfl) (by kernel_rfl) ?_
     refine GY.go 5 [] (qa1693 z4 z9 y2) [0 ≤ (2 : Int) ∧ (2 : Int) < 4] (by kernel_rfl) (⟨by decide, trivial⟩) ?_
     refine GY.wr [] (qa1693 z4 z9 y2) [0] [.box (qa1694 z1 z2 z4 z5 z7 z9 y1 y2), .box (qa1677 z6 z7 z8 z9 z10), .box qa1678] [] (by kernel_rfl) (by kernel_rfl) trivial ?_
     exact GY.done (by kernel_rfl) (by kernel_rfl)
    refine zg [2, 3, 4] 1 [2,3,4,5,23] (zd (hK30 _ _ (zr (zv [2, 3, 4] 2 [2,3,4,5,23] [] [(2, .one (.pt 0 0 0 0)), (3, .one (.pt 1 0 0 0)), (4, .one (.pt 2 0 0 0)), (5, vk .u64 (if z4 < z9 + y2 then (1 : Int) else (0 : Int))), (23, vi (3 : Int))] [.box (qa1694 z1 z2 z4 z5 z7 z9 y1 y2), .box (qa1677 z6 z7 z8 z9 z10), .box qa1678] (zd (XR.one (zq fun K33 hK33 => ?_)))))))
    refine zr (zg [2, 3, 4] 1 [2,3,4,5,23,24] (zd (hK33 _ _ (zq fun K34 hK34 => zc true (fun _ => ?_) (fun hx => by cases hx)))))
    refine zs (hK34 _ _ (zq fun K35 hK35 => zb 1 (zq fun K36 hK36 => zr (zv [2, 3, 4] 2 [2,3,4,5,6,23] [] [(2, .one (.pt 0 0 0 0)), (3, .one (.pt 1 0 0 0)), (4, .one (.pt 2 0 0 0)), (5, vk .u64 (if z4 < z9 + y2 then (1 : Int) else (0 : Int))), (6, vi (3 : Int)), (23, vi (3 : Int))] [.box (qa1694 z1 z2 z4 z5 z7 z9 y1 y2), .box (qa1677 z6 z7 z8 z9 z10), .box qa1678] (zd ?_)))))
    refine hK36 _ _ ?_
    obtain ⟨g37, h⟩ := zG h
    obtain ⟨y3, hy38, h⟩ := zB h
    obtain ⟨y4, hy39, h⟩ := zB h
    refine XW.drwG 17 [3] [([], []), ([], []), ([0], []), ([0], []), ([0], []), ([], []), ([1], []), ([1], []), ([1], []), ([], []), ([], []), ([], []), ([], []), ([], []), ([0], []), ([0], []), ([0], [0])] (qa1699 z4 z5 z9 z10 y2 y3 y4) [.box (qa1700 z1 z2 z4 z7 z9 y1 y2 y3), .box (qa1677 z6 z7 z8 z9 z10), .box qa1678] (by kernel_rfl) (by kernel_rfl) ?_ ?_
    ·refine GY.go 10 [] [(36, vk .u64 (if z4 < z9 + y2 then (1 : Int) else (0 : Int))), (35, vk .u64 z10), (34, .one (.pt 1 0 0 4)), (33, .one (.pt 1 0 0 1)), (32, vi (3 : Int)), (31, vk .u64 z5), (30, .one (.pt 0 0 0 4)), (29, .one (.pt 0 0 0 1)), (28, vi (3 : Int)), (27, vi (3 : Int)), (2, .one (.pt 0 0 0 0)), (3, .one (.pt 1 0 0 0)), (4, .one (.pt 2 0 0 0)), (5, vk .u64 (if z4 < z9 + y2 then (1 : Int) else (0 : Int))), (6, vi (3 : Int)), (23, vi (3 : Int))] [0 ≤ (3 : Int) ∧ (3 : Int) < 4, 0 ≤ (3 : Int) ∧ (3 : Int) < 4] (by kernel_rfl) (⟨by decide, by decide, trivial⟩) ?_
     refine GY.ext 123 [.int .u64 z5, .int .u64 z10, .int .u64 (if z4 < z9 + y2 then (1 : Int) else (0 : Int))] [.int .u64 ((z5 - z10 - (if z4 < z9 + y2 then (1 : Int) else (0 : Int))) % 18446744073709551616), .int .u64 (if z5 < z10 + (if z4 < z9 + y2 then (1 : Int) else (0 : Int)) then (1 : Int) else (0 : Int))] [(37, .tp [vk .u64 ((z5 - z10 - (if z4 < z9 + y2 then (1 : Int) else (0 : Int))) % 18446744073709551616), vk .u64 (if z5 < z10 + (if z4 < z9 + y2 then (1 : Int) else (0 : Int)) then (1 : Int) else (0 : Int))]), (36, vk .u64 (if z4 < z9 + y2 then (1 : Int) else (0 : Int))), (35, vk .u64 z10), (34, .one (.pt 1 0 0 4)), (33, .one (.pt 1 0 0 1)), (32, vi (3 : Int)), (31, vk .u64 z5), (30, .one (.pt 0 0 0 4)), (29, .one (.pt 0 0 0 1)), (28, vi (3 : Int)), (27, vi (3 : Int)), (2, .one (.pt 0 0 0 0)), (3, .one (.pt 1 0 0 0)), (4, .one (.pt 2 0 0 0)), (5, vk .u64 (if z4 < z9 + y2 then (1 : Int) else (0 : Int))), (6, vi (3 : Int)), (23, vi (3 : Int))] [] (by kernel_rfl) (by kernel_rfl) (ext_Sub64 (fn := Tryd.f123) (by kernel_rfl) (by kernel_rfl) (by kernel_rfl) (by kernel_rfl) (by kernel_rfl) g37.1 g37.2.1 g37.2.2.1 g37.2.2.2.1 g37.2.2.2.2) rfl (by kernel_rfl) (by kernel_rfl) (by kernel_rfl) ?_
     refine zgv 2 [] [(38, vk .u64 ((z5 - z10 - (if z4 < z9 + y2 then (1 : Int) else (0 : Int))) % 18446744073709551616)), (26, .tp [vk .u64 ((z5 - z10 - (if z4 < z9 + y2 then (1 : Int) else (0 : Int))) % 18446744073709551616), vk .u64 (if z5 < z10 + (if z4 < z9 + y2 then (1 : Int) else (0 : Int)) then (1 : Int) else (0 : Int))]), (37, .tp [vk .u64 ((z5 - z10 - (if z4 < z9 + y2 then (1 : Int) else (0 : Int))) % 18446744073709551616), vk .u64 (if z5 < z10 + (if z4 < z9 + y2 then (1 : Int) else (0 : Int)) then (1 : Int) else (0 : Int))]), (36, vk .u64 (if z4 < z9 + y2 then (1 : Int) else (0 : Int))), (35, vk .u64 z10), (34, .one (.pt 1 0 0 4)), (33, .one (.pt 1 0 0 1)), (32, vi (3 : Int)), (31, vk .u64 z5), (30, .one (.pt 0 0 0 4)), (29, .one (.pt 0 0 0 1)), (28, vi (3 : Int)), (27, vi (3 : Int)), (2, .one (.pt 0 0 0 0)), (3, .one (.pt 1 0 0 0)), (4, .one (.pt 2 0 0 0)), (5, vk .u64 (if z4 < z9 + y2 then (1 : Int) else (0 : Int))), (6, vi (3 : Int)), (23, vi (3 : Int))] ?_
     rw [show ((z5 - z10 - (if z4 < z9 + y2 then (1 : Int) else (0 : Int))) % 18446744073709551616) = y3 from Option.some.inj hy38]
     refine zgv 1 [] [(39, vk .u64 (if z5 < z10 + (if z4 < z9 + y2 then (1 : Int) else (0 : Int)) then (1 : Int) else (0 : Int))), (38, vk .u64 y3), (26, .tp [vk .u64 y3, vk .u64 (if z5 < z10 + (if z4 < z9 + y2 then (1 : Int) else (0 : Int)) then (1 : Int) else (0 : Int))]), (37, .tp [vk .u64 y3, vk .u64 (if z5 < z10 + (if z4 < z9 + y2 then (1 : Int) else (0 : Int)) then (1 : Int) else (0 : Int))]), (36, vk .u64 (if z4 < z9 + y2 then (1 : Int) else (0 : Int))), (35, vk .u64 z10), (34, .one (.pt 1 0 0 4)), (33, .one (.pt 1 0 0 1)), (32, vi (3 : Int)), (31, vk .u64 z5), (30, .one (.pt 0 0 0 4)), (29, .one (.pt 0 0 0 1)), (28, vi (3 : Int)), (27, vi (3 : Int)), (2, .one (.pt 0 0 0 0)), (3, .one (.pt 1 0 0 0)), (4, .one (.pt 2 0 0 0)), (5, vk .u64 (if z4 < z9 + y2 then (1 : Int) else (0 : Int))), (6, vi (3 : Int)), (23, vi (3 : Int))] ?_
     rw [show (if z5 < z10 + (if z4 < z9 + y2 then (1 : Int) else (0 : Int)) then (1 : Int) else (0 : Int)) = y4 from Option.some.inj hy39]
     refine GY.go 2 [] (qa1699 z4 z5 z9 z10 y2 y3 y4) [0 ≤ (3 : Int) ∧ (3 : Int) < 4] (by kernel_rfl) (⟨by decide, trivial⟩) ?_
     refine GY.wr [] (qa1699 z4 z5 z9 z10 y2 y3 y4) [0] [.box (qa1700 z1 z2 z4 z7 z9 y1 y2 y3), .box (qa1677 z6 z7 z8 z9 z10), .box qa1678] [] (by kernel_rfl) (by kernel_rfl) trivial ?_
     exact GY.done (by kernel_rfl) (by kernel_rfl)
    refine zg [2, 3, 4] 1 [2,3,4,5,23] (zd (hK35 _ _ (zr (zv [2, 3, 4] 2 [2,3,4,5,23] [] [(2, .one (.pt 0 0 0 0)), (3, .one (.pt 1 0 0 0)), (4, .one (.pt 2 0 0 0)), (5, vk .u64 y4), (23, vi (4 : Int))] [.box (qa1700 z1 z2 z4 z7 z9 y1 y2 y3), .box (qa1677 z6 z7 z8 z9 z10), .box qa1678] (zd (XR.one (zq fun K40 hK40 => ?_)))))))
    refine zr (zg [2, 3, 4] 1 [2,3,4,5,23,24] (zd (hK40 _ _ (zq fun K41 hK41 => zc false (fun hx => by cases hx) (fun _ => ?_)))))
    refine zx 0 (hQ1 _ _ _ (hK14 _ _ (zq fun K42 hK42 => zr (zg [2, 3, 4] 2 [4] (zd (hK42 _ _ ?_))))))
    refine ze ?_
    obtain rfl := Option.some.inj h
    exact zf [.ag (qa1700 z1 z2 z4 z7 z9 y1 y2 y3)] (.ag (.cons (.rfl _ rfl) (.cons (.rfl _ rfl) (.cons (.rfl _ rfl) (.cons (.rfl _ rfl) (.cons (.rfl _ rfl) .nil))))))
   refine zq fun K9 hK9 => ?_
   obtain ⟨r3, c10, h⟩ := zB h
   refine zr (zg [2, 3, 4] 2 [2,3,4,16,17] ?_)
   refine zl 95 [.ag (qa1670 p1), .ag (qa1671 p2)] (vi r3) [(18, vi r3), (2, .one (.pt 0 0 0 0)), (3, .one (.pt 1 0 0 0)), (4, .one (.pt 2 0 0 0)), (16, .ag (qa1670 p1)), (17, .ag (qa1671 p2))] (c_value_compareSize _ _ _ c10) (zg [2, 3, 4] 1 [2,3,4,19] ?_)
   refine zd (hK9 _ _ (zC h (fun b11 h => ?_) (fun b11 h => ?_)))
   ·obtain ⟨r4, c12, h⟩ := zB h
    refine zw 3 [(22, .ag (qa1670 p1)), (21, .ag (qa1704 r4)), (20, .ag (qa1671 p2)), (2, .one (.pt 0 0 0 0)), (3, .one (.pt 1 0 0 0)), (4, .one (.pt 2 0 0 0)), (19, vb (decide (r3 < (0 : Int))))] ?_ ?_
    ·refine zyg 1 ?_
     refine DX.cal 122 [.ag (qa1671 p2)] (.ag (qa1704 r4)) [(21, .ag (qa1704 r4)), (20, .ag (qa1671 p2)), (2, .one (.pt 0 0 0 0)), (3, .one (.pt 1 0 0 0)), (4, .one (.pt 2 0 0 0)), (19, vb (decide (r3 < (0 : Int))))] (by kernel_rfl) (c_value_wide_negated _ _ c12) rfl rfl (by kernel_rfl) ?_
     exact zyg 1 zyd
    exact zg [2, 3, 4] 2 [2,3,4] (zd (hJ1 r4.neg r4.size.1 r4.size.2.1 r4.size.2.2.1 r4.size.2.2.2 p1.neg p1.size.1 p1.size.2.1 p1.size.2.2.1 p1.size.2.2.2 h _ _ (zk [2,3,4])))
   ·exact zs (hJ1 p1.neg p1.size.1 p1.size.2.1 p1.size.2.2.1 p1.size.2.2.2 p2.neg p2.size.1 p2.size.2.1 p2.size.2.2.1 p2.size.2.2.2 h _ _ (zk [2,3,4]))

theorem c_value_wide_plus : ∀ (k0 : Nat) (p1 : GWide) (p2 : GWide) (r : GWide), value_wide_plus k0 p1 p2 = some r → PC Tryd.prog 97 [.ag (qa1716 p1), .ag (qa1717 p2)] (.ag [cb r.neg, ck .u64 r.size.1, ck .u64 r.size.2.1, ck .u64 r.size.2.2.1, ck .u64 r.size.2.2.2])
 | 0, _, _, r, h => by rw [value_wide_plus.eq_1] at h; cases h
 | k0 + 1, p1, p2, r, h => by
  rw [value_wide_plus.eq_2] at h
  refine zF 37 Tryd.f97 (zq fun K1 hK1 => zr (zg [2, 4] 3 [2,3,4] (zd (hK1 _ _ (zq fun K2 hK2 => zq fun K3 hK3 => ?_)))))
  refine zr (zu [2, 4] 5 [2,3,4,11] [(qa1719 p2)] (zd (hK3 _ _ (zC h (fun b4 h => ?_) (fun b4 h => ?_)))))
  ·refine zq fun K5 hK5 => ?_
   obtain ⟨r1, c6, h⟩ := zB h
   obtain ⟨r2, c7, h⟩ := zB h
   refine zw 3 [(14, .ag (qa1720 r1)), (13, .ag (qa1717 p2)), (12, .ag (qa1716 p1)), (2, .one (.pt 0 0 0 0)), (3, .one (.pv (.rp [(qa1719 p2)] 0 0))), (4, .one (.pt 1 0 0 0)), (11, vb (!(p1.neg == p2.neg)))] ?_ ?_
   ·refine zyv 2 [(qa1719 p2)] [(13, .ag (qa1717 p2)), (12, .ag (qa1716 p1)), (2, .one (.pt 0 0 0 0)), (3, .one (.pv (.rp [(qa1719 p2)] 0 0))), (4, .one (.pt 1 0 0 0)), (11, vb (!(p1.neg == p2.neg)))] ?_
    exact zya (c_value_wide_negated _ _ c6) zyd
   refine zl 107 [.ag (qa1716 p1), .ag (qa1720 r1)] (.ag (qa1721 r2)) [(15, .ag (qa1721 r2)), (14, .ag (qa1720 r1)), (13, .ag (qa1717 p2)), (12, .ag (qa1716 p1)), (2, .one (.pt 0 0 0 0)), (3, .one (.pv (.rp [(qa1719 p2)] 0 0))), (4, .one (.pt 1 0 0 0)), (11, vb (!(p1.neg == p2.neg)))] (c_value_wide_minus k0 _ _ _ c7) ?_
   refine zg [2, 4] 1 [4] (zd (hK5 _ _ (ze ?_)))
   obtain rfl := Option.some.inj h
   exact zf [.ag (qa1721 r2)] (.ag (.cons (.rfl _ rfl) (.cons (.rfl _ rfl) (.cons (.rfl _ rfl) (.cons (.rfl _ rfl) (.cons (.rfl _ rfl) .nil))))))
  ·refine zs (hK2 _ _ (zq fun K8 hK8 => zr (zg [2, 4] 1 [2,3,4,5] (zd (hK8 _ _ (zq fun K9 hK9 => ?_))))))
   refine zq fun K10 hK10 => zr (zv [2, 4] 1 [2,3,4,5,16] [] [(2, .one (.pt 0 0 0 0)), (3, .one (.pv (.rp [(qa1719 p2)] 0 0))), (4, .one (.pt 1 0 0 0)), (5, vk .u64 (0 : Int)), (16, vi (0 : Int))] [.box (qa1716 p1), .box qa1722] (zd (hK10 _ _ (zb 0 ?_))))
   refine XW.rounds' 5 (x := cd Tryd.f97 [1,1,1,0,1,0,0]) (by kernel_rfl) fun Q1 hQ1 => XR.one (zq fun K11 hK11 => zr (zg [2, 4] 1 [2,3,4,5,16,17] (zd (hK11 _ _ (zq fun K12 hK12 => ?_)))))
   refine zc true (fun _ => ?_) (fun hx => by cases hx)
   refine zs (hK12 _ _ (zq fun K13 hK13 => zb 1 (zq fun K14 hK14 => zr (zv [2, 4] 2 [2,3,4,5,6,16] [] [(2, .one (.pt 0 0 0 0)), (3, .one (.pv (.rp [(qa1719 p2)] 0 0))), (4, .one (.pt 1 0 0 0)), (5, vk .u64 (0 : Int)), (6, vi (0 : Int)), (16, vi (0 : Int))] [.box (qa1716 p1), .box qa1722] (zd ?_)))))
   refine hK14 _ _ ?_
   obtain ⟨g15, h⟩ := zG h
   refine XW.drwG 17 [2] [([], []), ([], []), ([0], []), ([0], []), ([0], []), ([], []), ([], []), ([], []), ([], []), ([], []), ([], []), ([], []), ([], []), ([], []), ([0], []), ([0], []), ([0], [0])] (qa1733 p1 p2) [.box (qa1723 p1 p2), .box qa1722] (by kernel_rfl) (by kernel_rfl) ?_ ?_
   ·refine GY.go 10 [(qa1719 p2)] [(29, vk .u64 (0 : Int)), (28, vk .u64 p2.size.1), (27, .one (.pv (.rp [(qa1719 p2)] 0 1))), (26, .one (.pv (.rp [(qa1719 p2)] 0 1))), (25, vi (0 : Int)), (24, vk .u64 p1.size.1), (23, .one (.pt 0 0 0 1)), (22, .one (.pt 0 0 0 1)), (21, vi (0 : Int)), (20, vi (0 : Int)), (2, .one (.pt 0 0 0 0)), (3, .one (.pv (.rp [(qa1719 p2)] 0 0))), (4, .one (.pt 1 0 0 0)), (5, vk .u64 (0 : Int)), (6, vi (0 : Int)), (16, vi (0 : Int))] [0 ≤ (0 : Int) ∧ (0 : Int) < 4, 0 ≤ (0 : Int) ∧ (0 : Int) < 4, ([(qa1719 p2)] : List (List PV))[0]? = some (qa1719 p2)] (by kernel_rfl) (⟨by decide, by decide, rfl, trivial⟩) ?_
    refine GY.ext 121 [.int .u64 p1.size.1, .int .u64 p2.size.1, .int .u64 (0 : Int)] [.int .u64 ((p1.size.1 + p2.size.1 + (0 : Int)) % 18446744073709551616), .int .u64 ((p1.size.1 + p2.size.1 + (0 : Int)) / 18446744073709551616)] [(30, .tp [vk .u64 ((p1.size.1 + p2.size.1 + (0 : Int)) % 18446744073709551616), vk .u64 ((p1.size.1 + p2.size.1 + (0 : Int)) / 18446744073709551616)]), (29, vk .u64 (0 : Int)), (28, vk .u64 p2.size.1), (27, .one (.pv (.rp [(qa1719 p2)] 0 1))), (26, .one (.pv (.rp [(qa1719 p2)] 0 1))), (25, vi (0 : Int)), (24, vk .u64 p1.size.1), (23, .one (.pt 0 0 0 1)), (22, .one (.pt 0 0 0 1)), (21, vi (0 : Int)), (20, vi (0 : Int)), (2, .one (.pt 0 0 0 0)), (3, .one (.pv (.rp [(qa1719 p2)] 0 0))), (4, .one (.pt 1 0 0 0)), (5, vk .u64 (0 : Int)), (6, vi (0 : Int)), (16, vi (0 : Int))] [] (by kernel_rfl) (by kernel_rfl) (ext_Add64 (fn := Tryd.f121) (by kernel_rfl) (by kernel_rfl) (by kernel_rfl) (by kernel_rfl) (by kernel_rfl) g15.1 g15.2.1 g15.2.2.1 g15.2.2.2) rfl (by kernel_rfl) (by kernel_rfl) (by kernel_rfl) ?_
    refine GY.go 5 [] (qa1733 p1 p2) [0 ≤ (0 : Int) ∧ (0 : Int) < 4] (by kernel_rfl) (⟨by decide, trivial⟩) ?_
    refine GY.wr [] (qa1733 p1 p2) [0] [.box (qa1723 p1 p2), .box qa1722] [] (by kernel_rfl) (by kernel_rfl) trivial ?_
    exact GY.done (by kernel_rfl) (by kernel_rfl)
   refine zg [2, 4] 1 [2,3,4,5,16] (zd (hK13 _ _ (zr ?_)))
   refine zv [2, 4] 2 [2,3,4,5,16] [] [(2, .one (.pt 0 0 0 0)), (3, .one (.pv (.rp [(qa1719 p2)] 0 0))), (4, .one (.pt 1 0 0 0)), (5, vk .u64 ((p1.size.1 + p2.size.1 + (0 : Int)) / 18446744073709551616)), (16, vi (1 : Int))] [.box (qa1723 p1 p2), .box qa1722] ?_
   refine zd (XR.one (zq fun K16 hK16 => zr (zg [2, 4] 1 [2,3,4,5,16,17] (zd (hK16 _ _ (zq fun K17 hK17 => ?_))))))
   refine zc true (fun _ => ?_) (fun hx => by cases hx)
   refine zs (hK17 _ _ (zq fun K18 hK18 => zb 1 (zq fun K19 hK19 => zr ?_)))
   refine zv [2, 4] 2 [2,3,4,5,6,16] [] [(2, .one (.pt 0 0 0 0)), (3, .one (.pv (.rp [(qa1719 p2)] 0 0))), (4, .one (.pt 1 0 0 0)), (5, vk .u64 ((p1.size.1 + p2.size.1 + (0 : Int)) / 18446744073709551616)), (6, vi (1 : Int)), (16, vi (1 : Int))] [.box (qa1723 p1 p2), .box qa1722] ?_
   refine zd (hK19 _ _ ?_)
   obtain ⟨g20, h⟩ := zG h
   obtain ⟨y1, hy21, h⟩ := zB h
   obtain ⟨y2, hy22, h⟩ := zB h
   refine XW.drwG 17 [2] [([], []), ([], []), ([0], []), ([0], []), ([0], []), ([], []), ([], []), ([], []), ([], []), ([], []), ([], []), ([], []), ([], []), ([], []), ([0], []), ([0], []), ([0], [0])] (qa1739 p1 p2 y1 y2) [.box (qa1724 p1 p2 y1), .box qa1722] (by kernel_rfl) (by kernel_rfl) ?_ ?_
   ·refine GY.go 10 [(qa1719 p2)] [(29, vk .u64 ((p1.size.1 + p2.size.1 + (0 : Int)) / 18446744073709551616)), (28, vk .u64 p2.size.2.1), (27, .one (.pv (.rp [(qa1719 p2)] 0 2))), (26, .one (.pv (.rp [(qa1719 p2)] 0 1))), (25, vi (1 : Int)), (24, vk .u64 p1.size.2.1), (23, .one (.pt 0 0 0 2)), (22, .one (.pt 0 0 0 1)), (21, vi (1 : Int)), (20, vi (1 : Int)), (2, .one (.pt 0 0 0 0)), (3, .one (.pv (.rp [(qa1719 p2)] 0 0))), (4, .one (.pt 1 0 0 0)), (5, vk .u64 ((p1.size.1 + p2.size.1 + (0 : Int)) / 18446744073709551616)), (6, vi (1 : Int)), (16, vi (1 : Int))] [0 ≤ (1 : Int) ∧ (1 : Int) < 4, 0 ≤ (1 : Int) ∧ (1 : Int) < 4, ([(qa1719 p2)] : List (List PV))[0]? = some (qa1719 p2)] (by kernel_rfl) (⟨by decide, by decide, rfl, trivial⟩) ?_
    refine GY.ext 121 [.int .u64 p1.size.2.1, .int .u64 p2.size.2.1, .int .u64 ((p1.size.1 + p2.size.1 + (0 : Int)) / 18446744073709551616)] [.int .u64 ((p1.size.2.1 + p2.size.2.1 + ((p1.size.1 + p2.size.1 + (0 : Int)) / 18446744073709551616)) % 18446744073709551616), .int .u64 ((p1.size.2.1 + p2.size.2.1 + ((p1.size.1 + p2.size.1 + (0 : Int)) / 18446744073709551616)) / 18446744073709551616)] [(30, .tp [vk .u64 ((p1.size.2.1 + p2.size.2.1 + ((p1.size.1 + p2.size.1 + (0 : Int)) / 18446744073709551616)) % 18446744073709551616), vk .u64 ((p1.size.2.1 + p2.size.2.1 + ((p1.size.1 + p2.size.1 + (0 : Int)) / 18446744073709551616)) / 18446744073709551616)]), (29, vk .u64 ((p1.size.1 + p2.size.1 + (0 : Int)) / 18446744073709551616)), (28, vk .u64 p2.size.2.1), (27, .one (.pv (.rp [(qa1719 p2)] 0 2))), (26, .one (.pv (.rp [(qa1719 p2)] 0 1))), (25, vi (1 : Int)), (24, vk .u64 p1.size.2.1), (23, .one (.pt 0 0 0 2)), (22, .one (.pt 0 0 0 1)), (21, vi (1 : Int)), (20, vi (1 : Int)), (2, .one (.pt 0 0 0 0)), (3, .one (.pv (.rp [(qa1719 p2)] 0 0))), (4, .one (.pt 1 0 0 0)), (5, vk .u64 ((p1.size.1 + p2.size.1 + (0 : Int)) / 18446744073709551616)), (6, vi (1 : Int)), (16, vi (1 : Int))] [] (by kernel_rfl) (by kernel_rfl) (ext_Add64 (fn := Tryd.f121) (by kernel_rfl) (by kernel_rfl) (by kernel_rfl) (by kernel_rfl) (by kernel_rfl) g20.1 g20.2.1 g20.2.2.1 g20.2.2.2) rfl (by kernel_rfl) (by kernel_rfl) (by kernel_rfl) ?_
    refine zgv 2 [] [(31, vk .u64 ((p1.size.2.1 + p2.size.2.1 + ((p1.size.1 + p2.size.1 + (0 : Int)) / 18446744073709551616)) % 18446744073709551616)), (19, .tp [vk .u64 ((p1.size.2.1 + p2.size.2.1 + ((p1.size.1 + p2.size.1 + (0 : Int)) / 18446744073709551616)) % 18446744073709551616), vk .u64 ((p1.size.2.1 + p2.size.2.1 + ((p1.size.1 + p2.size.1 + (0 : Int)) / 18446744073709551616)) / 18446744073709551616)]), (30, .tp [vk .u64 ((p1.size.2.1 + p2.size.2.1 + ((p1.size.1 + p2.size.1 + (0 : Int)) / 18446744073709551616)) % 18446744073709551616), vk .u64 ((p1.size.2.1 + p2.size.2.1 + ((p1.size.1 + p2.size.1 + (0 : Int)) / 18446744073709551616)) / 18446744073709551616)]), (29, vk .u64 ((p1.size.1 + p2.size.1 + (0 : Int)) / 18446744073709551616)), (28, vk .u64 p2.size.2.1), (27, .one (.pv (.rp [[.s (.bool p2.neg), .s (.int .u64 p2.size.1), .s (.int .u64 p2.size.2.1), .s (.int .u64 p2.size.2.2.1), .s (.int .u64 p2.size.2.2.2)]] 0 2))), (26, .one (.pv (.rp [[.s (.bool p2.neg), .s (.int .u64 p2.size.1), .s (.int .u64 p2.size.2.1), .s (.int .u64 p2.size.2.2.1), .s (.int .u64 p2.size.2.2.2)]] 0 1))), (25, vi (1 : Int)), (24, vk .u64 p1.size.2.1), (23, .one (.pt 0 0 0 2)), (22, .one (.pt 0 0 0 1)), (21, vi (1 : Int)), (20, vi (1 : Int)), (2, .one (.pt 0 0 0 0)), (3, .one (.pv (.rp [[.s (.bool p2.neg), .s (.int .u64 p2.size.1), .s (.int .u64 p2.size.2.1), .s (.int .u64 p2.size.2.2.1), .s (.int .u64 p2.size.2.2.2)]] 0 0))), (4, .one (.pt 1 0 0 0)), (5, vk .u64 ((p1.size.1 + p2.size.1 + (0 : Int)) / 18446744073709551616)), (6, vi (1 : Int)), (16, vi (1 : Int))] ?_
    rw [show ((p1.size.2.1 + p2.size.2.1 + ((p1.size.1 + p2.size.1 + (0 : Int)) / 18446744073709551616)) % 18446744073709551616) = y1 from Option.some.inj hy21]
    refine zgv 1 [] [(32, vk .u64 ((p1.size.2.1 + p2.size.2.1 + ((p1.size.1 + p2.size.1 + (0 : Int)) / 18446744073709551616)) / 18446744073709551616)), (31, vk .u64 y1), (19, .tp [vk .u64 y1, vk .u64 ((p1.size.2.1 + p2.size.2.1 + ((p1.size.1 + p2.size.1 + (0 : Int)) / 18446744073709551616)) / 18446744073709551616)]), (30, .tp [vk .u64 y1, vk .u64 ((p1.size.2.1 + p2.size.2.1 + ((p1.size.1 + p2.size.1 + (0 : Int)) / 18446744073709551616)) / 18446744073709551616)]), (29, vk .u64 ((p1.size.1 + p2.size.1 + (0 : Int)) / 18446744073709551616)), (28, vk .u64 p2.size.2.1), (27, .one (.pv (.rp [[.s (.bool p2.neg), .s (.int .u64 p2.size.1), .s (.int .u64 p2.size.2.1), .s (.int .u64 p2.size.2.2.1), .s (.int .u64 p2.size.2.2.2)]] 0 2))), (26, .one (.pv (.rp [[.s (.bool p2.neg), .s (.int .u64 p2.size.1), .s (.int .u64 p2.size.2.1), .s (.int .u64 p2.size.2.2.1), .s (.int .u64 p2.size.2.2.2)]] 0 1))), (25, vi (1 : Int)), (24, vk .u64 p1.size.2.1), (23, .one (.pt 0 0 0 2)), (22, .one (.pt 0 0 0 1)), (21, vi (1 : Int)), (20, vi (1 : Int)), (2, .one (.pt 0 0 0 0)), (3, .one (.pv (.rp [[.s (.bool p2.neg), .s (.int .u64 p2.size.1), .s (.int .u64 p2.size.2.1), .s (.int .u64 p2.size.2.2.1), .s (.int .u64 p2.size.2.2.2)]] 0 0))), (4, .one (.pt 1 0 0 0)), (5, vk .u64 ((p1.size.1 + p2.size.1 + (0 : Int)) / 18446744073709551616)), (6, vi (1 : Int)), (16, vi (1 : Int))] ?_
    rw [show ((p1.size.2.1 + p2.size.2.1 + ((p1.size.1 + p2.size.1 + (0 : Int)) / 18446744073709551616)) / 18446744073709551616) = y2 from Option.some.inj hy22]
    refine GY.go 2 [] (qa1739 p1 p2 y1 y2) [0 ≤ (1 : Int) ∧ (1 : Int) < 4] (by kernel_rfl) (⟨by decide, trivial⟩) ?_
    refine GY.wr [] (qa1739 p1 p2 y1 y2) [0] [.box (qa1724 p1 p2 y1), .box qa1722] [] (by kernel_rfl) (by kernel_rfl) trivial ?_
    exact GY.done (by kernel_rfl) (by kernel_rfl)
   refine zg [2, 4] 1 [2,3,4,5,16] (zd (hK18 _ _ (zr (zv [2, 4] 2 [2,3,4,5,16] [] [(2, .one (.pt 0 0 0 0)), (3, .one (.pv (.rp [(qa1719 p2)] 0 0))), (4, .one (.pt 1 0 0 0)), (5, vk .u64 y2), (16, vi (2 : Int))] [.box (qa1724 p1 p2 y1), .box qa1722] (zd (XR.one ?_))))))
   refine zq fun K23 hK23 => zr (zg [2, 4] 1 [2,3,4,5,16,17] (zd (hK23 _ _ (zq fun K24 hK24 => zc true (fun _ => ?_) (fun hx => by cases hx)))))
   refine zs (hK24 _ _ (zq fun K25 hK25 => zb 1 (zq fun K26 hK26 => zr ?_)))
   refine zv [2, 4] 2 [2,3,4,5,6,16] [] [(2, .one (.pt 0 0 0 0)), (3, .one (.pv (.rp [(qa1719 p2)] 0 0))), (4, .one (.pt 1 0 0 0)), (5, vk .u64 y2), (6, vi (2 : Int)), (16, vi (2 : Int))] [.box (qa1724 p1 p2 y1), .box qa1722] (zd (hK26 _ _ ?_))
   obtain ⟨g27, h⟩ := zG h
   refine XW.drwG 17 [2] [([], []), ([], []), ([0], []), ([0], []), ([0], []), ([], []), ([], []), ([], []), ([], []), ([], []), ([], []), ([], []), ([], []), ([], []), ([0], []), ([0], []), ([0], [0])] (qa1745 p1 p2 y2) [.box (qa1725 p1 p2 y1 y2), .box qa1722] (by kernel_rfl) (by kernel_rfl) ?_ ?_
   ·refine GY.go 10 [(qa1719 p2)] [(29, vk .u64 y2), (28, vk .u64 p2.size.2.2.1), (27, .one (.pv (.rp [(qa1719 p2)] 0 3))), (26, .one (.pv (.rp [(qa1719 p2)] 0 1))), (25, vi (2 : Int)), (24, vk .u64 p1.size.2.2.1), (23, .one (.pt 0 0 0 3)), (22, .one (.pt 0 0 0 1)), (21, vi (2 : Int)), (20, vi (2 : Int)), (2, .one (.pt 0 0 0 0)), (3, .one (.pv (.rp [(qa1719 p2)] 0 0))), (4, .one (.pt 1 0 0 0)), (5, vk .u64 y2), (6, vi (2 : Int)), (16, vi (2 : Int))] [0 ≤ (2 : Int) ∧ (2 : Int) < 4, 0 ≤ (2 : Int) ∧ (2 : Int) < 4, ([(qa1719 p2)] : List (List PV))[0]? = some (qa1719 p2)] (by kernel_rfl) (⟨by decide, by decide, rfl, trivial⟩) ?_
    refine GY.ext 121 [.int .u64 p1.size.2.2.1, .int .u64 p2.size.2.2.1, .int .u64 y2] [.int .u64 ((p1.size.2.2.1 + p2.size.2.2.1 + y2) % 18446744073709551616), .int .u64 ((p1.size.2.2.1 + p2.size.2.2.1 + y2) / 18446744073709551616)] [(30, .tp [vk .u64 ((p1.size.2.2.1 + p2.size.2.2.1 + y2) % 18446744073709551616), vk .u64 ((p1.size.2.2.1 + p2.size.2.2.1 + y2) / 18446744073709551616)]), (29, vk .u64 y2), (28, vk .u64 p2.size.2.2.1), (27, .one (.pv (.rp [(qa1719 p2)] 0 3))), (26, .one (.pv (.rp [(qa1719 p2)] 0 1))), (25, vi (2 : Int)), (24, vk .u64 p1.size.2.2.1), (23, .one (.pt 0 0 0 3)), (22, .one (.pt 0 0 0 1)), (21, vi (2 : Int)), (20, vi (2 : Int)), (2, .one (.pt 0 0 0 0)), (3, .one (.pv (.rp [(qa1719 p2)] 0 0))), (4, .one (.pt 1 0 0 0)), (5, vk .u64 y2), (6, vi (2 : Int)), (16, vi (2 : Int))] [] (by kernel_rfl) (by kernel_rfl) (ext_Add64 (fn := Tryd.f121) (by kernel_rfl) (by kernel_rfl) (by kernel_rfl) (by kernel_rfl) (by kernel_rfl) g27.1 g27.2.1 g27.2.2.1 g27.2.2.2) rfl (by kernel_rfl) (by kernel_rfl) (by kernel_rfl) ?_
    refine GY.go 5 [] (qa1745 p1 p2 y2) [0 ≤ (2 : Int) ∧ (2 : Int) < 4] (by kernel_rfl) (⟨by decide, trivial⟩) ?_
    refine GY.wr [] (qa1745 p1 p2 y2) [0] [.box (qa1725 p1 p2 y1 y2), .box qa1722] [] (by kernel_rfl) (by kernel_rfl) trivial ?_
    exact GY.done (by kernel_rfl) (by kernel_rfl)
   refine zg [2, 4] 1 [2,3,4,5,16] (zd (hK25 _ _ (zr ?_)))
   refine zv [2, 4] 2 [2,3,4,5,16] [] [(2, .one (.pt 0 0 0 0)), (3, .one (.pv (.rp [(qa1719 p2)] 0 0))), (4, .one (.pt 1 0 0 0)), (5, vk .u64 ((p1.size.2.2.1 + p2.size.2.2.1 + y2) / 18446744073709551616)), (16, vi (3 : Int))] [.box (qa1725 p1 p2 y1 y2), .box qa1722] ?_
   refine zd (XR.one (zq fun K28 hK28 => zr (zg [2, 4] 1 [2,3,4,5,16,17] (zd (hK28 _ _ (zq fun K29 hK29 => ?_))))))
   refine zc true (fun _ => ?_) (fun hx => by cases hx)
   refine zs (hK29 _ _ (zq fun K30 hK30 => zb 1 (zq fun K31 hK31 => zr ?_)))
   refine zv [2, 4] 2 [2,3,4,5,6,16] [] [(2, .one (.pt 0 0 0 0)), (3, .one (.pv (.rp [(qa1719 p2)] 0 0))), (4, .one (.pt 1 0 0 0)), (5, vk .u64 ((p1.size.2.2.1 + p2.size.2.2.1 + y2) / 18446744073709551616)), (6, vi (3 : Int)), (16, vi (3 : Int))] [.box (qa1725 p1 p2 y1 y2), .box qa1722] ?_
   refine zd (hK31 _ _ ?_)
   obtain ⟨g32, h⟩ := zG h
   obtain ⟨y3, hy33, h⟩ := zB h
   obtain ⟨y4, hy34, h⟩ := zB h
   refine XW.drwG 17 [2] [([], []), ([], []), ([0], []), ([0], []), ([0], []), ([], []), ([], []), ([], []), ([], []), ([], []), ([], []), ([], []), ([], []), ([], []), ([0], []), ([0], []), ([0], [0])] (qa1751 p1 p2 y2 y3 y4) [.box (qa1726 p1 p2 y1 y2 y3), .box qa1722] (by kernel_rfl) (by kernel_rfl) ?_ ?_
   ·refine GY.go 10 [(qa1719 p2)] [(29, vk .u64 ((p1.size.2.2.1 + p2.size.2.2.1 + y2) / 18446744073709551616)), (28, vk .u64 p2.size.2.2.2), (27, .one (.pv (.rp [(qa1719 p2)] 0 4))), (26, .one (.pv (.rp [(qa1719 p2)] 0 1))), (25, vi (3 : Int)), (24, vk .u64 p1.size.2.2.2), (23, .one (.pt 0 0 0 4)), (22, .one (.pt 0 0 0 1)), (21, vi (3 : Int)), (20, vi (3 : Int)), (2, .one (.pt 0 0 0 0)), (3, .one (.pv (.rp [(qa1719 p2)] 0 0))), (4, .one (.pt 1 0 0 0)), (5, vk .u64 ((p1.size.2.2.1 + p2.size.2.2.1 + y2) / 18446744073709551616)), (6, vi (3 : Int)), (16, vi (3 : Int))] [0 ≤ (3 : Int) ∧ (3 : Int) < 4, 0 ≤ (3 : Int) ∧ (3 : Int) < 4, ([(qa1719 p2)] : List (List PV))[0]? = some (qa1719 p2)] (by kernel_rfl) (⟨by decide, by decide, rfl, trivial⟩) ?_
    refine GY.ext 121 [.int .u64 p1.size.2.2.2, .int .u64 p2.size.2.2.2, .int .u64 ((p1.size.2.2.1 + p2.size.2.2.1 + y2) / 18446744073709551616)] [.int .u64 ((p1.size.2.2.2 + p2.size.2.2.2 + ((p1.size.2.2.1 + p2.size.2.2.1 + y2) / 18446744073709551616)) % 18446744073709551616), .int .u64 ((p1.size.2.2.2 + p2.size.2.2.2 + ((p1.size.2.2.1 + p2.size.2.2.1 + y2) / 18446744073709551616)) / 18446744073709551616)] [(30, .tp [vk .u64 ((p1.size.2.2.2 + p2.size.2.2.2 + ((p1.size.2.2.1 + p2.size.2.2.1 + y2) / 18446744073709551616)) % 18446744073709551616), vk .u64 ((p1.size.2.2.2 + p2.size.2.2.2 + ((p1.size.2.2.1 + p2.size.2.2.1 + y2) / 18446744073709551616)) / 18446744073709551616)]), (29, vk .u64 ((p1.size.2.2.1 + p2.size.2.2.1 + y2) / 18446744073709551616)), (28, vk .u64 p2.size.2.2.2), (27, .one (.pv (.rp [(qa1719 p2)] 0 4))), (26, .one (.pv (.rp [(qa1719 p2)] 0 1))), (25, vi (3 : Int)), (24, vk .u64 p1.size.2.2.2), (23, .one (.pt 0 0 0 4)), (22, .one (.pt 0 0 0 1)), (21, vi (3 : Int)), (20, vi (3 : Int)), (2, .one (.pt 0 0 0 0)), (3, .one (.pv (.rp [(qa1719 p2)] 0 0))), (4, .one (.pt 1 0 0 0)), (5, vk .u64 ((p1.size.2.2.1 + p2.size.2.2.1 + y2) / 18446744073709551616)), (6, vi (3 : Int)), (16, vi (3 : Int))] [] (by kernel_rfl) (by kernel_rfl) (ext_Add64 (fn := Tryd.f121) (by kernel_rfl) (by kernel_rfl) (by kernel_rfl) (by kernel_rfl) (by kernel_rfl) g32.1 g32.2.1 g32.2.2.1 g32.2.2.2) rfl (by kernel_rfl) (by kernel_rfl) (by kernel_rfl) ?_
    refine zgv 2 [] [(31, vk .u64 ((p1.size.2.2.2 + p2.size.2.2.2 + ((p1.size.2.2.1 + p2.size.2.2.1 + y2) / 18446744073709551616)) % 18446744073709551616)), (19, .tp [vk .u64 ((p1.size.2.2.2 + p2.size.2.2.2 + ((p1.size.2.2.1 + p2.size.2.2.1 + y2) / 18446744073709551616)) % 18446744073709551616), vk .u64 ((p1.size.2.2.2 + p2.size.2.2.2 + ((p1.size.2.2.1 + p2.size.2.2.1 + y2) / 18446744073709551616)) / 18446744073709551616)]), (30, .tp [vk .u64 ((p1.size.2.2.2 + p2.size.2.2.2 + ((p1.size.2.2.1 + p2.size.2.2.1 + y2) / 18446744073709551616)) % 18446744073709551616), vk .u64 ((p1.size.2.2.2 + p2.size.2.2.2 + ((p1.size.2.2.1 + p2.size.2.2.1 + y2) / 18446744073709551616)) / 18446744073709551616)]), (29, vk .u64 ((p1.size.2.2.1 + p2.size.2.2.1 + y2) / 18446744073709551616)), (28, vk .u64 p2.size.2.2.2), (27, .one (.pv (.rp [[.s (.bool p2.neg), .s (.int .u64 p2.size.1), .s (.int .u64 p2.size.2.1), .s (.int .u64 p2.size.2.2.1), .s (.int .u64 p2.size.2.2.2)]] 0 4))), (26, .one (.pv (.rp [[.s (.bool p2.neg), .s (.int .u64 p2.size.1), .s (.int .u64 p2.size.2.1), .s (.int .u64 p2.size.2.2.1), .s (.int .u64 p2.size.2.2.2)]] 0 1))), (25, vi (3 : Int)), (24, vk .u64 p1.size.2.2.2), (23, .one (.pt 0 0 0 4)), (22, .one (.pt 0 0 0 1)), (21, vi (3 : Int)), (20, vi (3 : Int)), (2, .one (.pt 0 0 0 0)), (3, .one (.pv (.rp [[.s (.bool p2.neg), .s (.int .u64 p2.size.1), .s (.int .u64 p2.size.2.1), .s (.int .u64 p2.size.2.2.1), .s (.int .u64 p2.size.2.2.2)]] 0 0))), (4, .one (.pt 1 0 0 0)), (5, vk .u64 ((p1.size.2.2.1 + p2.size.2.2.1 + y2) / 18446744073709551616)), (6, vi (3 : Int)), (16, vi (3 : Int))] ?_
    rw [show ((p1.size.2.2.2 + p2.size.2.2.2 + ((p1.size.2.2.1 + p2.size.2.2.1 + y2) / 18446744073709551616)) % 18446744073709551616) = y3 from Option.some.inj hy33]
    refine zgv 1 [] [(32, vk .u64 ((p1.size.2.2.2 + p2.size.2.2.2 + ((p1.size.2.2.1 + p2.size.2.2.1 + y2) / 18446744073709551616)) / 18446744073709551616)), (31, vk .u64 y3), (19, .tp [vk .u64 y3, vk .u64 ((p1.size.2.2.2 + p2.size.2.2.2 + ((p1.size.2.2.1 + p2.size.2.2.1 + y2) / 18446744073709551616)) / 18446744073709551616)]), (30, .tp [vk .u64 y3, vk .u64 ((p1.size.2.2.2 + p2.size.2.2.2 + ((p1.size.2.2.1 + p2.size.2.2.1 + y2) / 18446744073709551616)) / 18446744073709551616)]), (29, vk .u64 ((p1.size.2.2.1 + p2.size.2.2.1 + y2) / 18446744073709551616)), (28, vk .u64 p2.size.2.2.2), (27, .one (.pv (.rp [[.s (.bool p2.neg), .s (.int .u64 p2.size.1), .s (.int .u64 p2.size.2.1), .s (.int .u64 p2.size.2.2.1), .s (.int .u64 p2.size.2.2.2)]] 0 4))), (26, .one (.pv (.rp [[.s (.bool p2.neg), .s (.int .u64 p2.size.1), .s (.int .u64 p2.size.2.1), .s (.int .u64 p2.size.2.2.1), .s (.int .u64 p2.size.2.2.2)]] 0 1))), (25, vi (3 : Int)), (24, vk .u64 p1.size.2.2.2), (23, .one (.pt 0 0 0 4)), (22, .one (.pt 0 0 0 1)), (21, vi (3 : Int)), (20, vi (3 : Int)), (2, .one (.pt 0 0 0 0)), (3, .one (.pv (.rp [[.s (.bool p2.neg), .s (.int .u64 p2.size.1), .s (.int .u64 p2.size.2.1), .s (.int .u64 p2.size.2.2.1), .s (.int .u64 p2.size.2.2.2)]] 0 0))), (4, .one (.pt 1 0 0 0)), (5, vk .u64 ((p1.size.2.2.1 + p2.size.2.2.1 + y2) / 18446744073709551616)), (6, vi (3 : Int)), (16, vi (3 : Int))] ?_
    rw [show ((p1.size.2.2.2 + p2.size.2.2.2 + ((p1.size.2.2.1 + p2.size.2.2.1 + y2) / 18446744073709551616)) / 18446744073709551616) = y4 from Option.some.inj hy34]
    refine GY.go 2 [] (qa1751 p1 p2 y2 y3 y4) [0 ≤ (3 : Int) ∧ (3 : Int) < 4] (by kernel_rfl) (⟨by decide, trivial⟩) ?_
    refine GY.wr [] (qa1751 p1 p2 y2 y3 y4) [0] [.box (qa1726 p1 p2 y1 y2 y3), .box qa1722] [] (by kernel_rfl) (by kernel_rfl) trivial ?_
    exact GY.done (by kernel_rfl) (by kernel_rfl)
   refine zg [2, 4] 1 [2,3,4,5,16] (zd (hK30 _ _ (zr ?_)))
   refine zv [2, 4] 2 [2,3,4,5,16] [] [(2, .one (.pt 0 0 0 0)), (3, .one (.pv (.rp [(qa1719 p2)] 0 0))), (4, .one (.pt 1 0 0 0)), (5, vk .u64 y4), (16, vi (4 : Int))] [.box (qa1726 p1 p2 y1 y2 y3), .box qa1722] (zd (XR.one (zq fun K35 hK35 => ?_)))
   refine zr (zg [2, 4] 1 [2,3,4,5,16,17] (zd (hK35 _ _ (zq fun K36 hK36 => zc false (fun hx => by cases hx) (fun _ => ?_)))))
   refine zx 0 (hQ1 _ _ _ (hK9 _ _ (zq fun K37 hK37 => zr (zg [2, 4] 2 [4] (zd (hK37 _ _ ?_))))))
   refine ze ?_
   obtain rfl := Option.some.inj h
   exact zf [.ag (qa1726 p1 p2 y1 y2 y3)] (.ag (.cons (.rfl _ rfl) (.cons (.rfl _ rfl) (.cons (.rfl _ rfl) (.cons (.rfl _ rfl) (.cons (.rfl _ rfl) .nil))))))

end

def value_wide_quo_j2 (rec1 : Int → Int → Int → Int → Bool → Int → Int → Int → Int → Int → Option (GWide × GWide)) (x1 : Int) (z11 : Int) (z12 : Int) (z13 : Int) (z14 : Int) (z15 : Bool) (z16 : Int) (z17 : Int) (z18 : Int) (z19 : Int) : Option (GWide × GWide) :=
    rec1 z11 z12 z13 z14 z15 z16 z17 z18 z19 (IntKind.i64.wrap (x1 - (1 : Int)))

def value_wide_quo_j1 (rec1 : Int → Int → Int → Int → Bool → Int → Int → Int → Int → Int → Option (GWide × GWide)) (p2 : GWide) (z1 : Int) (z2 : Int) (z3 : Int) (z4 : Int) (x1 : Int) (r1 : GWide) (z10 : Int) : Option (GWide × GWide) :=
    bnd (value_compareSize (GWide.mk r1.neg (z10, r1.size.2.1, r1.size.2.2.1, r1.size.2.2.2)) (GWide.mk p2.neg (p2.size.1, p2.size.2.1, p2.size.2.2.1, p2.size.2.2.2))) fun r2 =>
    ift (decide ((0 : Int) ≤ r2))
      (bnd (value_wide_minus BIG (GWide.mk false (z10, r1.size.2.1, r1.size.2.2.1, r1.size.2.2.2)) (GWide.mk false (p2.size.1, p2.size.2.1, p2.size.2.2.1, p2.size.2.2.2))) fun r3 =>
       ift ((IntKind.i64.wrap (x1.tdiv (64 : Int))) == (0 : Int))
         (grd (0 ≤ (x1.tmod (64 : Int))) <|
          bnd (some (IntKind.u64.wrap ((1 : Int) * 2 ^ (min (x1.tmod (64 : Int)).toNat (IntKind.u64).bits)))) fun y19 =>
          bnd (some (IntKind.u64.wrap (BitVec.ofInt (IntKind.u64).bits z1 ||| BitVec.ofInt (IntKind.u64).bits y19).toNat)) fun y20 =>
          value_wide_quo_j2 rec1 x1 y20 z2 z3 z4 r3.neg r3.size.1 r3.size.2.1 r3.size.2.2.1 r3.size.2.2.2)
         (ift ((IntKind.i64.wrap (x1.tdiv (64 : Int))) == (1 : Int))
            (grd (0 ≤ (x1.tmod (64 : Int))) <|
             bnd (some (IntKind.u64.wrap ((1 : Int) * 2 ^ (min (x1.tmod (64 : Int)).toNat (IntKind.u64).bits)))) fun y17 =>
             bnd (some (IntKind.u64.wrap (BitVec.ofInt (IntKind.u64).bits z2 ||| BitVec.ofInt (IntKind.u64).bits y17).toNat)) fun y18 =>
             value_wide_quo_j2 rec1 x1 z1 y18 z3 z4 r3.neg r3.size.1 r3.size.2.1 r3.size.2.2.1 r3.size.2.2.2)
            (ift ((IntKind.i64.wrap (x1.tdiv (64 : Int))) == (2 : Int))
               (grd (0 ≤ (x1.tmod (64 : Int))) <|
                bnd (some (IntKind.u64.wrap ((1 : Int) * 2 ^ (min (x1.tmod (64 : Int)).toNat (IntKind.u64).bits)))) fun y15 =>
                bnd (some (IntKind.u64.wrap (BitVec.ofInt (IntKind.u64).bits z3 ||| BitVec.ofInt (IntKind.u64).bits y15).toNat)) fun y16 =>
                value_wide_quo_j2 rec1 x1 z1 z2 y16 z4 r3.neg r3.size.1 r3.size.2.1 r3.size.2.2.1 r3.size.2.2.2)
               (ift ((IntKind.i64.wrap (x1.tdiv (64 : Int))) == (3 : Int))
                  (grd (0 ≤ (x1.tmod (64 : Int))) <|
                   bnd (some (IntKind.u64.wrap ((1 : Int) * 2 ^ (min (x1.tmod (64 : Int)).toNat (IntKind.u64).bits)))) fun y13 =>
                   bnd (some (IntKind.u64.wrap (BitVec.ofInt (IntKind.u64).bits z4 ||| BitVec.ofInt (IntKind.u64).bits y13).toNat)) fun y14 =>
                   value_wide_quo_j2 rec1 x1 z1 z2 z3 y14 r3.neg r3.size.1 r3.size.2.1 r3.size.2.2.1 r3.size.2.2.2)
                  (none)))))
      (value_wide_quo_j2 rec1 x1 z1 z2 z3 z4 r1.neg z10 r1.size.2.1 r1.size.2.2.1 r1.size.2.2.2)

def value_wide_quo_j3 (p1 : GWide) (p2 : GWide) (z20 : Int) (z21 : Int) (z22 : Int) (z23 : Int) (z24 : Bool) (z25 : Int) (z26 : Int) (z27 : Int) (z28 : Int) : Option (GWide × GWide) :=
    some ((GWide.mk (!(p1.neg == p2.neg)) (z20, z21, z22, z23)), (GWide.mk p1.neg (z25, z26, z27, z28)))

def value_wide_quo_l1 (p1 : GWide) (p2 : GWide) : Nat → Int → Int → Int → Int → Bool → Int → Int → Int → Int → Int → Option (GWide × GWide)
  | 0, _, _, _, _, _, _, _, _, _, _ => none
  | k1 + 1, z1, z2, z3, z4, z5, z6, z7, z8, z9, x1 =>
    ift (decide ((0 : Int) ≤ x1))
      (bnd (value_wide_times (GWide.mk z5 (z6, z7, z8, z9)) (2 : Int)) fun r1 =>
       ift ((IntKind.i64.wrap (x1.tdiv (64 : Int))) == (0 : Int))
         (grd (0 ≤ (x1.tmod (64 : Int))) <|
          bnd (some (p1.size.1.fdiv (2 ^ (min (x1.tmod (64 : Int)).toNat (IntKind.u64).bits)))) fun y10 =>
          bnd (some (IntKind.u64.wrap (BitVec.ofInt (IntKind.u64).bits y10 &&& BitVec.ofInt (IntKind.u64).bits (1 : Int)).toNat)) fun y11 =>
          bnd (some (IntKind.u64.wrap (BitVec.ofInt (IntKind.u64).bits r1.size.1 ||| BitVec.ofInt (IntKind.u64).bits y11).toNat)) fun y12 =>
          value_wide_quo_j1 (value_wide_quo_l1 p1 p2 k1) p2 z1 z2 z3 z4 x1 r1 y12)
         (ift ((IntKind.i64.wrap (x1.tdiv (64 : Int))) == (1 : Int))
            (grd (0 ≤ (x1.tmod (64 : Int))) <|
             bnd (some (p1.size.2.1.fdiv (2 ^ (min (x1.tmod (64 : Int)).toNat (IntKind.u64).bits)))) fun y7 =>
             bnd (some (IntKind.u64.wrap (BitVec.ofInt (IntKind.u64).bits y7 &&& BitVec.ofInt (IntKind.u64).bits (1 : Int)).toNat)) fun y8 =>
             bnd (some (IntKind.u64.wrap (BitVec.ofInt (IntKind.u64).bits r1.size.1 ||| BitVec.ofInt (IntKind.u64).bits y8).toNat)) fun y9 =>
             value_wide_quo_j1 (value_wide_quo_l1 p1 p2 k1) p2 z1 z2 z3 z4 x1 r1 y9)
            (ift ((IntKind.i64.wrap (x1.tdiv (64 : Int))) == (2 : Int))
               (grd (0 ≤ (x1.tmod (64 : Int))) <|
                bnd (some (p1.size.2.2.1.fdiv (2 ^ (min (x1.tmod (64 : Int)).toNat (IntKind.u64).bits)))) fun y4 =>
                bnd (some (IntKind.u64.wrap (BitVec.ofInt (IntKind.u64).bits y4 &&& BitVec.ofInt (IntKind.u64).bits (1 : Int)).toNat)) fun y5 =>
                bnd (some (IntKind.u64.wrap (BitVec.ofInt (IntKind.u64).bits r1.size.1 ||| BitVec.ofInt (IntKind.u64).bits y5).toNat)) fun y6 =>
                value_wide_quo_j1 (value_wide_quo_l1 p1 p2 k1) p2 z1 z2 z3 z4 x1 r1 y6)
               (ift ((IntKind.i64.wrap (x1.tdiv (64 : Int))) == (3 : Int))
                  (grd (0 ≤ (x1.tmod (64 : Int))) <|
                   bnd (some (p1.size.2.2.2.fdiv (2 ^ (min (x1.tmod (64 : Int)).toNat (IntKind.u64).bits)))) fun y1 =>
                   bnd (some (IntKind.u64.wrap (BitVec.ofInt (IntKind.u64).bits y1 &&& BitVec.ofInt (IntKind.u64).bits (1 : Int)).toNat)) fun y2 =>
                   bnd (some (IntKind.u64.wrap (BitVec.ofInt (IntKind.u64).bits r1.size.1 ||| BitVec.ofInt (IntKind.u64).bits y2).toNat)) fun y3 =>
                   value_wide_quo_j1 (value_wide_quo_l1 p1 p2 k1) p2 z1 z2 z3 z4 x1 r1 y3)
                  (none)))))
      (value_wide_quo_j3 p1 p2 z1 z2 z3 z4 z5 z6 z7 z8 z9)

def value_wide_quo (p1 : GWide) (p2 : GWide) : Option (GWide × GWide) :=
    value_wide_quo_l1 p1 p2 BIG (0 : Int) (0 : Int) (0 : Int) (0 : Int) false (0 : Int) (0 : Int) (0 : Int) (0 : Int) (255 : Int)

abbrev qa1760 (p1 : GWide) : List PV := [.s (.bool p1.neg), .s (.int .u64 p1.size.1), .s (.int .u64 p1.size.2.1), .s (.int .u64 p1.size.2.2.1), .s (.int .u64 p1.size.2.2.2)]
abbrev qa1761 (p2 : GWide) : List PV := [.s (.bool p2.neg), .s (.int .u64 p2.size.1), .s (.int .u64 p2.size.2.1), .s (.int .u64 p2.size.2.2.1), .s (.int .u64 p2.size.2.2.2)]
abbrev qa1762 : List CV := [cb false, ck .u64 (0 : Int), ck .u64 (0 : Int), ck .u64 (0 : Int), ck .u64 (0 : Int)]
abbrev qa1765 (p1 : GWide) (p2 : GWide) (z20 : Int) (z21 : Int) (z22 : Int) (z23 : Int) : List CV := [cb (!(p1.neg == p2.neg)), ck .u64 z20, ck .u64 z21, ck .u64 z22, ck .u64 z23]
abbrev qa1767 (p1 : GWide) (z25 : Int) (z26 : Int) (z27 : Int) (z28 : Int) : List CV := [cb p1.neg, ck .u64 z25, ck .u64 z26, ck .u64 z27, ck .u64 z28]
abbrev qa1768 (z1 : Int) (z2 : Int) (z3 : Int) (z4 : Int) : List CV := [cb false, ck .u64 z1, ck .u64 z2, ck .u64 z3, ck .u64 z4]
abbrev qa1772 (r1 : GWide) : List CV := [cb r1.neg, ck .u64 r1.size.1, ck .u64 r1.size.2.1, ck .u64 r1.size.2.2.1, ck .u64 r1.size.2.2.2]
abbrev qa1774 (r3 : GWide) : List CV := [cb r3.neg, ck .u64 r3.size.1, ck .u64 r3.size.2.1, ck .u64 r3.size.2.2.1, ck .u64 r3.size.2.2.2]
abbrev qa1777 (p1 : GWide) (p2 : GWide) : Fr := [(2, .one (.pv (.rp [(qa1760 p1)] 0 0))), (3, .one (.pv (.rp [(qa1761 p2)] 0 0))), (4, .one (.pt 0 0 0 0)), (5, .one (.pt 1 0 0 0))]
abbrev qa1780 (p1 : GWide) (p2 : GWide) : Fr := [(57, .one (.pt 0 0 0 0)), (56, vb p1.neg), (55, .one (.pv (.rp [(qa1760 p1)] 0 0))), (54, vb (!(p1.neg == p2.neg))), (53, vb p2.neg), (52, .one (.pv (.rp [(qa1761 p2)] 0 0))), (51, vb p1.neg), (50, .one (.pv (.rp [(qa1760 p1)] 0 0))), (2, .one (.pv (.rp [(qa1760 p1)] 0 0))), (3, .one (.pv (.rp [(qa1761 p2)] 0 0))), (4, .one (.pt 0 0 0 0)), (5, .one (.pt 1 0 0 0))]
abbrev qa1784 (p1 : GWide) (p2 : GWide) (x1 : Int) : Fr := [(2, .one (.pv (.rp [(qa1760 p1)] 0 0))), (3, .one (.pv (.rp [(qa1761 p2)] 0 0))), (4, .one (.pt 0 0 0 0)), (5, .one (.pt 1 0 0 0)), (6, vi x1)]

theorem c_value_wide_quo (p1 : GWide) (p2 : GWide) (r : (GWide × GWide)) (h : value_wide_quo p1 p2 = some r) : PC Tryd.prog 94 [.ag [cb p1.neg, ck .u64 p1.size.1, ck .u64 p1.size.2.1, ck .u64 p1.size.2.2.1, ck .u64 p1.size.2.2.2], .ag [cb p2.neg, ck .u64 p2.size.1, ck .u64 p2.size.2.1, ck .u64 p2.size.2.2.1, ck .u64 p2.size.2.2.2]] (.tp [.ag [cb r.1.neg, ck .u64 r.1.size.1, ck .u64 r.1.size.2.1, ck .u64 r.1.size.2.2.1, ck .u64 r.1.size.2.2.2], .ag [cb r.2.neg, ck .u64 r.2.size.1, ck .u64 r.2.size.2.1, ck .u64 r.2.size.2.2.1, ck .u64 r.2.size.2.2.2]]) := by
 unfold value_wide_quo at h
 refine zF 61 Tryd.f94 (zq fun K1 hK1 => zr ?_)
 refine zv [4, 5] 4 [2,3,4,5] [] (qa1777 p1 p2) [.box qa1762, .box qa1762] ?_
 refine zd (hK1 _ _ (zq fun K2 hK2 => ?_))
 have hJ3 : ∀ (z20 : Int) (z21 : Int) (z22 : Int) (z23 : Int) (z24 : Bool) (z25 : Int) (z26 : Int) (z27 : Int) (z28 : Int), value_wide_quo_j3 p1 p2 z20 z21 z22 z23 z24 z25 z26 z27 z28 = some r → ∀ fr1 st1, Sub 61 0 [] fr1 st1 (qa1777 p1 p2) [.box [cb false, ck .u64 z20, ck .u64 z21, ck .u64 z22, ck .u64 z23], .box [cb z24, ck .u64 z25, ck .u64 z26, ck .u64 z27, ck .u64 z28]] → K2 fr1 st1 := by
  intro z20 z21 z22 z23 z24 z25 z26 z27 z28 h fr1 st1 hS
  unfold value_wide_quo_j3 at h
  refine hK2 _ _ (XW.sub hS ?_)
  refine zq fun K52 hK52 => ?_
  refine XW.drwG 9 [2] [([], []), ([], []), ([], []), ([], []), ([], []), ([], []), ([], []), ([0], []), ([0], [0])] (qa1780 p1 p2) [.box (qa1765 p1 p2 z20 z21 z22 z23), .box [cb z24, ck .u64 z25, ck .u64 z26, ck .u64 z27, ck .u64 z28]] (by kernel_rfl) (by kernel_rfl) ?_ ?_
  ·refine zgv 8 [(qa1760 p1), (qa1761 p2), (qa1760 p1)] (qa1780 p1 p2) ?_
   refine GY.wr [] (qa1780 p1 p2) [0] [.box (qa1765 p1 p2 z20 z21 z22 z23), .box [cb z24, ck .u64 z25, ck .u64 z26, ck .u64 z27, ck .u64 z28]] [] (by kernel_rfl) (by kernel_rfl) trivial ?_
   exact GY.done (by kernel_rfl) (by kernel_rfl)
  refine zv [4, 5] 2 [4,5] [] [(4, .one (.pt 0 0 0 0)), (5, .one (.pt 1 0 0 0))] [.box (qa1765 p1 p2 z20 z21 z22 z23), .box (qa1767 p1 z25 z26 z27 z28)] (zd (hK52 _ _ (zq fun K53 hK53 => ?_)))
  refine XW.drwG 3 [2] [([0], []), ([1], []), ([0], [0])] [(60, .ag (qa1767 p1 z25 z26 z27 z28)), (59, .ag (qa1765 p1 p2 z20 z21 z22 z23)), (4, .one (.pt 0 0 0 0)), (5, .one (.pt 1 0 0 0))] [.box (qa1765 p1 p2 z20 z21 z22 z23), .box (qa1767 p1 z25 z26 z27 z28)] (by kernel_rfl) (by kernel_rfl) ?_ ?_
  ·refine zgv 2 [] [(60, .ag (qa1767 p1 z25 z26 z27 z28)), (59, .ag (qa1765 p1 p2 z20 z21 z22 z23)), (4, .one (.pt 0 0 0 0)), (5, .one (.pt 1 0 0 0))] ?_
   exact GY.wr [] [(60, .ag (qa1767 p1 z25 z26 z27 z28)), (59, .ag (qa1765 p1 p2 z20 z21 z22 z23)), (4, .one (.pt 0 0 0 0)), (5, .one (.pt 1 0 0 0))] [0] [.box (qa1765 p1 p2 z20 z21 z22 z23), .box (qa1767 p1 z25 z26 z27 z28)] [] (by kernel_rfl) (by kernel_rfl) trivial (GY.done (by kernel_rfl) (by kernel_rfl))
  refine zg [4, 5] 1 [4,5] (zd (hK53 _ _ (ze ?_)))
  obtain rfl := Option.some.inj h
  exact zf [.ag (qa1765 p1 p2 z20 z21 z22 z23), .ag (qa1767 p1 z25 z26 z27 z28)] (.tpc (.ag (.cons (.rfl _ rfl) (.cons (.rfl _ rfl) (.cons (.rfl _ rfl) (.cons (.rfl _ rfl) (.cons (.rfl _ rfl) .nil)))))) (.tpc (.ag (.cons (.rfl _ rfl) (.cons (.rfl _ rfl) (.cons (.rfl _ rfl) (.cons (.rfl _ rfl) (.cons (.rfl _ rfl) .nil)))))) (.tp0)))
 refine zq fun K3 hK3 => zr (zg [4, 5] 1 [2,3,4,5,6] (zd (hK3 _ _ (zb 0 (XW.rounds' BIG (x := cd Tryd.f94 [1,0,1,0,0]) (by kernel_rfl) fun Q1 hQ1 => ?_)))))
 have hL1 : ∀ (k1 : Nat) (z1 : Int) (z2 : Int) (z3 : Int) (z4 : Int) (z5 : Bool) (z6 : Int) (z7 : Int) (z8 : Int) (z9 : Int) (x1 : Int), value_wide_quo_l1 p1 p2 k1 z1 z2 z3 z4 z5 z6 z7 z8 z9 x1 = some r → XR Tryd.prog 61 0 [] (cd Tryd.f94 [1,0,1,0,0]) Q1 k1 (qa1784 p1 p2 x1) [.box (qa1768 z1 z2 z3 z4), .box [cb z5, ck .u64 z6, ck .u64 z7, ck .u64 z8, ck .u64 z9]] := by
  intro k1
  induction k1 with
  | zero => intro z1 z2 z3 z4 z5 z6 z7 z8 z9 x1 h; rw [value_wide_quo_l1.eq_1] at h; cases h
  | succ k1 ih1 =>
   intro z1 z2 z3 z4 z5 z6 z7 z8 z9 x1 h
   rw [value_wide_quo_l1.eq_2] at h
   refine zq fun K4 hK4 => zq fun K5 hK5 => zr (zg [4, 5] 2 [2,3,4,5,6,8] (zd (hK5 _ _ (zC h (fun b6 h => ?_) (fun b6 h => ?_)))))
   ·refine zs (hK4 _ _ (zq fun K7 hK7 => ?_))
    have hJ2 : ∀ (z11 : Int) (z12 : Int) (z13 : Int) (z14 : Int) (z15 : Bool) (z16 : Int) (z17 : Int) (z18 : Int) (z19 : Int), value_wide_quo_j2 (value_wide_quo_l1 p1 p2 k1) x1 z11 z12 z13 z14 z15 z16 z17 z18 z19 = some r → ∀ fr1 st1, Sub 61 0 [] fr1 st1 (qa1784 p1 p2 x1) [.box [cb false, ck .u64 z11, ck .u64 z12, ck .u64 z13, ck .u64 z14], .box [cb z15, ck .u64 z16, ck .u64 z17, ck .u64 z18, ck .u64 z19]] → K7 fr1 st1 := by
     intro z11 z12 z13 z14 z15 z16 z17 z18 z19 h fr1 st1 hS
     unfold value_wide_quo_j2 at h
     refine hK7 _ _ (XW.sub hS ?_)
     exact zr (zg [4, 5] 3 [2,3,4,5,6] (zd (XR.sub (zk [2,3,4,5,6]) (ih1 z11 z12 z13 z14 z15 z16 z17 z18 z19 (IntKind.i64.wrap (x1 - (1 : Int))) h))))
    refine zb 1 (zq fun K8 hK8 => ?_)
    obtain ⟨r1, c9, h⟩ := zB h
    refine zr (zg [4, 5] 1 [2,3,4,5,6,11] ?_)
    refine zl 96 [.ag [cb z5, ck .u64 z6, ck .u64 z7, ck .u64 z8, ck .u64 z9], vk .u64 (2 : Int)] (.ag (qa1772 r1)) [(12, .ag (qa1772 r1)), (2, .one (.pv (.rp [(qa1760 p1)] 0 0))), (3, .one (.pv (.rp [(qa1761 p2)] 0 0))), (4, .one (.pt 0 0 0 0)), (5, .one (.pt 1 0 0 0)), (6, vi x1), (11, .ag [cb z5, ck .u64 z6, ck .u64 z7, ck .u64 z8, ck .u64 z9])] (c_value_wide_times _ _ _ c9) ?_
    refine zg [4, 5] 1 [2,3,4,5,6] (zd (hK8 _ _ (zq fun K10 hK10 => ?_)))
    have hJ1 : ∀ (z10 : Int), value_wide_quo_j1 (value_wide_quo_l1 p1 p2 k1) p2 z1 z2 z3 z4 x1 r1 z10 = some r → ∀ fr1 st1, Sub 61 0 [] fr1 st1 (qa1784 p1 p2 x1) [.box (qa1768 z1 z2 z3 z4), .box [cb r1.neg, ck .u64 z10, ck .u64 r1.size.2.1, ck .u64 r1.size.2.2.1, ck .u64 r1.size.2.2.2]] → K10 fr1 st1 := by
     intro z10 h fr1 st1 hS
     unfold value_wide_quo_j1 at h
     refine hK10 _ _ (XW.sub hS ?_)
     refine zq fun K31 hK31 => ?_
     obtain ⟨r2, c32, h⟩ := zB h
     refine zr (zu [4, 5] 2 [2,3,4,5,6,28,29] [(qa1761 p2)] (za (c_value_compareSize _ _ _ c32) ?_))
     refine zv [4, 5] 1 [2,3,4,5,6,31] [] [(2, .one (.pv (.rp [(qa1760 p1)] 0 0))), (3, .one (.pv (.rp [(qa1761 p2)] 0 0))), (4, .one (.pt 0 0 0 0)), (5, .one (.pt 1 0 0 0)), (6, vi x1), (31, vb (decide ((0 : Int) ≤ r2)))] [.box (qa1768 z1 z2 z3 z4), .box [cb r1.neg, ck .u64 z10, ck .u64 r1.size.2.1, ck .u64 r1.size.2.2.1, ck .u64 r1.size.2.2.2]] ?_
     refine zd (hK31 _ _ (zC h (fun b33 h => ?_) (fun b33 h => ?_)))
     ·refine zq fun K34 hK34 => ?_
      obtain ⟨r3, c35, h⟩ := zB h
      refine zr (zu [4, 5] 6 [2,3,4,5,6,34,37] [(qa1761 p2)] (za (c_value_wide_minus BIG _ _ _ c35) ?_))
      refine zv [4, 5] 1 [2,3,4,5,6] [] (qa1784 p1 p2 x1) [.box (qa1768 z1 z2 z3 z4), .box (qa1774 r3)] ?_
      refine zd (hK34 _ _ ?_)
      rcases zW h with ⟨b48, h⟩ | ⟨b48, h⟩
      ·obtain ⟨g49, h⟩ := zG h
       obtain ⟨y19, hy50, h⟩ := zB h
       obtain ⟨y20, hy51, h⟩ := zB h
       refine zw 10 [(48, .one (.pt 0 0 0 1)), (47, vk .u64 y20), (46, vk .u64 y19), (45, vi (x1.tmod (64 : Int))), (44, vi x1), (43, vk .u64 z1), (42, .one (.pt 0 0 0 1)), (41, .one (.pt 0 0 0 1)), (40, vi (0 : Int)), (39, vi x1), (2, .one (.pv (.rp [(qa1760 p1)] 0 0))), (3, .one (.pv (.rp [(qa1761 p2)] 0 0))), (4, .one (.pt 0 0 0 0)), (5, .one (.pt 1 0 0 0)), (6, vi x1)] ?_ ?_
       ·refine zyp 3 [] [(41, .one (.pt 0 0 0 1)), (40, vi (IntKind.i64.wrap (x1.tdiv (64 : Int)))), (39, vi x1), (2, .one (.pv (.rp [[.s (.bool p1.neg), .s (.int .u64 p1.size.1), .s (.int .u64 p1.size.2.1), .s (.int .u64 p1.size.2.2.1), .s (.int .u64 p1.size.2.2.2)]] 0 0))), (3, .one (.pv (.rp [[.s (.bool p2.neg), .s (.int .u64 p2.size.1), .s (.int .u64 p2.size.2.1), .s (.int .u64 p2.size.2.2.1), .s (.int .u64 p2.size.2.2.2)]] 0 0))), (4, .one (.pt 0 0 0 0)), (5, .one (.pt 1 0 0 0)), (6, vi x1)] [(64 : Int) ≠ 0] (⟨by decide, trivial⟩) ?_
        refine DX.eq (fr1 := [(41, .one (.pt 0 0 0 1)), (40, vi (0 : Int)), (39, vi x1), (2, .one (.pv (.rp [[.s (.bool p1.neg), .s (.int .u64 p1.size.1), .s (.int .u64 p1.size.2.1), .s (.int .u64 p1.size.2.2.1), .s (.int .u64 p1.size.2.2.2)]] 0 0))), (3, .one (.pv (.rp [[.s (.bool p2.neg), .s (.int .u64 p2.size.1), .s (.int .u64 p2.size.2.1), .s (.int .u64 p2.size.2.2.1), .s (.int .u64 p2.size.2.2.2)]] 0 0))), (4, .one (.pt 0 0 0 0)), (5, .one (.pt 1 0 0 0)), (6, vi x1)]) (by rw [eq_of_beq b48]) ?_
        refine zyp 5 [] [(46, vk .u64 (IntKind.u64.wrap ((1 : Int) * 2 ^ (min (x1.tmod (64 : Int)).toNat (IntKind.u64).bits)))), (45, vi (x1.tmod (64 : Int))), (44, vi x1), (43, vk .u64 z1), (42, .one (.pt 0 0 0 1)), (41, .one (.pt 0 0 0 1)), (40, vi (0 : Int)), (39, vi x1), (2, .one (.pv (.rp [[.s (.bool p1.neg), .s (.int .u64 p1.size.1), .s (.int .u64 p1.size.2.1), .s (.int .u64 p1.size.2.2.1), .s (.int .u64 p1.size.2.2.2)]] 0 0))), (3, .one (.pv (.rp [[.s (.bool p2.neg), .s (.int .u64 p2.size.1), .s (.int .u64 p2.size.2.1), .s (.int .u64 p2.size.2.2.1), .s (.int .u64 p2.size.2.2.2)]] 0 0))), (4, .one (.pt 0 0 0 0)), (5, .one (.pt 1 0 0 0)), (6, vi x1)] [0 ≤ (0 : Int) ∧ (0 : Int) < 4, (64 : Int) ≠ 0, 0 ≤ (x1.tmod (64 : Int))] (⟨by decide, by decide, g49, trivial⟩) ?_
        rw [show (IntKind.u64.wrap ((1 : Int) * 2 ^ (min (x1.tmod (64 : Int)).toNat (IntKind.u64).bits))) = y19 from Option.some.inj hy50]
        refine zyv 1 [] [(47, vk .u64 (IntKind.u64.wrap (BitVec.ofInt (IntKind.u64).bits z1 ||| BitVec.ofInt (IntKind.u64).bits y19).toNat)), (46, vk .u64 y19), (45, vi (x1.tmod (64 : Int))), (44, vi x1), (43, vk .u64 z1), (42, .one (.pt 0 0 0 1)), (41, .one (.pt 0 0 0 1)), (40, vi (0 : Int)), (39, vi x1), (2, .one (.pv (.rp [[.s (.bool p1.neg), .s (.int .u64 p1.size.1), .s (.int .u64 p1.size.2.1), .s (.int .u64 p1.size.2.2.1), .s (.int .u64 p1.size.2.2.2)]] 0 0))), (3, .one (.pv (.rp [[.s (.bool p2.neg), .s (.int .u64 p2.size.1), .s (.int .u64 p2.size.2.1), .s (.int .u64 p2.size.2.2.1), .s (.int .u64 p2.size.2.2.2)]] 0 0))), (4, .one (.pt 0 0 0 0)), (5, .one (.pt 1 0 0 0)), (6, vi x1)] ?_
        rw [show (IntKind.u64.wrap (BitVec.ofInt (IntKind.u64).bits z1 ||| BitVec.ofInt (IntKind.u64).bits y19).toNat) = y20 from Option.some.inj hy51]
        exact zyg 1 zyd
       exact zo [4, 5] 2 [2,3,4,5,6] [] [0 ≤ (0 : Int) ∧ (0 : Int) < 4] (⟨by decide, trivial⟩) (zd (hJ2 y20 z2 z3 z4 r3.neg r3.size.1 r3.size.2.1 r3.size.2.2.1 r3.size.2.2.2 h _ _ (zk [2,3,4,5,6])))
      ·rcases zW h with ⟨b44, h⟩ | ⟨b44, h⟩
       ·obtain ⟨g45, h⟩ := zG h
        obtain ⟨y17, hy46, h⟩ := zB h
        obtain ⟨y18, hy47, h⟩ := zB h
        refine zw 10 [(48, .one (.pt 0 0 0 1)), (47, vk .u64 y18), (46, vk .u64 y17), (45, vi (x1.tmod (64 : Int))), (44, vi x1), (43, vk .u64 z2), (42, .one (.pt 0 0 0 2)), (41, .one (.pt 0 0 0 1)), (40, vi (1 : Int)), (39, vi x1), (2, .one (.pv (.rp [(qa1760 p1)] 0 0))), (3, .one (.pv (.rp [(qa1761 p2)] 0 0))), (4, .one (.pt 0 0 0 0)), (5, .one (.pt 1 0 0 0)), (6, vi x1)] ?_ ?_
        ·refine zyp 3 [] [(41, .one (.pt 0 0 0 1)), (40, vi (IntKind.i64.wrap (x1.tdiv (64 : Int)))), (39, vi x1), (2, .one (.pv (.rp [[.s (.bool p1.neg), .s (.int .u64 p1.size.1), .s (.int .u64 p1.size.2.1), .s (.int .u64 p1.size.2.2.1), .s (.int .u64 p1.size.2.2.2)]] 0 0))), (3, .one (.pv (.rp [[.s (.bool p2.neg), .s (.int .u64 p2.size.1), .s (.int .u64 p2.size.2.1), .s (.int .u64 p2.size.2.2.1), .s (.int .u64 p2.size.2.2.2)]] 0 0))), (4, .one (.pt 0 0 0 0)), (5, .one (.pt 1 0 0 0)), (6, vi x1)] [(64 : Int) ≠ 0] (⟨by decide, trivial⟩) ?_
         refine DX.eq (fr1 := [(41, .one (.pt 0 0 0 1)), (40, vi (1 : Int)), (39, vi x1), (2, .one (.pv (.rp [[.s (.bool p1.neg), .s (.int .u64 p1.size.1), .s (.int .u64 p1.size.2.1), .s (.int .u64 p1.size.2.2.1), .s (.int .u64 p1.size.2.2.2)]] 0 0))), (3, .one (.pv (.rp [[.s (.bool p2.neg), .s (.int .u64 p2.size.1), .s (.int .u64 p2.size.2.1), .s (.int .u64 p2.size.2.2.1), .s (.int .u64 p2.size.2.2.2)]] 0 0))), (4, .one (.pt 0 0 0 0)), (5, .one (.pt 1 0 0 0)), (6, vi x1)]) (by rw [eq_of_beq b44]) ?_
         refine zyp 5 [] [(46, vk .u64 (IntKind.u64.wrap ((1 : Int) * 2 ^ (min (x1.tmod (64 : Int)).toNat (IntKind.u64).bits)))), (45, vi (x1.tmod (64 : Int))), (44, vi x1), (43, vk .u64 z2), (42, .one (.pt 0 0 0 2)), (41, .one (.pt 0 0 0 1)), (40, vi (1 : Int)), (39, vi x1), (2, .one (.pv (.rp [[.s (.bool p1.neg), .s (.int .u64 p1.size.1), .s (.int .u64 p1.size.2.1), .s (.int .u64 p1.size.2.2.1), .s (.int .u64 p1.size.2.2.2)]] 0 0))), (3, .one (.pv (.rp [[.s (.bool p2.neg), .s (.int .u64 p2.size.1), .s (.int .u64 p2.size.2.1), .s (.int .u64 p2.size.2.2.1), .s (.int .u64 p2.size.2.2.2)]] 0 0))), (4, .one (.pt 0 0 0 0)), (5, .one (.pt 1 0 0 0)), (6, vi x1)] [0 ≤ (1 : Int) ∧ (1 : Int) < 4, (64 : Int) ≠ 0, 0 ≤ (x1.tmod (64 : Int))] (⟨by decide, by decide, g45, trivial⟩) ?_
         rw [show (IntKind.u64.wrap ((1 : Int) * 2 ^ (min (x1.tmod (64 : Int)).toNat (IntKind.u64).bits))) = y17 from Option.some.inj hy46]
         refine zyv 1 [] [(47, vk .u64 (IntKind.u64.wrap (BitVec.ofInt (IntKind.u64).bits z2 ||| BitVec.ofInt (IntKind.u64).bits y17).toNat)), (46, vk .u64 y17), (45, vi (x1.tmod (64 : Int))), (44, vi x1), (43, vk .u64 z2), (42, .one (.pt 0 0 0 2)), (41, .one (.pt 0 0 0 1)), (40, vi (1 : Int)), (39, vi x1), (2, .one (.pv (.rp [[.s (.bool p1.neg), .s (.int .u64 p1.size.1), .s (.int .u64 p1.size.2.1), .s (.int .u64 p1.size.2.2.1), .s (.int .u64 p1.size.2.2.2)]] 0 0))), (3, .one (.pv (.rp [[.s (.bool p2.neg), .s (.int .u64 p2.size.1), .s (.int .u64 p2.size.2.1), .s (.int .u64 p2.size.2.2.1), .s (.int .u64 p2.size.2.2.2)]] 0 0))), (4, .one (.pt 0 0 0 0)), (5, .one (.pt 1 0 0 0)), (6, vi x1)] ?_
         rw [show (IntKind.u64.wrap (BitVec.ofInt (IntKind.u64).bits z2 ||| BitVec.ofInt (IntKind.u64).bits y17).toNat) = y18 from Option.some.inj hy47]
         exact zyg 1 zyd
        exact zo [4, 5] 2 [2,3,4,5,6] [] [0 ≤ (1 : Int) ∧ (1 : Int) < 4] (⟨by decide, trivial⟩) (zd (hJ2 z1 y18 z3 z4 r3.neg r3.size.1 r3.size.2.1 r3.size.2.2.1 r3.size.2.2.2 h _ _ (zk [2,3,4,5,6])))
       ·rcases zW h with ⟨b40, h⟩ | ⟨b40, h⟩
        ·obtain ⟨g41, h⟩ := zG h
         obtain ⟨y15, hy42, h⟩ := zB h
         obtain ⟨y16, hy43, h⟩ := zB h
         refine zw 10 [(48, .one (.pt 0 0 0 1)), (47, vk .u64 y16), (46, vk .u64 y15), (45, vi (x1.tmod (64 : Int))), (44, vi x1), (43, vk .u64 z3), (42, .one (.pt 0 0 0 3)), (41, .one (.pt 0 0 0 1)), (40, vi (2 : Int)), (39, vi x1), (2, .one (.pv (.rp [(qa1760 p1)] 0 0))), (3, .one (.pv (.rp [(qa1761 p2)] 0 0))), (4, .one (.pt 0 0 0 0)), (5, .one (.pt 1 0 0 0)), (6, vi x1)] ?_ ?_
         ·refine zyp 3 [] [(41, .one (.pt 0 0 0 1)), (40, vi (IntKind.i64.wrap (x1.tdiv (64 : Int)))), (39, vi x1), (2, .one (.pv (.rp [[.s (.bool p1.neg), .s (.int .u64 p1.size.1), .s (.int .u64 p1.size.2.1), .s (.int .u64 p1.size.2.2.1), .s (.int .u64 p1.size.2.2.2)]] 0 0))), (3, .one (.pv (.rp [[.s (.bool p2.neg), .s (.int .u64 p2.size.1), .s (.int .u64 p2.size.2.1), .s (.int .u64 p2.size.2.2.1), .s (.int .u64 p2.size.2.2.2)]] 0 0))), (4, .one (.pt 0 0 0 0)), (5, .one (.pt 1 0 0 0)), (6, vi x1)] [(64 : Int) ≠ 0] (⟨by decide, trivial⟩) ?_
          refine DX.eq (fr1 := [(41, .one (.pt 0 0 0 1)), (40, vi (2 : Int)), (39, vi x1), (2, .one (.pv (.rp [[.s (.bool p1.neg), .s (.int .u64 p1.size.1), .s (.int .u64 p1.size.2.1), .s (.int .u64 p1.size.2.2.1), .s (.int .u64 p1.size.2.2.2)]] 0 0))), (3, .one (.pv (.rp [[.s (.bool p2.neg), .s (.int .u64 p2.size.1), .s (.int .u64 p2.size.2.1), .s (.int .u64 p2.size.2.2.1), .s (.int .u64 p2.size.2.2.2)]] 0 0))), (4, .one (.pt 0 0 0 0)), (5, .one (.pt 1 0 0 0)), (6, vi x1)]) (by rw [eq_of_beq b40]) ?_
          refine zyp 5 [] [(46, vk .u64 (IntKind.u64.wrap ((1 : Int) * 2 ^ (min (x1.tmod (64 : Int)).toNat (IntKind.u64).bits)))), (45, vi (x1.tmod (64 : Int))), (44, vi x1), (43, vk .u64 z3), (42, .one (.pt 0 0 0 3)), (41, .one (.pt 0 0 0 1)), (40, vi (2 : Int)), (39, vi x1), (2, .one (.pv (.rp [[.s (.bool p1.neg), .s (.int .u64 p1.size.1), .s (.int .u64 p1.size.2.1), .s (.int .u64 p1.size.2.2.1), .s (.int .u64 p1.size.2.2.2)]] 0 0))), (3, .one (.pv (.rp [[.s (.bool p2.neg), .s (.int .u64 p2.size.1), .s (.int .u64 p2.size.2.1), .s (.int .u64 p2.size.2.2.1), .s (.int .u64 p2.size.2.2.2)]] 0 0))), (4, .one (.pt 0 0 0 0)), (5, .one (.pt 1 0 0 0)), (6, vi x1)] [0 ≤ (2 : Int) ∧ (2 : Int) < 4, (64 : Int) ≠ 0, 0 ≤ (x1.tmod (64 : Int))] (⟨by decide, by decide, g41, trivial⟩) ?_
          rw [show (IntKind.u64.wrap ((1 : Int) * 2 ^ (min (x1.tmod (64 : Int)).toNat (IntKind.u64).bits))) = y15 from Option.some.inj hy42]
          refine zyv 1 [] [(47, vk .u64 (IntKind.u64.wrap (BitVec.ofInt (IntKind.u64).bits z3 ||| BitVec.ofInt (IntKind.u64).bits y15).toNat)), (46, vk .u64 y15), (45, vi (x1.tmod (64 : Int))), (44, vi x1), (43, vk .u64 z3), (42, .one (.pt 0 0 0 3)), (41, .one (.pt 0 0 0 1)), (40, vi (2 : Int)), (39, vi x1), (2, .one (.pv (.rp [[.s (.bool p1.neg), .s (.int .u64 p1.size.1), .s (.int .u64 p1.size.2.1), .s (.int .u64 p1.size.2.2.1), .s (.int .u64 p1.size.2.2.2)]] 0 0))), (3, .one (.pv (.rp [[.s (.bool p2.neg), .s (.int .u64 p2.size.1), .s (.int .u64 p2.size.2.1), .s (.int .u64 p2.size.2.2.1), .s (.int .u64 p2.size.2.2.2)]] 0 0))), (4, .one (.pt 0 0 0 0)), (5, .one (.pt 1 0 0 0)), (6, vi x1)] ?_
          rw [show (IntKind.u64.wrap (BitVec.ofInt (IntKind.u64).bits z3 ||| BitVec.ofInt (IntKind.u64).bits y15).toNat) = y16 from Option.some.inj hy43]
          exact zyg 1 zyd
         refine zp [4, 5] 2 [2,3,4,5,6] [] (qa1784 p1 p2 x1) [.box [cb false, ck .u64 z1, ck .u64 z2, ck .u64 y16, ck .u64 z4], .box (qa1774 r3)] [0 ≤ (2 : Int) ∧ (2 : Int) < 4] (⟨by decide, trivial⟩) ?_
         exact zd (hJ2 z1 z2 y16 z4 r3.neg r3.size.1 r3.size.2.1 r3.size.2.2.1 r3.size.2.2.2 h _ _ (zk [2,3,4,5,6]))
        ·rcases zW h with ⟨b36, h⟩ | ⟨b36, h⟩
         ·obtain ⟨g37, h⟩ := zG h
          obtain ⟨y13, hy38, h⟩ := zB h
          obtain ⟨y14, hy39, h⟩ := zB h
          refine zw 10 [(48, .one (.pt 0 0 0 1)), (47, vk .u64 y14), (46, vk .u64 y13), (45, vi (x1.tmod (64 : Int))), (44, vi x1), (43, vk .u64 z4), (42, .one (.pt 0 0 0 4)), (41, .one (.pt 0 0 0 1)), (40, vi (3 : Int)), (39, vi x1), (2, .one (.pv (.rp [(qa1760 p1)] 0 0))), (3, .one (.pv (.rp [(qa1761 p2)] 0 0))), (4, .one (.pt 0 0 0 0)), (5, .one (.pt 1 0 0 0)), (6, vi x1)] ?_ ?_
          ·refine zyp 3 [] [(41, .one (.pt 0 0 0 1)), (40, vi (IntKind.i64.wrap (x1.tdiv (64 : Int)))), (39, vi x1), (2, .one (.pv (.rp [[.s (.bool p1.neg), .s (.int .u64 p1.size.1), .s (.int .u64 p1.size.2.1), .s (.int .u64 p1.size.2.2.1), .s (.int .u64 p1.size.2.2.2)]] 0 0))), (3, .one (.pv (.rp [[.s (.bool p2.neg), .s (.int .u64 p2.size.1), .s (.int .u64 p2.size.2.1), .s (.int .u64 p2.size.2.2.1), .s (.int .u64 p2.size.2.2.2)]] 0 0))), (4, .one (.pt 0 0 0 0)), (5, .one (.pt 1 0 0 0)), (6, vi x1)] [(64 : Int) ≠ 0] (⟨by decide, trivial⟩) ?_
           refine DX.eq (fr1 := [(41, .one (.pt 0 0 0 1)), (40, vi (3 : Int)), (39, vi x1), (2, .one (.pv (.rp [[.s (.bool p1.neg), .s (.int .u64 p1.size.1), .s (.int .u64 p1.size.2.1), .s (.int .u64 p1.size.2.2.1), .s (.int .u64 p1.size.2.2.2)]] 0 0))), (3, .one (.pv (.rp [[.s (.bool p2.neg), .s (.int .u64 p2.size.1), .s (.int .u64 p2.size.2.1), .s (.int .u64 p2.size.2.2.1), .s (.int .u64 p2.size.2.2.2)]] 0 0))), (4, .one (.pt 0 0 0 0)), (5, .one (.pt 1 0 0 0)), (6, vi x1)]) (by rw [eq_of_beq b36]) ?_
           refine zyp 5 [] [(46, vk .u64 (IntKind.u64.wrap ((1 : Int) * 2 ^ (min (x1.tmod (64 : Int)).toNat (IntKind.u64).bits)))), (45, vi (x1.tmod (64 : Int))), (44, vi x1), (43, vk .u64 z4), (42, .one (.pt 0 0 0 4)), (41, .one (.pt 0 0 0 1)), (40, vi (3 : Int)), (39, vi x1), (2, .one (.pv (.rp [[.s (.bool p1.neg), .s (.int .u64 p1.size.1), .s (.int .u64 p1.size.2.1), .s (.int .u64 p1.size.2.2.1), .s (.int .u64 p1.size.2.2.2)]] 0 0))), (3, .one (.pv (.rp [[.s (.bool p2.neg), .s (.int .u64 p2.size.1), .s (.int .u64 p2.size.2.1), .s (.int .u64 p2.size.2.2.1), .s (.int .u64 p2.size.2.2.2)]] 0 0))), (4, .one (.pt 0 0 0 0)), (5, .one (.pt 1 0 0 0)), (6, vi x1)] [0 ≤ (3 : Int) ∧ (3 : Int) < 4, (64 : Int) ≠ 0, 0 ≤ (x1.tmod (64 : Int))] (⟨by decide, by decide, g37, trivial⟩) ?_
           rw [show (IntKind.u64.wrap ((1 : Int) * 2 ^ (min (x1.tmod (64 : Int)).toNat (IntKind.u64).bits))) = y13 from Option.some.inj hy38]
           refine zyv 1 [] [(47, vk .u64 (IntKind.u64.wrap (BitVec.ofInt (IntKind.u64).bits z4 ||| BitVec.ofInt (IntKind.u64).bits y13).toNat)), (46, vk .u64 y13), (45, vi (x1.tmod (64 : Int))), (44, vi x1), (43, vk .u64 z4), (42, .one (.pt 0 0 0 4)), (41, .one (.pt 0 0 0 1)), (40, vi (3 : Int)), (39, vi x1), (2, .one (.pv (.rp [[.s (.bool p1.neg), .s (.int .u64 p1.size.1), .s (.int .u64 p1.size.2.1), .s (.int .u64 p1.size.2.2.1), .s (.int .u64 p1.size.2.2.2)]] 0 0))), (3, .one (.pv (.rp [[.s (.bool p2.neg), .s (.int .u64 p2.size.1), .s (.int .u64 p2.size.2.1), .s (.int .u64 p2.size.2.2.1), .s (.int .u64 p2.size.2.2.2)]] 0 0))), (4, .one (.pt 0 0 0 0)), (5, .one (.pt 1 0 0 0)), (6, vi x1)] ?_
           rw [show (IntKind.u64.wrap (BitVec.ofInt (IntKind.u64).bits z4 ||| BitVec.ofInt (IntKind.u64).bits y13).toNat) = y14 from Option.some.inj hy39]
           exact zyg 1 zyd
          exact zo [4, 5] 2 [2,3,4,5,6] [] [0 ≤ (3 : Int) ∧ (3 : Int) < 4] (⟨by decide, trivial⟩) (zd (hJ2 z1 z2 z3 y14 r3.neg r3.size.1 r3.size.2.1 r3.size.2.2.1 r3.size.2.2.2 h _ _ (zk [2,3,4,5,6])))
         ·cases h
     ·exact zs (hJ2 z1 z2 z3 z4 r1.neg z10 r1.size.2.1 r1.size.2.2.1 r1.size.2.2.2 h _ _ (zk [2,3,4,5,6]))
    rcases zW h with ⟨b26, h⟩ | ⟨b26, h⟩
    ·obtain ⟨g27, h⟩ := zG h
     obtain ⟨y10, hy28, h⟩ := zB h
     obtain ⟨y11, hy29, h⟩ := zB h
     obtain ⟨y12, hy30, h⟩ := zB h
     refine zw 14 [(26, .one (.pt 1 0 0 1)), (25, vk .u64 y12), (24, vk .u64 y11), (23, vk .u64 y10), (22, vi (x1.tmod (64 : Int))), (21, vi x1), (20, vk .u64 p1.size.1), (19, .one (.pv (.rp [(qa1760 p1)] 0 1))), (18, .one (.pv (.rp [(qa1760 p1)] 0 1))), (17, vi (0 : Int)), (16, vi x1), (15, vk .u64 r1.size.1), (14, .one (.pt 1 0 0 1)), (13, .one (.pt 1 0 0 1)), (2, .one (.pv (.rp [(qa1760 p1)] 0 0))), (3, .one (.pv (.rp [(qa1761 p2)] 0 0))), (4, .one (.pt 0 0 0 0)), (5, .one (.pt 1 0 0 0)), (6, vi x1)] ?_ ?_
     ·refine zyp 6 [] [(18, .one (.pv (.rp [[.s (.bool p1.neg), .s (.int .u64 p1.size.1), .s (.int .u64 p1.size.2.1), .s (.int .u64 p1.size.2.2.1), .s (.int .u64 p1.size.2.2.2)]] 0 1))), (17, vi (IntKind.i64.wrap (x1.tdiv (64 : Int)))), (16, vi x1), (15, vk .u64 r1.size.1), (14, .one (.pt 1 0 0 1)), (13, .one (.pt 1 0 0 1)), (2, .one (.pv (.rp [[.s (.bool p1.neg), .s (.int .u64 p1.size.1), .s (.int .u64 p1.size.2.1), .s (.int .u64 p1.size.2.2.1), .s (.int .u64 p1.size.2.2.2)]] 0 0))), (3, .one (.pv (.rp [[.s (.bool p2.neg), .s (.int .u64 p2.size.1), .s (.int .u64 p2.size.2.1), .s (.int .u64 p2.size.2.2.1), .s (.int .u64 p2.size.2.2.2)]] 0 0))), (4, .one (.pt 0 0 0 0)), (5, .one (.pt 1 0 0 0)), (6, vi x1)] [0 ≤ (0 : Int) ∧ (0 : Int) < 4, (64 : Int) ≠ 0] (⟨by decide, by decide, trivial⟩) ?_
      refine DX.eq (fr1 := [(18, .one (.pv (.rp [[.s (.bool p1.neg), .s (.int .u64 p1.size.1), .s (.int .u64 p1.size.2.1), .s (.int .u64 p1.size.2.2.1), .s (.int .u64 p1.size.2.2.2)]] 0 1))), (17, vi (0 : Int)), (16, vi x1), (15, vk .u64 r1.size.1), (14, .one (.pt 1 0 0 1)), (13, .one (.pt 1 0 0 1)), (2, .one (.pv (.rp [[.s (.bool p1.neg), .s (.int .u64 p1.size.1), .s (.int .u64 p1.size.2.1), .s (.int .u64 p1.size.2.2.1), .s (.int .u64 p1.size.2.2.2)]] 0 0))), (3, .one (.pv (.rp [[.s (.bool p2.neg), .s (.int .u64 p2.size.1), .s (.int .u64 p2.size.2.1), .s (.int .u64 p2.size.2.2.1), .s (.int .u64 p2.size.2.2.2)]] 0 0))), (4, .one (.pt 0 0 0 0)), (5, .one (.pt 1 0 0 0)), (6, vi x1)]) (by rw [eq_of_beq b26]) ?_
      refine zyp 5 [[.s (.bool p1.neg), .s (.int .u64 p1.size.1), .s (.int .u64 p1.size.2.1), .s (.int .u64 p1.size.2.2.1), .s (.int .u64 p1.size.2.2.2)]] [(23, vk .u64 (p1.size.1.fdiv (2 ^ (min (x1.tmod (64 : Int)).toNat (IntKind.u64).bits)))), (22, vi (x1.tmod (64 : Int))), (21, vi x1), (20, vk .u64 p1.size.1), (19, .one (.pv (.rp [[.s (.bool p1.neg), .s (.int .u64 p1.size.1), .s (.int .u64 p1.size.2.1), .s (.int .u64 p1.size.2.2.1), .s (.int .u64 p1.size.2.2.2)]] 0 1))), (18, .one (.pv (.rp [[.s (.bool p1.neg), .s (.int .u64 p1.size.1), .s (.int .u64 p1.size.2.1), .s (.int .u64 p1.size.2.2.1), .s (.int .u64 p1.size.2.2.2)]] 0 1))), (17, vi (0 : Int)), (16, vi x1), (15, vk .u64 r1.size.1), (14, .one (.pt 1 0 0 1)), (13, .one (.pt 1 0 0 1)), (2, .one (.pv (.rp [[.s (.bool p1.neg), .s (.int .u64 p1.size.1), .s (.int .u64 p1.size.2.1), .s (.int .u64 p1.size.2.2.1), .s (.int .u64 p1.size.2.2.2)]] 0 0))), (3, .one (.pv (.rp [[.s (.bool p2.neg), .s (.int .u64 p2.size.1), .s (.int .u64 p2.size.2.1), .s (.int .u64 p2.size.2.2.1), .s (.int .u64 p2.size.2.2.2)]] 0 0))), (4, .one (.pt 0 0 0 0)), (5, .one (.pt 1 0 0 0)), (6, vi x1)] [0 ≤ (0 : Int) ∧ (0 : Int) < 4, ([[.s (.bool p1.neg), .s (.int .u64 p1.size.1), .s (.int .u64 p1.size.2.1), .s (.int .u64 p1.size.2.2.1), .s (.int .u64 p1.size.2.2.2)]] : List (List PV))[0]? = some [.s (.bool p1.neg), .s (.int .u64 p1.size.1), .s (.int .u64 p1.size.2.1), .s (.int .u64 p1.size.2.2.1), .s (.int .u64 p1.size.2.2.2)], (64 : Int) ≠ 0, 0 ≤ (x1.tmod (64 : Int))] (⟨by decide, rfl, by decide, g27, trivial⟩) ?_
      rw [show (p1.size.1.fdiv (2 ^ (min (x1.tmod (64 : Int)).toNat (IntKind.u64).bits))) = y10 from Option.some.inj hy28]
      refine zyv 1 [] [(24, vk .u64 (IntKind.u64.wrap (BitVec.ofInt (IntKind.u64).bits y10 &&& BitVec.ofInt (IntKind.u64).bits (1 : Int)).toNat)), (23, vk .u64 y10), (22, vi (x1.tmod (64 : Int))), (21, vi x1), (20, vk .u64 p1.size.1), (19, .one (.pv (.rp [[.s (.bool p1.neg), .s (.int .u64 p1.size.1), .s (.int .u64 p1.size.2.1), .s (.int .u64 p1.size.2.2.1), .s (.int .u64 p1.size.2.2.2)]] 0 1))), (18, .one (.pv (.rp [[.s (.bool p1.neg), .s (.int .u64 p1.size.1), .s (.int .u64 p1.size.2.1), .s (.int .u64 p1.size.2.2.1), .s (.int .u64 p1.size.2.2.2)]] 0 1))), (17, vi (0 : Int)), (16, vi x1), (15, vk .u64 r1.size.1), (14, .one (.pt 1 0 0 1)), (13, .one (.pt 1 0 0 1)), (2, .one (.pv (.rp [[.s (.bool p1.neg), .s (.int .u64 p1.size.1), .s (.int .u64 p1.size.2.1), .s (.int .u64 p1.size.2.2.1), .s (.int .u64 p1.size.2.2.2)]] 0 0))), (3, .one (.pv (.rp [[.s (.bool p2.neg), .s (.int .u64 p2.size.1), .s (.int .u64 p2.size.2.1), .s (.int .u64 p2.size.2.2.1), .s (.int .u64 p2.size.2.2.2)]] 0 0))), (4, .one (.pt 0 0 0 0)), (5, .one (.pt 1 0 0 0)), (6, vi x1)] ?_
      rw [show (IntKind.u64.wrap (BitVec.ofInt (IntKind.u64).bits y10 &&& BitVec.ofInt (IntKind.u64).bits (1 : Int)).toNat) = y11 from Option.some.inj hy29]
      refine zyv 1 [] [(25, vk .u64 (IntKind.u64.wrap (BitVec.ofInt (IntKind.u64).bits r1.size.1 ||| BitVec.ofInt (IntKind.u64).bits y11).toNat)), (24, vk .u64 y11), (23, vk .u64 y10), (22, vi (x1.tmod (64 : Int))), (21, vi x1), (20, vk .u64 p1.size.1), (19, .one (.pv (.rp [[.s (.bool p1.neg), .s (.int .u64 p1.size.1), .s (.int .u64 p1.size.2.1), .s (.int .u64 p1.size.2.2.1), .s (.int .u64 p1.size.2.2.2)]] 0 1))), (18, .one (.pv (.rp [[.s (.bool p1.neg), .s (.int .u64 p1.size.1), .s (.int .u64 p1.size.2.1), .s (.int .u64 p1.size.2.2.1), .s (.int .u64 p1.size.2.2.2)]] 0 1))), (17, vi (0 : Int)), (16, vi x1), (15, vk .u64 r1.size.1), (14, .one (.pt 1 0 0 1)), (13, .one (.pt 1 0 0 1)), (2, .one (.pv (.rp [[.s (.bool p1.neg), .s (.int .u64 p1.size.1), .s (.int .u64 p1.size.2.1), .s (.int .u64 p1.size.2.2.1), .s (.int .u64 p1.size.2.2.2)]] 0 0))), (3, .one (.pv (.rp [[.s (.bool p2.neg), .s (.int .u64 p2.size.1), .s (.int .u64 p2.size.2.1), .s (.int .u64 p2.size.2.2.1), .s (.int .u64 p2.size.2.2.2)]] 0 0))), (4, .one (.pt 0 0 0 0)), (5, .one (.pt 1 0 0 0)), (6, vi x1)] ?_
      rw [show (IntKind.u64.wrap (BitVec.ofInt (IntKind.u64).bits r1.size.1 ||| BitVec.ofInt (IntKind.u64).bits y11).toNat) = y12 from Option.some.inj hy30]
      exact zyg 1 zyd
     exact zo [4, 5] 2 [2,3,4,5,6] [] [0 ≤ (0 : Int) ∧ (0 : Int) < 4] (⟨by decide, trivial⟩) (zd (hJ1 y12 h _ _ (zk [2,3,4,5,6])))
    ·rcases zW h with ⟨b21, h⟩ | ⟨b21, h⟩
     ·obtain ⟨g22, h⟩ := zG h
      obtain ⟨y7, hy23, h⟩ := zB h
      obtain ⟨y8, hy24, h⟩ := zB h
      obtain ⟨y9, hy25, h⟩ := zB h
      refine zw 14 [(26, .one (.pt 1 0 0 1)), (25, vk .u64 y9), (24, vk .u64 y8), (23, vk .u64 y7), (22, vi (x1.tmod (64 : Int))), (21, vi x1), (20, vk .u64 p1.size.2.1), (19, .one (.pv (.rp [(qa1760 p1)] 0 2))), (18, .one (.pv (.rp [(qa1760 p1)] 0 1))), (17, vi (1 : Int)), (16, vi x1), (15, vk .u64 r1.size.1), (14, .one (.pt 1 0 0 1)), (13, .one (.pt 1 0 0 1)), (2, .one (.pv (.rp [(qa1760 p1)] 0 0))), (3, .one (.pv (.rp [(qa1761 p2)] 0 0))), (4, .one (.pt 0 0 0 0)), (5, .one (.pt 1 0 0 0)), (6, vi x1)] ?_ ?_
      ·refine zyp 6 [] [(18, .one (.pv (.rp [[.s (.bool p1.neg), .s (.int .u64 p1.size.1), .s (.int .u64 p1.size.2.1), .s (.int .u64 p1.size.2.2.1), .s (.int .u64 p1.size.2.2.2)]] 0 1))), (17, vi (IntKind.i64.wrap (x1.tdiv (64 : Int)))), (16, vi x1), (15, vk .u64 r1.size.1), (14, .one (.pt 1 0 0 1)), (13, .one (.pt 1 0 0 1)), (2, .one (.pv (.rp [[.s (.bool p1.neg), .s (.int .u64 p1.size.1), .s (.int .u64 p1.size.2.1), .s (.int .u64 p1.size.2.2.1), .s (.int .u64 p1.size.2.2.2)]] 0 0))), (3, .one (.pv (.rp [[.s (.bool p2.neg), .s (.int .u64 p2.size.1), .s (.int .u64 p2.size.2.1), .s (.int .u64 p2.size.2.2.1), .s (.int .u64 p2.size.2.2.2)]] 0 0))), (4, .one (.pt 0 0 0 0)), (5, .one (.pt 1 0 0 0)), (6, vi x1)] [0 ≤ (0 : Int) ∧ (0 : Int) < 4, (64 : Int) ≠ 0] (⟨by decide, by decide, trivial⟩) ?_
       refine DX.eq (fr1 := [(18, .one (.pv (.rp [[.s (.bool p1.neg), .s (.int .u64 p1.size.1), .s (.int .u64 p1.size.2.1), .s (.int .u64 p1.size.2.2.1), .s (.int .u64 p1.size.2.2.2)]] 0 1))), (17, vi (1 : Int)), (16, vi x1), (15, vk .u64 r1.size.1), (14, .one (.pt 1 0 0 1)), (13, .one (.pt 1 0 0 1)), (2, .one (.pv (.rp [[.s (.bool p1.neg), .s (.int .u64 p1.size.1), .s (.int .u64 p1.size.2.1), .s (.int .u64 p1.size.2.2.1), .s (.int .u64 p1.size.2.2.2)]] 0 0))), (3, .one (.pv (.rp [[.s (.bool p2.neg), .s (.int .u64 p2.size.1), .s (.int .u64 p2.size.2.1), .s (.int .u64 p2.size.2.2.1), .s (.int .u64 p2.size.2.2.2)]] 0 0))), (4, .one (.pt 0 0 0 0)), (5, .one (.pt 1 0 0 0)), (6, vi x1)]) (by rw [eq_of_beq b21]) ?_
       refine zyp 5 [[.s (.bool p1.neg), .s (.int .u64 p1.size.1), .s (.int .u64 p1.size.2.1), .s (.int .u64 p1.size.2.2.1), .s (.int .u64 p1.size.2.2.2)]] [(23, vk .u64 (p1.size.2.1.fdiv (2 ^ (min (x1.tmod (64 : Int)).toNat (IntKind.u64).bits)))), (22, vi (x1.tmod (64 : Int))), (21, vi x1), (20, vk .u64 p1.size.2.1), (19, .one (.pv (.rp [[.s (.bool p1.neg), .s (.int .u64 p1.size.1), .s (.int .u64 p1.size.2.1), .s (.int .u64 p1.size.2.2.1), .s (.int .u64 p1.size.2.2.2)]] 0 2))), (18, .one (.pv (.rp [[.s (.bool p1.neg), .s (.int .u64 p1.size.1), .s (.int .u64 p1.size.2.1), .s (.int .u64 p1.size.2.2.1), .s (.int .u64 p1.size.2.2.2)]] 0 1))), (17, vi (1 : Int)), (16, vi x1), (15, vk .u64 r1.size.1), (14, .one (.pt 1 0 0 1)), (13, .one (.pt 1 0 0 1)), (2, .one (.pv (.rp [[.s (.bool p1.neg), .s (.int .u64 p1.size.1), .s (.int .u64 p1.size.2.1), .s (.int .u64 p1.size.2.2.1), .s (.int .u64 p1.size.2.2.2)]] 0 0))), (3, .one (.pv (.rp [[.s (.bool p2.neg), .s (.int .u64 p2.size.1), .s (.int .u64 p2.size.2.1), .s (.int .u64 p2.size.2.2.1), .s (.int .u64 p2.size.2.2.2)]] 0 0))), (4, .one (.pt 0 0 0 0)), (5, .one (.pt 1 0 0 0)), (6, vi x1)] [0 ≤ (1 : Int) ∧ (1 : Int) < 4, ([[.s (.bool p1.neg), .s (.int .u64 p1.size.1), .s (.int .u64 p1.size.2.1), .s (.int .u64 p1.size.2.2.1), .s (.int .u64 p1.size.2.2.2)]] : List (List PV))[0]? = some [.s (.bool p1.neg), .s (.int .u64 p1.size.1), .s (.int .u64 p1.size.2.1), .s (.int .u64 p1.size.2.2.1), .s (.int .u64 p1.size.2.2.2)], (64 : Int) ≠ 0, 0 ≤ (x1.tmod (64 : Int))] (⟨by decide, rfl, by decide, g22, trivial⟩) ?_
       rw [show (p1.size.2.1.fdiv (2 ^ (min (x1.tmod (64 : Int)).toNat (IntKind.u64).bits))) = y7 from Option.some.inj hy23]
       refine zyv 1 [] [(24, vk .u64 (IntKind.u64.wrap (BitVec.ofInt (IntKind.u64).bits y7 &&& BitVec.ofInt (IntKind.u64).bits (1 : Int)).toNat)), (23, vk .u64 y7), (22, vi (x1.tmod (64 : Int))), (21, vi x1), (20, vk .u64 p1.size.2.1), (19, .one (.pv (.rp [[.s (.bool p1.neg), .s (.int .u64 p1.size.1), .s (.int .u64 p1.size.2.1), .s (.int .u64 p1.size.2.2.1), .s (.int .u64 p1.size.2.2.2)]] 0 2))), (18, .one (.pv (.rp [[.s (.bool p1.neg), .s (.int .u64 p1.size.1), .s (.int .u64 p1.size.2.1), .s (.int .u64 p1.size.2.2.1), .s (.int .u64 p1.size.2.2.2)]] 0 1))), (17, vi (1 : Int)), (16, vi x1), (15, vk .u64 r1.size.1), (14, .one (.pt 1 0 0 1)), (13, .one (.pt 1 0 0 1)), (2, .one (.pv (.rp [[.s (.bool p1.neg), .s (.int .u64 p1.size.1), .s (.int .u64 p1.size.2.1), .s (.int .u64 p1.size.2.2.1), .s (.int .u64 p1.size.2.2.2)]] 0 0))), (3, .one (.pv (.rp [[.s (.bool p2.neg), .s (.int .u64 p2.size.1), .s (.int .u64 p2.size.2.1), .s (.int .u64 p2.size.2.2.1), .s (.int .u64 p2.size.2.2.2)]] 0 0))), (4, .one (.pt 0 0 0 0)), (5, .one (.pt 1 0 0 0)), (6, vi x1)] ?_
       rw [show (IntKind.u64.wrap (BitVec.ofInt (IntKind.u64).bits y7 &&& BitVec.ofInt (IntKind.u64).bits (1 : Int)).toNat) = y8 from Option.some.inj hy24]
       refine zyv 1 [] [(25, vk .u64 (IntKind.u64.wrap (BitVec.ofInt (IntKind.u64).bits r1.size.1 ||| BitVec.ofInt (IntKind.u64).bits y8).toNat)), (24, vk .u64 y8), (23, vk .u64 y7), (22, vi (x1.tmod (64 : Int))), (21, vi x1), (20, vk .u64 p1.size.2.1), (19, .one (.pv (.rp [[.s (.bool p1.neg), .s (.int .u64 p1.size.1), .s (.int .u64 p1.size.2.1), .s (.int .u64 p1.size.2.2.1), .s (.int .u64 p1.size.2.2.2)]] 0 2))), (18, .one (.pv (.rp [[.s (.bool p1.neg), .s (.int .u64 p1.size.1), .s (.int .u64 p1.size.2.1), .s (.int .u64 p1.size.2.2.1), .s (.int .u64 p1.size.2.2.2)]] 0 1))), (17, vi (1 : Int)), (16, vi x1), (15, vk .u64 r1.size.1), (14, .one (.pt 1 0 0 1)), (13, .one (.pt 1 0 0 1)), (2, .one (.pv (.rp [[.s (.bool p1.neg), .s (.int .u64 p1.size.1), .s (.int .u64 p1.size.2.1), .s (.int .u64 p1.size.2.2.1), .s (.int .u64 p1.size.2.2.2)]] 0 0))), (3, .one (.pv (.rp [[.s (.bool p2.neg), .s (.int .u64 p2.size.1), .s (.int .u64 p2.size.2.1), .s (.int .u64 p2.size.2.2.1), .s (.int .u64 p2.size.2.2.2)]] 0 0))), (4, .one (.pt 0 0 0 0)), (5, .one (.pt 1 0 0 0)), (6, vi x1)] ?_
       rw [show (IntKind.u64.wrap (BitVec.ofInt (IntKind.u64).bits r1.size.1 ||| BitVec.ofInt (IntKind.u64).bits y8).toNat) = y9 from Option.some.inj hy25]
       exact zyg 1 zyd
      refine zp [4, 5] 2 [2,3,4,5,6] [] (qa1784 p1 p2 x1) [.box (qa1768 z1 z2 z3 z4), .box [cb r1.neg, ck .u64 y9, ck .u64 r1.size.2.1, ck .u64 r1.size.2.2.1, ck .u64 r1.size.2.2.2]] [0 ≤ (0 : Int) ∧ (0 : Int) < 4] (⟨by decide, trivial⟩) ?_
      exact zd (hJ1 y9 h _ _ (zk [2,3,4,5,6]))
     ·rcases zW h with ⟨b16, h⟩ | ⟨b16, h⟩
      ·obtain ⟨g17, h⟩ := zG h
       obtain ⟨y4, hy18, h⟩ := zB h
       obtain ⟨y5, hy19, h⟩ := zB h
       obtain ⟨y6, hy20, h⟩ := zB h
       refine zw 14 [(26, .one (.pt 1 0 0 1)), (25, vk .u64 y6), (24, vk .u64 y5), (23, vk .u64 y4), (22, vi (x1.tmod (64 : Int))), (21, vi x1), (20, vk .u64 p1.size.2.2.1), (19, .one (.pv (.rp [(qa1760 p1)] 0 3))), (18, .one (.pv (.rp [(qa1760 p1)] 0 1))), (17, vi (2 : Int)), (16, vi x1), (15, vk .u64 r1.size.1), (14, .one (.pt 1 0 0 1)), (13, .one (.pt 1 0 0 1)), (2, .one (.pv (.rp [(qa1760 p1)] 0 0))), (3, .one (.pv (.rp [(qa1761 p2)] 0 0))), (4, .one (.pt 0 0 0 0)), (5, .one (.pt 1 0 0 0)), (6, vi x1)] ?_ ?_
       ·refine zyp 6 [] [(18, .one (.pv (.rp [[.s (.bool p1.neg), .s (.int .u64 p1.size.1), .s (.int .u64 p1.size.2.1), .s (.int .u64 p1.size.2.2.1), .s (.int .u64 p1.size.2.2.2)]] 0 1))), (17, vi (IntKind.i64.wrap (x1.tdiv (64 : Int)))), (16, vi x1), (15, vk .u64 r1.size.1), (14, .one (.pt 1 0 0 1)), (13, .one (.pt 1 0 0 1)), (2, .one (.pv (.rp [[.s (.bool p1.neg), .s (.int .u64 p1.size.1), .s (.int .u64 p1.size.2.1), .s (.int .u64 p1.size.2.2.1), .s (.int .u64 p1.size.2.2.2)]] 0 0))), (3, .one (.pv (.rp [[.s (.bool p2.neg), .s (.int .u64 p2.size.1), .s (.int .u64 p2.size.2.1), .s (.int .u64 p2.size.2.2.1), .s (.int .u64 p2.size.2.2.2)]] 0 0))), (4, .one (.pt 0 0 0 0)), (5, .one (.pt 1 0 0 0)), (6, vi x1)] [0 ≤ (0 : Int) ∧ (0 : Int) < 4, (64 : Int) ≠ 0] (⟨by decide, by decide, trivial⟩) ?_
        refine DX.eq (fr1 := [(18, .one (.pv (.rp [[.s (.bool p1.neg), .s (.int .u64 p1.size.1), .s (.int .u64 p1.size.2.1), .s (.int .u64 p1.size.2.2.1), .s (.int .u64 p1.size.2.2.2)]] 0 1))), (17, vi (2 : Int)), (16, vi x1), (15, vk .u64 r1.size.1), (14, .one (.pt 1 0 0 1)), (13, .one (.pt 1 0 0 1)), (2, .one (.pv (.rp [[.s (.bool p1.neg), .s (.int .u64 p1.size.1), .s (.int .u64 p1.size.2.1), .s (.int .u64 p1.size.2.2.1), .s (.int .u64 p1.size.2.2.2)]] 0 0))), (3, .one (.pv (.rp [[.s (.bool p2.neg), .s (.int .u64 p2.size.1), .s (.int .u64 p2.size.2.1), .s (.int .u64 p2.size.2.2.1), .s (.int .u64 p2.size.2.2.2)]] 0 0))), (4, .one (.pt 0 0 0 0)), (5, .one (.pt 1 0 0 0)), (6, vi x1)]) (by rw [eq_of_beq b16]) ?_
        refine zyp 5 [[.s (.bool p1.neg), .s (.int .u64 p1.size.1), .s (.int .u64 p1.size.2.1), .s (.int .u64 p1.size.2.2.1), .s (.int .u64 p1.size.2.2.2)]] [(23, vk .u64 (p1.size.2.2.1.fdiv (2 ^ (min (x1.tmod (64 : Int)).toNat (IntKind.u64).bits)))), (22, vi (x1.tmod (64 : Int))), (21, vi x1), (20, vk .u64 p1.size.2.2.1), (19, .one (.pv (.rp [[.s (.bool p1.neg), .s (.int .u64 p1.size.1), .s (.int .u64 p1.size.2.1), .s (.int .u64 p1.size.2.2.1), .s (.int .u64 p1.size.2.2.2)]] 0 3))), (18, .one (.pv (.rp [[.s (.bool p1.neg), .s (.int .u64 p1.size.1), .s (.int .u64 p1.size.2.1), .s (.int .u64 p1.size.2.2.1), .s (.int .u64 p1.size.2.2.2)]] 0 1))), (17, vi (2 : Int)), (16, vi x1), (15, vk .u64 r1.size.1), (14, .one (.pt 1 0 0 1)), (13, .one (.pt 1 0 0 1)), (2, .one (.pv (.rp [[.s (.bool p1.neg), .s (.int .u64 p1.size.1), .s (.int .u64 p1.size.2.1), .s (.int .u64 p1.size.2.2.1), .s (.int .u64 p1.size.2.2.2)]] 0 0))), (3, .one (.pv (.rp [[.s (.bool p2.neg), .s (.int .u64 p2.size.1), .s (.int .u64 p2.size.2.1), .s (.int .u64 p2.size.2.2.1), .s (.int .u64 p2.size.2.2.2)]] 0 0))), (4, .one (.pt 0 0 0 0)), (5, .one (.pt 1 0 0 0)), (6, vi x1)] [0 ≤ (2 : Int) ∧ (2 : Int) < 4, ([[.s (.bool p1.neg), .s (.int .u64 p1.size.1), .s (.int .u64 p1.size.2.1), .s (.int .u64 p1.size.2.2.1), .s (.int .u64 p1.size.2.2.2)]] : List (List PV))[0]? = some [.s (.bool p1.neg), .s (.int .u64 p1.size.1), .s (.int .u64 p1.size.2.1), .s (.int .u64 p1.size.2.2.1), .s (.int .u64 p1.size.2.2.2)], (64 : Int) ≠ 0, 0 ≤ (x1.tmod (64 : Int))] (⟨by decide, rfl, by decide, g17, trivial⟩) ?_
        rw [show (p1.size.2.2.1.fdiv (2 ^ (min (x1.tmod (64 : Int)).toNat (IntKind.u64).bits))) = y4 from Option.some.inj hy18]
        refine zyv 1 [] [(24, vk .u64 (IntKind.u64.wrap (BitVec.ofInt (IntKind.u64).bits y4 &&& BitVec.ofInt (IntKind.u64).bits (1 : Int)).toNat)), (23, vk .u64 y4), (22, vi (x1.tmod (64 : Int))), (21, vi x1), (20, vk .u64 p1.size.2.2.1), (19, .one (.pv (.rp [[.s (.bool p1.neg), .s (.int .u64 p1.size.1), .s (.int .u64 p1.size.2.1), .s (.int .u64 p1.size.2.2.1), .s (.int .u64 p1.size.2.2.2)]] 0 3))), (18, .one (.pv (.rp [[.s (.bool p1.neg), .s (.int .u64 p1.size.1), .s (.int .u64 p1.size.2.1), .s (.int .u64 p1.size.2.2.1), .s (.int .u64 p1.size.2.2.2)]] 0 1))), (17, vi (2 : Int)), (16, vi x1), (15, vk .u64 r1.size.1), (14, .one (.pt 1 0 0 1)), (13, .one (.pt 1 0 0 1)), (2, .one (.pv (.rp [[.s (.bool p1.neg), .s (.int .u64 p1.size.1), .s (.int .u64 p1.size.2.1), .s (.int .u64 p1.size.2.2.1), .s (.int .u64 p1.size.2.2.2)]] 0 0))), (3, .one (.pv (.rp [[.s (.bool p2.neg), .s (.int .u64 p2.size.1), .s (.int .u64 p2.size.2.1), .s (.int .u64 p2.size.2.2.1), .s (.int .u64 p2.size.2.2.2)]] 0 0))), (4, .one (.pt 0 0 0 0)), (5, .one (.pt 1 0 0 0)), (6, vi x1)] ?_
        rw [show (IntKind.u64.wrap (BitVec.ofInt (IntKind.u64).bits y4 &&& BitVec.ofInt (IntKind.u64).bits (1 : Int)).toNat) = y5 from Option.some.inj hy19]
        refine zyv 1 [] [(25, vk .u64 (IntKind.u64.wrap (BitVec.ofInt (IntKind.u64).bits r1.size.1 ||| BitVec.ofInt (IntKind.u64).bits y5).toNat)), (24, vk .u64 y5), (23, vk .u64 y4), (22, vi (x1.tmod (64 : Int))), (21, vi x1), (20, vk .u64 p1.size.2.2.1), (19, .one (.pv (.rp [[.s (.bool p1.neg), .s (.int .u64 p1.size.1), .s (.int .u64 p1.size.2.1), .s (.int .u64 p1.size.2.2.1), .s (.int .u64 p1.size.2.2.2)]] 0 3))), (18, .one (.pv (.rp [[.s (.bool p1.neg), .s (.int .u64 p1.size.1), .s (.int .u64 p1.size.2.1), .s (.int .u64 p1.size.2.2.1), .s (.int .u64 p1.size.2.2.2)]] 0 1))), (17, vi (2 : Int)), (16, vi x1), (15, vk .u64 r1.size.1), (14, .one (.pt 1 0 0 1)), (13, .one (.pt 1 0 0 1)), (2, .one (.pv (.rp [[.s (.bool p1.neg), .s (.int .u64 p1.size.1), .s (.int .u64 p1.size.2.1), .s (.int .u64 p1.size.2.2.1), .s (.int .u64 p1.size.2.2.2)]] 0 0))), (3, .one (.pv (.rp [[.s (.bool p2.neg), .s (.int .u64 p2.size.1), .s (.int .u64 p2.size.2.1), .s (.int .u64 p2.size.2.2.1), .s (.int .u64 p2.size.2.2.2)]] 0 0))), (4, .one (.pt 0 0 0 0)), (5, .one (.pt 1 0 0 0)), (6, vi x1)] ?_
        rw [show (IntKind.u64.wrap (BitVec.ofInt (IntKind.u64).bits r1.size.1 ||| BitVec.ofInt (IntKind.u64).bits y5).toNat) = y6 from Option.some.inj hy20]
        exact zyg 1 zyd
       exact zo [4, 5] 2 [2,3,4,5,6] [] [0 ≤ (0 : Int) ∧ (0 : Int) < 4] (⟨by decide, trivial⟩) (zd (hJ1 y6 h _ _ (zk [2,3,4,5,6])))
      ·rcases zW h with ⟨b11, h⟩ | ⟨b11, h⟩
       ·obtain ⟨g12, h⟩ := zG h
        obtain ⟨y1, hy13, h⟩ := zB h
        obtain ⟨y2, hy14, h⟩ := zB h
        obtain ⟨y3, hy15, h⟩ := zB h
        refine zw 14 [(26, .one (.pt 1 0 0 1)), (25, vk .u64 y3), (24, vk .u64 y2), (23, vk .u64 y1), (22, vi (x1.tmod (64 : Int))), (21, vi x1), (20, vk .u64 p1.size.2.2.2), (19, .one (.pv (.rp [(qa1760 p1)] 0 4))), (18, .one (.pv (.rp [(qa1760 p1)] 0 1))), (17, vi (3 : Int)), (16, vi x1), (15, vk .u64 r1.size.1), (14, .one (.pt 1 0 0 1)), (13, .one (.pt 1 0 0 1)), (2, .one (.pv (.rp [(qa1760 p1)] 0 0))), (3, .one (.pv (.rp [(qa1761 p2)] 0 0))), (4, .one (.pt 0 0 0 0)), (5, .one (.pt 1 0 0 0)), (6, vi x1)] ?_ ?_
        ·refine zyp 6 [] [(18, .one (.pv (.rp [[.s (.bool p1.neg), .s (.int .u64 p1.size.1), .s (.int .u64 p1.size.2.1), .s (.int .u64 p1.size.2.2.1), .s (.int .u64 p1.size.2.2.2)]] 0 1))), (17, vi (IntKind.i64.wrap (x1.tdiv (64 : Int)))), (16, vi x1), (15, vk .u64 r1.size.1), (14, .one (.pt 1 0 0 1)), (13, .one (.pt 1 0 0 1)), (2, .one (.pv (.rp [[.s (.bool p1.neg), .s (.int .u64 p1.size.1), .s (.int .u64 p1.size.2.1), .s (.int .u64 p1.size.2.2.1), .s (.int .u64 p1.size.2.2.2)]] 0 0))), (3, .one (.pv (.rp [[.s (.bool p2.neg), .s (.int .u64 p2.size.1), .s (.int .u64 p2.size.2.1), .s (.int .u64 p2.size.2.2.1), .s (.int .u64 p2.size.2.2.2)]] 0 0))), (4, .one (.pt 0 0 0 0)), (5, .one (.pt 1 0 0 0)), (6, vi x1)] [0 ≤ (0 : Int) ∧ (0 : Int) < 4, (64 : Int) ≠ 0] (⟨by decide, by decide, trivial⟩) ?_
         refine DX.eq (fr1 := [(18, .one (.pv (.rp [[.s (.bool p1.neg), .s (.int .u64 p1.size.1), .s (.int .u64 p1.size.2.1), .s (.int .u64 p1.size.2.2.1), .s (.int .u64 p1.size.2.2.2)]] 0 1))), (17, vi (3 : Int)), (16, vi x1), (15, vk .u64 r1.size.1), (14, .one (.pt 1 0 0 1)), (13, .one (.pt 1 0 0 1)), (2, .one (.pv (.rp [[.s (.bool p1.neg), .s (.int .u64 p1.size.1), .s (.int .u64 p1.size.2.1), .s (.int .u64 p1.size.2.2.1), .s (.int .u64 p1.size.2.2.2)]] 0 0))), (3, .one (.pv (.rp [[.s (.bool p2.neg), .s (.int .u64 p2.size.1), .s (.int .u64 p2.size.2.1), .s (.int .u64 p2.size.2.2.1), .s (.int .u64 p2.size.2.2.2)]] 0 0))), (4, .one (.pt 0 0 0 0)), (5, .one (.pt 1 0 0 0)), (6, vi x1)]) (by rw [eq_of_beq b11]) ?_
         refine zyp 5 [[.s (.bool p1.neg), .s (.int .u64 p1.size.1), .s (.int .u64 p1.size.2.1), .s (.int .u64 p1.size.2.2.1), .s (.int .u64 p1.size.2.2.2)]] [(23, vk .u64 (p1.size.2.2.2.fdiv (2 ^ (min (x1.tmod (64 : Int)).toNat (IntKind.u64).bits)))), (22, vi (x1.tmod (64 : Int))), (21, vi x1), (20, vk .u64 p1.size.2.2.2), (19, .one (.pv (.rp [[.s (.bool p1.neg), .s (.int .u64 p1.size.1), .s (.int .u64 p1.size.2.1), .s (.int .u64 p1.size.2.2.1), .s (.int .u64 p1.size.2.2.2)]] 0 4))), (18, .one (.pv (.rp [[.s (.bool p1.neg), .s (.int .u64 p1.size.1), .s (.int .u64 p1.size.2.1), .s (.int .u64 p1.size.2.2.1), .s (.int .u64 p1.size.2.2.2)]] 0 1))), (17, vi (3 : Int)), (16, vi x1), (15, vk .u64 r1.size.1), (14, .one (.pt 1 0 0 1)), (13, .one (.pt 1 0 0 1)), (2, .one (.pv (.rp [[.s (.bool p1.neg), .s (.int .u64 p1.size.1), .s (.int .u64 p1.size.2.1), .s (.int .u64 p1.size.2.2.1), .s (.int .u64 p1.size.2.2.2)]] 0 0))), (3, .one (.pv (.rp [[.s (.bool p2.neg), .s (.int .u64 p2.size.1), .s (.int .u64 p2.size.2.1), .s (.int .u64 p2.size.2.2.1), .s (.int .u64 p2.size.2.2.2)]] 0 0))), (4, .one (.pt 0 0 0 0)), (5, .one (.pt 1 0 0 0)), (6, vi x1)] [0 ≤ (3 : Int) ∧ (3 : Int) < 4, ([[.s (.bool p1.neg), .s (.int .u64 p1.size.1), .s (.int .u64 p1.size.2.1), .s (.int .u64 p1.size.2.2.1), .s (.int .u64 p1.size.2.2.2)]] : List (List PV))[0]? = some [.s (.bool p1.neg), .s (.int .u64 p1.size.1), .s (.int .u64 p1.size.2.1), .s (.int .u64 p1.size.2.2.1), .s (.int .u64 p1.size.2.2.2)], (64 : Int) ≠ 0, 0 ≤ (x1.tmod (64 : Int))] (⟨by decide, rfl, by decide, g12, trivial⟩) ?_
         rw [show (p1.size.2.2.2.fdiv (2 ^ (min (x1.tmod (64 : Int)).toNat (IntKind.u64).bits))) = y1 from Option.some.inj hy13]
         refine zyv 1 [] [(24, vk .u64 (IntKind.u64.wrap (BitVec.ofInt (IntKind.u64).bits y1 &&& BitVec.ofInt (IntKind.u64).bits (1 : Int)).toNat)), (23, vk .u64 y1), (22, vi (x1.tmod (64 : Int))), (21, vi x1), (20, vk .u64 p1.size.2.2.2), (19, .one (.pv (.rp [[.s (.bool p1.neg), .s (.int .u64 p1.size.1), .s (.int .u64 p1.size.2.1), .s (.int .u64 p1.size.2.2.1), .s (.int .u64 p1.size.2.2.2)]] 0 4))), (18, .one (.pv (.rp [[.s (.bool p1.neg), .s (.int .u64 p1.size.1), .s (.int .u64 p1.size.2.1), .s (.int .u64 p1.size.2.2.1), .s (.int .u64 p1.size.2.2.2)]] 0 1))), (17, vi (3 : Int)), (16, vi x1), (15, vk .u64 r1.size.1), (14, .one (.pt 1 0 0 1)), (13, .one (.pt 1 0 0 1)), (2, .one (.pv (.rp [[.s (.bool p1.neg), .s (.int .u64 p1.size.1), .s (.int .u64 p1.size.2.1), .s (.int .u64 p1.size.2.2.1), .s (.int .u64 p1.size.2.2.2)]] 0 0))), (3, .one (.pv (.rp [[.s (.bool p2.neg), .s (.int .u64 p2.size.1), .s (.int .u64 p2.size.2.1), .s (.int .u64 p2.size.2.2.1), .s (.int .u64 p2.size.2.2.2)]] 0 0))), (4, .one (.pt 0 0 0 0)), (5, .one (.pt 1 0 0 0)), (6, vi x1)] ?_
         rw [show (IntKind.u64.wrap (BitVec.ofInt (IntKind.u64).bits y1 &&& BitVec.ofInt (IntKind.u64).bits (1 : Int)).toNat) = y2 from Option.some.inj hy14]
         refine zyv 1 [] [(25, vk .u64 (IntKind.u64.wrap (BitVec.ofInt (IntKind.u64).bits r1.size.1 ||| BitVec.ofInt (IntKind.u64).bits y2).toNat)), (24, vk .u64 y2), (23, vk .u64 y1), (22, vi (x1.tmod (64 : Int))), (21, vi x1), (20, vk .u64 p1.size.2.2.2), (19, .one (.pv (.rp [[.s (.bool p1.neg), .s (.int .u64 p1.size.1), .s (.int .u64 p1.size.2.1), .s (.int .u64 p1.size.2.2.1), .s (.int .u64 p1.size.2.2.2)]] 0 4))), (18, .one (.pv (.rp [[.s (.bool p1.neg), .s (.int .u64 p1.size.1), .s (.int .u64 p1.size.2.1), .s (.int .u64 p1.size.2.2.1), .s (.int .u64 p1.size.2.2.2)]] 0 1))), (17, vi (3 : Int)), (16, vi x1), (15, vk .u64 r1.size.1), (14, .one (.pt 1 0 0 1)), (13, .one (.pt 1 0 0 1)), (2, .one (.pv (.rp [[.s (.bool p1.neg), .s (.int .u64 p1.size.1), .s (.int .u64 p1.size.2.1), .s (.int .u64 p1.size.2.2.1), .s (.int .u64 p1.size.2.2.2)]] 0 0))), (3, .one (.pv (.rp [[.s (.bool p2.neg), .s (.int .u64 p2.size.1), .s (.int .u64 p2.size.2.1), .s (.int .u64 p2.size.2.2.1), .s (.int .u64 p2.size.2.2.2)]] 0 0))), (4, .one (.pt 0 0 0 0)), (5, .one (.pt 1 0 0 0)), (6, vi x1)] ?_
         rw [show (IntKind.u64.wrap (BitVec.ofInt (IntKind.u64).bits r1.size.1 ||| BitVec.ofInt (IntKind.u64).bits y2).toNat) = y3 from Option.some.inj hy15]
         exact zyg 1 zyd
        exact zo [4, 5] 2 [2,3,4,5,6] [] [0 ≤ (0 : Int) ∧ (0 : Int) < 4] (⟨by decide, trivial⟩) (zd (hJ1 y3 h _ _ (zk [2,3,4,5,6])))
       ·cases h
   ·exact zx 0 (hQ1 _ _ _ (hJ3 z1 z2 z3 z4 z5 z6 z7 z8 z9 h _ _ (zk [2,3,4,5])))
 exact XR.sub (zk [2,3,4,5,6]) (hL1 BIG (0 : Int) (0 : Int) (0 : Int) (0 : Int) false (0 : Int) (0 : Int) (0 : Int) (0 : Int) (255 : Int) h)

def value_wide_rounded_j2 (z1 : Bool) (z2 : Int) (z3 : Int) (z4 : Int) (z5 : Int) : Option GWide :=
    some (GWide.mk z1 (z2, z3, z4, z5))

def value_wide_rounded_j1 (r1 : (GWide × GWide)) (x1 : Bool) : Option GWide :=
    ift x1
      (bnd (value_whole (1 : Int)) fun r4 =>
       bnd (value_wide_plus BIG (GWide.mk r1.1.neg (r1.1.size.1, r1.1.size.2.1, r1.1.size.2.2.1, r1.1.size.2.2.2)) (GWide.mk r1.1.neg (r4.size.1, r4.size.2.1, r4.size.2.2.1, r4.size.2.2.2))) fun r5 =>
       value_wide_rounded_j2 r5.neg r5.size.1 r5.size.2.1 r5.size.2.2.1 r5.size.2.2.2)
      (value_wide_rounded_j2 r1.1.neg r1.1.size.1 r1.1.size.2.1 r1.1.size.2.2.1 r1.1.size.2.2.2)

def value_wide_rounded (p1 : GWide) (p2 : GWide) : Option GWide :=
    bnd (value_wide_quo (GWide.mk p1.neg (p1.size.1, p1.size.2.1, p1.size.2.2.1, p1.size.2.2.2)) (GWide.mk p2.neg (p2.size.1, p2.size.2.1, p2.size.2.2.1, p2.size.2.2.2))) fun r1 =>
    bnd (value_wide_times (GWide.mk r1.2.neg (r1.2.size.1, r1.2.size.2.1, r1.2.size.2.2.1, r1.2.size.2.2.2)) (2 : Int)) fun r2 =>
    bnd (value_compareSize (GWide.mk r2.neg (r2.size.1, r2.size.2.1, r2.size.2.2.1, r2.size.2.2.2)) (GWide.mk p2.neg (p2.size.1, p2.size.2.1, p2.size.2.2.1, p2.size.2.2.2))) fun r3 =>
    ift (decide ((0 : Int) < r3))
      (value_wide_rounded_j1 r1 true)
      (ift (r3 == (0 : Int))
         (bnd (some (IntKind.u64.wrap (BitVec.ofInt (IntKind.u64).bits r1.1.size.1 &&& BitVec.ofInt (IntKind.u64).bits (1 : Int)).toNat)) fun y1 =>
          value_wide_rounded_j1 r1 (y1 == (1 : Int)))
         (value_wide_rounded_j1 r1 false))

abbrev qa1801 (p1 : GWide) : List CV := [cb p1.neg, ck .u64 p1.size.1, ck .u64 p1.size.2.1, ck .u64 p1.size.2.2.1, ck .u64 p1.size.2.2.2]
abbrev qa1802 (p2 : GWide) : List CV := [cb p2.neg, ck .u64 p2.size.1, ck .u64 p2.size.2.1, ck .u64 p2.size.2.2.1, ck .u64 p2.size.2.2.2]
abbrev qa1805 (p2 : GWide) : List PV := [.s (.bool p2.neg), .s (.int .u64 p2.size.1), .s (.int .u64 p2.size.2.1), .s (.int .u64 p2.size.2.2.1), .s (.int .u64 p2.size.2.2.2)]
abbrev qa1806 (r1 : (GWide × GWide)) : List CV := [cb r1.1.neg, ck .u64 r1.1.size.1, ck .u64 r1.1.size.2.1, ck .u64 r1.1.size.2.2.1, ck .u64 r1.1.size.2.2.2]
abbrev qa1807 (r1 : (GWide × GWide)) : List CV := [cb r1.2.neg, ck .u64 r1.2.size.1, ck .u64 r1.2.size.2.1, ck .u64 r1.2.size.2.2.1, ck .u64 r1.2.size.2.2.2]
abbrev qa1808 : Fr := [(4, .one (.pt 0 0 0 0)), (5, .one (.pt 1 0 0 0))]
abbrev qa1809 : List CV := [cb false, ck .u64 (0 : Int), ck .u64 (0 : Int), ck .u64 (0 : Int), ck .u64 (0 : Int)]
abbrev qa1811 (r2 : GWide) : List CV := [cb r2.neg, ck .u64 r2.size.1, ck .u64 r2.size.2.1, ck .u64 r2.size.2.2.1, ck .u64 r2.size.2.2.2]
abbrev qa1823 (r1 : (GWide × GWide)) : St := [.box qa1809, .box (qa1806 r1), .box (qa1807 r1)]

theorem c_value_wide_rounded (p1 : GWide) (p2 : GWide) (r : GWide) (h : value_wide_rounded p1 p2 = some r) : PC Tryd.prog 49 [.ag (qa1801 p1), .ag (qa1802 p2)] (.ag [cb r.neg, ck .u64 r.size.1, ck .u64 r.size.2.1, ck .u64 r.size.2.2.1, ck .u64 r.size.2.2.2]) := by
 unfold value_wide_rounded at h
 refine zF 40 Tryd.f49 (zq fun K1 hK1 => zr (zg [4, 5, 6, 8] 3 [2,3,4] (zd (hK1 _ _ (zq fun K2 hK2 => ?_)))))
 obtain ⟨r1, c3, h⟩ := zB h
 refine zr (zu [4, 5, 6, 8] 2 [3,4,10,11] [[.s (.bool p1.neg), .s (.int .u64 p1.size.1), .s (.int .u64 p1.size.2.1), .s (.int .u64 p1.size.2.2.1), .s (.int .u64 p1.size.2.2.2)], (qa1805 p2)] ?_)
 refine zl 94 [.ag (qa1801 p1), .ag (qa1802 p2)] (.tp [.ag (qa1806 r1), .ag (qa1807 r1)]) [(12, .tp [.ag (qa1806 r1), .ag (qa1807 r1)]), (3, .one (.pv (.rp [(qa1805 p2)] 0 0))), (4, .one (.pt 0 0 0 0)), (10, .ag (qa1801 p1)), (11, .ag (qa1802 p2))] (c_value_wide_quo _ _ _ c3) ?_
 refine zg [4, 5, 6, 8] 7 [3,4,5,6] (zd (hK2 _ _ (zq fun K4 hK4 => ?_)))
 have hJ2 : ∀ (z1 : Bool) (z2 : Int) (z3 : Int) (z4 : Int) (z5 : Int), value_wide_rounded_j2 z1 z2 z3 z4 z5 = some r → ∀ fr1 st1, Sub 40 0 [] fr1 st1 qa1808 [.box qa1809, .box [cb z1, ck .u64 z2, ck .u64 z3, ck .u64 z4, ck .u64 z5], .box (qa1807 r1)] → K4 fr1 st1 := by
  intro z1 z2 z3 z4 z5 h fr1 st1 hS
  unfold value_wide_rounded_j2 at h
  refine hK4 _ _ (XW.sub hS ?_)
  refine zq fun K17 hK17 => zr (zg [4, 5, 6, 8] 2 [4] (zd (hK17 _ _ (ze ?_))))
  obtain rfl := Option.some.inj h
  exact zf [.ag [cb z1, ck .u64 z2, ck .u64 z3, ck .u64 z4, ck .u64 z5]] (.ag (.cons (.rfl _ rfl) (.cons (.rfl _ rfl) (.cons (.rfl _ rfl) (.cons (.rfl _ rfl) (.cons (.rfl _ rfl) .nil))))))
 refine zq fun K5 hK5 => ?_
 obtain ⟨r2, c6, h⟩ := zB h
 obtain ⟨r3, c7, h⟩ := zB h
 refine zw 3 [(17, .ag (qa1802 p2)), (16, .ag (qa1811 r2)), (15, .ag (qa1807 r1)), (3, .one (.pv (.rp [(qa1805 p2)] 0 0))), (4, .one (.pt 0 0 0 0)), (5, .one (.pt 1 0 0 0)), (6, .one (.pt 2 0 0 0))] ?_ ?_
 ·refine zyg 1 ?_
  refine DX.cal 96 [.ag (qa1807 r1), vk .u64 (2 : Int)] (.ag (qa1811 r2)) [(16, .ag (qa1811 r2)), (15, .ag (qa1807 r1)), (3, .one (.pv (.rp [(qa1805 p2)] 0 0))), (4, .one (.pt 0 0 0 0)), (5, .one (.pt 1 0 0 0)), (6, .one (.pt 2 0 0 0))] (by kernel_rfl) (c_value_wide_times _ _ _ c6) rfl rfl (by kernel_rfl) ?_
  exact zyu 1 [(qa1805 p2)] zyd
 refine za (c_value_compareSize _ _ _ c7) (zv [4, 5, 6, 8] 1 [4,5,7] [] [(4, .one (.pt 0 0 0 0)), (5, .one (.pt 1 0 0 0)), (7, vi r3)] (qa1823 r1) (zd (hK5 _ _ (zq fun K8 hK8 => ?_))))
 have hJ1 : ∀ (x1 : Bool), value_wide_rounded_j1 r1 x1 = some r → ∀ fr1 st1, Sub 40 0 [] fr1 st1 [(4, .one (.pt 0 0 0 0)), (5, .one (.pt 1 0 0 0)), (31, vb x1)] (qa1823 r1) → K8 fr1 st1 := by
  intro x1 h fr1 st1 hS
  unfold value_wide_rounded_j1 at h
  refine hK8 _ _ (XW.sub hS ?_)
  refine zC h (fun b12 h => ?_) (fun b12 h => ?_)
  ·refine zq fun K13 hK13 => ?_
   obtain ⟨r4, c14, h⟩ := zB h
   refine zr (za (c_value_whole _ _ c14) (zg [4, 5, 6, 8] 2 [4,5,8] (zd (hK13 _ _ (zq fun K15 hK15 => zr ?_)))))
   refine zv [4, 5, 6, 8] 4 [4,5,8] [] [(4, .one (.pt 0 0 0 0)), (5, .one (.pt 1 0 0 0)), (8, .one (.pt 3 0 0 0))] [.box qa1809, .box (qa1806 r1), .box (qa1807 r1), .box [cb r1.1.neg, ck .u64 r4.size.1, ck .u64 r4.size.2.1, ck .u64 r4.size.2.2.1, ck .u64 r4.size.2.2.2]] (zd (hK15 _ _ ?_))
   obtain ⟨r5, c16, h⟩ := zB h
   refine zr (zg [4, 5, 6, 8] 2 [4,5,36,37] (za (c_value_wide_plus BIG _ _ _ c16) (zv [4, 5, 6, 8] 1 [4,5] [] qa1808 [.box qa1809, .box [cb r5.neg, ck .u64 r5.size.1, ck .u64 r5.size.2.1, ck .u64 r5.size.2.2.1, ck .u64 r5.size.2.2.2], .box (qa1807 r1), .box [cb r1.1.neg, ck .u64 r4.size.1, ck .u64 r4.size.2.1, ck .u64 r4.size.2.2.1, ck .u64 r4.size.2.2.2]] (zd ?_))))
   exact hJ2 r5.neg r5.size.1 r5.size.2.1 r5.size.2.2.1 r5.size.2.2.2 h _ _ (Sub.trans (Sub.pick (fr' := qa1808) [4,5] (by kernel_rfl)) (Sub.take (fr' := qa1808) 3 (Nat.zero_le _) (by kernel_rfl) (by kernel_rfl)))
  ·exact zs (hJ2 r1.1.neg r1.1.size.1 r1.1.size.2.1 r1.1.size.2.2.1 r1.1.size.2.2.2 h _ _ (zk [4,5]))
 rcases zW h with ⟨b9, h⟩ | ⟨b9, h⟩
 ·exact zr (zg [4, 5, 6, 8] 3 [4,5,7,21] (zt 21 b9 (zg [4, 5, 6, 8] 10 [4,5,31] (zd (hJ1 true h _ _ (zk [4,5,31]))))))
 ·rcases zW h with ⟨b10, h⟩ | ⟨b10, h⟩
  ·obtain ⟨y1, hy11, h⟩ := zB h
   refine zr (zv [4, 5, 6, 8] 3 [4,5,7,21] [] [(4, .one (.pt 0 0 0 0)), (5, .one (.pt 1 0 0 0)), (7, vi r3), (21, vb (decide ((0 : Int) < r3)))] (qa1823 r1) (zt 21 b9 (zg [4, 5, 6, 8] 3 [4,5,21,24] (zt 24 b10 ?_))))
   refine zp [4, 5, 6, 8] 4 [4,5,21,24,28] [] [(4, .one (.pt 0 0 0 0)), (5, .one (.pt 1 0 0 0)), (21, vb false), (24, vb true), (28, vk .u64 (IntKind.u64.wrap (BitVec.ofInt (IntKind.u64).bits r1.1.size.1 &&& BitVec.ofInt (IntKind.u64).bits (1 : Int)).toNat))] [.box [cb false, ck .u64 (0 : Int), ck .u64 (0 : Int), ck .u64 (0 : Int), ck .u64 (0 : Int)], .box [cb r1.1.neg, ck .u64 r1.1.size.1, ck .u64 r1.1.size.2.1, ck .u64 r1.1.size.2.2.1, ck .u64 r1.1.size.2.2.2], .box [cb r1.2.neg, ck .u64 r1.2.size.1, ck .u64 r1.2.size.2.1, ck .u64 r1.2.size.2.2.1, ck .u64 r1.2.size.2.2.2]] [0 ≤ (0 : Int) ∧ (0 : Int) < 4] (⟨by decide, trivial⟩) ?_
   rw [show (IntKind.u64.wrap (BitVec.ofInt (IntKind.u64).bits r1.1.size.1 &&& BitVec.ofInt (IntKind.u64).bits (1 : Int)).toNat) = y1 from Option.some.inj hy11]
   exact zg [4, 5, 6, 8] 3 [4,5,31] (zd (hJ1 (y1 == (1 : Int)) h _ _ (zk [4,5,31])))
  ·exact zr (zg [4, 5, 6, 8] 3 [4,5,7,21] (zt 21 b9 (zv [4, 5, 6, 8] 3 [4,5,21,24] [] [(4, .one (.pt 0 0 0 0)), (5, .one (.pt 1 0 0 0)), (21, vb false), (24, vb (r3 == (0 : Int)))] (qa1823 r1) (zt 24 b10 (zg [4, 5, 6, 8] 7 [4,5,31] (zd (hJ1 false h _ _ (zk [4,5,31]))))))))

def value_rescaled (p1 : GWide) (p2 : Int) (p3 : Int) : Option GWide :=
    ift (decide (p2 ≤ p3))
      (bnd (value_wide_shifted (GWide.mk p1.neg (p1.size.1, p1.size.2.1, p1.size.2.2.1, p1.size.2.2.2)) (IntKind.i64.wrap (p3 - p2))) fun r1 =>
       some (GWide.mk r1.neg (r1.size.1, r1.size.2.1, r1.size.2.2.1, r1.size.2.2.2)))
      (bnd (value_scaled (1 : Int) (IntKind.i64.wrap (p2 - p3))) fun r2 =>
       bnd (value_wide_rounded (GWide.mk p1.neg (p1.size.1, p1.size.2.1, p1.size.2.2.1, p1.size.2.2.2)) (GWide.mk r2.neg (r2.size.1, r2.size.2.1, r2.size.2.2.1, r2.size.2.2.2))) fun r3 =>
       some (GWide.mk r3.neg (r3.size.1, r3.size.2.1, r3.size.2.2.1, r3.size.2.2.2)))

abbrev qa1826 (p1 : GWide) : List CV := [cb p1.neg, ck .u64 p1.size.1, ck .u64 p1.size.2.1, ck .u64 p1.size.2.2.1, ck .u64 p1.size.2.2.2]
abbrev qa1828 (p1 : GWide) : List PV := [.s (.bool p1.neg), .s (.int .u64 p1.size.1), .s (.int .u64 p1.size.2.1), .s (.int .u64 p1.size.2.2.1), .s (.int .u64 p1.size.2.2.2)]
abbrev qa1831 (r2 : GWide) : List CV := [cb r2.neg, ck .u64 r2.size.1, ck .u64 r2.size.2.1, ck .u64 r2.size.2.2.1, ck .u64 r2.size.2.2.2]
abbrev qa1832 (r3 : GWide) : List CV := [cb r3.neg, ck .u64 r3.size.1, ck .u64 r3.size.2.1, ck .u64 r3.size.2.2.1, ck .u64 r3.size.2.2.2]

theorem c_value_rescaled (p1 : GWide) (p2 : Int) (p3 : Int) (r : GWide) (h : value_rescaled p1 p2 p3 = some r) : PC Tryd.prog 48 [.ag (qa1826 p1), vi p2, vi p3] (.ag [cb r.neg, ck .u64 r.size.1, ck .u64 r.size.2.1, ck .u64 r.size.2.2.1, ck .u64 r.size.2.2.2]) := by
 unfold value_rescaled at h
 refine zF 21 Tryd.f48 (zq fun K1 hK1 => zr (zg [6] 2 [1,2,3,6] (zd (hK1 _ _ (zq fun K2 hK2 => zq fun K3 hK3 => ?_)))))
 refine zr (zg [6] 3 [1,2,3,6,9] (zd (hK3 _ _ (zC h (fun b4 h => ?_) (fun b4 h => ?_)))))
 ·refine zq fun K5 hK5 => ?_
  obtain ⟨r1, c6, h⟩ := zB h
  refine zr (zv [6] 4 [6,10,13] [(qa1828 p1)] [(6, .one (.pt 0 0 0 0)), (10, .ag (qa1826 p1)), (13, vi (IntKind.i64.wrap (p3 - p2)))] [.box [cb false, ck .u64 (0 : Int), ck .u64 (0 : Int), ck .u64 (0 : Int), ck .u64 (0 : Int)]] (za (c_value_wide_shifted _ _ _ c6) (zg [6] 1 [6] (zd (hK5 _ _ (ze ?_))))))
  obtain rfl := Option.some.inj h
  exact zf [.ag [cb r1.neg, ck .u64 r1.size.1, ck .u64 r1.size.2.1, ck .u64 r1.size.2.2.1, ck .u64 r1.size.2.2.2]] (.ag (.cons (.rfl _ rfl) (.cons (.rfl _ rfl) (.cons (.rfl _ rfl) (.cons (.rfl _ rfl) (.cons (.rfl _ rfl) .nil))))))
 ·refine zs (hK2 _ _ (zq fun K7 hK7 => ?_))
  obtain ⟨r2, c8, h⟩ := zB h
  obtain ⟨r3, c9, h⟩ := zB h
  refine zw 5 [(19, .ag (qa1831 r2)), (18, vi (IntKind.i64.wrap (p2 - p3))), (17, vi p3), (16, vi p2), (15, .ag (qa1826 p1)), (1, vi p2), (2, vi p3), (3, .one (.pv (.rp [(qa1828 p1)] 0 0))), (6, .one (.pt 0 0 0 0)), (9, vb (decide (p2 ≤ p3)))] ?_ ?_
  ·exact zyv 4 [(qa1828 p1)] [(18, vi (IntKind.i64.wrap (p2 - p3))), (17, vi p3), (16, vi p2), (15, .ag (qa1826 p1)), (1, vi p2), (2, vi p3), (3, .one (.pv (.rp [(qa1828 p1)] 0 0))), (6, .one (.pt 0 0 0 0)), (9, vb (decide (p2 ≤ p3)))] (zya (c_value_scaled _ _ _ c8) zyd)
  refine zl 49 [.ag (qa1826 p1), .ag (qa1831 r2)] (.ag (qa1832 r3)) [(20, .ag (qa1832 r3)), (19, .ag (qa1831 r2)), (18, vi (IntKind.i64.wrap (p2 - p3))), (17, vi p3), (16, vi p2), (15, .ag (qa1826 p1)), (1, vi p2), (2, vi p3), (3, .one (.pv (.rp [(qa1828 p1)] 0 0))), (6, .one (.pt 0 0 0 0)), (9, vb (decide (p2 ≤ p3)))] (c_value_wide_rounded _ _ _ c9) ?_
  refine zg [6] 1 [6] (zd (hK7 _ _ (ze ?_)))
  obtain rfl := Option.some.inj h
  exact zf [.ag (qa1832 r3)] (.ag (.cons (.rfl _ rfl) (.cons (.rfl _ rfl) (.cons (.rfl _ rfl) (.cons (.rfl _ rfl) (.cons (.rfl _ rfl) .nil))))))

def value_wide_number_j1 (p1 : GWide) (x1 : Bool) : Option (Int × Bool) :=
    ift x1
      (some ((0 : Int), false))
      (ift p1.neg
         (some ((IntKind.i64.wrap (0 - (IntKind.i64.wrap p1.size.1))), true))
         (some ((IntKind.i64.wrap p1.size.1), true)))

def value_wide_number (p1 : GWide) : Option (Int × Bool) :=
    bnd (some (IntKind.u64.wrap (BitVec.ofInt (IntKind.u64).bits p1.size.2.1 ||| BitVec.ofInt (IntKind.u64).bits p1.size.2.2.1).toNat)) fun y1 =>
    bnd (some (IntKind.u64.wrap (BitVec.ofInt (IntKind.u64).bits y1 ||| BitVec.ofInt (IntKind.u64).bits p1.size.2.2.2).toNat)) fun y2 =>
    ift (y2 != (0 : Int))
      (value_wide_number_j1 p1 true)
      (value_wide_number_j1 p1 (decide ((9223372036854775808 : Int) ≤ p1.size.1)))

abbrev qa1839 (p1 : GWide) : List PV := [.s (.bool p1.neg), .s (.int .u64 p1.size.1), .s (.int .u64 p1.size.2.1), .s (.int .u64 p1.size.2.2.1), .s (.int .u64 p1.size.2.2.2)]

theorem c_value_wide_number (p1 : GWide) (r : (Int × Bool)) (h : value_wide_number p1 = some r) : PC Tryd.prog 93 [.ag [cb p1.neg, ck .u64 p1.size.1, ck .u64 p1.size.2.1, ck .u64 p1.size.2.2.1, ck .u64 p1.size.2.2.2]] (.tp [vi r.1, vb r.2]) := by
 unfold value_wide_number at h
 refine zF 33 Tryd.f93 (zq fun K1 hK1 => zr (zg [] 3 [1] (zd (hK1 _ _ (zq fun K2 hK2 => zq fun K3 hK3 => ?_)))))
 have hJ1 : ∀ (x1 : Bool), value_wide_number_j1 p1 x1 = some r → ∀ fr1 st1, Sub 33 0 [] fr1 st1 [(1, .one (.pv (.rp [(qa1839 p1)] 0 0))), (21, vb x1)] [] → K3 fr1 st1 := by
  intro x1 h fr1 st1 hS
  unfold value_wide_number_j1 at h
  refine hK3 _ _ (XW.sub hS ?_)
  refine zC h (fun b7 h => ?_) (fun b7 h => ?_)
  ·refine zq fun K8 hK8 => zr (zg [] 2 [2,3] (zd (hK8 _ _ (ze ?_))))
   obtain rfl := Option.some.inj h
   exact zf [vi (0 : Int), vb false] (.tpc (.one (.rfl _ rfl)) (.tpc (.one (.rfl _ rfl)) (.tp0)))
  ·refine zs (hK2 _ _ (zq fun K9 hK9 => zq fun K10 hK10 => zr (zu [] 2 [1,23] [(qa1839 p1)] (zd (hK10 _ _ ?_)))))
   refine zC h (fun b11 h => ?_) (fun b11 h => ?_)
   ·refine zq fun K12 hK12 => zr ?_
    refine zp [] 7 [2,3] [(qa1839 p1)] [(2, vi (IntKind.i64.wrap (0 - (IntKind.i64.wrap p1.size.1)))), (3, vb true)] [] [0 ≤ (0 : Int) ∧ (0 : Int) < 4, ([(qa1839 p1)] : List (List PV))[0]? = some (qa1839 p1)] (⟨by decide, rfl, trivial⟩) ?_
    refine zd (hK12 _ _ (ze ?_))
    obtain rfl := Option.some.inj h
    exact zf [vi (IntKind.i64.wrap (0 - (IntKind.i64.wrap p1.size.1))), vb true] (.tpc (.one (.rfl _ rfl)) (.tpc (.one (.rfl _ rfl)) (.tp0)))
   ·refine zs (hK9 _ _ (zq fun K13 hK13 => zr (zo [] 6 [2,3] [(qa1839 p1)] [0 ≤ (0 : Int) ∧ (0 : Int) < 4, ([(qa1839 p1)] : List (List PV))[0]? = some (qa1839 p1)] (⟨by decide, rfl, trivial⟩) (zd (hK13 _ _ (ze ?_))))))
    obtain rfl := Option.some.inj h
    exact zf [vi (IntKind.i64.wrap p1.size.1), vb true] (.tpc (.one (.rfl _ rfl)) (.tpc (.one (.rfl _ rfl)) (.tp0)))
 obtain ⟨y1, hy4, h⟩ := zB h
 obtain ⟨y2, hy5, h⟩ := zB h
 rcases zW h with ⟨b6, h⟩ | ⟨b6, h⟩
 ·refine zr ?_
  refine zp [] 7 [1,10] [[.s (.bool p1.neg), .s (.int .u64 p1.size.1), .s (.int .u64 p1.size.2.1), .s (.int .u64 p1.size.2.2.1), .s (.int .u64 p1.size.2.2.2)], [.s (.bool p1.neg), .s (.int .u64 p1.size.1), .s (.int .u64 p1.size.2.1), .s (.int .u64 p1.size.2.2.1), .s (.int .u64 p1.size.2.2.2)]] [(1, .one (.pv (.rp [[.s (.bool p1.neg), .s (.int .u64 p1.size.1), .s (.int .u64 p1.size.2.1), .s (.int .u64 p1.size.2.2.1), .s (.int .u64 p1.size.2.2.2)]] 0 0))), (10, vk .u64 (IntKind.u64.wrap (BitVec.ofInt (IntKind.u64).bits p1.size.2.1 ||| BitVec.ofInt (IntKind.u64).bits p1.size.2.2.1).toNat))] [] [0 ≤ (1 : Int) ∧ (1 : Int) < 4, ([[.s (.bool p1.neg), .s (.int .u64 p1.size.1), .s (.int .u64 p1.size.2.1), .s (.int .u64 p1.size.2.2.1), .s (.int .u64 p1.size.2.2.2)]] : List (List PV))[0]? = some [.s (.bool p1.neg), .s (.int .u64 p1.size.1), .s (.int .u64 p1.size.2.1), .s (.int .u64 p1.size.2.2.1), .s (.int .u64 p1.size.2.2.2)], 0 ≤ (2 : Int) ∧ (2 : Int) < 4, ([[.s (.bool p1.neg), .s (.int .u64 p1.size.1), .s (.int .u64 p1.size.2.1), .s (.int .u64 p1.size.2.2.1), .s (.int .u64 p1.size.2.2.2)]] : List (List PV))[0]? = some [.s (.bool p1.neg), .s (.int .u64 p1.size.1), .s (.int .u64 p1.size.2.1), .s (.int .u64 p1.size.2.2.1), .s (.int .u64 p1.size.2.2.2)]] (⟨by decide, rfl, by decide, rfl, trivial⟩) ?_
  rw [show (IntKind.u64.wrap (BitVec.ofInt (IntKind.u64).bits p1.size.2.1 ||| BitVec.ofInt (IntKind.u64).bits p1.size.2.2.1).toNat) = y1 from Option.some.inj hy4]
  refine zp [] 4 [1,14] [[.s (.bool p1.neg), .s (.int .u64 p1.size.1), .s (.int .u64 p1.size.2.1), .s (.int .u64 p1.size.2.2.1), .s (.int .u64 p1.size.2.2.2)]] [(1, .one (.pv (.rp [[.s (.bool p1.neg), .s (.int .u64 p1.size.1), .s (.int .u64 p1.size.2.1), .s (.int .u64 p1.size.2.2.1), .s (.int .u64 p1.size.2.2.2)]] 0 0))), (14, vk .u64 (IntKind.u64.wrap (BitVec.ofInt (IntKind.u64).bits y1 ||| BitVec.ofInt (IntKind.u64).bits p1.size.2.2.2).toNat))] [] [0 ≤ (3 : Int) ∧ (3 : Int) < 4, ([[.s (.bool p1.neg), .s (.int .u64 p1.size.1), .s (.int .u64 p1.size.2.1), .s (.int .u64 p1.size.2.2.1), .s (.int .u64 p1.size.2.2.2)]] : List (List PV))[0]? = some [.s (.bool p1.neg), .s (.int .u64 p1.size.1), .s (.int .u64 p1.size.2.1), .s (.int .u64 p1.size.2.2.1), .s (.int .u64 p1.size.2.2.2)]] (⟨by decide, rfl, trivial⟩) ?_
  rw [show (IntKind.u64.wrap (BitVec.ofInt (IntKind.u64).bits y1 ||| BitVec.ofInt (IntKind.u64).bits p1.size.2.2.2).toNat) = y2 from Option.some.inj hy5]
  exact zg [] 2 [1,16] (zt 16 b6 (zg [] 5 [1,21] (zd (hJ1 true h _ _ (zk [1,21])))))
 ·refine zr ?_
  refine zp [] 7 [1,10] [[.s (.bool p1.neg), .s (.int .u64 p1.size.1), .s (.int .u64 p1.size.2.1), .s (.int .u64 p1.size.2.2.1), .s (.int .u64 p1.size.2.2.2)], [.s (.bool p1.neg), .s (.int .u64 p1.size.1), .s (.int .u64 p1.size.2.1), .s (.int .u64 p1.size.2.2.1), .s (.int .u64 p1.size.2.2.2)]] [(1, .one (.pv (.rp [[.s (.bool p1.neg), .s (.int .u64 p1.size.1), .s (.int .u64 p1.size.2.1), .s (.int .u64 p1.size.2.2.1), .s (.int .u64 p1.size.2.2.2)]] 0 0))), (10, vk .u64 (IntKind.u64.wrap (BitVec.ofInt (IntKind.u64).bits p1.size.2.1 ||| BitVec.ofInt (IntKind.u64).bits p1.size.2.2.1).toNat))] [] [0 ≤ (1 : Int) ∧ (1 : Int) < 4, ([[.s (.bool p1.neg), .s (.int .u64 p1.size.1), .s (.int .u64 p1.size.2.1), .s (.int .u64 p1.size.2.2.1), .s (.int .u64 p1.size.2.2.2)]] : List (List PV))[0]? = some [.s (.bool p1.neg), .s (.int .u64 p1.size.1), .s (.int .u64 p1.size.2.1), .s (.int .u64 p1.size.2.2.1), .s (.int .u64 p1.size.2.2.2)], 0 ≤ (2 : Int) ∧ (2 : Int) < 4, ([[.s (.bool p1.neg), .s (.int .u64 p1.size.1), .s (.int .u64 p1.size.2.1), .s (.int .u64 p1.size.2.2.1), .s (.int .u64 p1.size.2.2.2)]] : List (List PV))[0]? = some [.s (.bool p1.neg), .s (.int .u64 p1.size.1), .s (.int .u64 p1.size.2.1), .s (.int .u64 p1.size.2.2.1), .s (.int .u64 p1.size.2.2.2)]] (⟨by decide, rfl, by decide, rfl, trivial⟩) ?_
  rw [show (IntKind.u64.wrap (BitVec.ofInt (IntKind.u64).bits p1.size.2.1 ||| BitVec.ofInt (IntKind.u64).bits p1.size.2.2.1).toNat) = y1 from Option.some.inj hy4]
  refine zp [] 4 [1,14] [[.s (.bool p1.neg), .s (.int .u64 p1.size.1), .s (.int .u64 p1.size.2.1), .s (.int .u64 p1.size.2.2.1), .s (.int .u64 p1.size.2.2.2)]] [(1, .one (.pv (.rp [[.s (.bool p1.neg), .s (.int .u64 p1.size.1), .s (.int .u64 p1.size.2.1), .s (.int .u64 p1.size.2.2.1), .s (.int .u64 p1.size.2.2.2)]] 0 0))), (14, vk .u64 (IntKind.u64.wrap (BitVec.ofInt (IntKind.u64).bits y1 ||| BitVec.ofInt (IntKind.u64).bits p1.size.2.2.2).toNat))] [] [0 ≤ (3 : Int) ∧ (3 : Int) < 4, ([[.s (.bool p1.neg), .s (.int .u64 p1.size.1), .s (.int .u64 p1.size.2.1), .s (.int .u64 p1.size.2.2.1), .s (.int .u64 p1.size.2.2.2)]] : List (List PV))[0]? = some [.s (.bool p1.neg), .s (.int .u64 p1.size.1), .s (.int .u64 p1.size.2.1), .s (.int .u64 p1.size.2.2.1), .s (.int .u64 p1.size.2.2.2)]] (⟨by decide, rfl, trivial⟩) ?_
  rw [show (IntKind.u64.wrap (BitVec.ofInt (IntKind.u64).bits y1 ||| BitVec.ofInt (IntKind.u64).bits p1.size.2.2.2).toNat) = y2 from Option.some.inj hy5]
  refine zg [] 2 [1,16] (zt 16 b6 (zo [] 5 [1,21] [(qa1839 p1)] [0 ≤ (0 : Int) ∧ (0 : Int) < 4, ([(qa1839 p1)] : List (List PV))[0]? = some (qa1839 p1)] (⟨by decide, rfl, trivial⟩) (zd ?_)))
  exact hJ1 (decide ((9223372036854775808 : Int) ≤ p1.size.1)) h _ _ (zk [1,21])

def value_made_j1 (p1 : Int) (p3 : Int) (r1 : (Int × Bool)) (x1 : Bool) : Option GValue :=
    ift x1
      (some (GValue.mk (0 : Int) (0 : Int) (0 : Int) ByteArray.empty []))
      (some (GValue.mk p1 r1.1 p3 ByteArray.empty []))

def value_made (p1 : Int) (p2 : GWide) (p3 : Int) : Option GValue :=
    bnd (value_wide_number (GWide.mk p2.neg (p2.size.1, p2.size.2.1, p2.size.2.2.1, p2.size.2.2.2))) fun r1 =>
    ift (!r1.2)
      (value_made_j1 p1 p3 r1 true)
      (bnd (value_Sound (GValue.mk p1 r1.1 p3 ByteArray.empty [])) fun r2 =>
       value_made_j1 p1 p3 r1 (!r2))

abbrev qa1842 (p2 : GWide) : List CV := [cb p2.neg, ck .u64 p2.size.1, ck .u64 p2.size.2.1, ck .u64 p2.size.2.2.1, ck .u64 p2.size.2.2.2]
abbrev qa1846 : List CV := [ci (0 : Int), ci (0 : Int), ci (0 : Int), cst ByteArray.empty, .pv (.s (.slice none 0 0))]
abbrev qa1847 (p1 : Int) (p3 : Int) (r1 : (Int × Bool)) : List CV := [ci p1, ci r1.1, ci p3, cst ByteArray.empty, .pv (.s (.slice none 0 0))]

theorem c_value_made (p1 : Int) (p2 : GWide) (p3 : Int) (r : GValue) (h : value_made p1 p2 p3 = some r) : PC Tryd.prog 47 [vi p1, .ag (qa1842 p2), vi p3] (.ag [ci r.kind, ci r.n, ci r.scale, cst r.s, cl eValue r.items]) := by
 unfold value_made at h
 refine zF 28 Tryd.f47 (zq fun K1 hK1 => zr (zg [6, 9] 2 [0,2,4,6] (zd (hK1 _ _ (zq fun K2 hK2 => ?_)))))
 obtain ⟨r1, c3, h⟩ := zB h
 refine zr (zu [6, 9] 1 [0,2,6,11] [[.s (.bool p2.neg), .s (.int .u64 p2.size.1), .s (.int .u64 p2.size.2.1), .s (.int .u64 p2.size.2.2.1), .s (.int .u64 p2.size.2.2.2)]] (zl 93 [.ag (qa1842 p2)] (.tp [vi r1.1, vb r1.2]) [(12, .tp [vi r1.1, vb r1.2]), (0, vi p1), (2, vi p3), (6, .one (.pt 0 0 0 0)), (11, .ag (qa1842 p2))] (c_value_wide_number _ _ c3) (zg [6, 9] 5 [0,2,6,7,8] (zd (hK2 _ _ (zq fun K4 hK4 => zr ?_))))))
 refine zg [6, 9] 6 [6,8,9] (zd (hK4 _ _ (zq fun K5 hK5 => zq fun K6 hK6 => ?_)))
 have hJ1 : ∀ (x1 : Bool), value_made_j1 p1 p3 r1 x1 = some r → ∀ fr1 st1, Sub 28 0 [] fr1 st1 [(6, .one (.pt 0 0 0 0)), (9, .one (.pt 1 0 0 0)), (25, vb x1)] [.box qa1846, .box (qa1847 p1 p3 r1)] → K6 fr1 st1 := by
  intro x1 h fr1 st1 hS
  unfold value_made_j1 at h
  refine hK6 _ _ (XW.sub hS ?_)
  refine zC h (fun b9 h => ?_) (fun b9 h => ?_)
  ·refine zq fun K10 hK10 => zr (zg [6, 9] 2 [6] (zd (hK10 _ _ (ze ?_))))
   obtain rfl := Option.some.inj h
   exact zf [.ag qa1846] (.ag (.cons (.rfl _ rfl) (.cons (.rfl _ rfl) (.cons (.rfl _ rfl) (.cons (.rfl _ rfl) (.cons (.nl) .nil))))))
  ·refine zs (hK5 _ _ (zq fun K11 hK11 => zr (zg [6, 9] 2 [6] (zd (hK11 _ _ (ze ?_))))))
   obtain rfl := Option.some.inj h
   exact zf [.ag (qa1847 p1 p3 r1)] (.ag (.cons (.rfl _ rfl) (.cons (.rfl _ rfl) (.cons (.rfl _ rfl) (.cons (.rfl _ rfl) (.cons (.nl) .nil))))))
 rcases zW h with ⟨b7, h⟩ | ⟨b7, h⟩
 ·exact zr (zv [6, 9] 3 [6,9,21] [] [(6, .one (.pt 0 0 0 0)), (9, .one (.pt 1 0 0 0)), (21, vb (!r1.2))] [.box qa1846, .box (qa1847 p1 p3 r1)] (zt 21 b7 (zg [6, 9] 4 [6,9,25] (zd (hJ1 true h _ _ (zk [6,9,25]))))))
 ·obtain ⟨r2, c8, h⟩ := zB h
  refine zr (zg [6, 9] 3 [6,9,21] (zt 21 b7 (zv [6, 9] 1 [6,9,21,22] [] [(6, .one (.pt 0 0 0 0)), (9, .one (.pt 1 0 0 0)), (21, vb false), (22, .ag (qa1847 p1 p3 r1))] [.box qa1846, .box (qa1847 p1 p3 r1)] ?_)))
  exact zl 9 [.ag (qa1847 p1 p3 r1)] (vb r2) [(23, vb r2), (6, .one (.pt 0 0 0 0)), (9, .one (.pt 1 0 0 0)), (21, vb false), (22, .ag (qa1847 p1 p3 r1))] (PC.le (c_value_Sound _ _ c8) ⟨ALe.agc ⟨.rfl _, .rfl _, .rfl _, .rfl _, .nl, trivial⟩, trivial⟩) (zg [6, 9] 2 [6,9,25] (zd (hJ1 (!r2) h _ _ (zk [6,9,25]))))


end Go.Proofs.YtdkmclmdemngfaaDoor
