/- The shelf's contract of utf8.ValidString, laid at this program. Printed by a program: what the functions compute, and the proofs of their contracts. -/
import Derived.Test.YtdbfodeghijdlaaDoorProg
import Derived.Test.YtdbfodeghijdlaaDoorChecked
import Derived.Test.YtdbfodeghijdlaaDoorSxB
namespace Go.Proofs.YtdbfodeghijdlaaDoor
open Go Go.SX Go.Shelf Go.Lib
set_option linter.unusedVariables false

def u8ren : Ren where
 f := fun n => if n = 196 then 87 else if n = 259 then 94 else n
 t := fun n => if n = 0 then 0 else if n = 3 then 3 else if n = 4 then 4 else if n = 5 then 5 else if n = 9 then 9 else if n = 12 then 12 else if n = 46 then 96 else if n = 53 then 49 else if n = 119 then 105 else if n = 138 then 107 else if n = 139 then 108 else n
 g := fun n => if n = 3 then 0 else if n = 4 then 1 else n

set_option maxRecDepth 100000 in
theorem u8lays : Lays.n196 Tryd.prog u8ren where
 mixed := by kernel_rfl
 f196 := by kernel_rfl
 f259 := by kernel_rfl
 t0 := by kernel_rfl
 a0 := fun w => by kernel_rfl
 z0 := fun w => by kernel_rfl
 v0 := fun w => by kernel_rfl
 t3 := by kernel_rfl
 a3 := fun w => by kernel_rfl
 z3 := fun w => by kernel_rfl
 v3 := fun w => by kernel_rfl
 t4 := by kernel_rfl
 a4 := fun w => by kernel_rfl
 z4 := fun w => by kernel_rfl
 v4 := fun w => by kernel_rfl
 t5 := by kernel_rfl
 a5 := fun w => by kernel_rfl
 z5 := fun w => by kernel_rfl
 v5 := fun w => by kernel_rfl
 t9 := by kernel_rfl
 a9 := fun w => by kernel_rfl
 z9 := fun w => by kernel_rfl
 v9 := fun w => by kernel_rfl
 t12 := by kernel_rfl
 a12 := fun w => by kernel_rfl
 z12 := fun w => by kernel_rfl
 v12 := fun w => by kernel_rfl
 t46 := by kernel_rfl
 a46 := fun w => by kernel_rfl
 z46 := fun w => by kernel_rfl
 v46 := fun w => by kernel_rfl
 t53 := by kernel_rfl
 a53 := fun w => by kernel_rfl
 z53 := fun w => by kernel_rfl
 v53 := fun w => by kernel_rfl
 t119 := by kernel_rfl
 a119 := fun w => by kernel_rfl
 z119 := fun w => by kernel_rfl
 t138 := by kernel_rfl
 a138 := fun w => by kernel_rfl
 z138 := fun w => by kernel_rfl
 v138 := fun w => by kernel_rfl
 t139 := by kernel_rfl
 a139 := fun w => by kernel_rfl
 z139 := fun w => by kernel_rfl
 v139 := fun w => by kernel_rfl
 g3 := by kernel_rfl
 g4 := by kernel_rfl

def utf8_ValidString (p1 : ByteArray) : Option Bool := grd (p1.size ≤ 9223372036854775807) <| some (validD p1.data.toList)

theorem c_utf8_ValidString (p1 : ByteArray) (r : Bool) (h : utf8_ValidString p1 = some r) : PC Tryd.prog 87 [vs p1] (vb r) := by
 unfold utf8_ValidString at h
 obtain ⟨g1, h⟩ := grd_some h
 obtain rfl := Option.some.inj h
 exact pc_validString u8lays (by kernel_rfl) (by kernel_rfl) p1 g1

end Go.Proofs.YtdbfodeghijdlaaDoor
namespace Go.Proofs.YtdbfodeghijdlaaDoor
open Go.SX Go
set_option linter.unusedVariables false
set_option linter.unusedSimpArgs false
set_option maxRecDepth 100000
set_option maxHeartbeats 8000000

def law1_number (p1 : Int) : Option GValue :=
    some (GValue.mk (2 : Int) p1 (0 : Int) ByteArray.empty [])


theorem c_law1_number (p1 : Int) (r : GValue) (h : law1_number p1 = some r) : PC Tryd.prog 10 [vi p1] (.ag [ci r.kind, ci r.n, ci r.scale, cst r.s, cl eValue r.items]) := by
 unfold law1_number at h
 refine zF 5 Tryd.f10 (zq fun K1 hK1 => zr (zg [2] 1 [0,2] (zd (hK1 _ _ (zq fun K2 hK2 => zr ?_)))))
 refine zg [2] 3 [2] (zd (hK2 _ _ (ze ?_)))
 obtain rfl := Option.some.inj h
 exact zf [.ag [ci (2 : Int), ci p1, ci (0 : Int), cst ByteArray.empty, .pv (.s (.slice none 0 0))]] (.ag (.cons (.rfl _ rfl) (.cons (.rfl _ rfl) (.cons (.rfl _ rfl) (.cons (.rfl _ rfl) (.cons (.nl) .nil))))))

def value_kindOf (p1 : GValue) : Option GType :=
    some (GType.mk p1.kind p1.scale [])


theorem c_value_kindOf (p1 : GValue) (r : GType) (h : value_kindOf p1 = some r) : PC Tryd.prog 48 [.ag [ci p1.kind, ci p1.n, ci p1.scale, cst p1.s, cl eValue p1.items]] (.ag [ci r.kind, ci r.scale, cl eField r.fields]) := by
 unfold value_kindOf at h
 refine zF 8 Tryd.f48 (zq fun K1 hK1 => zr (zg [2] 2 [1,2] (zd (hK1 _ _ (zq fun K2 hK2 => zr ?_)))))
 refine zu [2] 6 [2] [[pi p1.kind, pi p1.n, pi p1.scale, .s (.string p1.s), .ro (eValue.els p1.items)], [pi p1.kind, pi p1.n, pi p1.scale, .s (.string p1.s), .ro (eValue.els p1.items)]] (zd (hK2 _ _ (ze ?_)))
 obtain rfl := Option.some.inj h
 exact zf [.ag [ci p1.kind, ci p1.scale, .pv (.s (.slice none 0 0))]] (.ag (.cons (.rfl _ rfl) (.cons (.rfl _ rfl) (.cons (.nl) .nil))))

def value_within_j1 (x1 : Bool) : Option Bool :=
    some x1

def value_within (p1 : Int) (p2 : Int) (p3 : Int) : Option Bool :=
    ift (decide (p2 ≤ p1))
      (value_within_j1 (decide (p1 ≤ p3)))
      (value_within_j1 false)


theorem c_value_within (p1 : Int) (p2 : Int) (p3 : Int) (r : Bool) (h : value_within p1 p2 p3 = some r) : PC Tryd.prog 78 [vi p1, vi p2, vi p3] (vb r) := by
 unfold value_within at h
 refine zF 15 Tryd.f78 (zq fun K1 hK1 => zr (zg [] 1 [0,1,2] (zd (hK1 _ _ (zq fun K2 hK2 => ?_)))))
 have hJ1 : ∀ (x1 : Bool), value_within_j1 x1 = some r → ∀ fr1 st1, Sub 15 0 [] fr1 st1 [(6, vb x1)] [] → K2 fr1 st1 := by
  intro x1 h fr1 st1 hS
  unfold value_within_j1 at h
  refine hK2 _ _ (XW.sub hS ?_)
  refine ze ?_
  obtain rfl := Option.some.inj h
  exact zf [vb x1] (.one (.rfl _ rfl))
 rcases zW h with ⟨b3, h⟩ | ⟨b3, h⟩
 ·exact zr (zg [] 4 [0,2,10] (zt 10 b3 (zv [] 5 [6] [] [(6, vb (decide (p1 ≤ p3)))] [] (zd (hJ1 (decide (p1 ≤ p3)) h _ _ (zk [6]))))))
 ·exact zr (zg [] 4 [0,2,10] (zt 10 b3 (zg [] 5 [6] (zd (hJ1 false h _ _ (zk [6]))))))

def value_text_j2 (rec1 : Nat → Option Bool) (p1 : ByteArray) (z1 : Nat) (x2 : Bool) : Option Bool :=
    ift x2
      (some false)
      (rec1 (z1 + (Utf8.decode p1 z1).2))

def value_text_j3 : Option Bool :=
    some true

def value_text_l1 (p1 : ByteArray) : Nat → Nat → Option Bool
  | 0, _ => none
  | k1 + 1, z1 =>
    ift (decide (z1 < p1.size))
      (ift (decide (Int.ofNat (Utf8.decode p1 z1).1 < (32 : Int)))
         (value_text_j2 (value_text_l1 p1 k1) p1 z1 true)
         (value_text_j2 (value_text_l1 p1 k1) p1 z1 (Int.ofNat (Utf8.decode p1 z1).1 == (127 : Int))))
      (value_text_j3)

def value_text_j1 (p1 : ByteArray) (x1 : Bool) : Option Bool :=
    ift x1
      (some false)
      (value_text_l1 p1 BIG 0)

def value_text (p1 : ByteArray) : Option Bool :=
    ift (decide ((256 : Int) < (p1.size : Int)))
      (value_text_j1 p1 true)
      (bnd (utf8_ValidString p1) fun r1 =>
       value_text_j1 p1 (!r1))

abbrev qa788 (p1 : ByteArray) (z1 : Nat) : St := [.raw (.stringIter p1 (z1 + (Utf8.decode p1 z1).2))]

theorem c_value_text (p1 : ByteArray) (r : Bool) (h : value_text p1 = some r) : PC Tryd.prog 79 [vs p1] (vb r) := by
 unfold value_text at h
 refine zF 24 Tryd.f79 (zq fun K1 hK1 => zr (zg [] 1 [0] (zd (hK1 _ _ (zq fun K2 hK2 => zq fun K3 hK3 => ?_)))))
 have hJ1 : ∀ (x1 : Bool), value_text_j1 p1 x1 = some r → ∀ fr1 st1, Sub 24 0 [] fr1 st1 [(0, vs p1), (12, vb x1)] [] → K3 fr1 st1 := by
  intro x1 h fr1 st1 hS
  unfold value_text_j1 at h
  refine hK3 _ _ (XW.sub hS ?_)
  refine zC h (fun b6 h => ?_) (fun b6 h => ?_)
  ·refine zq fun K7 hK7 => zr (zg [] 1 [2] (zd (hK7 _ _ (ze ?_))))
   obtain rfl := Option.some.inj h
   exact zf [vb false] (.one (.rfl _ rfl))
  ·refine zs (hK2 _ _ (zq fun K8 hK8 => ?_))
   have hJ3 : ∀ (_ : Unit), value_text_j3 = some r → ∀ fr1 st1, Sub 24 0 [] fr1 st1 [] [] → K8 fr1 st1 := by
    intro _ h fr1 st1 hS
    unfold value_text_j3 at h
    refine hK8 _ _ (XW.sub hS ?_)
    refine zq fun K19 hK19 => zr (zg [] 1 [2] (zd (hK19 _ _ (ze ?_))))
    obtain rfl := Option.some.inj h
    exact zf [vb true] (.one (.rfl _ rfl))
   refine zq fun K9 hK9 => zr (zv [] 1 [13] [] [(13, vs p1)] [] (XO.rng p1 [(14, .one (.pt 0 0 0 0)), (13, vs p1)] [.raw (.stringIter p1 0)] (by kernel_rfl) (by kernel_rfl) (by kernel_rfl) (zd (hK9 _ _ (zb 0 (XW.rounds' BIG (x := cd Tryd.f79 [1,1,0,1,0,0]) (by kernel_rfl) fun Q1 hQ1 => ?_))))))
   have hL1 : ∀ (k1 : Nat) (z1 : Nat), value_text_l1 p1 k1 z1 = some r → XR Tryd.prog 24 0 [] (cd Tryd.f79 [1,1,0,1,0,0]) Q1 k1 [(14, .one (.pt 0 0 0 0))] [.raw (.stringIter p1 z1)] := by
    intro k1
    induction k1 with
    | zero => intro z1 h; rw [value_text_l1.eq_1] at h; cases h
    | succ k1 ih1 =>
     intro z1 h
     rw [value_text_l1.eq_2] at h
     refine zq fun K10 hK10 => ?_
     rcases zW h with ⟨b11, h⟩ | ⟨b11, h⟩
     ·refine zr (XO.nxt 0 p1 z1 [(15, .tp [vb true, vi (Int.ofNat z1), vk .i32 (Int.ofNat (Utf8.decode p1 z1).1)]), (14, .one (.pt 0 0 0 0))] (qa788 p1 z1) (by kernel_rfl) (by kernel_rfl) (by kernel_rfl) (by kernel_rfl) b11 (zg [] 1 [14,15,16] (zd (hK10 _ _ (zq fun K12 hK12 => zc true (fun _ => ?_) (fun hx => by cases hx))))))
      refine zs (hK12 _ _ (zb 1 (zq fun K13 hK13 => zr (zg [] 2 [4,14] (zd (hK13 _ _ ?_))))))
      refine zq fun K14 hK14 => ?_
      have hJ2 : ∀ (x2 : Bool), value_text_j2 (value_text_l1 p1 k1) p1 z1 x2 = some r → ∀ fr1 st1, Sub 24 0 [] fr1 st1 [(14, .one (.pt 0 0 0 0)), (23, vb x2)] (qa788 p1 z1) → K14 fr1 st1 := by
       intro x2 h fr1 st1 hS
       unfold value_text_j2 at h
       refine hK14 _ _ (XW.sub hS ?_)
       refine zC h (fun b16 h => ?_) (fun b16 h => ?_)
       ·refine zq fun K17 hK17 => zr (zg [] 1 [2] (zd (hK17 _ _ (ze (hQ1 _ _ _ ?_)))))
        obtain rfl := Option.some.inj h
        exact zf [vb false] (.one (.rfl _ rfl))
       ·exact zs (XR.sub (zk [14]) (ih1 (z1 + (Utf8.decode p1 z1).2) h))
      rcases zW h with ⟨b15, h⟩ | ⟨b15, h⟩
      ·exact zr (zv [] 3 [4,14,20] [] [(4, vk .i32 (Int.ofNat (Utf8.decode p1 z1).1)), (14, .one (.pt 0 0 0 0)), (20, vb (decide (Int.ofNat (Utf8.decode p1 z1).1 < (32 : Int))))] (qa788 p1 z1) (zt 20 b15 (zg [] 3 [14,23] (zd (hJ2 true h _ _ (zk [14,23]))))))
      ·exact zr (zg [] 3 [4,14,20] (zt 20 b15 (zv [] 3 [14,23] [] [(14, .one (.pt 0 0 0 0)), (23, vb (Int.ofNat (Utf8.decode p1 z1).1 == (127 : Int)))] (qa788 p1 z1) (zd (hJ2 (Int.ofNat (Utf8.decode p1 z1).1 == (127 : Int)) h _ _ (zk [14,23]))))))
     ·refine zr (XO.nxtE 0 p1 z1 [(15, .tp [vb false]), (14, .one (.pt 0 0 0 0))] (by kernel_rfl) (by kernel_rfl) (by kernel_rfl) b11 (zv [] 1 [14,15,16] [] [(14, .one (.pt 0 0 0 0)), (15, .tp [vb false]), (16, vb false)] [.raw (.stringIter p1 z1)] (zd (hK10 _ _ (zq fun K18 hK18 => zc false (fun hx => by cases hx) (fun _ => ?_))))))
      exact zx 0 (hQ1 _ _ _ (hJ3 () h _ _ (Sub.trans (Sub.pick (fr' := []) [] (by kernel_rfl)) (Sub.take (fr' := []) 0 (Nat.zero_le _) (by kernel_rfl) (by kernel_rfl)))))
   exact XR.sub (zk [14]) (hL1 BIG 0 h)
 rcases zW h with ⟨b4, h⟩ | ⟨b4, h⟩
 ·exact zr (zg [] 4 [0,8] (zt 8 b4 (zv [] 4 [0,12] [] [(0, vs p1), (12, vb true)] [] (zd (hJ1 true h _ _ (zk [0,12]))))))
 ·obtain ⟨r1, c5, h⟩ := zB h
  exact zr (zg [] 4 [0,8] (zt 8 b4 (zg [] 1 [0,8,9] (zl 87 [vs p1] (vb r1) [(10, vb r1), (0, vs p1), (8, vb false), (9, vs p1)] (c_utf8_ValidString _ _ c5) (zg [] 2 [0,12] (zd (hJ1 (!r1) h _ _ (zk [0,12]))))))))

def value_plain_j2 (x2 : Bool) : Option Bool :=
    some x2

def value_plain_j3 (x3 : Bool) : Option Bool :=
    some x3

def value_plain_j4 (x4 : Bool) : Option Bool :=
    some x4

def value_plain_j5 (x5 : Bool) : Option Bool :=
    some x5

def value_plain_j6 (x6 : Bool) : Option Bool :=
    some x6

def value_plain_j7 (x7 : Bool) : Option Bool :=
    some x7

def value_plain_j8 (x8 : Bool) : Option Bool :=
    some x8

def value_plain_j9 (x9 : Bool) : Option Bool :=
    some x9

def value_plain_j1 (p1 : GValue) (x1 : Bool) : Option Bool :=
    ift (p1.kind == (0 : Int))
      (ift x1
         (ift (p1.s.toList == (ByteArray.mk #[]).toList)
            (value_plain_j2 ((p1.items.length : Int) == (0 : Int)))
            (value_plain_j2 false))
         (value_plain_j2 false))
      (ift (p1.kind == (1 : Int))
         (bnd (value_within p1.n (0 : Int) (1 : Int)) fun r1 =>
          ift r1
            (ift (p1.scale == (0 : Int))
               (ift (p1.s.toList == (ByteArray.mk #[]).toList)
                  (value_plain_j3 ((p1.items.length : Int) == (0 : Int)))
                  (value_plain_j3 false))
               (value_plain_j3 false))
            (value_plain_j3 false))
         (ift (p1.kind == (2 : Int))
            (bnd (value_within p1.n (-999999999999999999 : Int) (999999999999999999 : Int)) fun r2 =>
             ift r2
               (ift (p1.scale == (0 : Int))
                  (ift (p1.s.toList == (ByteArray.mk #[]).toList)
                     (value_plain_j4 ((p1.items.length : Int) == (0 : Int)))
                     (value_plain_j4 false))
                  (value_plain_j4 false))
               (value_plain_j4 false))
            (ift (p1.kind == (3 : Int))
               (bnd (value_within p1.n (-999999999999999999 : Int) (999999999999999999 : Int)) fun r3 =>
                ift r3
                  (bnd (value_within p1.scale (0 : Int) (12 : Int)) fun r4 =>
                   ift r4
                     (ift (p1.s.toList == (ByteArray.mk #[]).toList)
                        (value_plain_j5 ((p1.items.length : Int) == (0 : Int)))
                        (value_plain_j5 false))
                     (value_plain_j5 false))
                  (value_plain_j5 false))
               (ift (p1.kind == (4 : Int))
                  (ift x1
                     (bnd (value_text p1.s) fun r5 =>
                      ift r5
                        (value_plain_j6 ((p1.items.length : Int) == (0 : Int)))
                        (value_plain_j6 false))
                     (value_plain_j6 false))
                  (ift (p1.kind == (5 : Int))
                     (bnd (value_within p1.n (-62135596800 : Int) (253402300799 : Int)) fun r6 =>
                      ift r6
                        (ift (p1.scale == (0 : Int))
                           (ift (p1.s.toList == (ByteArray.mk #[]).toList)
                              (value_plain_j7 ((p1.items.length : Int) == (0 : Int)))
                              (value_plain_j7 false))
                           (value_plain_j7 false))
                        (value_plain_j7 false))
                     (ift (p1.kind == (6 : Int))
                        (ift x1
                           (ift (p1.s.toList == (ByteArray.mk #[]).toList)
                              (value_plain_j8 (decide ((p1.items.length : Int) ≤ (64 : Int))))
                              (value_plain_j8 false))
                           (value_plain_j8 false))
                        (ift (p1.kind == (7 : Int))
                           (ift x1
                              (ift (p1.s.toList == (ByteArray.mk #[]).toList)
                                 (value_plain_j9 (decide ((0 : Int) < (p1.items.length : Int))))
                                 (value_plain_j9 false))
                              (value_plain_j9 false))
                           (some false))))))))

def value_plain (p1 : GValue) : Option Bool :=
    ift (p1.n == (0 : Int))
      (value_plain_j1 p1 (p1.scale == (0 : Int)))
      (value_plain_j1 p1 false)

abbrev qa797 (p1 : GValue) : List PV := [pi p1.kind, pi p1.n, pi p1.scale, .s (.string p1.s), .ro (eValue.els p1.items)]
abbrev qa801 : Fr := [(2, vb false)]
abbrev qa814 (p1 : GValue) (r2 : Bool) : Fr := [(53, vb r2), (1, .one (.pv (.rp [(qa797 p1)] 0 0))), (52, vi p1.n)]
abbrev qa816 (p1 : GValue) : Fr := [(1, .one (.pv (.rp [(qa797 p1)] 0 0))), (73, vi p1.n)]
abbrev qa822 (p1 : GValue) (r6 : Bool) : Fr := [(109, vb r6), (1, .one (.pv (.rp [(qa797 p1)] 0 0))), (108, vi p1.n)]

theorem c_value_plain (p1 : GValue) (r : Bool) (h : value_plain p1 = some r) : PC Tryd.prog 65 [.ag [ci p1.kind, ci p1.n, ci p1.scale, cst p1.s, cl eValue p1.items]] (vb r) := by
 unfold value_plain at h
 refine zF 154 Tryd.f65 (zq fun K1 hK1 => zr (zg [] 2 [1] (zd (hK1 _ _ (zq fun K2 hK2 => ?_)))))
 have hJ1 : ∀ (x1 : Bool), value_plain_j1 p1 x1 = some r → ∀ fr1 st1, Sub 154 0 [] fr1 st1 [(1, .one (.pv (.rp [(qa797 p1)] 0 0))), (3, vb x1)] [] → K2 fr1 st1 := by
  intro x1 h fr1 st1 hS
  unfold value_plain_j1 at h
  refine hK2 _ _ (XW.sub hS ?_)
  refine zq fun K4 hK4 => zq fun K5 hK5 => zr (zu [] 2 [1,3,13] [(qa797 p1)] (zd (hK5 _ _ (zb 0 (zq fun K6 hK6 => ?_)))))
  refine zr (zg [] 2 [1,3,13,14] (zd (hK6 _ _ (zC h (fun b7 h => ?_) (fun b7 h => ?_)))))
  ·refine zq fun K8 hK8 => ?_
   have hJ2 : ∀ (x2 : Bool), value_plain_j2 x2 = some r → ∀ fr1 st1, Sub 154 0 [] fr1 st1 [(2, vb x2)] [] → K8 fr1 st1 := by
    intro x2 h fr1 st1 hS
    unfold value_plain_j2 at h
    refine hK8 _ _ (XW.sub hS ?_)
    refine ze ?_
    obtain rfl := Option.some.inj h
    exact zf [vb x2] (.one (.rfl _ rfl))
   rcases zW h with ⟨b9, h⟩ | ⟨b9, h⟩
   ·rcases zW h with ⟨b10, h⟩ | ⟨b10, h⟩
    ·refine zr (zv [] 2 [1,17] [] [(1, .one (.pv (.rp [[pi p1.kind, pi p1.n, pi p1.scale, .s (.string p1.s), .ro (eValue.els p1.items)]] 0 0))), (17, vb x1)] [] (zt 17 b9 (zu [] 5 [1,22] [[pi p1.kind, pi p1.n, pi p1.scale, .s (.string p1.s), .ro (eValue.els p1.items)]] (zt 22 b10 (zv [] 3 [22,25] [[pi p1.kind, pi p1.n, pi p1.scale, .s (.string p1.s), .ro (eValue.els p1.items)]] [(22, vb true), (25, vi ((eValue.els p1.items).length : Int))] [] ?_)))))
     rw [eValue.len p1.items]
     exact zg [] 3 [2] (zd (hJ2 ((p1.items.length : Int) == (0 : Int)) h _ _ (zk [2])))
    ·exact zr (zg [] 2 [1,17] (zt 17 b9 (zv [] 5 [1,22] [(qa797 p1)] [(1, .one (.pv (.rp [(qa797 p1)] 0 0))), (22, vb (p1.s.toList == (ByteArray.mk #[]).toList))] [] (zt 22 b10 (zg [] 6 [2] (zd (hJ2 false h _ _ (zk [2]))))))))
   ·exact zr (zv [] 2 [1,17] [] [(1, .one (.pv (.rp [(qa797 p1)] 0 0))), (17, vb x1)] [] (zt 17 b9 (zg [] 11 [2] (zd (hJ2 false h _ _ (zk [2]))))))
  ·refine zq fun K11 hK11 => zr (zv [] 2 [1,3,13,28] [] [(1, .one (.pv (.rp [(qa797 p1)] 0 0))), (3, vb x1), (13, vi p1.kind), (28, vb (p1.kind == (1 : Int)))] [] (zd (hK11 _ _ (zC h (fun b12 h => ?_) (fun b12 h => ?_)))))
   ·refine zq fun K13 hK13 => ?_
    have hJ3 : ∀ (x3 : Bool), value_plain_j3 x3 = some r → ∀ fr1 st1, Sub 154 0 [] fr1 st1 [(2, vb x3)] [] → K13 fr1 st1 := by
     intro x3 h fr1 st1 hS
     unfold value_plain_j3 at h
     refine hK13 _ _ (XW.sub hS ?_)
     refine ze ?_
     obtain rfl := Option.some.inj h
     exact zf [vb x3] (.one (.rfl _ rfl))
    obtain ⟨r1, c14, h⟩ := zB h
    rcases zW h with ⟨b15, h⟩ | ⟨b15, h⟩
    ·rcases zW h with ⟨b16, h⟩ | ⟨b16, h⟩
     ·rcases zW h with ⟨b17, h⟩ | ⟨b17, h⟩
      ·refine zr (zu [] 2 [1,31] [(qa797 p1)] (za (c_value_within _ _ _ _ c14) (zv [] 1 [1,33] [] [(1, .one (.pv (.rp [(qa797 p1)] 0 0))), (33, vb r1)] [] (zt 33 b15 (zu [] 5 [1,38] [(qa797 p1)] (zt 38 b16 (zu [] 5 [1,43] [(qa797 p1)] ?_)))))))
       refine zt 43 b17 (zv [] 3 [43,46] [[pi p1.kind, pi p1.n, pi p1.scale, .s (.string p1.s), .ro (eValue.els p1.items)]] [(43, vb true), (46, vi ((eValue.els p1.items).length : Int))] [] ?_)
       rw [eValue.len p1.items]
       exact zg [] 3 [2] (zd (hJ3 ((p1.items.length : Int) == (0 : Int)) h _ _ (zk [2])))
      ·refine zr (zu [] 2 [1,31] [(qa797 p1)] (zl 78 [vi p1.n, vi (0 : Int), vi (1 : Int)] (vb r1) [(32, vb r1), (1, .one (.pv (.rp [(qa797 p1)] 0 0))), (31, vi p1.n)] (c_value_within _ _ _ _ c14) (zg [] 1 [1,33] (zt 33 b15 (zu [] 5 [1,38] [(qa797 p1)] (zt 38 b16 ?_))))))
       exact zv [] 5 [1,43] [(qa797 p1)] [(1, .one (.pv (.rp [(qa797 p1)] 0 0))), (43, vb (p1.s.toList == (ByteArray.mk #[]).toList))] [] (zt 43 b17 (zg [] 6 [2] (zd (hJ3 false h _ _ (zk [2])))))
     ·refine zr (zu [] 2 [1,31] [(qa797 p1)] (za (c_value_within _ _ _ _ c14) (zv [] 1 [1,33] [] [(1, .one (.pv (.rp [(qa797 p1)] 0 0))), (33, vb r1)] [] (zt 33 b15 (zu [] 5 [1,38] [(qa797 p1)] (zt 38 b16 (zg [] 11 [2] ?_)))))))
      exact zd (hJ3 false h _ _ (zk [2]))
    ·exact zr (zu [] 2 [1,31] [(qa797 p1)] (za (c_value_within _ _ _ _ c14) (zv [] 1 [1,33] [] [(1, .one (.pv (.rp [(qa797 p1)] 0 0))), (33, vb r1)] [] (zt 33 b15 (zg [] 16 [2] (zd (hJ3 false h _ _ (zk [2]))))))))
   ·refine zq fun K18 hK18 => zr (zg [] 2 [1,3,13,49] (zd (hK18 _ _ (zC h (fun b19 h => ?_) (fun b19 h => ?_)))))
    ·refine zq fun K20 hK20 => ?_
     have hJ4 : ∀ (x4 : Bool), value_plain_j4 x4 = some r → ∀ fr1 st1, Sub 154 0 [] fr1 st1 [(2, vb x4)] [] → K20 fr1 st1 := by
      intro x4 h fr1 st1 hS
      unfold value_plain_j4 at h
      refine hK20 _ _ (XW.sub hS ?_)
      refine ze ?_
      obtain rfl := Option.some.inj h
      exact zf [vb x4] (.one (.rfl _ rfl))
     obtain ⟨r2, c21, h⟩ := zB h
     rcases zW h with ⟨b22, h⟩ | ⟨b22, h⟩
     ·rcases zW h with ⟨b23, h⟩ | ⟨b23, h⟩
      ·rcases zW h with ⟨b24, h⟩ | ⟨b24, h⟩
       ·refine zr (zu [] 2 [1,52] [(qa797 p1)] (zl 78 [vi p1.n, vi (-999999999999999999 : Int), vi (999999999999999999 : Int)] (vb r2) (qa814 p1 r2) (c_value_within _ _ _ _ c21) (zg [] 1 [1,54] (zt 54 b22 (zu [] 5 [1,59] [(qa797 p1)] (zt 59 b23 ?_))))))
        refine zv [] 5 [1,64] [[pi p1.kind, pi p1.n, pi p1.scale, .s (.string p1.s), .ro (eValue.els p1.items)]] [(1, .one (.pv (.rp [[pi p1.kind, pi p1.n, pi p1.scale, .s (.string p1.s), .ro (eValue.els p1.items)]] 0 0))), (64, vb (p1.s.toList == (ByteArray.mk #[]).toList))] [] (zt 64 b24 (zv [] 3 [64,67] [[pi p1.kind, pi p1.n, pi p1.scale, .s (.string p1.s), .ro (eValue.els p1.items)]] [(64, vb true), (67, vi ((eValue.els p1.items).length : Int))] [] ?_))
        rw [eValue.len p1.items]
        exact zg [] 3 [2] (zd (hJ4 ((p1.items.length : Int) == (0 : Int)) h _ _ (zk [2])))
       ·refine zr (zu [] 2 [1,52] [(qa797 p1)] (zl 78 [vi p1.n, vi (-999999999999999999 : Int), vi (999999999999999999 : Int)] (vb r2) (qa814 p1 r2) (c_value_within _ _ _ _ c21) (zg [] 1 [1,54] (zt 54 b22 (zu [] 5 [1,59] [(qa797 p1)] (zt 59 b23 ?_))))))
        exact zv [] 5 [1,64] [(qa797 p1)] [(1, .one (.pv (.rp [(qa797 p1)] 0 0))), (64, vb (p1.s.toList == (ByteArray.mk #[]).toList))] [] (zt 64 b24 (zg [] 6 [2] (zd (hJ4 false h _ _ (zk [2])))))
      ·refine zr (zu [] 2 [1,52] [(qa797 p1)] (zl 78 [vi p1.n, vi (-999999999999999999 : Int), vi (999999999999999999 : Int)] (vb r2) (qa814 p1 r2) (c_value_within _ _ _ _ c21) (zg [] 1 [1,54] (zt 54 b22 (zu [] 5 [1,59] [(qa797 p1)] (zt 59 b23 (zv [] 11 [2] [] qa801 [] ?_)))))))
       exact zd (hJ4 false h _ _ (zk [2]))
     ·exact zr (zu [] 2 [1,52] [(qa797 p1)] (zl 78 [vi p1.n, vi (-999999999999999999 : Int), vi (999999999999999999 : Int)] (vb r2) (qa814 p1 r2) (c_value_within _ _ _ _ c21) (zg [] 1 [1,54] (zt 54 b22 (zg [] 16 [2] (zd (hJ4 false h _ _ (zk [2]))))))))
    ·refine zq fun K25 hK25 => zr (zg [] 2 [1,3,13,70] (zd (hK25 _ _ (zC h (fun b26 h => ?_) (fun b26 h => ?_)))))
     ·refine zq fun K27 hK27 => ?_
      have hJ5 : ∀ (x5 : Bool), value_plain_j5 x5 = some r → ∀ fr1 st1, Sub 154 0 [] fr1 st1 [(2, vb x5)] [] → K27 fr1 st1 := by
       intro x5 h fr1 st1 hS
       unfold value_plain_j5 at h
       refine hK27 _ _ (XW.sub hS ?_)
       refine ze ?_
       obtain rfl := Option.some.inj h
       exact zf [vb x5] (.one (.rfl _ rfl))
      obtain ⟨r3, c28, h⟩ := zB h
      rcases zW h with ⟨b29, h⟩ | ⟨b29, h⟩
      ·obtain ⟨r4, c30, h⟩ := zB h
       rcases zW h with ⟨b31, h⟩ | ⟨b31, h⟩
       ·rcases zW h with ⟨b32, h⟩ | ⟨b32, h⟩
        ·refine zr (zv [] 2 [1,73] [(qa797 p1)] (qa816 p1) [] (za (c_value_within _ _ _ _ c28) (zg [] 1 [1,75] (zt 75 b29 (zv [] 2 [1,75,77] [(qa797 p1)] [(1, .one (.pv (.rp [(qa797 p1)] 0 0))), (75, vb true), (77, vi p1.scale)] [] (za (c_value_within _ _ _ _ c30) ?_))))))
         refine zg [] 2 [1,80] (zt 80 b31 (zv [] 5 [1,85] [[pi p1.kind, pi p1.n, pi p1.scale, .s (.string p1.s), .ro (eValue.els p1.items)]] [(1, .one (.pv (.rp [[pi p1.kind, pi p1.n, pi p1.scale, .s (.string p1.s), .ro (eValue.els p1.items)]] 0 0))), (85, vb (p1.s.toList == (ByteArray.mk #[]).toList))] [] (zt 85 b32 (zv [] 3 [85,88] [[pi p1.kind, pi p1.n, pi p1.scale, .s (.string p1.s), .ro (eValue.els p1.items)]] [(85, vb true), (88, vi ((eValue.els p1.items).length : Int))] [] ?_))))
         rw [eValue.len p1.items]
         exact zg [] 3 [2] (zd (hJ5 ((p1.items.length : Int) == (0 : Int)) h _ _ (zk [2])))
        ·refine zr (zu [] 2 [1,73] [(qa797 p1)] (zl 78 [vi p1.n, vi (-999999999999999999 : Int), vi (999999999999999999 : Int)] (vb r3) [(74, vb r3), (1, .one (.pv (.rp [(qa797 p1)] 0 0))), (73, vi p1.n)] (c_value_within _ _ _ _ c28) (zg [] 1 [1,75] (zt 75 b29 (zu [] 2 [1,75,77] [(qa797 p1)] ?_)))))
         exact zl 78 [vi p1.scale, vi (0 : Int), vi (12 : Int)] (vb r4) [(78, vb r4), (1, .one (.pv (.rp [(qa797 p1)] 0 0))), (75, vb true), (77, vi p1.scale)] (c_value_within _ _ _ _ c30) (zg [] 2 [1,80] (zt 80 b31 (zu [] 5 [1,85] [(qa797 p1)] (zt 85 b32 (zv [] 6 [2] [] qa801 [] (zd (hJ5 false h _ _ (zk [2]))))))))
       ·refine zr (zv [] 2 [1,73] [(qa797 p1)] (qa816 p1) [] (za (c_value_within _ _ _ _ c28) (zg [] 1 [1,75] (zt 75 b29 (zv [] 2 [1,75,77] [(qa797 p1)] [(1, .one (.pv (.rp [(qa797 p1)] 0 0))), (75, vb true), (77, vi p1.scale)] [] (za (c_value_within _ _ _ _ c30) ?_))))))
        exact zg [] 2 [1,80] (zt 80 b31 (zv [] 11 [2] [] qa801 [] (zd (hJ5 false h _ _ (zk [2])))))
      ·exact zr (zv [] 2 [1,73] [(qa797 p1)] (qa816 p1) [] (za (c_value_within _ _ _ _ c28) (zg [] 1 [1,75] (zt 75 b29 (zv [] 16 [2] [] qa801 [] (zd (hJ5 false h _ _ (zk [2]))))))))
     ·refine zq fun K33 hK33 => zr (zv [] 2 [1,3,13,91] [] [(1, .one (.pv (.rp [(qa797 p1)] 0 0))), (3, vb x1), (13, vi p1.kind), (91, vb (p1.kind == (4 : Int)))] [] (zd (hK33 _ _ (zC h (fun b34 h => ?_) (fun b34 h => ?_)))))
      ·refine zq fun K35 hK35 => ?_
       have hJ6 : ∀ (x6 : Bool), value_plain_j6 x6 = some r → ∀ fr1 st1, Sub 154 0 [] fr1 st1 [(2, vb x6)] [] → K35 fr1 st1 := by
        intro x6 h fr1 st1 hS
        unfold value_plain_j6 at h
        refine hK35 _ _ (XW.sub hS ?_)
        refine ze ?_
        obtain rfl := Option.some.inj h
        exact zf [vb x6] (.one (.rfl _ rfl))
       rcases zW h with ⟨b36, h⟩ | ⟨b36, h⟩
       ·obtain ⟨r5, c37, h⟩ := zB h
        rcases zW h with ⟨b38, h⟩ | ⟨b38, h⟩
        ·refine zr (zg [] 2 [1,94] (zt 94 b36 (zu [] 2 [1,94,96] [[pi p1.kind, pi p1.n, pi p1.scale, .s (.string p1.s), .ro (eValue.els p1.items)]] (zl 79 [vs p1.s] (vb r5) [(97, vb r5), (1, .one (.pv (.rp [[pi p1.kind, pi p1.n, pi p1.scale, .s (.string p1.s), .ro (eValue.els p1.items)]] 0 0))), (94, vb true), (96, vs p1.s)] (c_value_text _ _ c37) (zg [] 2 [1,99] (zt 99 b38 (zv [] 3 [99,102] [[pi p1.kind, pi p1.n, pi p1.scale, .s (.string p1.s), .ro (eValue.els p1.items)]] [(99, vb true), (102, vi ((eValue.els p1.items).length : Int))] [] ?_)))))))
         rw [eValue.len p1.items]
         exact zg [] 3 [2] (zd (hJ6 ((p1.items.length : Int) == (0 : Int)) h _ _ (zk [2])))
        ·refine zr (zg [] 2 [1,94] (zt 94 b36 (zv [] 2 [1,94,96] [(qa797 p1)] [(1, .one (.pv (.rp [(qa797 p1)] 0 0))), (94, vb true), (96, vs p1.s)] [] (za (c_value_text _ _ c37) (zg [] 2 [1,99] (zt 99 b38 (zv [] 6 [2] [] qa801 [] ?_)))))))
         exact zd (hJ6 false h _ _ (zk [2]))
       ·exact zr (zg [] 2 [1,94] (zt 94 b36 (zg [] 11 [2] (zd (hJ6 false h _ _ (zk [2]))))))
      ·refine zq fun K39 hK39 => zr (zg [] 2 [1,3,13,105] (zd (hK39 _ _ (zC h (fun b40 h => ?_) (fun b40 h => ?_)))))
       ·refine zq fun K41 hK41 => ?_
        have hJ7 : ∀ (x7 : Bool), value_plain_j7 x7 = some r → ∀ fr1 st1, Sub 154 0 [] fr1 st1 [(2, vb x7)] [] → K41 fr1 st1 := by
         intro x7 h fr1 st1 hS
         unfold value_plain_j7 at h
         refine hK41 _ _ (XW.sub hS ?_)
         refine ze ?_
         obtain rfl := Option.some.inj h
         exact zf [vb x7] (.one (.rfl _ rfl))
        obtain ⟨r6, c42, h⟩ := zB h
        rcases zW h with ⟨b43, h⟩ | ⟨b43, h⟩
        ·rcases zW h with ⟨b44, h⟩ | ⟨b44, h⟩
         ·rcases zW h with ⟨b45, h⟩ | ⟨b45, h⟩
          ·refine zr (zu [] 2 [1,108] [(qa797 p1)] (zl 78 [vi p1.n, vi (-62135596800 : Int), vi (253402300799 : Int)] (vb r6) (qa822 p1 r6) (c_value_within _ _ _ _ c42) (zg [] 1 [1,110] (zt 110 b43 (zu [] 5 [1,115] [(qa797 p1)] (zt 115 b44 ?_))))))
           refine zv [] 5 [1,120] [[pi p1.kind, pi p1.n, pi p1.scale, .s (.string p1.s), .ro (eValue.els p1.items)]] [(1, .one (.pv (.rp [[pi p1.kind, pi p1.n, pi p1.scale, .s (.string p1.s), .ro (eValue.els p1.items)]] 0 0))), (120, vb (p1.s.toList == (ByteArray.mk #[]).toList))] [] (zt 120 b45 (zv [] 3 [120,123] [[pi p1.kind, pi p1.n, pi p1.scale, .s (.string p1.s), .ro (eValue.els p1.items)]] [(120, vb true), (123, vi ((eValue.els p1.items).length : Int))] [] ?_))
           rw [eValue.len p1.items]
           exact zg [] 3 [2] (zd (hJ7 ((p1.items.length : Int) == (0 : Int)) h _ _ (zk [2])))
          ·refine zr (zu [] 2 [1,108] [(qa797 p1)] (zl 78 [vi p1.n, vi (-62135596800 : Int), vi (253402300799 : Int)] (vb r6) (qa822 p1 r6) (c_value_within _ _ _ _ c42) (zg [] 1 [1,110] (zt 110 b43 (zu [] 5 [1,115] [(qa797 p1)] (zt 115 b44 ?_))))))
           exact zv [] 5 [1,120] [(qa797 p1)] [(1, .one (.pv (.rp [(qa797 p1)] 0 0))), (120, vb (p1.s.toList == (ByteArray.mk #[]).toList))] [] (zt 120 b45 (zg [] 6 [2] (zd (hJ7 false h _ _ (zk [2])))))
         ·refine zr (zu [] 2 [1,108] [(qa797 p1)] (zl 78 [vi p1.n, vi (-62135596800 : Int), vi (253402300799 : Int)] (vb r6) (qa822 p1 r6) (c_value_within _ _ _ _ c42) (zg [] 1 [1,110] (zt 110 b43 (zu [] 5 [1,115] [(qa797 p1)] (zt 115 b44 (zv [] 11 [2] [] qa801 [] ?_)))))))
          exact zd (hJ7 false h _ _ (zk [2]))
        ·exact zr (zu [] 2 [1,108] [(qa797 p1)] (zl 78 [vi p1.n, vi (-62135596800 : Int), vi (253402300799 : Int)] (vb r6) (qa822 p1 r6) (c_value_within _ _ _ _ c42) (zg [] 1 [1,110] (zt 110 b43 (zg [] 16 [2] (zd (hJ7 false h _ _ (zk [2]))))))))
       ·refine zq fun K46 hK46 => zr (zg [] 2 [1,3,13,126] (zd (hK46 _ _ (zC h (fun b47 h => ?_) (fun b47 h => ?_)))))
        ·refine zq fun K48 hK48 => ?_
         have hJ8 : ∀ (x8 : Bool), value_plain_j8 x8 = some r → ∀ fr1 st1, Sub 154 0 [] fr1 st1 [(2, vb x8)] [] → K48 fr1 st1 := by
          intro x8 h fr1 st1 hS
          unfold value_plain_j8 at h
          refine hK48 _ _ (XW.sub hS ?_)
          refine ze ?_
          obtain rfl := Option.some.inj h
          exact zf [vb x8] (.one (.rfl _ rfl))
         rcases zW h with ⟨b49, h⟩ | ⟨b49, h⟩
         ·rcases zW h with ⟨b50, h⟩ | ⟨b50, h⟩
          ·refine zr (zv [] 2 [1,129] [] [(1, .one (.pv (.rp [[pi p1.kind, pi p1.n, pi p1.scale, .s (.string p1.s), .ro (eValue.els p1.items)]] 0 0))), (129, vb x1)] [] (zt 129 b49 (zu [] 5 [1,134] [[pi p1.kind, pi p1.n, pi p1.scale, .s (.string p1.s), .ro (eValue.els p1.items)]] (zt 134 b50 (zv [] 3 [134,137] [[pi p1.kind, pi p1.n, pi p1.scale, .s (.string p1.s), .ro (eValue.els p1.items)]] [(134, vb true), (137, vi ((eValue.els p1.items).length : Int))] [] ?_)))))
           rw [eValue.len p1.items]
           exact zg [] 3 [2] (zd (hJ8 (decide ((p1.items.length : Int) ≤ (64 : Int))) h _ _ (zk [2])))
          ·exact zr (zg [] 2 [1,129] (zt 129 b49 (zv [] 5 [1,134] [(qa797 p1)] [(1, .one (.pv (.rp [(qa797 p1)] 0 0))), (134, vb (p1.s.toList == (ByteArray.mk #[]).toList))] [] (zt 134 b50 (zg [] 6 [2] (zd (hJ8 false h _ _ (zk [2]))))))))
         ·exact zr (zv [] 2 [1,129] [] [(1, .one (.pv (.rp [(qa797 p1)] 0 0))), (129, vb x1)] [] (zt 129 b49 (zg [] 11 [2] (zd (hJ8 false h _ _ (zk [2]))))))
        ·refine zq fun K51 hK51 => zr (zv [] 2 [1,3,140] [] [(1, .one (.pv (.rp [(qa797 p1)] 0 0))), (3, vb x1), (140, vb (p1.kind == (7 : Int)))] [] (zd (hK51 _ _ (zC h (fun b52 h => ?_) (fun b52 h => ?_)))))
         ·refine zq fun K53 hK53 => ?_
          have hJ9 : ∀ (x9 : Bool), value_plain_j9 x9 = some r → ∀ fr1 st1, Sub 154 0 [] fr1 st1 [(2, vb x9)] [] → K53 fr1 st1 := by
           intro x9 h fr1 st1 hS
           unfold value_plain_j9 at h
           refine hK53 _ _ (XW.sub hS ?_)
           refine ze ?_
           obtain rfl := Option.some.inj h
           exact zf [vb x9] (.one (.rfl _ rfl))
          rcases zW h with ⟨b54, h⟩ | ⟨b54, h⟩
          ·rcases zW h with ⟨b55, h⟩ | ⟨b55, h⟩
           ·refine zr (zg [] 2 [1,143] (zt 143 b54 (zu [] 5 [1,148] [[pi p1.kind, pi p1.n, pi p1.scale, .s (.string p1.s), .ro (eValue.els p1.items)]] (zt 148 b55 (zv [] 3 [148,151] [[pi p1.kind, pi p1.n, pi p1.scale, .s (.string p1.s), .ro (eValue.els p1.items)]] [(148, vb true), (151, vi ((eValue.els p1.items).length : Int))] [] ?_)))))
            rw [eValue.len p1.items]
            exact zg [] 3 [2] (zd (hJ9 (decide ((0 : Int) < (p1.items.length : Int))) h _ _ (zk [2])))
           ·exact zr (zg [] 2 [1,143] (zt 143 b54 (zv [] 5 [1,148] [(qa797 p1)] [(1, .one (.pv (.rp [(qa797 p1)] 0 0))), (148, vb (p1.s.toList == (ByteArray.mk #[]).toList))] [] (zt 148 b55 (zg [] 6 [2] (zd (hJ9 false h _ _ (zk [2]))))))))
          ·exact zr (zg [] 2 [1,143] (zt 143 b54 (zg [] 11 [2] (zd (hJ9 false h _ _ (zk [2]))))))
         ·refine zs (hK4 _ _ (zq fun K56 hK56 => zr (zg [] 1 [2] (zd (hK56 _ _ (ze ?_))))))
          obtain rfl := Option.some.inj h
          exact zf [vb false] (.one (.rfl _ rfl))
 rcases zW h with ⟨b3, h⟩ | ⟨b3, h⟩
 ·exact zr (zu [] 4 [1,7] [(qa797 p1)] (zt 7 b3 (zv [] 5 [1,3] [(qa797 p1)] [(1, .one (.pv (.rp [(qa797 p1)] 0 0))), (3, vb (p1.scale == (0 : Int)))] [] (zd (hJ1 (p1.scale == (0 : Int)) h _ _ (zk [1,3]))))))
 ·exact zr (zu [] 4 [1,7] [(qa797 p1)] (zt 7 b3 (zg [] 5 [1,3] (zd (hJ1 false h _ _ (zk [1,3]))))))

def slices_IndexFunc_api_Value_api_Value_of_value_sound_1_j1 (z2 : Int) : Option (Int × Int) :=
    some ((-1 : Int), z2)

def slices_IndexFunc_api_Value_api_Value_of_value_sound_1_l1 (q_value_sound_1_s : GValue → Int → Int → Option (Bool × Int)) (p1 : (List GValue)) (p2 : Int) : Nat → Int → Int → Option (Int × Int)
  | 0, _, _ => none
  | k1 + 1, z1, x1 =>
    ift (decide (x1 < (p1.length : Int)))
      (bnd (at? p1 x1) fun e1 =>
       bnd (q_value_sound_1_s e1 p2 z1) fun r1 =>
       ift r1.1
         (some (x1, r1.2))
         ((slices_IndexFunc_api_Value_api_Value_of_value_sound_1_l1 q_value_sound_1_s p1 p2 k1) r1.2 (IntKind.i64.wrap (x1 + (1 : Int)))))
      (slices_IndexFunc_api_Value_api_Value_of_value_sound_1_j1 z1)

def value_sound_j2 (q_slices_ContainsFunc_api_Value_api_Value_of_value_sound_1 : (List GValue) → Int → Int → Option (Bool × Int)) (p1 : GValue) (p2 : Int) (z1 : Int) (x1 : Bool) : Option (Bool × Int) :=
    ift x1
      (some (false, z1))
      (bnd (q_slices_ContainsFunc_api_Value_api_Value_of_value_sound_1 p1.items p2 z1) fun r2 =>
       some ((!r2.1), r2.2))

def value_sound_j1 (q_slices_ContainsFunc_api_Value_api_Value_of_value_sound_1 : (List GValue) → Int → Int → Option (Bool × Int)) (p1 : GValue) (p2 : Int) (z1 : Int) : Option (Bool × Int) :=
    ift (decide ((4 : Int) < p2))
      (value_sound_j2 q_slices_ContainsFunc_api_Value_api_Value_of_value_sound_1 p1 p2 z1 true)
      (ift (decide ((256 : Int) < z1))
         (value_sound_j2 q_slices_ContainsFunc_api_Value_api_Value_of_value_sound_1 p1 p2 z1 true)
         (bnd (value_plain p1) fun r1 =>
          value_sound_j2 q_slices_ContainsFunc_api_Value_api_Value_of_value_sound_1 p1 p2 z1 (!r1)))

mutual

def slices_ContainsFunc_api_Value_api_Value_of_value_sound_1 : Nat → (List GValue) → Int → Int → Option (Bool × Int)
  | 0, _, _, _ => none
  | k0 + 1, p1, p2, p3 =>
    bnd ((slices_IndexFunc_api_Value_api_Value_of_value_sound_1 k0) p1 p2 p3) fun r1 =>
    some ((decide ((0 : Int) ≤ r1.1)), r1.2)

def slices_IndexFunc_api_Value_api_Value_of_value_sound_1 : Nat → (List GValue) → Int → Int → Option (Int × Int)
  | 0, _, _, _ => none
  | k0 + 1, p1, p2, p3 =>
    slices_IndexFunc_api_Value_api_Value_of_value_sound_1_l1 (value_sound_1_s k0) p1 p2 BIG p3 (0 : Int)

def value_sound : Nat → GValue → Int → Int → Option (Bool × Int)
  | 0, _, _, _ => none
  | k0 + 1, p1, p2, p3 =>
    ift (p1.kind != (0 : Int))
      (value_sound_j1 (slices_ContainsFunc_api_Value_api_Value_of_value_sound_1 k0) p1 p2 (IntKind.i64.wrap (p3 + (1 : Int))))
      (value_sound_j1 (slices_ContainsFunc_api_Value_api_Value_of_value_sound_1 k0) p1 p2 p3)

def value_sound_1_s : Nat → GValue → Int → Int → Option (Bool × Int)
  | 0, _, _, _ => none
  | k0 + 1, p1, p2, p3 =>
    bnd ((value_sound k0) p1 (IntKind.i64.wrap (p2 + (1 : Int))) p3) fun r1 =>
    some ((!r1.1), r1.2)

end

abbrev qa841 : List CV := [.pt 1 0 0 0]
abbrev qa848 (e1 : GValue) : List CV := [ci e1.kind, ci e1.n, ci e1.scale, cst e1.s, cl eValue e1.items]
abbrev qa859 (p1 : GValue) : List CV := [ci p1.kind, ci p1.n, ci p1.scale, cst p1.s, cl eValue p1.items]
abbrev qa862 (p1 : GValue) : List PV := [pi p1.kind, pi p1.n, pi p1.scale, .s (.string p1.s), .ro (eValue.els p1.items)]
abbrev qa865 : List CV := [.pt 0 0 0 0]
abbrev qa873 (p1 : GValue) (p2 : Int) : Fr := [(3, .one (.pv (.rp [(qa862 p1)] 0 0))), (4, .one (.pv (.rp [[pi p2]] 0 0))), (5, .one (.pt 1 0 0 0))]
abbrev qa874 (z1 : Int) : St := [.box [ci z1], .box qa865]
abbrev qa881 (p1 : GValue) (p2 : Int) : Fr := [(3, .one (.pv (.rp [(qa862 p1)] 0 0))), (4, .one (.pv (.rp [[pi p2]] 0 0))), (5, .one (.pt 1 0 0 0)), (17, vb (decide ((4 : Int) < p2)))]
abbrev qa884 (p1 : GValue) : List CV := [ci p1.kind, ci p1.n, ci p1.scale, cst p1.s, cl eValue p1.items]

mutual

theorem c_slices_ContainsFunc_api_Value_api_Value_of_value_sound_1 : ∀ (k0 : Nat) (p1 : (List GValue)) (p2 : Int) (p3 : Int) (r : (Bool × Int)), slices_ContainsFunc_api_Value_api_Value_of_value_sound_1 k0 p1 p2 p3 = some r → MC Tryd.prog 38 [vl eValue p1, .one (.fn 66 [.pv (.rp [[pi p2]] 0 0), .pt 0 0 0 0])] [.box [.pt 1 0 0 0], .box [ci p3]] (vb r.1) [.box [.pt 1 0 0 0], .box [ci r.2]]
 | 0, _, _, _, r, h => by rw [slices_ContainsFunc_api_Value_api_Value_of_value_sound_1.eq_1] at h; cases h
 | k0 + 1, p1, p2, p3, r, h => by
  rw [slices_ContainsFunc_api_Value_api_Value_of_value_sound_1.eq_2] at h
  refine MC.of 2 (n := 9) (fn := Tryd.f38) (c := cd Tryd.f38 []) (by kernel_rfl) (by kernel_rfl) (by kernel_rfl) (Nat.le_of_ble_eq_true rfl) rfl (zq fun K1 hK1 => zr (zg [] 1 [0,1] (zd (hK1 _ _ (zq fun K2 hK2 => ?_)))))
  obtain ⟨r1, c3, h⟩ := zB h
  refine zr (zv [] 2 [5,6] [] [(5, vl eValue p1), (6, .one (.fn 66 [.pv (.rp [[pi p2]] 0 0), .pt 0 0 0 0]))] [.box [.pt 1 0 0 0], .box [ci p3]] (XO.calm 62 [vl eValue p1, .one (.fn 66 [.pv (.rp [[pi p2]] 0 0), .pt 0 0 0 0])] [.box [.pt 1 0 0 0], .box [ci p3]] [.box [.pt 1 0 0 0], .box [ci r1.2]] (vi r1.1) [0, 1] [(7, vi r1.1), (5, vl eValue p1), (6, .one (.fn 66 [.pv (.rp [[pi p2]] 0 0), .pt 0 0 0 0]))] [.box [.pt 1 0 0 0], .box [ci r1.2]] (by kernel_rfl) (c_slices_IndexFunc_api_Value_api_Value_of_value_sound_1 k0 _ _ _ _ c3) (by kernel_rfl) (by kernel_rfl) (by kernel_rfl) (by kernel_rfl) ?_))
  refine zv [] 2 [4] [] [(4, vb (decide ((0 : Int) ≤ r1.1)))] [.box [.pt 1 0 0 0], .box [ci r1.2]] (zd (hK2 _ _ (ze ?_)))
  obtain rfl := Option.some.inj h
  exact FinM.fin (.inr rfl) [] [vb (decide ((0 : Int) ≤ r1.1))] [] (by kernel_rfl) trivial (by kernel_rfl) (by kernel_rfl) (.one (.rfl _ rfl))

theorem c_slices_IndexFunc_api_Value_api_Value_of_value_sound_1 : ∀ (k0 : Nat) (p1 : (List GValue)) (p2 : Int) (p3 : Int) (r : (Int × Int)), slices_IndexFunc_api_Value_api_Value_of_value_sound_1 k0 p1 p2 p3 = some r → MC Tryd.prog 62 [vl eValue p1, .one (.fn 66 [.pv (.rp [[pi p2]] 0 0), .pt 0 0 0 0])] [.box qa841, .box [ci p3]] (vi r.1) [.box qa841, .box [ci r.2]]
 | 0, _, _, _, r, h => by rw [slices_IndexFunc_api_Value_api_Value_of_value_sound_1.eq_1] at h; cases h
 | k0 + 1, p1, p2, p3, r, h => by
  rw [slices_IndexFunc_api_Value_api_Value_of_value_sound_1.eq_2] at h
  refine MC.of 2 (n := 19) (fn := Tryd.f62) (c := cd Tryd.f62 []) (by kernel_rfl) (by kernel_rfl) (by kernel_rfl) (Nat.le_of_ble_eq_true rfl) rfl (zq fun K1 hK1 => zr (zg [] 1 [0,1] (zd (hK1 _ _ (zq fun K2 hK2 => ?_)))))
  have hJ1 : ∀ (z2 : Int), slices_IndexFunc_api_Value_api_Value_of_value_sound_1_j1 z2 = some r → ∀ fr1 st1, Sub 19 2 [] fr1 st1 [] [.box qa841, .box [ci z2]] → K2 fr1 st1 := by
   intro z2 h fr1 st1 hS
   unfold slices_IndexFunc_api_Value_api_Value_of_value_sound_1_j1 at h
   refine hK2 _ _ (XW.sub hS ?_)
   refine zq fun K14 hK14 => zr (zv [] 1 [4] [] [(4, vi (-1 : Int))] [.box qa841, .box [ci z2]] (zd (hK14 _ _ (ze ?_))))
   obtain rfl := Option.some.inj h
   exact FinM.fin (.inr rfl) [] [vi (-1 : Int)] [] (by kernel_rfl) trivial (by kernel_rfl) (by kernel_rfl) (.one (.rfl _ rfl))
  refine zq fun K3 hK3 => zr (zv [] 2 [0,1,7] [] [(0, vl eValue p1), (1, .one (.fn 66 [.pv (.rp [[pi p2]] 0 0), .pt 0 0 0 0])), (7, vi ((eValue.els p1).length : Int))] [.box [.pt 1 0 0 0], .box [ci p3]] ?_)
  rw [eValue.len p1]
  refine zg [] 1 [0,1,7,8] (zd (hK3 _ _ (zb 0 (XW.rounds' BIG (x := cd Tryd.f62 [1,0,1,0,0]) (by kernel_rfl) fun Q1 hQ1 => ?_))))
  have hL1 : ∀ (k1 : Nat) (z1 : Int) (x1 : Int), slices_IndexFunc_api_Value_api_Value_of_value_sound_1_l1 (value_sound_1_s k0) p1 p2 k1 z1 x1 = some r → XR Tryd.prog 19 2 [] (cd Tryd.f62 [1,0,1,0,0]) Q1 k1 [(0, vl eValue p1), (1, .one (.fn 66 [.pv (.rp [[pi p2]] 0 0), .pt 0 0 0 0])), (7, vi (p1.length : Int)), (8, vi x1)] [.box qa841, .box [ci z1]] := by
   intro k1
   induction k1 with
   | zero => intro z1 x1 h; rw [slices_IndexFunc_api_Value_api_Value_of_value_sound_1_l1.eq_1] at h; cases h
   | succ k1 ih1 =>
    intro z1 x1 h
    rw [slices_IndexFunc_api_Value_api_Value_of_value_sound_1_l1.eq_2] at h
    refine zq fun K4 hK4 => zr (zg [] 1 [0,1,7,8,9] (zd (hK4 _ _ (zq fun K5 hK5 => zC h (fun b6 h => ?_) (fun b6 h => ?_)))))
    ·refine zs (hK5 _ _ (zq fun K7 hK7 => zb 1 (zq fun K8 hK8 => zr (zg [] 2 [0,1,5,7,8] (zd ?_)))))
     refine hK8 _ _ (zq fun K9 hK9 => ?_)
     obtain ⟨e1, a10, h⟩ := zB h
     obtain ⟨r1, c11, h⟩ := zB h
     refine zr ?_
     refine zp [] 5 [0,1,5,7,8,11,15] [[pi e1.kind, pi e1.n, pi e1.scale, .s (.string e1.s), .ro (eValue.els e1.items)]] [(0, vl eValue p1), (1, .one (.fn 66 [.pv (.rp [[pi p2]] 0 0), .pt 0 0 0 0])), (5, vi x1), (7, vi (p1.length : Int)), (8, vi x1), (11, .one (.fn 66 [.pv (.rp [[pi p2]] 0 0), .pt 0 0 0 0])), (15, .ag (qa848 e1))] [.box qa841, .box [ci z1]] [0 ≤ x1 ∧ x1 < ((eValue.els p1).length : Int) ∧ elemsOk 5 (eValue.els p1), (eValue.els p1)[x1.toNat]? = some [pi e1.kind, pi e1.n, pi e1.scale, .s (.string e1.s), .ro (eValue.els e1.items)]] (⟨eValue.inb a10, ((eValue.get a10).trans (by cases e1; rfl)), trivial⟩) ?_
     refine XO.calm 66 [.ag (qa848 e1), .one (.pv (.rp [[pi p2]] 0 0)), .one (.pt 0 0 0 0)] [.box qa841, .box [ci z1]] [.box qa841, .box [ci r1.2]] (vb r1.1) [0, 1] [(16, vb r1.1), (0, vl eValue p1), (1, .one (.fn 66 [.pv (.rp [[pi p2]] 0 0), .pt 0 0 0 0])), (5, vi x1), (7, vi (p1.length : Int)), (8, vi x1), (11, .one (.fn 66 [.pv (.rp [[pi p2]] 0 0), .pt 0 0 0 0])), (15, .ag (qa848 e1))] [.box qa841, .box [ci r1.2]] (by kernel_rfl) (c_value_sound_1_s k0 _ _ _ _ c11) (by kernel_rfl) (by kernel_rfl) (by kernel_rfl) (by kernel_rfl) ?_
     refine zd (hK9 _ _ (zC h (fun b12 h => ?_) (fun b12 h => ?_)))
     ·refine zq fun K13 hK13 => zr (zv [] 2 [4] [] [(4, vi x1)] [.box qa841, .box [ci r1.2]] (zd (hK13 _ _ (ze (hQ1 _ _ _ ?_)))))
      obtain rfl := Option.some.inj h
      exact FinM.fin (.inr rfl) [] [vi x1] [] (by kernel_rfl) trivial (by kernel_rfl) (by kernel_rfl) (.one (.rfl _ rfl))
     ·exact zs (hK7 _ _ (zr (zg [] 2 [0,1,7,8] (zd (XR.sub (zk [0,1,7,8]) (ih1 r1.2 (IntKind.i64.wrap (x1 + (1 : Int))) h))))))
    ·exact zx 0 (hQ1 _ _ _ (hJ1 z1 h _ _ (zk [])))
  exact XR.sub (zk [0,1,7,8]) (hL1 BIG p3 (0 : Int) h)

theorem c_value_sound : ∀ (k0 : Nat) (p1 : GValue) (p2 : Int) (p3 : Int) (r : (Bool × Int)), value_sound k0 p1 p2 p3 = some r → MC Tryd.prog 45 [.ag (qa859 p1), vi p2, .one (.pt 0 0 0 0)] [.box [ci p3]] (vb r.1) [.box [ci r.2]]
 | 0, _, _, _, r, h => by rw [value_sound.eq_1] at h; cases h
 | k0 + 1, p1, p2, p3, r, h => by
  rw [value_sound.eq_2] at h
  refine MC.of 1 (n := 33) (fn := Tryd.f45) (c := cd Tryd.f45 []) (by kernel_rfl) (by kernel_rfl) (by kernel_rfl) (Nat.le_of_ble_eq_true rfl) rfl (zq fun K1 hK1 => zr (zg [5] 4 [3,4,5] (zd (hK1 _ _ (zq fun K2 hK2 => ?_)))))
  have hJ1 : ∀ (z1 : Int), value_sound_j1 (slices_ContainsFunc_api_Value_api_Value_of_value_sound_1 k0) p1 p2 z1 = some r → ∀ fr1 st1, Sub 33 1 [] fr1 st1 (qa873 p1 p2) (qa874 z1) → K2 fr1 st1 := by
   intro z1 h fr1 st1 hS
   unfold value_sound_j1 at h
   refine hK2 _ _ (XW.sub hS ?_)
   refine zq fun K5 hK5 => zq fun K6 hK6 => ?_
   have hJ2 : ∀ (x1 : Bool), value_sound_j2 (slices_ContainsFunc_api_Value_api_Value_of_value_sound_1 k0) p1 p2 z1 x1 = some r → ∀ fr1 st1, Sub 33 1 [] fr1 st1 [(3, .one (.pv (.rp [(qa862 p1)] 0 0))), (4, .one (.pv (.rp [[pi p2]] 0 0))), (5, .one (.pt 1 0 0 0)), (27, vb x1)] (qa874 z1) → K6 fr1 st1 := by
    intro x1 h fr1 st1 hS
    unfold value_sound_j2 at h
    refine hK6 _ _ (XW.sub hS ?_)
    refine zC h (fun b10 h => ?_) (fun b10 h => ?_)
    ·refine zq fun K11 hK11 => zr (zv [5] 1 [6] [] [(6, vb false)] (qa874 z1) (zd (hK11 _ _ (ze ?_))))
     obtain rfl := Option.some.inj h
     exact FinM.fin (.inr rfl) [] [vb false] [] (by kernel_rfl) trivial (by kernel_rfl) (by kernel_rfl) (.one (.rfl _ rfl))
    ·refine zs (hK5 _ _ (zq fun K12 hK12 => ?_))
     obtain ⟨r2, c13, h⟩ := zB h
     refine zr (zv [5] 3 [29,30] [(qa862 p1)] [(29, vl eValue p1.items), (30, .one (.fn 66 [.pv (.rp [[pi p2]] 0 0), .pt 1 0 0 0]))] (qa874 z1) ?_)
     refine XO.calm 38 [vl eValue p1.items, .one (.fn 66 [.pv (.rp [[pi p2]] 0 0), .pt 0 0 0 0])] [.box [.pt 1 0 0 0], .box [ci z1]] [.box [.pt 1 0 0 0], .box [ci r2.2]] (vb r2.1) [1, 0] [(31, vb r2.1), (29, vl eValue p1.items), (30, .one (.fn 66 [.pv (.rp [[pi p2]] 0 0), .pt 1 0 0 0]))] [.box [ci r2.2], .box qa865] (by kernel_rfl) (c_slices_ContainsFunc_api_Value_api_Value_of_value_sound_1 k0 _ _ _ _ c13) (by kernel_rfl) (by kernel_rfl) (by kernel_rfl) (by kernel_rfl) (zv [5] 2 [6] [] [(6, vb (!r2.1))] [.box [ci r2.2], .box qa865] (zd (hK12 _ _ (ze ?_))))
     obtain rfl := Option.some.inj h
     exact FinM.fin (.inr rfl) [] [vb (!r2.1)] [] (by kernel_rfl) trivial (by kernel_rfl) (by kernel_rfl) (.one (.rfl _ rfl))
   rcases zW h with ⟨b7, h⟩ | ⟨b7, h⟩
   ·exact zr (zu [5] 3 [3,4,5,17] [[pi p2]] (zt 17 b7 (zg [5] 10 [3,4,5,27] (zd (hJ2 true h _ _ (zk [3,4,5,27]))))))
   ·rcases zW h with ⟨b8, h⟩ | ⟨b8, h⟩
    ·exact zr (zv [5] 3 [3,4,5,17] [[pi p2]] (qa881 p1 p2) (qa874 z1) (zt 17 b7 (zg [5] 6 [3,4,5,23] (zt 23 b8 (zg [5] 4 [3,4,5,27] (zd (hJ2 true h _ _ (zk [3,4,5,27]))))))))
    ·obtain ⟨r1, c9, h⟩ := zB h
     refine zr (zv [5] 3 [3,4,5,17] [[pi p2]] (qa881 p1 p2) (qa874 z1) (zt 17 b7 (zg [5] 6 [3,4,5,23] (zt 23 b8 (zu [5] 1 [3,4,5,23,24] [(qa862 p1)] ?_)))))
     exact zl 65 [.ag (qa859 p1)] (vb r1) [(25, vb r1), (3, .one (.pv (.rp [(qa862 p1)] 0 0))), (4, .one (.pv (.rp [[pi p2]] 0 0))), (5, .one (.pt 1 0 0 0)), (23, vb false), (24, .ag (qa859 p1))] (c_value_plain _ _ c9) (zg [5] 2 [3,4,5,27] (zd (hJ2 (!r1) h _ _ (zk [3,4,5,27]))))
  refine zq fun K3 hK3 => zr (zu [5] 3 [3,4,5,9] [(qa862 p1)] (zd (hK3 _ _ (zC h (fun b4 h => ?_) (fun b4 h => ?_)))))
  ·exact zr (zv [5] 6 [3,4,5] [] (qa873 p1 p2) [.box [ci (IntKind.i64.wrap (p3 + (1 : Int)))], .box qa865] (zd (hJ1 (IntKind.i64.wrap (p3 + (1 : Int))) h _ _ (zk [3,4,5]))))
  ·exact zs (hJ1 p3 h _ _ (zk [3,4,5]))

theorem c_value_sound_1_s : ∀ (k0 : Nat) (p1 : GValue) (p2 : Int) (p3 : Int) (r : (Bool × Int)), value_sound_1_s k0 p1 p2 p3 = some r → MC Tryd.prog 66 [.ag (qa884 p1), .one (.pv (.rp [[pi p2]] 0 0)), .one (.pt 0 0 0 0)] [.box [.pt 1 0 0 0], .box [ci p3]] (vb r.1) [.box [.pt 1 0 0 0], .box [ci r.2]]
 | 0, _, _, _, r, h => by rw [value_sound_1_s.eq_1] at h; cases h
 | k0 + 1, p1, p2, p3, r, h => by
  rw [value_sound_1_s.eq_2] at h
  refine MC.of 2 (n := 11) (fn := Tryd.f66) (c := cd Tryd.f66 []) (by kernel_rfl) (by kernel_rfl) (by kernel_rfl) (Nat.le_of_ble_eq_true rfl) rfl (zq fun K1 hK1 => zr (zg [] 2 [1,2,3] (zd (hK1 _ _ (zq fun K2 hK2 => ?_)))))
  obtain ⟨r1, c3, h⟩ := zB h
  refine zr (zv [] 4 [5,7,8] [[pi p1.kind, pi p1.n, pi p1.scale, .s (.string p1.s), .ro (eValue.els p1.items)], [pi p2]] [(5, .ag (qa884 p1)), (7, vi (IntKind.i64.wrap (p2 + (1 : Int)))), (8, .one (.pt 1 0 0 0))] [.box [.pt 1 0 0 0], .box [ci p3]] ?_)
  refine XO.calm 45 [.ag (qa884 p1), vi (IntKind.i64.wrap (p2 + (1 : Int))), .one (.pt 0 0 0 0)] [.box [ci p3]] [.box [ci r1.2]] (vb r1.1) [1] [(9, vb r1.1), (5, .ag (qa884 p1)), (7, vi (IntKind.i64.wrap (p2 + (1 : Int)))), (8, .one (.pt 1 0 0 0))] [.box [.pt 1 0 0 0], .box [ci r1.2]] (by kernel_rfl) (c_value_sound k0 _ _ _ _ c3) (by kernel_rfl) (by kernel_rfl) (by kernel_rfl) (by kernel_rfl) (zv [] 2 [4] [] [(4, vb (!r1.1))] [.box [.pt 1 0 0 0], .box [ci r1.2]] (zd (hK2 _ _ (ze ?_))))
  obtain rfl := Option.some.inj h
  exact FinM.fin (.inr rfl) [] [vb (!r1.1)] [] (by kernel_rfl) trivial (by kernel_rfl) (by kernel_rfl) (.one (.rfl _ rfl))

end

def value_Sound (p1 : GValue) : Option Bool :=
    bnd (value_sound BIG p1 (1 : Int) (0 : Int)) fun r1 =>
    some r1.1

abbrev qa899 (p1 : GValue) : List CV := [ci p1.kind, ci p1.n, ci p1.scale, cst p1.s, cl eValue p1.items]

theorem c_value_Sound (p1 : GValue) (r : Bool) (h : value_Sound p1 = some r) : PC Tryd.prog 21 [.ag (qa899 p1)] (vb r) := by
 unfold value_Sound at h
 refine zF 6 Tryd.f21 (zq fun K1 hK1 => zr (zg [3] 2 [1] (zd (hK1 _ _ (zq fun K2 hK2 => zr ?_)))))
 refine zg [3] 2 [1,3] (zd (hK2 _ _ (zq fun K3 hK3 => ?_)))
 obtain ⟨r1, c4, h⟩ := zB h
 refine zr (zv [3] 1 [3,4] [[pi p1.kind, pi p1.n, pi p1.scale, .s (.string p1.s), .ro (eValue.els p1.items)]] [(3, .one (.pt 0 0 0 0)), (4, .ag (qa899 p1))] [.box [ci (0 : Int)]] ?_)
 refine XO.calm 45 [.ag (qa899 p1), vi (1 : Int), .one (.pt 0 0 0 0)] [.box [ci (0 : Int)]] [.box [ci r1.2]] (vb r1.1) [0] [(5, vb r1.1), (3, .one (.pt 0 0 0 0)), (4, .ag (qa899 p1))] [.box [ci r1.2]] (by kernel_rfl) (c_value_sound BIG _ _ _ _ c4) (by kernel_rfl) (by kernel_rfl) (by kernel_rfl) (by kernel_rfl) (zg [3] 1 [2] (zd (hK3 _ _ (ze ?_))))
 obtain rfl := Option.some.inj h
 exact zf [vb r1.1] (.one (.rfl _ rfl))

def value_number_j1 (x1 : Bool) : Option Bool :=
    some x1

def value_number (p1 : GType) : Option Bool :=
    ift (p1.kind == (2 : Int))
      (value_number_j1 true)
      (value_number_j1 (p1.kind == (3 : Int)))

abbrev qa909 (p1 : GType) : List PV := [pi p1.kind, pi p1.scale, .ro (eField.els p1.fields)]

theorem c_value_number (p1 : GType) (r : Bool) (h : value_number p1 = some r) : PC Tryd.prog 49 [.ag [ci p1.kind, ci p1.scale, cl eField p1.fields]] (vb r) := by
 unfold value_number at h
 refine zF 11 Tryd.f49 (zq fun K1 hK1 => zr (zg [] 2 [1] (zd (hK1 _ _ (zq fun K2 hK2 => ?_)))))
 have hJ1 : ∀ (x1 : Bool), value_number_j1 x1 = some r → ∀ fr1 st1, Sub 11 0 [] fr1 st1 [(2, vb x1)] [] → K2 fr1 st1 := by
  intro x1 h fr1 st1 hS
  unfold value_number_j1 at h
  refine hK2 _ _ (XW.sub hS ?_)
  refine ze ?_
  obtain rfl := Option.some.inj h
  exact zf [vb x1] (.one (.rfl _ rfl))
 rcases zW h with ⟨b3, h⟩ | ⟨b3, h⟩
 ·exact zr (zu [] 4 [1,6] [(qa909 p1)] (zt 6 b3 (zv [] 5 [2] [] [(2, vb true)] [] (zd (hJ1 true h _ _ (zk [2]))))))
 ·exact zr (zu [] 4 [1,6] [(qa909 p1)] (zt 6 b3 (zu [] 5 [2] [(qa909 p1)] (zd (hJ1 (p1.kind == (3 : Int)) h _ _ (zk [2]))))))

def value_whole (p1 : Int) : Option GWide :=
    ift (decide (p1 < (0 : Int)))
      (some (GWide.mk true ((IntKind.u64.wrap (0 - (IntKind.u64.wrap p1))), (0 : Int), (0 : Int), (0 : Int))))
      (some (GWide.mk false ((IntKind.u64.wrap p1), (0 : Int), (0 : Int), (0 : Int))))

abbrev qa913 (p1 : Int) : List CV := [cb true, ck .u64 (IntKind.u64.wrap (0 - (IntKind.u64.wrap p1))), ck .u64 (0 : Int), ck .u64 (0 : Int), ck .u64 (0 : Int)]

theorem c_value_whole (p1 : Int) (r : GWide) (h : value_whole p1 = some r) : PC Tryd.prog 33 [vi p1] (.ag [cb r.neg, ck .u64 r.size.1, ck .u64 r.size.2.1, ck .u64 r.size.2.2.1, ck .u64 r.size.2.2.2]) := by
 unfold value_whole at h
 refine zF 14 Tryd.f33 (zq fun K1 hK1 => zr (zg [2] 1 [0,2] (zd (hK1 _ _ (zq fun K2 hK2 => zq fun K3 hK3 => ?_)))))
 refine zr (zg [2] 2 [0,2,4] (zd (hK3 _ _ (zC h (fun b4 h => ?_) (fun b4 h => ?_)))))
 ·refine zq fun K5 hK5 => zr (zv [2] 6 [2] [] [(2, .one (.pt 0 0 0 0))] [.box (qa913 p1)] (zd (hK5 _ _ (ze ?_))))
  obtain rfl := Option.some.inj h
  exact zf [.ag (qa913 p1)] (.ag (.cons (.rfl _ rfl) (.cons (.rfl _ rfl) (.cons (.rfl _ rfl) (.cons (.rfl _ rfl) (.cons (.rfl _ rfl) .nil))))))
 ·refine zs (hK2 _ _ (zq fun K6 hK6 => zr (zg [2] 5 [2] (zd (hK6 _ _ (ze ?_))))))
  obtain rfl := Option.some.inj h
  exact zf [.ag [cb false, ck .u64 (IntKind.u64.wrap p1), ck .u64 (0 : Int), ck .u64 (0 : Int), ck .u64 (0 : Int)]] (.ag (.cons (.rfl _ rfl) (.cons (.rfl _ rfl) (.cons (.rfl _ rfl) (.cons (.rfl _ rfl) (.cons (.rfl _ rfl) .nil))))))

def value_wide_negated (p1 : GWide) : Option GWide :=
    some (GWide.mk (!p1.neg) (p1.size.1, p1.size.2.1, p1.size.2.2.1, p1.size.2.2.2))

abbrev qa919 (p1 : GWide) : List CV := [cb (!p1.neg), ck .u64 p1.size.1, ck .u64 p1.size.2.1, ck .u64 p1.size.2.2.1, ck .u64 p1.size.2.2.2]

theorem c_value_wide_negated (p1 : GWide) (r : GWide) (h : value_wide_negated p1 = some r) : PC Tryd.prog 70 [.ag [cb p1.neg, ck .u64 p1.size.1, ck .u64 p1.size.2.1, ck .u64 p1.size.2.2.1, ck .u64 p1.size.2.2.2]] (.ag [cb r.neg, ck .u64 r.size.1, ck .u64 r.size.2.1, ck .u64 r.size.2.2.1, ck .u64 r.size.2.2.2]) := by
 unfold value_wide_negated at h
 refine zF 8 Tryd.f70 (zq fun K1 hK1 => zr (zg [1, 2] 2 [1,2] (zd (hK1 _ _ (zq fun K2 hK2 => zr ?_)))))
 refine zg [1, 2] 5 [1,2] (zd (hK2 _ _ (zq fun K3 hK3 => zr (zv [1, 2] 2 [2] [] [(2, .one (.pt 1 0 0 0))] [.box (qa919 p1), .box (qa919 p1)] (zd (hK3 _ _ ?_))))))
 refine ze ?_
 obtain rfl := Option.some.inj h
 exact zf [.ag (qa919 p1)] (.ag (.cons (.rfl _ rfl) (.cons (.rfl _ rfl) (.cons (.rfl _ rfl) (.cons (.rfl _ rfl) (.cons (.rfl _ rfl) .nil))))))

def value_compareSize (p1 : GWide) (p2 : GWide) : Option Int :=
    ift (decide (p1.size.2.2.2 < p2.size.2.2.2))
      (some (-1 : Int))
      (ift (decide (p2.size.2.2.2 < p1.size.2.2.2))
         (some (1 : Int))
         (ift (decide (p1.size.2.2.1 < p2.size.2.2.1))
            (some (-1 : Int))
            (ift (decide (p2.size.2.2.1 < p1.size.2.2.1))
               (some (1 : Int))
               (ift (decide (p1.size.2.1 < p2.size.2.1))
                  (some (-1 : Int))
                  (ift (decide (p2.size.2.1 < p1.size.2.1))
                     (some (1 : Int))
                     (ift (decide (p1.size.1 < p2.size.1))
                        (some (-1 : Int))
                        (ift (decide (p2.size.1 < p1.size.1))
                           (some (1 : Int))
                           (some (0 : Int)))))))))

abbrev qa923 (p1 : GWide) : List PV := [.s (.bool p1.neg), .s (.int .u64 p1.size.1), .s (.int .u64 p1.size.2.1), .s (.int .u64 p1.size.2.2.1), .s (.int .u64 p1.size.2.2.2)]
abbrev qa924 (p2 : GWide) : List PV := [.s (.bool p2.neg), .s (.int .u64 p2.size.1), .s (.int .u64 p2.size.2.1), .s (.int .u64 p2.size.2.2.1), .s (.int .u64 p2.size.2.2.2)]
abbrev qa928 (p1 : GWide) (p2 : GWide) : Fr := [(28, vk .u64 p2.size.2.2.2), (27, .one (.pv (.rp [(qa924 p2)] 0 4))), (26, .one (.pv (.rp [(qa924 p2)] 0 1))), (25, vi (3 : Int)), (24, vk .u64 p1.size.2.2.2), (23, .one (.pv (.rp [(qa923 p1)] 0 4))), (22, .one (.pv (.rp [(qa923 p1)] 0 1))), (21, vi (3 : Int)), (2, .one (.pv (.rp [(qa923 p1)] 0 0))), (3, .one (.pv (.rp [(qa924 p2)] 0 0))), (5, vi (3 : Int)), (10, vb (decide (p1.size.2.2.2 < p2.size.2.2.2)))]

theorem c_value_compareSize (p1 : GWide) (p2 : GWide) (r : Int) (h : value_compareSize p1 p2 = some r) : PC Tryd.prog 57 [.ag [cb p1.neg, ck .u64 p1.size.1, ck .u64 p1.size.2.1, ck .u64 p1.size.2.2.1, ck .u64 p1.size.2.2.2], .ag [cb p2.neg, ck .u64 p2.size.1, ck .u64 p2.size.2.1, ck .u64 p2.size.2.2.1, ck .u64 p2.size.2.2.2]] (vi r) := by
 unfold value_compareSize at h
 refine zF 30 Tryd.f57 (zq fun K1 hK1 => zr (zg [] 3 [2,3] (zd (hK1 _ _ (zq fun K2 hK2 => zq fun K3 hK3 => ?_)))))
 refine zr (zg [] 1 [2,3,5] (zd (hK3 _ _ (zb 0 (XW.rounds' 5 (x := cd Tryd.f57 [1,0,1,0,0]) (by kernel_rfl) fun Q1 hQ1 => XR.one (zq fun K4 hK4 => ?_))))))
 refine zq fun K5 hK5 => zr (zv [] 2 [2,3,5,7] [] [(2, .one (.pv (.rp [(qa923 p1)] 0 0))), (3, .one (.pv (.rp [(qa924 p2)] 0 0))), (5, vi (3 : Int)), (7, vb true)] [] (zd (hK5 _ _ (zc true (fun _ => ?_) (fun hx => by cases hx)))))
 refine zs (hK4 _ _ (zq fun K6 hK6 => zb 1 (zb 2 (zq fun K7 hK7 => ?_))))
 refine zw 8 [(18, vk .u64 p2.size.2.2.2), (17, .one (.pv (.rp [(qa924 p2)] 0 4))), (16, .one (.pv (.rp [(qa924 p2)] 0 1))), (15, vi (3 : Int)), (14, vk .u64 p1.size.2.2.2), (13, .one (.pv (.rp [(qa923 p1)] 0 4))), (12, .one (.pv (.rp [(qa923 p1)] 0 1))), (11, vi (3 : Int)), (2, .one (.pv (.rp [(qa923 p1)] 0 0))), (3, .one (.pv (.rp [(qa924 p2)] 0 0))), (5, vi (3 : Int)), (7, vb true)] ?_ ?_
 ·refine zyo 8 [(qa923 p1), (qa924 p2)] [0 ≤ (3 : Int) ∧ (3 : Int) < 4, ([(qa923 p1)] : List (List PV))[0]? = some (qa923 p1), 0 ≤ (3 : Int) ∧ (3 : Int) < 4, ([(qa924 p2)] : List (List PV))[0]? = some (qa924 p2)] (⟨by decide, rfl, by decide, rfl, trivial⟩) ?_
  exact zyd
 refine zg [] 2 [2,3,5,10] (zd (hK7 _ _ (zC h (fun b8 h => ?_) (fun b8 h => ?_))))
 ·refine zq fun K9 hK9 => zr (zg [] 1 [4] (zd (hK9 _ _ (ze (hQ1 _ _ _ ?_)))))
  obtain rfl := Option.some.inj h
  exact zf [vi (-1 : Int)] (.one (.rfl _ rfl))
 ·refine zq fun K10 hK10 => ?_
  refine zw 8 (qa928 p1 p2) ?_ ?_
  ·refine zyp 8 [(qa923 p1), (qa924 p2)] (qa928 p1 p2) [0 ≤ (3 : Int) ∧ (3 : Int) < 4, ([(qa923 p1)] : List (List PV))[0]? = some (qa923 p1), 0 ≤ (3 : Int) ∧ (3 : Int) < 4, ([(qa924 p2)] : List (List PV))[0]? = some (qa924 p2)] (⟨by decide, rfl, by decide, rfl, trivial⟩) ?_
   exact zyd
  refine zv [] 2 [2,3,5,20] [] [(2, .one (.pv (.rp [(qa923 p1)] 0 0))), (3, .one (.pv (.rp [(qa924 p2)] 0 0))), (5, vi (3 : Int)), (20, vb (decide (p2.size.2.2.2 < p1.size.2.2.2)))] [] (zd (hK10 _ _ (zC h (fun b11 h => ?_) (fun b11 h => ?_))))
  ·refine zq fun K12 hK12 => zr (zg [] 1 [4] (zd (hK12 _ _ (ze (hQ1 _ _ _ ?_)))))
   obtain rfl := Option.some.inj h
   exact zf [vi (1 : Int)] (.one (.rfl _ rfl))
  ·refine zs (hK6 _ _ (zr (zv [] 3 [2,3,5] [] [(2, .one (.pv (.rp [(qa923 p1)] 0 0))), (3, .one (.pv (.rp [(qa924 p2)] 0 0))), (5, vi (2 : Int))] [] (zd (XR.one (zq fun K13 hK13 => zq fun K14 hK14 => ?_))))))
   refine zr (zg [] 2 [2,3,5,7] (zd (hK14 _ _ (zc true (fun _ => ?_) (fun hx => by cases hx)))))
   refine zs (hK13 _ _ (zq fun K15 hK15 => zb 1 (zb 2 (zq fun K16 hK16 => ?_))))
   refine zw 8 [(18, vk .u64 p2.size.2.2.1), (17, .one (.pv (.rp [(qa924 p2)] 0 3))), (16, .one (.pv (.rp [(qa924 p2)] 0 1))), (15, vi (2 : Int)), (14, vk .u64 p1.size.2.2.1), (13, .one (.pv (.rp [(qa923 p1)] 0 3))), (12, .one (.pv (.rp [(qa923 p1)] 0 1))), (11, vi (2 : Int)), (2, .one (.pv (.rp [(qa923 p1)] 0 0))), (3, .one (.pv (.rp [(qa924 p2)] 0 0))), (5, vi (2 : Int)), (7, vb true)] ?_ ?_
   ·refine zyo 8 [(qa923 p1), (qa924 p2)] [0 ≤ (2 : Int) ∧ (2 : Int) < 4, ([(qa923 p1)] : List (List PV))[0]? = some (qa923 p1), 0 ≤ (2 : Int) ∧ (2 : Int) < 4, ([(qa924 p2)] : List (List PV))[0]? = some (qa924 p2)] (⟨by decide, rfl, by decide, rfl, trivial⟩) ?_
    exact zyd
   refine zg [] 2 [2,3,5,10] (zd (hK16 _ _ (zC h (fun b17 h => ?_) (fun b17 h => ?_))))
   ·refine zq fun K18 hK18 => zr (zv [] 1 [4] [] [(4, vi (-1 : Int))] [] (zd (hK18 _ _ (ze (hQ1 _ _ _ ?_)))))
    obtain rfl := Option.some.inj h
    exact zf [vi (-1 : Int)] (.one (.rfl _ rfl))
   ·refine zq fun K19 hK19 => ?_
    refine zw 8 [(28, vk .u64 p2.size.2.2.1), (27, .one (.pv (.rp [(qa924 p2)] 0 3))), (26, .one (.pv (.rp [(qa924 p2)] 0 1))), (25, vi (2 : Int)), (24, vk .u64 p1.size.2.2.1), (23, .one (.pv (.rp [(qa923 p1)] 0 3))), (22, .one (.pv (.rp [(qa923 p1)] 0 1))), (21, vi (2 : Int)), (2, .one (.pv (.rp [(qa923 p1)] 0 0))), (3, .one (.pv (.rp [(qa924 p2)] 0 0))), (5, vi (2 : Int)), (10, vb (decide (p1.size.2.2.1 < p2.size.2.2.1)))] ?_ ?_
    ·refine zyo 8 [(qa923 p1), (qa924 p2)] [0 ≤ (2 : Int) ∧ (2 : Int) < 4, ([(qa923 p1)] : List (List PV))[0]? = some (qa923 p1), 0 ≤ (2 : Int) ∧ (2 : Int) < 4, ([(qa924 p2)] : List (List PV))[0]? = some (qa924 p2)] (⟨by decide, rfl, by decide, rfl, trivial⟩) ?_
     exact zyd
    refine zg [] 2 [2,3,5,20] (zd (hK19 _ _ (zC h (fun b20 h => ?_) (fun b20 h => ?_))))
    ·refine zq fun K21 hK21 => zr (zg [] 1 [4] (zd (hK21 _ _ (ze (hQ1 _ _ _ ?_)))))
     obtain rfl := Option.some.inj h
     exact zf [vi (1 : Int)] (.one (.rfl _ rfl))
    ·refine zs (hK15 _ _ (zr (zv [] 3 [2,3,5] [] [(2, .one (.pv (.rp [(qa923 p1)] 0 0))), (3, .one (.pv (.rp [(qa924 p2)] 0 0))), (5, vi (1 : Int))] [] (zd (XR.one (zq fun K22 hK22 => zq fun K23 hK23 => ?_))))))
     refine zr (zg [] 2 [2,3,5,7] (zd (hK23 _ _ (zc true (fun _ => ?_) (fun hx => by cases hx)))))
     refine zs (hK22 _ _ (zq fun K24 hK24 => zb 1 (zb 2 (zq fun K25 hK25 => ?_))))
     refine zw 8 [(18, vk .u64 p2.size.2.1), (17, .one (.pv (.rp [(qa924 p2)] 0 2))), (16, .one (.pv (.rp [(qa924 p2)] 0 1))), (15, vi (1 : Int)), (14, vk .u64 p1.size.2.1), (13, .one (.pv (.rp [(qa923 p1)] 0 2))), (12, .one (.pv (.rp [(qa923 p1)] 0 1))), (11, vi (1 : Int)), (2, .one (.pv (.rp [(qa923 p1)] 0 0))), (3, .one (.pv (.rp [(qa924 p2)] 0 0))), (5, vi (1 : Int)), (7, vb true)] ?_ ?_
     ·refine zyo 8 [(qa923 p1), (qa924 p2)] [0 ≤ (1 : Int) ∧ (1 : Int) < 4, ([(qa923 p1)] : List (List PV))[0]? = some (qa923 p1), 0 ≤ (1 : Int) ∧ (1 : Int) < 4, ([(qa924 p2)] : List (List PV))[0]? = some (qa924 p2)] (⟨by decide, rfl, by decide, rfl, trivial⟩) ?_
      exact zyd
     refine zg [] 2 [2,3,5,10] (zd (hK25 _ _ (zC h (fun b26 h => ?_) (fun b26 h => ?_))))
     ·refine zq fun K27 hK27 => zr (zv [] 1 [4] [] [(4, vi (-1 : Int))] [] (zd (hK27 _ _ (ze (hQ1 _ _ _ ?_)))))
      obtain rfl := Option.some.inj h
      exact zf [vi (-1 : Int)] (.one (.rfl _ rfl))
     ·refine zq fun K28 hK28 => ?_
      refine zw 8 [(28, vk .u64 p2.size.2.1), (27, .one (.pv (.rp [(qa924 p2)] 0 2))), (26, .one (.pv (.rp [(qa924 p2)] 0 1))), (25, vi (1 : Int)), (24, vk .u64 p1.size.2.1), (23, .one (.pv (.rp [(qa923 p1)] 0 2))), (22, .one (.pv (.rp [(qa923 p1)] 0 1))), (21, vi (1 : Int)), (2, .one (.pv (.rp [(qa923 p1)] 0 0))), (3, .one (.pv (.rp [(qa924 p2)] 0 0))), (5, vi (1 : Int)), (10, vb (decide (p1.size.2.1 < p2.size.2.1)))] ?_ ?_
      ·refine zyo 8 [(qa923 p1), (qa924 p2)] [0 ≤ (1 : Int) ∧ (1 : Int) < 4, ([(qa923 p1)] : List (List PV))[0]? = some (qa923 p1), 0 ≤ (1 : Int) ∧ (1 : Int) < 4, ([(qa924 p2)] : List (List PV))[0]? = some (qa924 p2)] (⟨by decide, rfl, by decide, rfl, trivial⟩) ?_
       exact zyd
      refine zg [] 2 [2,3,5,20] (zd (hK28 _ _ (zC h (fun b29 h => ?_) (fun b29 h => ?_))))
      ·refine zq fun K30 hK30 => zr (zg [] 1 [4] (zd (hK30 _ _ (ze (hQ1 _ _ _ ?_)))))
       obtain rfl := Option.some.inj h
       exact zf [vi (1 : Int)] (.one (.rfl _ rfl))
      ·refine zs (hK24 _ _ (zr (zv [] 3 [2,3,5] [] [(2, .one (.pv (.rp [(qa923 p1)] 0 0))), (3, .one (.pv (.rp [(qa924 p2)] 0 0))), (5, vi (0 : Int))] [] (zd (XR.one (zq fun K31 hK31 => zq fun K32 hK32 => ?_))))))
       refine zr (zg [] 2 [2,3,5,7] (zd (hK32 _ _ (zc true (fun _ => ?_) (fun hx => by cases hx)))))
       refine zs (hK31 _ _ (zq fun K33 hK33 => zb 1 (zb 2 (zq fun K34 hK34 => ?_))))
       refine zw 8 [(18, vk .u64 p2.size.1), (17, .one (.pv (.rp [(qa924 p2)] 0 1))), (16, .one (.pv (.rp [(qa924 p2)] 0 1))), (15, vi (0 : Int)), (14, vk .u64 p1.size.1), (13, .one (.pv (.rp [(qa923 p1)] 0 1))), (12, .one (.pv (.rp [(qa923 p1)] 0 1))), (11, vi (0 : Int)), (2, .one (.pv (.rp [(qa923 p1)] 0 0))), (3, .one (.pv (.rp [(qa924 p2)] 0 0))), (5, vi (0 : Int)), (7, vb true)] ?_ ?_
       ·refine zyo 8 [(qa923 p1), (qa924 p2)] [0 ≤ (0 : Int) ∧ (0 : Int) < 4, ([(qa923 p1)] : List (List PV))[0]? = some (qa923 p1), 0 ≤ (0 : Int) ∧ (0 : Int) < 4, ([(qa924 p2)] : List (List PV))[0]? = some (qa924 p2)] (⟨by decide, rfl, by decide, rfl, trivial⟩) ?_
        exact zyd
       refine zg [] 2 [2,3,5,10] (zd (hK34 _ _ (zC h (fun b35 h => ?_) (fun b35 h => ?_))))
       ·refine zq fun K36 hK36 => zr (zv [] 1 [4] [] [(4, vi (-1 : Int))] [] (zd (hK36 _ _ (ze (hQ1 _ _ _ ?_)))))
        obtain rfl := Option.some.inj h
        exact zf [vi (-1 : Int)] (.one (.rfl _ rfl))
       ·refine zq fun K37 hK37 => ?_
        refine zw 8 [(28, vk .u64 p2.size.1), (27, .one (.pv (.rp [(qa924 p2)] 0 1))), (26, .one (.pv (.rp [(qa924 p2)] 0 1))), (25, vi (0 : Int)), (24, vk .u64 p1.size.1), (23, .one (.pv (.rp [(qa923 p1)] 0 1))), (22, .one (.pv (.rp [(qa923 p1)] 0 1))), (21, vi (0 : Int)), (2, .one (.pv (.rp [(qa923 p1)] 0 0))), (3, .one (.pv (.rp [(qa924 p2)] 0 0))), (5, vi (0 : Int)), (10, vb (decide (p1.size.1 < p2.size.1)))] ?_ ?_
        ·refine zyo 8 [(qa923 p1), (qa924 p2)] [0 ≤ (0 : Int) ∧ (0 : Int) < 4, ([(qa923 p1)] : List (List PV))[0]? = some (qa923 p1), 0 ≤ (0 : Int) ∧ (0 : Int) < 4, ([(qa924 p2)] : List (List PV))[0]? = some (qa924 p2)] (⟨by decide, rfl, by decide, rfl, trivial⟩) ?_
         exact zyd
        refine zg [] 2 [2,3,5,20] (zd (hK37 _ _ (zC h (fun b38 h => ?_) (fun b38 h => ?_))))
        ·refine zq fun K39 hK39 => zr (zg [] 1 [4] (zd (hK39 _ _ (ze (hQ1 _ _ _ ?_)))))
         obtain rfl := Option.some.inj h
         exact zf [vi (1 : Int)] (.one (.rfl _ rfl))
        ·refine zs (hK33 _ _ (zr (zv [] 3 [2,3,5] [] [(2, .one (.pv (.rp [(qa923 p1)] 0 0))), (3, .one (.pv (.rp [(qa924 p2)] 0 0))), (5, vi (-1 : Int))] [] (zd (XR.one (zq fun K40 hK40 => zq fun K41 hK41 => ?_))))))
         refine zr (zg [] 2 [2,3,5,7] (zd (hK41 _ _ (zc false (fun hx => by cases hx) (fun _ => ?_)))))
         refine zx 0 (hQ1 _ _ _ (hK2 _ _ (zq fun K42 hK42 => zr (zg [] 1 [4] (zd (hK42 _ _ ?_))))))
         refine ze ?_
         obtain rfl := Option.some.inj h
         exact zf [vi (0 : Int)] (.one (.rfl _ rfl))

def value_wide_minus_j1 (z1 : Bool) (z2 : Int) (z3 : Int) (z4 : Int) (z5 : Int) (z6 : Bool) (z7 : Int) (z8 : Int) (z9 : Int) (z10 : Int) : Option GWide :=
    grd (0 ≤ z2 ∧ 0 ≤ z7 ∧ z7 < 18446744073709551616 ∧ 0 ≤ (0 : Int) ∧ (0 : Int) ≤ 1) <|
    grd (0 ≤ z3 ∧ 0 ≤ z8 ∧ z8 < 18446744073709551616 ∧ 0 ≤ (if z2 < z7 + (0 : Int) then (1 : Int) else (0 : Int)) ∧ (if z2 < z7 + (0 : Int) then (1 : Int) else (0 : Int)) ≤ 1) <|
    bnd (some ((z3 - z8 - (if z2 < z7 + (0 : Int) then (1 : Int) else (0 : Int))) % 18446744073709551616)) fun y1 =>
    bnd (some (if z3 < z8 + (if z2 < z7 + (0 : Int) then (1 : Int) else (0 : Int)) then (1 : Int) else (0 : Int))) fun y2 =>
    grd (0 ≤ z4 ∧ 0 ≤ z9 ∧ z9 < 18446744073709551616 ∧ 0 ≤ y2 ∧ y2 ≤ 1) <|
    grd (0 ≤ z5 ∧ 0 ≤ z10 ∧ z10 < 18446744073709551616 ∧ 0 ≤ (if z4 < z9 + y2 then (1 : Int) else (0 : Int)) ∧ (if z4 < z9 + y2 then (1 : Int) else (0 : Int)) ≤ 1) <|
    bnd (some ((z5 - z10 - (if z4 < z9 + y2 then (1 : Int) else (0 : Int))) % 18446744073709551616)) fun y3 =>
    bnd (some (if z5 < z10 + (if z4 < z9 + y2 then (1 : Int) else (0 : Int)) then (1 : Int) else (0 : Int))) fun y4 =>
    some (GWide.mk z1 (((z2 - z7 - (0 : Int)) % 18446744073709551616), y1, ((z4 - z9 - y2) % 18446744073709551616), y3))

mutual

def value_wide_minus : Nat → GWide → GWide → Option GWide
  | 0, _, _ => none
  | k0 + 1, p1, p2 =>
    ift (!(p1.neg == p2.neg))
      (bnd (value_wide_negated (GWide.mk p2.neg (p2.size.1, p2.size.2.1, p2.size.2.2.1, p2.size.2.2.2))) fun r1 =>
       bnd ((value_wide_plus k0) (GWide.mk p1.neg (p1.size.1, p1.size.2.1, p1.size.2.2.1, p1.size.2.2.2)) (GWide.mk r1.neg (r1.size.1, r1.size.2.1, r1.size.2.2.1, r1.size.2.2.2))) fun r2 =>
       some (GWide.mk r2.neg (r2.size.1, r2.size.2.1, r2.size.2.2.1, r2.size.2.2.2)))
      (bnd (value_compareSize (GWide.mk p1.neg (p1.size.1, p1.size.2.1, p1.size.2.2.1, p1.size.2.2.2)) (GWide.mk p2.neg (p2.size.1, p2.size.2.1, p2.size.2.2.1, p2.size.2.2.2))) fun r3 =>
       ift (decide (r3 < (0 : Int)))
         (bnd (value_wide_negated (GWide.mk p2.neg (p2.size.1, p2.size.2.1, p2.size.2.2.1, p2.size.2.2.2))) fun r4 =>
          value_wide_minus_j1 r4.neg r4.size.1 r4.size.2.1 r4.size.2.2.1 r4.size.2.2.2 p1.neg p1.size.1 p1.size.2.1 p1.size.2.2.1 p1.size.2.2.2)
         (value_wide_minus_j1 p1.neg p1.size.1 p1.size.2.1 p1.size.2.2.1 p1.size.2.2.2 p2.neg p2.size.1 p2.size.2.1 p2.size.2.2.1 p2.size.2.2.2))

def value_wide_plus : Nat → GWide → GWide → Option GWide
  | 0, _, _ => none
  | k0 + 1, p1, p2 =>
    ift (!(p1.neg == p2.neg))
      (bnd (value_wide_negated (GWide.mk p2.neg (p2.size.1, p2.size.2.1, p2.size.2.2.1, p2.size.2.2.2))) fun r1 =>
       bnd ((value_wide_minus k0) (GWide.mk p1.neg (p1.size.1, p1.size.2.1, p1.size.2.2.1, p1.size.2.2.2)) (GWide.mk r1.neg (r1.size.1, r1.size.2.1, r1.size.2.2.1, r1.size.2.2.2))) fun r2 =>
       some (GWide.mk r2.neg (r2.size.1, r2.size.2.1, r2.size.2.2.1, r2.size.2.2.2)))
      (grd (0 ≤ p1.size.1 ∧ 0 ≤ p2.size.1 ∧ 0 ≤ (0 : Int) ∧ (0 : Int) ≤ 1) <|
       grd (0 ≤ p1.size.2.1 ∧ 0 ≤ p2.size.2.1 ∧ 0 ≤ ((p1.size.1 + p2.size.1 + (0 : Int)) / 18446744073709551616) ∧ ((p1.size.1 + p2.size.1 + (0 : Int)) / 18446744073709551616) ≤ 1) <|
       bnd (some ((p1.size.2.1 + p2.size.2.1 + ((p1.size.1 + p2.size.1 + (0 : Int)) / 18446744073709551616)) % 18446744073709551616)) fun y1 =>
       bnd (some ((p1.size.2.1 + p2.size.2.1 + ((p1.size.1 + p2.size.1 + (0 : Int)) / 18446744073709551616)) / 18446744073709551616)) fun y2 =>
       grd (0 ≤ p1.size.2.2.1 ∧ 0 ≤ p2.size.2.2.1 ∧ 0 ≤ y2 ∧ y2 ≤ 1) <|
       grd (0 ≤ p1.size.2.2.2 ∧ 0 ≤ p2.size.2.2.2 ∧ 0 ≤ ((p1.size.2.2.1 + p2.size.2.2.1 + y2) / 18446744073709551616) ∧ ((p1.size.2.2.1 + p2.size.2.2.1 + y2) / 18446744073709551616) ≤ 1) <|
       bnd (some ((p1.size.2.2.2 + p2.size.2.2.2 + ((p1.size.2.2.1 + p2.size.2.2.1 + y2) / 18446744073709551616)) % 18446744073709551616)) fun y3 =>
       bnd (some ((p1.size.2.2.2 + p2.size.2.2.2 + ((p1.size.2.2.1 + p2.size.2.2.1 + y2) / 18446744073709551616)) / 18446744073709551616)) fun y4 =>
       some (GWide.mk p1.neg (((p1.size.1 + p2.size.1 + (0 : Int)) % 18446744073709551616), y1, ((p1.size.2.2.1 + p2.size.2.2.1 + y2) % 18446744073709551616), y3)))

end

abbrev qa940 (p1 : GWide) : List CV := [cb p1.neg, ck .u64 p1.size.1, ck .u64 p1.size.2.1, ck .u64 p1.size.2.2.1, ck .u64 p1.size.2.2.2]
abbrev qa941 (p2 : GWide) : List CV := [cb p2.neg, ck .u64 p2.size.1, ck .u64 p2.size.2.1, ck .u64 p2.size.2.2.1, ck .u64 p2.size.2.2.2]
abbrev qa943 (r1 : GWide) : List CV := [cb r1.neg, ck .u64 r1.size.1, ck .u64 r1.size.2.1, ck .u64 r1.size.2.2.1, ck .u64 r1.size.2.2.2]
abbrev qa944 (r2 : GWide) : List CV := [cb r2.neg, ck .u64 r2.size.1, ck .u64 r2.size.2.1, ck .u64 r2.size.2.2.1, ck .u64 r2.size.2.2.2]
abbrev qa947 (z6 : Bool) (z7 : Int) (z8 : Int) (z9 : Int) (z10 : Int) : List CV := [cb z6, ck .u64 z7, ck .u64 z8, ck .u64 z9, ck .u64 z10]
abbrev qa948 : List CV := [cb false, ck .u64 (0 : Int), ck .u64 (0 : Int), ck .u64 (0 : Int), ck .u64 (0 : Int)]
abbrev qa951 (z2 : Int) (z7 : Int) : Fr := [(41, .one (.pt 0 0 0 1)), (40, .one (.pt 0 0 0 1)), (39, vk .u64 (if z2 < z7 + (0 : Int) then (1 : Int) else (0 : Int))), (38, vk .u64 ((z2 - z7 - (0 : Int)) % 18446744073709551616)), (26, .tp [vk .u64 ((z2 - z7 - (0 : Int)) % 18446744073709551616), vk .u64 (if z2 < z7 + (0 : Int) then (1 : Int) else (0 : Int))]), (37, .tp [vk .u64 ((z2 - z7 - (0 : Int)) % 18446744073709551616), vk .u64 (if z2 < z7 + (0 : Int) then (1 : Int) else (0 : Int))]), (36, vk .u64 (0 : Int)), (35, vk .u64 z7), (34, .one (.pt 1 0 0 1)), (33, .one (.pt 1 0 0 1)), (32, vi (0 : Int)), (31, vk .u64 z2), (30, .one (.pt 0 0 0 1)), (29, .one (.pt 0 0 0 1)), (28, vi (0 : Int)), (27, vi (0 : Int)), (2, .one (.pt 0 0 0 0)), (3, .one (.pt 1 0 0 0)), (4, .one (.pt 2 0 0 0)), (5, vk .u64 (0 : Int)), (6, vi (0 : Int)), (23, vi (0 : Int))]
abbrev qa952 (z1 : Bool) (z2 : Int) (z3 : Int) (z4 : Int) (z5 : Int) (z7 : Int) : List CV := [cb z1, ck .u64 ((z2 - z7 - (0 : Int)) % 18446744073709551616), ck .u64 z3, ck .u64 z4, ck .u64 z5]
abbrev qa957 (z2 : Int) (z3 : Int) (z7 : Int) (z8 : Int) (y1 : Int) (y2 : Int) : Fr := [(41, .one (.pt 0 0 0 2)), (40, .one (.pt 0 0 0 1)), (39, vk .u64 y2), (38, vk .u64 y1), (26, .tp [vk .u64 y1, vk .u64 y2]), (37, .tp [vk .u64 y1, vk .u64 y2]), (36, vk .u64 (if z2 < z7 + (0 : Int) then (1 : Int) else (0 : Int))), (35, vk .u64 z8), (34, .one (.pt 1 0 0 2)), (33, .one (.pt 1 0 0 1)), (32, vi (1 : Int)), (31, vk .u64 z3), (30, .one (.pt 0 0 0 2)), (29, .one (.pt 0 0 0 1)), (28, vi (1 : Int)), (27, vi (1 : Int)), (2, .one (.pt 0 0 0 0)), (3, .one (.pt 1 0 0 0)), (4, .one (.pt 2 0 0 0)), (5, vk .u64 (if z2 < z7 + (0 : Int) then (1 : Int) else (0 : Int))), (6, vi (1 : Int)), (23, vi (1 : Int))]
abbrev qa958 (z1 : Bool) (z2 : Int) (z4 : Int) (z5 : Int) (z7 : Int) (y1 : Int) : List CV := [cb z1, ck .u64 ((z2 - z7 - (0 : Int)) % 18446744073709551616), ck .u64 y1, ck .u64 z4, ck .u64 z5]
abbrev qa963 (z4 : Int) (z9 : Int) (y2 : Int) : Fr := [(41, .one (.pt 0 0 0 3)), (40, .one (.pt 0 0 0 1)), (39, vk .u64 (if z4 < z9 + y2 then (1 : Int) else (0 : Int))), (38, vk .u64 ((z4 - z9 - y2) % 18446744073709551616)), (26, .tp [vk .u64 ((z4 - z9 - y2) % 18446744073709551616), vk .u64 (if z4 < z9 + y2 then (1 : Int) else (0 : Int))]), (37, .tp [vk .u64 ((z4 - z9 - y2) % 18446744073709551616), vk .u64 (if z4 < z9 + y2 then (1 : Int) else (0 : Int))]), (36, vk .u64 y2), (35, vk .u64 z9), (34, .one (.pt 1 0 0 3)), (33, .one (.pt 1 0 0 1)), (32, vi (2 : Int)), (31, vk .u64 z4), (30, .one (.pt 0 0 0 3)), (29, .one (.pt 0 0 0 1)), (28, vi (2 : Int)), (27, vi (2 : Int)), (2, .one (.pt 0 0 0 0)), (3, .one (.pt 1 0 0 0)), (4, .one (.pt 2 0 0 0)), (5, vk .u64 y2), (6, vi (2 : Int)), (23, vi (2 : Int))]
abbrev qa964 (z1 : Bool) (z2 : Int) (z4 : Int) (z5 : Int) (z7 : Int) (z9 : Int) (y1 : Int) (y2 : Int) : List CV := [cb z1, ck .u64 ((z2 - z7 - (0 : Int)) % 18446744073709551616), ck .u64 y1, ck .u64 ((z4 - z9 - y2) % 18446744073709551616), ck .u64 z5]
abbrev qa969 (z4 : Int) (z5 : Int) (z9 : Int) (z10 : Int) (y2 : Int) (y3 : Int) (y4 : Int) : Fr := [(41, .one (.pt 0 0 0 4)), (40, .one (.pt 0 0 0 1)), (39, vk .u64 y4), (38, vk .u64 y3), (26, .tp [vk .u64 y3, vk .u64 y4]), (37, .tp [vk .u64 y3, vk .u64 y4]), (36, vk .u64 (if z4 < z9 + y2 then (1 : Int) else (0 : Int))), (35, vk .u64 z10), (34, .one (.pt 1 0 0 4)), (33, .one (.pt 1 0 0 1)), (32, vi (3 : Int)), (31, vk .u64 z5), (30, .one (.pt 0 0 0 4)), (29, .one (.pt 0 0 0 1)), (28, vi (3 : Int)), (27, vi (3 : Int)), (2, .one (.pt 0 0 0 0)), (3, .one (.pt 1 0 0 0)), (4, .one (.pt 2 0 0 0)), (5, vk .u64 (if z4 < z9 + y2 then (1 : Int) else (0 : Int))), (6, vi (3 : Int)), (23, vi (3 : Int))]
abbrev qa970 (z1 : Bool) (z2 : Int) (z4 : Int) (z7 : Int) (z9 : Int) (y1 : Int) (y2 : Int) (y3 : Int) : List CV := [cb z1, ck .u64 ((z2 - z7 - (0 : Int)) % 18446744073709551616), ck .u64 y1, ck .u64 ((z4 - z9 - y2) % 18446744073709551616), ck .u64 y3]
abbrev qa974 (r4 : GWide) : List CV := [cb r4.neg, ck .u64 r4.size.1, ck .u64 r4.size.2.1, ck .u64 r4.size.2.2.1, ck .u64 r4.size.2.2.2]
abbrev qa986 (p1 : GWide) : List CV := [cb p1.neg, ck .u64 p1.size.1, ck .u64 p1.size.2.1, ck .u64 p1.size.2.2.1, ck .u64 p1.size.2.2.2]
abbrev qa987 (p2 : GWide) : List CV := [cb p2.neg, ck .u64 p2.size.1, ck .u64 p2.size.2.1, ck .u64 p2.size.2.2.1, ck .u64 p2.size.2.2.2]
abbrev qa989 (p2 : GWide) : List PV := [.s (.bool p2.neg), .s (.int .u64 p2.size.1), .s (.int .u64 p2.size.2.1), .s (.int .u64 p2.size.2.2.1), .s (.int .u64 p2.size.2.2.2)]
abbrev qa990 (r1 : GWide) : List CV := [cb r1.neg, ck .u64 r1.size.1, ck .u64 r1.size.2.1, ck .u64 r1.size.2.2.1, ck .u64 r1.size.2.2.2]
abbrev qa991 (r2 : GWide) : List CV := [cb r2.neg, ck .u64 r2.size.1, ck .u64 r2.size.2.1, ck .u64 r2.size.2.2.1, ck .u64 r2.size.2.2.2]
abbrev qa992 : List CV := [cb false, ck .u64 (0 : Int), ck .u64 (0 : Int), ck .u64 (0 : Int), ck .u64 (0 : Int)]
abbrev qa993 (p1 : GWide) (p2 : GWide) : List CV := [cb p1.neg, ck .u64 ((p1.size.1 + p2.size.1 + (0 : Int)) % 18446744073709551616), ck .u64 p1.size.2.1, ck .u64 p1.size.2.2.1, ck .u64 p1.size.2.2.2]
abbrev qa994 (p1 : GWide) (p2 : GWide) (y1 : Int) : List CV := [cb p1.neg, ck .u64 ((p1.size.1 + p2.size.1 + (0 : Int)) % 18446744073709551616), ck .u64 y1, ck .u64 p1.size.2.2.1, ck .u64 p1.size.2.2.2]
abbrev qa995 (p1 : GWide) (p2 : GWide) (y1 : Int) (y2 : Int) : List CV := [cb p1.neg, ck .u64 ((p1.size.1 + p2.size.1 + (0 : Int)) % 18446744073709551616), ck .u64 y1, ck .u64 ((p1.size.2.2.1 + p2.size.2.2.1 + y2) % 18446744073709551616), ck .u64 p1.size.2.2.2]
abbrev qa996 (p1 : GWide) (p2 : GWide) (y1 : Int) (y2 : Int) (y3 : Int) : List CV := [cb p1.neg, ck .u64 ((p1.size.1 + p2.size.1 + (0 : Int)) % 18446744073709551616), ck .u64 y1, ck .u64 ((p1.size.2.2.1 + p2.size.2.2.1 + y2) % 18446744073709551616), ck .u64 y3]
abbrev qa1003 (p1 : GWide) (p2 : GWide) : Fr := [(34, .one (.pt 0 0 0 1)), (33, .one (.pt 0 0 0 1)), (32, vk .u64 ((p1.size.1 + p2.size.1 + (0 : Int)) / 18446744073709551616)), (31, vk .u64 ((p1.size.1 + p2.size.1 + (0 : Int)) % 18446744073709551616)), (19, .tp [vk .u64 ((p1.size.1 + p2.size.1 + (0 : Int)) % 18446744073709551616), vk .u64 ((p1.size.1 + p2.size.1 + (0 : Int)) / 18446744073709551616)]), (30, .tp [vk .u64 ((p1.size.1 + p2.size.1 + (0 : Int)) % 18446744073709551616), vk .u64 ((p1.size.1 + p2.size.1 + (0 : Int)) / 18446744073709551616)]), (29, vk .u64 (0 : Int)), (28, vk .u64 p2.size.1), (27, .one (.pv (.rp [(qa989 p2)] 0 1))), (26, .one (.pv (.rp [(qa989 p2)] 0 1))), (25, vi (0 : Int)), (24, vk .u64 p1.size.1), (23, .one (.pt 0 0 0 1)), (22, .one (.pt 0 0 0 1)), (21, vi (0 : Int)), (20, vi (0 : Int)), (2, .one (.pt 0 0 0 0)), (3, .one (.pv (.rp [(qa989 p2)] 0 0))), (4, .one (.pt 1 0 0 0)), (5, vk .u64 (0 : Int)), (6, vi (0 : Int)), (16, vi (0 : Int))]
abbrev qa1009 (p1 : GWide) (p2 : GWide) (y1 : Int) (y2 : Int) : Fr := [(34, .one (.pt 0 0 0 2)), (33, .one (.pt 0 0 0 1)), (32, vk .u64 y2), (31, vk .u64 y1), (19, .tp [vk .u64 y1, vk .u64 y2]), (30, .tp [vk .u64 y1, vk .u64 y2]), (29, vk .u64 ((p1.size.1 + p2.size.1 + (0 : Int)) / 18446744073709551616)), (28, vk .u64 p2.size.2.1), (27, .one (.pv (.rp [(qa989 p2)] 0 2))), (26, .one (.pv (.rp [(qa989 p2)] 0 1))), (25, vi (1 : Int)), (24, vk .u64 p1.size.2.1), (23, .one (.pt 0 0 0 2)), (22, .one (.pt 0 0 0 1)), (21, vi (1 : Int)), (20, vi (1 : Int)), (2, .one (.pt 0 0 0 0)), (3, .one (.pv (.rp [(qa989 p2)] 0 0))), (4, .one (.pt 1 0 0 0)), (5, vk .u64 ((p1.size.1 + p2.size.1 + (0 : Int)) / 18446744073709551616)), (6, vi (1 : Int)), (16, vi (1 : Int))]
abbrev qa1015 (p1 : GWide) (p2 : GWide) (y2 : Int) : Fr := [(34, .one (.pt 0 0 0 3)), (33, .one (.pt 0 0 0 1)), (32, vk .u64 ((p1.size.2.2.1 + p2.size.2.2.1 + y2) / 18446744073709551616)), (31, vk .u64 ((p1.size.2.2.1 + p2.size.2.2.1 + y2) % 18446744073709551616)), (19, .tp [vk .u64 ((p1.size.2.2.1 + p2.size.2.2.1 + y2) % 18446744073709551616), vk .u64 ((p1.size.2.2.1 + p2.size.2.2.1 + y2) / 18446744073709551616)]), (30, .tp [vk .u64 ((p1.size.2.2.1 + p2.size.2.2.1 + y2) % 18446744073709551616), vk .u64 ((p1.size.2.2.1 + p2.size.2.2.1 + y2) / 18446744073709551616)]), (29, vk .u64 y2), (28, vk .u64 p2.size.2.2.1), (27, .one (.pv (.rp [(qa989 p2)] 0 3))), (26, .one (.pv (.rp [(qa989 p2)] 0 1))), (25, vi (2 : Int)), (24, vk .u64 p1.size.2.2.1), (23, .one (.pt 0 0 0 3)), (22, .one (.pt 0 0 0 1)), (21, vi (2 : Int)), (20, vi (2 : Int)), (2, .one (.pt 0 0 0 0)), (3, .one (.pv (.rp [(qa989 p2)] 0 0))), (4, .one (.pt 1 0 0 0)), (5, vk .u64 y2), (6, vi (2 : Int)), (16, vi (2 : Int))]
abbrev qa1021 (p1 : GWide) (p2 : GWide) (y2 : Int) (y3 : Int) (y4 : Int) : Fr := [(34, .one (.pt 0 0 0 4)), (33, .one (.pt 0 0 0 1)), (32, vk .u64 y4), (31, vk .u64 y3), (19, .tp [vk .u64 y3, vk .u64 y4]), (30, .tp [vk .u64 y3, vk .u64 y4]), (29, vk .u64 ((p1.size.2.2.1 + p2.size.2.2.1 + y2) / 18446744073709551616)), (28, vk .u64 p2.size.2.2.2), (27, .one (.pv (.rp [(qa989 p2)] 0 4))), (26, .one (.pv (.rp [(qa989 p2)] 0 1))), (25, vi (3 : Int)), (24, vk .u64 p1.size.2.2.2), (23, .one (.pt 0 0 0 4)), (22, .one (.pt 0 0 0 1)), (21, vi (3 : Int)), (20, vi (3 : Int)), (2, .one (.pt 0 0 0 0)), (3, .one (.pv (.rp [(qa989 p2)] 0 0))), (4, .one (.pt 1 0 0 0)), (5, vk .u64 ((p1.size.2.2.1 + p2.size.2.2.1 + y2) / 18446744073709551616)), (6, vi (3 : Int)), (16, vi (3 : Int))]

mutual

theorem c_value_wide_minus : ∀ (k0 : Nat) (p1 : GWide) (p2 : GWide) (r : GWide), value_wide_minus k0 p1 p2 = some r → PC Tryd.prog 69 [.ag (qa940 p1), .ag (qa941 p2)] (.ag [cb r.neg, ck .u64 r.size.1, ck .u64 r.size.2.1, ck .u64 r.size.2.2.1, ck .u64 r.size.2.2.2])
 | 0, _, _, r, h => by rw [value_wide_minus.eq_1] at h; cases h
 | k0 + 1, p1, p2, r, h => by
  rw [value_wide_minus.eq_2] at h
  refine zF 44 Tryd.f69 (zq fun K1 hK1 => zr (zg [2, 3, 4] 3 [2,3,4] (zd (hK1 _ _ (zq fun K2 hK2 => zq fun K3 hK3 => ?_)))))
  refine zr (zg [2, 3, 4] 5 [2,3,4,11] (zd (hK3 _ _ (zC h (fun b4 h => ?_) (fun b4 h => ?_)))))
  ·refine zq fun K5 hK5 => ?_
   obtain ⟨r1, c6, h⟩ := zB h
   obtain ⟨r2, c7, h⟩ := zB h
   refine zw 3 [(14, .ag (qa943 r1)), (13, .ag (qa941 p2)), (12, .ag (qa940 p1)), (2, .one (.pt 0 0 0 0)), (3, .one (.pt 1 0 0 0)), (4, .one (.pt 2 0 0 0)), (11, vb (!(p1.neg == p2.neg)))] ?_ ?_
   ·exact zyv 2 [] [(13, .ag (qa941 p2)), (12, .ag (qa940 p1)), (2, .one (.pt 0 0 0 0)), (3, .one (.pt 1 0 0 0)), (4, .one (.pt 2 0 0 0)), (11, vb (!(p1.neg == p2.neg)))] (zya (c_value_wide_negated _ _ c6) zyd)
   refine zl 50 [.ag (qa940 p1), .ag (qa943 r1)] (.ag (qa944 r2)) [(15, .ag (qa944 r2)), (14, .ag (qa943 r1)), (13, .ag (qa941 p2)), (12, .ag (qa940 p1)), (2, .one (.pt 0 0 0 0)), (3, .one (.pt 1 0 0 0)), (4, .one (.pt 2 0 0 0)), (11, vb (!(p1.neg == p2.neg)))] (c_value_wide_plus k0 _ _ _ c7) ?_
   refine zg [2, 3, 4] 1 [4] (zd (hK5 _ _ (ze ?_)))
   obtain rfl := Option.some.inj h
   exact zf [.ag (qa944 r2)] (.ag (.cons (.rfl _ rfl) (.cons (.rfl _ rfl) (.cons (.rfl _ rfl) (.cons (.rfl _ rfl) (.cons (.rfl _ rfl) .nil))))))
  ·refine zs (hK2 _ _ (zq fun K8 hK8 => ?_))
   have hJ1 : ∀ (z1 : Bool) (z2 : Int) (z3 : Int) (z4 : Int) (z5 : Int) (z6 : Bool) (z7 : Int) (z8 : Int) (z9 : Int) (z10 : Int), value_wide_minus_j1 z1 z2 z3 z4 z5 z6 z7 z8 z9 z10 = some r → ∀ fr1 st1, Sub 44 0 [] fr1 st1 [(2, .one (.pt 0 0 0 0)), (3, .one (.pt 1 0 0 0)), (4, .one (.pt 2 0 0 0))] [.box [cb z1, ck .u64 z2, ck .u64 z3, ck .u64 z4, ck .u64 z5], .box (qa947 z6 z7 z8 z9 z10), .box qa948] → K8 fr1 st1 := by
    intro z1 z2 z3 z4 z5 z6 z7 z8 z9 z10 h fr1 st1 hS
    unfold value_wide_minus_j1 at h
    refine hK8 _ _ (XW.sub hS ?_)
    refine zq fun K13 hK13 => zr (zg [2, 3, 4] 1 [2,3,4,5] (zd (hK13 _ _ (zq fun K14 hK14 => zq fun K15 hK15 => zr ?_))))
    refine zg [2, 3, 4] 1 [2,3,4,5,23] (zd (hK15 _ _ (zb 0 (XW.rounds' 5 (x := cd Tryd.f69 [1,1,1,1,0,1,0,0]) (by kernel_rfl) fun Q1 hQ1 => XR.one (zq fun K16 hK16 => zr ?_)))))
    refine zv [2, 3, 4] 1 [2,3,4,5,23,24] [] [(2, .one (.pt 0 0 0 0)), (3, .one (.pt 1 0 0 0)), (4, .one (.pt 2 0 0 0)), (5, vk .u64 (0 : Int)), (23, vi (0 : Int)), (24, vb true)] [.box [cb z1, ck .u64 z2, ck .u64 z3, ck .u64 z4, ck .u64 z5], .box (qa947 z6 z7 z8 z9 z10), .box qa948] (zd (hK16 _ _ (zq fun K17 hK17 => zc true (fun _ => ?_) (fun hx => by cases hx))))
    refine zs (hK17 _ _ (zq fun K18 hK18 => zb 1 (zq fun K19 hK19 => zr (zv [2, 3, 4] 2 [2,3,4,5,6,23] [] [(2, .one (.pt 0 0 0 0)), (3, .one (.pt 1 0 0 0)), (4, .one (.pt 2 0 0 0)), (5, vk .u64 (0 : Int)), (6, vi (0 : Int)), (23, vi (0 : Int))] [.box [cb z1, ck .u64 z2, ck .u64 z3, ck .u64 z4, ck .u64 z5], .box (qa947 z6 z7 z8 z9 z10), .box qa948] (zd ?_)))))
    refine hK19 _ _ ?_
    obtain ⟨g20, h⟩ := zG h
    refine XW.drwG 17 [3] [([], []), ([], []), ([0], []), ([0], []), ([0], []), ([], []), ([1], []), ([1], []), ([1], []), ([], []), ([], []), ([], []), ([], []), ([], []), ([0], []), ([0], []), ([0], [0])] (qa951 z2 z7) [.box (qa952 z1 z2 z3 z4 z5 z7), .box (qa947 z6 z7 z8 z9 z10), .box qa948] (by kernel_rfl) (by kernel_rfl) ?_ ?_
    ·refine GY.go 10 [] [(36, vk .u64 (0 : Int)), (35, vk .u64 z7), (34, .one (.pt 1 0 0 1)), (33, .one (.pt 1 0 0 1)), (32, vi (0 : Int)), (31, vk .u64 z2), (30, .one (.pt 0 0 0 1)), (29, .one (.pt 0 0 0 1)), (28, vi (0 : Int)), (27, vi (0 : Int)), (2, .one (.pt 0 0 0 0)), (3, .one (.pt 1 0 0 0)), (4, .one (.pt 2 0 0 0)), (5, vk .u64 (0 : Int)), (6, vi (0 : Int)), (23, vi (0 : Int))] [0 ≤ (0 : Int) ∧ (0 : Int) < 4, 0 ≤ (0 : Int) ∧ (0 : Int) < 4] (by kernel_rfl) (⟨by decide, by decide, trivial⟩) ?_
     refine GY.ext 82 [.int .u64 z2, .int .u64 z7, .int .u64 (0 : Int)] [.int .u64 ((z2 - z7 - (0 : Int)) % 18446744073709551616), .int .u64 (if z2 < z7 + (0 : Int) then (1 : Int) else (0 : Int))] [(37, .tp [vk .u64 ((z2 - z7 - (0 : Int)) % 18446744073709551616), vk .u64 (if z2 < z7 + (0 : Int) then (1 : Int) else (0 : Int))]), (36, vk .u64 (0 : Int)), (35, vk .u64 z7), (34, .one (.pt 1 0 0 1)), (33, .one (.pt 1 0 0 1)), (32, vi (0 : Int)), (31, vk .u64 z2), (30, .one (.pt 0 0 0 1)), (29, .one (.pt 0 0 0 1)), (28, vi (0 : Int)), (27, vi (0 : Int)), (2, .one (.pt 0 0 0 0)), (3, .one (.pt 1 0 0 0)), (4, .one (.pt 2 0 0 0)), (5, vk .u64 (0 : Int)), (6, vi (0 : Int)), (23, vi (0 : Int))] [] (by kernel_rfl) (by kernel_rfl) (ext_Sub64 (fn := Tryd.f82) (by kernel_rfl) (by kernel_rfl) (by kernel_rfl) (by kernel_rfl) (by kernel_rfl) g20.1 g20.2.1 g20.2.2.1 g20.2.2.2.1 g20.2.2.2.2) rfl (by kernel_rfl) (by kernel_rfl) (by kernel_rfl) ?_
     refine GY.go 5 [] (qa951 z2 z7) [0 ≤ (0 : Int) ∧ (0 : Int) < 4] (by kernel_rfl) (⟨by decide, trivial⟩) ?_
     refine GY.wr [] (qa951 z2 z7) [0] [.box (qa952 z1 z2 z3 z4 z5 z7), .box (qa947 z6 z7 z8 z9 z10), .box qa948] [] (by kernel_rfl) (by kernel_rfl) trivial ?_
     exact GY.done (by kernel_rfl) (by kernel_rfl)
    refine zg [2, 3, 4] 1 [2,3,4,5,23] (zd (hK18 _ _ (zr (zv [2, 3, 4] 2 [2,3,4,5,23] [] [(2, .one (.pt 0 0 0 0)), (3, .one (.pt 1 0 0 0)), (4, .one (.pt 2 0 0 0)), (5, vk .u64 (if z2 < z7 + (0 : Int) then (1 : Int) else (0 : Int))), (23, vi (1 : Int))] [.box (qa952 z1 z2 z3 z4 z5 z7), .box (qa947 z6 z7 z8 z9 z10), .box qa948] (zd (XR.one (zq fun K21 hK21 => ?_)))))))
    refine zr (zg [2, 3, 4] 1 [2,3,4,5,23,24] (zd (hK21 _ _ (zq fun K22 hK22 => zc true (fun _ => ?_) (fun hx => by cases hx)))))
    refine zs (hK22 _ _ (zq fun K23 hK23 => zb 1 (zq fun K24 hK24 => zr (zv [2, 3, 4] 2 [2,3,4,5,6,23] [] [(2, .one (.pt 0 0 0 0)), (3, .one (.pt 1 0 0 0)), (4, .one (.pt 2 0 0 0)), (5, vk .u64 (if z2 < z7 + (0 : Int) then (1 : Int) else (0 : Int))), (6, vi (1 : Int)), (23, vi (1 : Int))] [.box (qa952 z1 z2 z3 z4 z5 z7), .box (qa947 z6 z7 z8 z9 z10), .box qa948] (zd ?_)))))
    refine hK24 _ _ ?_
    obtain ⟨g25, h⟩ := zG h
    obtain ⟨y1, hy26, h⟩ := zB h
    obtain ⟨y2, hy27, h⟩ := zB h
    refine XW.drwG 17 [3] [([], []), ([], []), ([0], []), ([0], []), ([0], []), ([], []), ([1], []), ([1], []), ([1], []), ([], []), ([], []), ([], []), ([], []), ([], []), ([0], []), ([0], []), ([0], [0])] (qa957 z2 z3 z7 z8 y1 y2) [.box (qa958 z1 z2 z4 z5 z7 y1), .box (qa947 z6 z7 z8 z9 z10), .box qa948] (by kernel_rfl) (by kernel_rfl) ?_ ?_
    ·refine GY.go 10 [] [(36, vk .u64 (if z2 < z7 + (0 : Int) then (1 : Int) else (0 : Int))), (35, vk .u64 z8), (34, .one (.pt 1 0 0 2)), (33, .one (.pt 1 0 0 1)), (32, vi (1 : Int)), (31, vk .u64 z3), (30, .one (.pt 0 0 0 2)), (29, .one (.pt 0 0 0 1)), (28, vi (1 : Int)), (27, vi (1 : Int)), (2, .one (.pt 0 0 0 0)), (3, .one (.pt 1 0 0 0)), (4, .one (.pt 2 0 0 0)), (5, vk .u64 (if z2 < z7 + (0 : Int) then (1 : Int) else (0 : Int))), (6, vi (1 : Int)), (23, vi (1 : Int))] [0 ≤ (1 : Int) ∧ (1 : Int) < 4, 0 ≤ (1 : Int) ∧ (1 : Int) < 4] (by kernel_rfl) (⟨by decide, by decide, trivial⟩) ?_
     refine GY.ext 82 [.int .u64 z3, .int .u64 z8, .int .u64 (if z2 < z7 + (0 : Int) then (1 : Int) else (0 : Int))] [.int .u64 ((z3 - z8 - (if z2 < z7 + (0 : Int) then (1 : Int) else (0 : Int))) % 18446744073709551616), .int .u64 (if z3 < z8 + (if z2 < z7 + (0 : Int) then (1 : Int) else (0 : Int)) then (1 : Int) else (0 : Int))] [(37, .tp [vk .u64 ((z3 - z8 - (if z2 < z7 + (0 : Int) then (1 : Int) else (0 : Int))) % 18446744073709551616), vk .u64 (if z3 < z8 + (if z2 < z7 + (0 : Int) then (1 : Int) else (0 : Int)) then (1 : Int) else (0 : Int))]), (36, vk .u64 (if z2 < z7 + (0 : Int) then (1 : Int) else (0 : Int))), (35, vk .u64 z8), (34, .one (.pt 1 0 0 2)), (33, .one (.pt 1 0 0 1)), (32, vi (1 : Int)), (31, vk .u64 z3), (30, .one (.pt 0 0 0 2)), (29, .one (.pt 0 0 0 1)), (28, vi (1 : Int)), (27, vi (1 : Int)), (2, .one (.pt 0 0 0 0)), (3, .one (.pt 1 0 0 0)), (4, .one (.pt 2 0 0 0)), (5, vk .u64 (if z2 < z7 + (0 : Int) then (1 : Int) else (0 : Int))), (6, vi (1 : Int)), (23, vi (1 : Int))] [] (by kernel_rfl) (by kernel_rfl) (ext_Sub64 (fn := Tryd.f82) (by kernel_rfl) (by kernel_rfl) (by kernel_rfl) (by kernel_rfl) (by kernel_rfl) g25.1 g25.2.1 g25.2.2.1 g25.2.2.2.1 g25.2.2.2.2) rfl (by kernel_rfl) (by kernel_rfl) (by kernel_rfl) ?_
     refine zgv 2 [] [(38, vk .u64 ((z3 - z8 - (if z2 < z7 + (0 : Int) then (1 : Int) else (0 : Int))) % 18446744073709551616)), (26, .tp [vk .u64 ((z3 - z8 - (if z2 < z7 + (0 : Int) then (1 : Int) else (0 : Int))) % 18446744073709551616), vk .u64 (if z3 < z8 + (if z2 < z7 + (0 : Int) then (1 : Int) else (0 : Int)) then (1 : Int) else (0 : Int))]), (37, .tp [vk .u64 ((z3 - z8 - (if z2 < z7 + (0 : Int) then (1 : Int) else (0 : Int))) % 18446744073709551616), vk .u64 (if z3 < z8 + (if z2 < z7 + (0 : Int) then (1 : Int) else (0 : Int)) then (1 : Int) else (0 : Int))]), (36, vk .u64 (if z2 < z7 + (0 : Int) then (1 : Int) else (0 : Int))), (35, vk .u64 z8), (34, .one (.pt 1 0 0 2)), (33, .one (.pt 1 0 0 1)), (32, vi (1 : Int)), (31, vk .u64 z3), (30, .one (.pt 0 0 0 2)), (29, .one (.pt 0 0 0 1)), (28, vi (1 : Int)), (27, vi (1 : Int)), (2, .one (.pt 0 0 0 0)), (3, .one (.pt 1 0 0 0)), (4, .one (.pt 2 0 0 0)), (5, vk .u64 (if z2 < z7 + (0 : Int) then (1 : Int) else (0 : Int))), (6, vi (1 : Int)), (23, vi (1 : Int))] ?_
     rw [show ((z3 - z8 - (if z2 < z7 + (0 : Int) then (1 : Int) else (0 : Int))) % 18446744073709551616) = y1 from Option.some.inj hy26]
     refine zgv 1 [] [(39, vk .u64 (if z3 < z8 + (if z2 < z7 + (0 : Int) then (1 : Int) else (0 : Int)) then (1 : Int) else (0 : Int))), (38, vk .u64 y1), (26, .tp [vk .u64 y1, vk .u64 (if z3 < z8 + (if z2 < z7 + (0 : Int) then (1 : Int) else (0 : Int)) then (1 : Int) else (0 : Int))]), (37, .tp [vk .u64 y1, vk .u64 (if z3 < z8 + (if z2 < z7 + (0 : Int) then (1 : Int) else (0 : Int)) then (1 : Int) else (0 : Int))]), (36, vk .u64 (if z2 < z7 + (0 : Int) then (1 : Int) else (0 : Int))), (35, vk .u64 z8), (34, .one (.pt 1 0 0 2)), (33, .one (.pt 1 0 0 1)), (32, vi (1 : Int)), (31, vk .u64 z3), (30, .one (.pt 0 0 0 2)), (29, .one (.pt 0 0 0 1)), (28, vi (1 : Int)), (27, vi (1 : Int)), (2, .one (.pt 0 0 0 0)), (3, .one (.pt 1 0 0 0)), (4, .one (.pt 2 0 0 0)), (5, vk .u64 (if z2 < z7 + (0 : Int) then (1 : Int) else (0 : Int))), (6, vi (1 : Int)), (23, vi (1 : Int))] ?_
     rw [show (if z3 < z8 + (if z2 < z7 + (0 : Int) then (1 : Int) else (0 : Int)) then (1 : Int) else (0 : Int)) = y2 from Option.some.inj hy27]
     refine GY.go 2 [] (qa957 z2 z3 z7 z8 y1 y2) [0 ≤ (1 : Int) ∧ (1 : Int) < 4] (by kernel_rfl) (⟨by decide, trivial⟩) ?_
     refine GY.wr [] (qa957 z2 z3 z7 z8 y1 y2) [0] [.box (qa958 z1 z2 z4 z5 z7 y1), .box (qa947 z6 z7 z8 z9 z10), .box qa948] [] (by kernel_rfl) (by kernel_rfl) trivial ?_
     exact GY.done (by kernel_rfl) (by kernel_rfl)
    refine zg [2, 3, 4] 1 [2,3,4,5,23] (zd (hK23 _ _ (zr (zv [2, 3, 4] 2 [2,3,4,5,23] [] [(2, .one (.pt 0 0 0 0)), (3, .one (.pt 1 0 0 0)), (4, .one (.pt 2 0 0 0)), (5, vk .u64 y2), (23, vi (2 : Int))] [.box (qa958 z1 z2 z4 z5 z7 y1), .box (qa947 z6 z7 z8 z9 z10), .box qa948] (zd (XR.one (zq fun K28 hK28 => ?_)))))))
    refine zr (zg [2, 3, 4] 1 [2,3,4,5,23,24] (zd (hK28 _ _ (zq fun K29 hK29 => zc true (fun _ => ?_) (fun hx => by cases hx)))))
    refine zs (hK29 _ _ (zq fun K30 hK30 => zb 1 (zq fun K31 hK31 => zr (zv [2, 3, 4] 2 [2,3,4,5,6,23] [] [(2, .one (.pt 0 0 0 0)), (3, .one (.pt 1 0 0 0)), (4, .one (.pt 2 0 0 0)), (5, vk .u64 y2), (6, vi (2 : Int)), (23, vi (2 : Int))] [.box (qa958 z1 z2 z4 z5 z7 y1), .box (qa947 z6 z7 z8 z9 z10), .box qa948] (zd ?_)))))
    refine hK31 _ _ ?_
    obtain ⟨g32, h⟩ := zG h
    refine XW.drwG 17 [3] [([], []), ([], []), ([0], []), ([0], []), ([0], []), ([], []), ([1], []), ([1], []), ([1], []), ([], []), ([], []), ([], []), ([], []), ([], []), ([0], []), ([0], []), ([0], [0])] (qa963 z4 z9 y2) [.box (qa964 z1 z2 z4 z5 z7 z9 y1 y2), .box (qa947 z6 z7 z8 z9 z10), .box qa948] (by kernel_rfl) (by kernel_rfl) ?_ ?_
    ·refine GY.go 10 [] [(36, vk .u64 y2), (35, vk .u64 z9), (34, .one (.pt 1 0 0 3)), (33, .one (.pt 1 0 0 1)), (32, vi (2 : Int)), (31, vk .u64 z4), (30, .one (.pt 0 0 0 3)), (29, .one (.pt 0 0 0 1)), (28, vi (2 : Int)), (27, vi (2 : Int)), (2, .one (.pt 0 0 0 0)), (3, .one (.pt 1 0 0 0)), (4, .one (.pt 2 0 0 0)), (5, vk .u64 y2), (6, vi (2 : Int)), (23, vi (2 : Int))] [0 ≤ (2 : Int) ∧ (2 : Int) < 4, 0 ≤ (2 : Int) ∧ (2 : Int) < 4] (by kernel_rfl) (⟨by decide, by decide, trivial⟩) ?_
     refine GY.ext 82 [.int .u64 z4, .int .u64 z9, .int .u64 y2] [.int .u64 ((z4 - z9 - y2) % 18446744073709551616), .int .u64 (if z4 < z9 + y2 then (1 : Int) else (0 : Int))] [(37, .tp [vk .u64 ((z4 - z9 - y2) % 18446744073709551616), vk .u64 (if z4 < z9 + y2 then (1 : Int) else (0 : Int))]), (36, vk .u64 y2), (35, vk .u64 z9), (34, .one (.pt 1 0 0 3)), (33, .one (.pt 1 0 0 1)), (32, vi (2 : Int)), (31, vk .u64 z4), (30, .one (.pt 0 0 0 3)), (29, .one (.pt 0 0 0 1)), (28, vi (2 : Int)), (27, vi (2 : Int)), (2, .one (.pt 0 0 0 0)), (3, .one (.pt 1 0 0 0)), (4, .one (.pt 2 0 0 0)), (5, vk .u64 y2), (6, vi (2 : Int)), (23, vi (2 : Int))] [] (by kernel_rfl) (by kernel_rfl) (ext_Sub64 (fn := Tryd.f82) (by kernel_rfl) (by kernel_rfl) (by kernel_rfl) (by kernel_rfl) (by kernel_rfl) g32.1 g32.2.1 g32.2.2.1 g32.2.2.2.1 g32.2.2.2.2) rfl (by kernel_rfl) (by kernel_rfl) (by kernel_rfl) ?_
     refine GY.go 5 [] (qa963 z4 z9 y2) [0 ≤ (2 : Int) ∧ (2 : Int) < 4] (by kernel_rfl) (⟨by decide, trivial⟩) ?_
     refine GY.wr [] (qa963 z4 z9 y2) [0] [.box (qa964 z1 z2 z4 z5 z7 z9 y1 y2), .box (qa947 z6 z7 z8 z9 z10), .box qa948] [] (by kernel_rfl) (by kernel_rfl) trivial ?_
     exact GY.done (by kernel_rfl) (by kernel_rfl)
    refine zg [2, 3, 4] 1 [2,3,4,5,23] (zd (hK30 _ _ (zr (zv [2, 3, 4] 2 [2,3,4,5,23] [] [(2, .one (.pt 0 0 0 0)), (3, .one (.pt 1 0 0 0)), (4, .one (.pt 2 0 0 0)), (5, vk .u64 (if z4 < z9 + y2 then (1 : Int) else (0 : Int))), (23, vi (3 : Int))] [.box (qa964 z1 z2 z4 z5 z7 z9 y1 y2), .box (qa947 z6 z7 z8 z9 z10), .box qa948] (zd (XR.one (zq fun K33 hK33 => ?_)))))))
    refine zr (zg [2, 3, 4] 1 [2,3,4,5,23,24] (zd (hK33 _ _ (zq fun K34 hK34 => zc true (fun _ => ?_) (fun hx => by cases hx)))))
    refine zs (hK34 _ _ (zq fun K35 hK35 => zb 1 (zq fun K36 hK36 => zr (zv [2, 3, 4] 2 [2,3,4,5,6,23] [] [(2, .one (.pt 0 0 0 0)), (3, .one (.pt 1 0 0 0)), (4, .one (.pt 2 0 0 0)), (5, vk .u64 (if z4 < z9 + y2 then (1 : Int) else (0 : Int))), (6, vi (3 : Int)), (23, vi (3 : Int))] [.box (qa964 z1 z2 z4 z5 z7 z9 y1 y2), .box (qa947 z6 z7 z8 z9 z10), .box qa948] (zd ?_)))))
    refine hK36 _ _ ?_
    obtain ⟨g37, h⟩ := zG h
    obtain ⟨y3, hy38, h⟩ := zB h
    obtain ⟨y4, hy39, h⟩ := zB h
    refine XW.drwG 17 [3] [([], []), ([], []), ([0], []), ([0], []), ([0], []), ([], []), ([1], []), ([1], []), ([1], []), ([], []), ([], []), ([], []), ([], []), ([], []), ([0], []), ([0], []), ([0], [0])] (qa969 z4 z5 z9 z10 y2 y3 y4) [.box (qa970 z1 z2 z4 z7 z9 y1 y2 y3), .box (qa947 z6 z7 z8 z9 z10), .box qa948] (by kernel_rfl) (by kernel_rfl) ?_ ?_
    ·refine GY.go 10 [] [(36, vk .u64 (if z4 < z9 + y2 then (1 : Int) else (0 : Int))), (35, vk .u64 z10), (34, .one (.pt 1 0 0 4)), (33, .one (.pt 1 0 0 1)), (32, vi (3 : Int)), (31, vk .u64 z5), (30, .one (.pt 0 0 0 4)), (29, .one (.pt 0 0 0 1)), (28, vi (3 : Int)), (27, vi (3 : Int)), (2, .one (.pt 0 0 0 0)), (3, .one (.pt 1 0 0 0)), (4, .one (.pt 2 0 0 0)), (5, vk .u64 (if z4 < z9 + y2 then (1 : Int) else (0 : Int))), (6, vi (3 : Int)), (23, vi (3 : Int))] [0 ≤ (3 : Int) ∧ (3 : Int) < 4, 0 ≤ (3 : Int) ∧ (3 : Int) < 4] (by kernel_rfl) (⟨by decide, by decide, trivial⟩) ?_
     refine GY.ext 82 [.int .u64 z5, .int .u64 z10, .int .u64 (if z4 < z9 + y2 then (1 : Int) else (0 : Int))] [.int .u64 ((z5 - z10 - (if z4 < z9 + y2 then (1 : Int) else (0 : Int))) % 18446744073709551616), .int .u64 (if z5 < z10 + (if z4 < z9 + y2 then (1 : Int) else (0 : Int)) then (1 : Int) else (0 : Int))] [(37, .tp [vk .u64 ((z5 - z10 - (if z4 < z9 + y2 then (1 : Int) else (0 : Int))) % 18446744073709551616), vk .u64 (if z5 < z10 + (if z4 < z9 + y2 then (1 : Int) else (0 : Int)) then (1 : Int) else (0 : Int))]), (36, vk .u64 (if z4 < z9 + y2 then (1 : Int) else (0 : Int))), (35, vk .u64 z10), (34, .one (.pt 1 0 0 4)), (33, .one (.pt 1 0 0 1)), (32, vi (3 : Int)), (31, vk .u64 z5), (30, .one (.pt 0 0 0 4)), (29, .one (.pt 0 0 0 1)), (28, vi (3 : Int)), (27, vi (3 : Int)), (2, .one (.pt 0 0 0 0)), (3, .one (.pt 1 0 0 0)), (4, .one (.pt 2 0 0 0)), (5, vk .u64 (if z4 < z9 + y2 then (1 : Int) else (0 : Int))), (6, vi (3 : Int)), (23, vi (3 : Int))] [] (by kernel_rfl) (by kernel_rfl) (ext_Sub64 (fn := Tryd.f82) (by kernel_rfl) (by kernel_rfl) (by kernel_rfl) (by kernel_rfl) (by kernel_rfl) g37.1 g37.2.1 g37.2.2.1 g37.2.2.2.1 g37.2.2.2.2) rfl (by kernel_rfl) (by kernel_rfl) (by kernel_rfl) ?_
     refine zgv 2 [] [(38, vk .u64 ((z5 - z10 - (if z4 < z9 + y2 then (1 : Int) else (0 : Int))) % 18446744073709551616)), (26, .tp [vk .u64 ((z5 - z10 - (if z4 < z9 + y2 then (1 : Int) else (0 : Int))) % 18446744073709551616), vk .u64 (if z5 < z10 + (if z4 < z9 + y2 then (1 : Int) else (0 : Int)) then (1 : Int) else (0 : Int))]), (37, .tp [vk .u64 ((z5 - z10 - (if z4 < z9 + y2 then (1 : Int) else (0 : Int))) % 18446744073709551616), vk .u64 (if z5 < z10 + (if z4 < z9 + y2 then (1 : Int) else (0 : Int)) then (1 : Int) else (0 : Int))]), (36, vk .u64 (if z4 < z9 + y2 then (1 : Int) else (0 : Int))), (35, vk .u64 z10), (34, .one (.pt 1 0 0 4)), (33, .one (.pt 1 0 0 1)), (32, vi (3 : Int)), (31, vk .u64 z5), (30, .one (.pt 0 0 0 4)), (29, .one (.pt 0 0 0 1)), (28, vi (3 : Int)), (27, vi (3 : Int)), (2, .one (.pt 0 0 0 0)), (3, .one (.pt 1 0 0 0)), (4, .one (.pt 2 0 0 0)), (5, vk .u64 (if z4 < z9 + y2 then (1 : Int) else (0 : Int))), (6, vi (3 : Int)), (23, vi (3 : Int))] ?_
     rw [show ((z5 - z10 - (if z4 < z9 + y2 then (1 : Int) else (0 : Int))) % 18446744073709551616) = y3 from Option.some.inj hy38]
     refine zgv 1 [] [(39, vk .u64 (if z5 < z10 + (if z4 < z9 + y2 then (1 : Int) else (0 : Int)) then (1 : Int) else (0 : Int))), (38, vk .u64 y3), (26, .tp [vk .u64 y3, vk .u64 (if z5 < z10 + (if z4 < z9 + y2 then (1 : Int) else (0 : Int)) then (1 : Int) else (0 : Int))]), (37, .tp [vk .u64 y3, vk .u64 (if z5 < z10 + (if z4 < z9 + y2 then (1 : Int) else (0 : Int)) then (1 : Int) else (0 : Int))]), (36, vk .u64 (if z4 < z9 + y2 then (1 : Int) else (0 : Int))), (35, vk .u64 z10), (34, .one (.pt 1 0 0 4)), (33, .one (.pt 1 0 0 1)), (32, vi (3 : Int)), (31, vk .u64 z5), (30, .one (.pt 0 0 0 4)), (29, .one (.pt 0 0 0 1)), (28, vi (3 : Int)), (27, vi (3 : Int)), (2, .one (.pt 0 0 0 0)), (3, .one (.pt 1 0 0 0)), (4, .one (.pt 2 0 0 0)), (5, vk .u64 (if z4 < z9 + y2 then (1 : Int) else (0 : Int))), (6, vi (3 : Int)), (23, vi (3 : Int))] ?_
     rw [show (if z5 < z10 + (if z4 < z9 + y2 then (1 : Int) else (0 : Int)) then (1 : Int) else (0 : Int)) = y4 from Option.some.inj hy39]
     refine GY.go 2 [] (qa969 z4 z5 z9 z10 y2 y3 y4) [0 ≤ (3 : Int) ∧ (3 : Int) < 4] (by kernel_rfl) (⟨by decide, trivial⟩) ?_
     refine GY.wr [] (qa969 z4 z5 z9 z10 y2 y3 y4) [0] [.box (qa970 z1 z2 z4 z7 z9 y1 y2 y3), .box (qa947 z6 z7 z8 z9 z10), .box qa948] [] (by kernel_rfl) (by kernel_rfl) trivial ?_
     exact GY.done (by kernel_rfl) (by kernel_rfl)
    refine zg [2, 3, 4] 1 [2,3,4,5,23] (zd (hK35 _ _ (zr (zv [2, 3, 4] 2 [2,3,4,5,23] [] [(2, .one (.pt 0 0 0 0)), (3, .one (.pt 1 0 0 0)), (4, .one (.pt 2 0 0 0)), (5, vk .u64 y4), (23, vi (4 : Int))] [.box (qa970 z1 z2 z4 z7 z9 y1 y2 y3), .box (qa947 z6 z7 z8 z9 z10), .box qa948] (zd (XR.one (zq fun K40 hK40 => ?_)))))))
    refine zr (zg [2, 3, 4] 1 [2,3,4,5,23,24] (zd (hK40 _ _ (zq fun K41 hK41 => zc false (fun hx => by cases hx) (fun _ => ?_)))))
    refine zx 0 (hQ1 _ _ _ (hK14 _ _ (zq fun K42 hK42 => zr (zg [2, 3, 4] 2 [4] (zd (hK42 _ _ ?_))))))
    refine ze ?_
    obtain rfl := Option.some.inj h
    exact zf [.ag (qa970 z1 z2 z4 z7 z9 y1 y2 y3)] (.ag (.cons (.rfl _ rfl) (.cons (.rfl _ rfl) (.cons (.rfl _ rfl) (.cons (.rfl _ rfl) (.cons (.rfl _ rfl) .nil))))))
   refine zq fun K9 hK9 => ?_
   obtain ⟨r3, c10, h⟩ := zB h
   refine zr (zg [2, 3, 4] 2 [2,3,4,16,17] ?_)
   refine zl 57 [.ag (qa940 p1), .ag (qa941 p2)] (vi r3) [(18, vi r3), (2, .one (.pt 0 0 0 0)), (3, .one (.pt 1 0 0 0)), (4, .one (.pt 2 0 0 0)), (16, .ag (qa940 p1)), (17, .ag (qa941 p2))] (c_value_compareSize _ _ _ c10) (zg [2, 3, 4] 1 [2,3,4,19] ?_)
   refine zd (hK9 _ _ (zC h (fun b11 h => ?_) (fun b11 h => ?_)))
   ·obtain ⟨r4, c12, h⟩ := zB h
    refine zw 3 [(22, .ag (qa940 p1)), (21, .ag (qa974 r4)), (20, .ag (qa941 p2)), (2, .one (.pt 0 0 0 0)), (3, .one (.pt 1 0 0 0)), (4, .one (.pt 2 0 0 0)), (19, vb (decide (r3 < (0 : Int))))] ?_ ?_
    ·refine zyg 1 ?_
     refine DX.cal 70 [.ag (qa941 p2)] (.ag (qa974 r4)) [(21, .ag (qa974 r4)), (20, .ag (qa941 p2)), (2, .one (.pt 0 0 0 0)), (3, .one (.pt 1 0 0 0)), (4, .one (.pt 2 0 0 0)), (19, vb (decide (r3 < (0 : Int))))] (by kernel_rfl) (c_value_wide_negated _ _ c12) rfl rfl (by kernel_rfl) ?_
     exact zyg 1 zyd
    exact zg [2, 3, 4] 2 [2,3,4] (zd (hJ1 r4.neg r4.size.1 r4.size.2.1 r4.size.2.2.1 r4.size.2.2.2 p1.neg p1.size.1 p1.size.2.1 p1.size.2.2.1 p1.size.2.2.2 h _ _ (zk [2,3,4])))
   ·exact zs (hJ1 p1.neg p1.size.1 p1.size.2.1 p1.size.2.2.1 p1.size.2.2.2 p2.neg p2.size.1 p2.size.2.1 p2.size.2.2.1 p2.size.2.2.2 h _ _ (zk [2,3,4]))

theorem c_value_wide_plus : ∀ (k0 : Nat) (p1 : GWide) (p2 : GWide) (r : GWide), value_wide_plus k0 p1 p2 = some r → PC Tryd.prog 50 [.ag (qa986 p1), .ag (qa987 p2)] (.ag [cb r.neg, ck .u64 r.size.1, ck .u64 r.size.2.1, ck .u64 r.size.2.2.1, ck .u64 r.size.2.2.2])
 | 0, _, _, r, h => by rw [value_wide_plus.eq_1] at h; cases h
 | k0 + 1, p1, p2, r, h => by
  rw [value_wide_plus.eq_2] at h
  refine zF 37 Tryd.f50 (zq fun K1 hK1 => zr (zg [2, 4] 3 [2,3,4] (zd (hK1 _ _ (zq fun K2 hK2 => zq fun K3 hK3 => ?_)))))
  refine zr (zu [2, 4] 5 [2,3,4,11] [(qa989 p2)] (zd (hK3 _ _ (zC h (fun b4 h => ?_) (fun b4 h => ?_)))))
  ·refine zq fun K5 hK5 => ?_
   obtain ⟨r1, c6, h⟩ := zB h
   obtain ⟨r2, c7, h⟩ := zB h
   refine zw 3 [(14, .ag (qa990 r1)), (13, .ag (qa987 p2)), (12, .ag (qa986 p1)), (2, .one (.pt 0 0 0 0)), (3, .one (.pv (.rp [(qa989 p2)] 0 0))), (4, .one (.pt 1 0 0 0)), (11, vb (!(p1.neg == p2.neg)))] ?_ ?_
   ·refine zyv 2 [(qa989 p2)] [(13, .ag (qa987 p2)), (12, .ag (qa986 p1)), (2, .one (.pt 0 0 0 0)), (3, .one (.pv (.rp [(qa989 p2)] 0 0))), (4, .one (.pt 1 0 0 0)), (11, vb (!(p1.neg == p2.neg)))] ?_
    exact zya (c_value_wide_negated _ _ c6) zyd
   refine zl 69 [.ag (qa986 p1), .ag (qa990 r1)] (.ag (qa991 r2)) [(15, .ag (qa991 r2)), (14, .ag (qa990 r1)), (13, .ag (qa987 p2)), (12, .ag (qa986 p1)), (2, .one (.pt 0 0 0 0)), (3, .one (.pv (.rp [(qa989 p2)] 0 0))), (4, .one (.pt 1 0 0 0)), (11, vb (!(p1.neg == p2.neg)))] (c_value_wide_minus k0 _ _ _ c7) ?_
   refine zg [2, 4] 1 [4] (zd (hK5 _ _ (ze ?_)))
   obtain rfl := Option.some.inj h
   exact zf [.ag (qa991 r2)] (.ag (.cons (.rfl _ rfl) (.cons (.rfl _ rfl) (.cons (.rfl _ rfl) (.cons (.rfl _ rfl) (.cons (.rfl _ rfl) .nil))))))
  ·refine zs (hK2 _ _ (zq fun K8 hK8 => zr (zg [2, 4] 1 [2,3,4,5] (zd (hK8 _ _ (zq fun K9 hK9 => ?_))))))
   refine zq fun K10 hK10 => zr (zv [2, 4] 1 [2,3,4,5,16] [] [(2, .one (.pt 0 0 0 0)), (3, .one (.pv (.rp [(qa989 p2)] 0 0))), (4, .one (.pt 1 0 0 0)), (5, vk .u64 (0 : Int)), (16, vi (0 : Int))] [.box (qa986 p1), .box qa992] (zd (hK10 _ _ (zb 0 ?_))))
   refine XW.rounds' 5 (x := cd Tryd.f50 [1,1,1,0,1,0,0]) (by kernel_rfl) fun Q1 hQ1 => XR.one (zq fun K11 hK11 => zr (zg [2, 4] 1 [2,3,4,5,16,17] (zd (hK11 _ _ (zq fun K12 hK12 => ?_)))))
   refine zc true (fun _ => ?_) (fun hx => by cases hx)
   refine zs (hK12 _ _ (zq fun K13 hK13 => zb 1 (zq fun K14 hK14 => zr (zv [2, 4] 2 [2,3,4,5,6,16] [] [(2, .one (.pt 0 0 0 0)), (3, .one (.pv (.rp [(qa989 p2)] 0 0))), (4, .one (.pt 1 0 0 0)), (5, vk .u64 (0 : Int)), (6, vi (0 : Int)), (16, vi (0 : Int))] [.box (qa986 p1), .box qa992] (zd ?_)))))
   refine hK14 _ _ ?_
   obtain ⟨g15, h⟩ := zG h
   refine XW.drwG 17 [2] [([], []), ([], []), ([0], []), ([0], []), ([0], []), ([], []), ([], []), ([], []), ([], []), ([], []), ([], []), ([], []), ([], []), ([], []), ([0], []), ([0], []), ([0], [0])] (qa1003 p1 p2) [.box (qa993 p1 p2), .box qa992] (by kernel_rfl) (by kernel_rfl) ?_ ?_
   ·refine GY.go 10 [(qa989 p2)] [(29, vk .u64 (0 : Int)), (28, vk .u64 p2.size.1), (27, .one (.pv (.rp [(qa989 p2)] 0 1))), (26, .one (.pv (.rp [(qa989 p2)] 0 1))), (25, vi (0 : Int)), (24, vk .u64 p1.size.1), (23, .one (.pt 0 0 0 1)), (22, .one (.pt 0 0 0 1)), (21, vi (0 : Int)), (20, vi (0 : Int)), (2, .one (.pt 0 0 0 0)), (3, .one (.pv (.rp [(qa989 p2)] 0 0))), (4, .one (.pt 1 0 0 0)), (5, vk .u64 (0 : Int)), (6, vi (0 : Int)), (16, vi (0 : Int))] [0 ≤ (0 : Int) ∧ (0 : Int) < 4, 0 ≤ (0 : Int) ∧ (0 : Int) < 4, ([(qa989 p2)] : List (List PV))[0]? = some (qa989 p2)] (by kernel_rfl) (⟨by decide, by decide, rfl, trivial⟩) ?_
    refine GY.ext 71 [.int .u64 p1.size.1, .int .u64 p2.size.1, .int .u64 (0 : Int)] [.int .u64 ((p1.size.1 + p2.size.1 + (0 : Int)) % 18446744073709551616), .int .u64 ((p1.size.1 + p2.size.1 + (0 : Int)) / 18446744073709551616)] [(30, .tp [vk .u64 ((p1.size.1 + p2.size.1 + (0 : Int)) % 18446744073709551616), vk .u64 ((p1.size.1 + p2.size.1 + (0 : Int)) / 18446744073709551616)]), (29, vk .u64 (0 : Int)), (28, vk .u64 p2.size.1), (27, .one (.pv (.rp [(qa989 p2)] 0 1))), (26, .one (.pv (.rp [(qa989 p2)] 0 1))), (25, vi (0 : Int)), (24, vk .u64 p1.size.1), (23, .one (.pt 0 0 0 1)), (22, .one (.pt 0 0 0 1)), (21, vi (0 : Int)), (20, vi (0 : Int)), (2, .one (.pt 0 0 0 0)), (3, .one (.pv (.rp [(qa989 p2)] 0 0))), (4, .one (.pt 1 0 0 0)), (5, vk .u64 (0 : Int)), (6, vi (0 : Int)), (16, vi (0 : Int))] [] (by kernel_rfl) (by kernel_rfl) (ext_Add64 (fn := Tryd.f71) (by kernel_rfl) (by kernel_rfl) (by kernel_rfl) (by kernel_rfl) (by kernel_rfl) g15.1 g15.2.1 g15.2.2.1 g15.2.2.2) rfl (by kernel_rfl) (by kernel_rfl) (by kernel_rfl) ?_
    refine GY.go 5 [] (qa1003 p1 p2) [0 ≤ (0 : Int) ∧ (0 : Int) < 4] (by kernel_rfl) (⟨by decide, trivial⟩) ?_
    refine GY.wr [] (qa1003 p1 p2) [0] [.box (qa993 p1 p2), .box qa992] [] (by kernel_rfl) (by kernel_rfl) trivial ?_
    exact GY.done (by kernel_rfl) (by kernel_rfl)
   refine zg [2, 4] 1 [2,3,4,5,16] (zd (hK13 _ _ (zr ?_)))
   refine zv [2, 4] 2 [2,3,4,5,16] [] [(2, .one (.pt 0 0 0 0)), (3, .one (.pv (.rp [(qa989 p2)] 0 0))), (4, .one (.pt 1 0 0 0)), (5, vk .u64 ((p1.size.1 + p2.size.1 + (0 : Int)) / 18446744073709551616)), (16, vi (1 : Int))] [.box (qa993 p1 p2), .box qa992] ?_
   refine zd (XR.one (zq fun K16 hK16 => zr (zg [2, 4] 1 [2,3,4,5,16,17] (zd (hK16 _ _ (zq fun K17 hK17 => ?_))))))
   refine zc true (fun _ => ?_) (fun hx => by cases hx)
   refine zs (hK17 _ _ (zq fun K18 hK18 => zb 1 (zq fun K19 hK19 => zr ?_)))
   refine zv [2, 4] 2 [2,3,4,5,6,16] [] [(2, .one (.pt 0 0 0 0)), (3, .one (.pv (.rp [(qa989 p2)] 0 0))), (4, .one (.pt 1 0 0 0)), (5, vk .u64 ((p1.size.1 + p2.size.1 + (0 : Int)) / 18446744073709551616)), (6, vi (1 : Int)), (16, vi (1 : Int))] [.box (qa993 p1 p2), .box qa992] ?_
   refine zd (hK19 _ _ ?_)
   obtain ⟨g20, h⟩ := zG h
   obtain ⟨y1, hy21, h⟩ := zB h
   obtain ⟨y2, hy22, h⟩ := zB h
   refine XW.drwG 17 [2] [([], []), ([], []), ([0], []), ([0], []), ([0], []), ([], []), ([], []), ([], []), ([], []), ([], []), ([], []), ([], []), ([], []), ([], []), ([0], []), ([0], []), ([0], [0])] (qa1009 p1 p2 y1 y2) [.box (qa994 p1 p2 y1), .box qa992] (by kernel_rfl) (by kernel_rfl) ?_ ?_
   ·refine GY.go 10 [(qa989 p2)] [(29, vk .u64 ((p1.size.1 + p2.size.1 + (0 : Int)) / 18446744073709551616)), (28, vk .u64 p2.size.2.1), (27, .one (.pv (.rp [(qa989 p2)] 0 2))), (26, .one (.pv (.rp [(qa989 p2)] 0 1))), (25, vi (1 : Int)), (24, vk .u64 p1.size.2.1), (23, .one (.pt 0 0 0 2)), (22, .one (.pt 0 0 0 1)), (21, vi (1 : Int)), (20, vi (1 : Int)), (2, .one (.pt 0 0 0 0)), (3, .one (.pv (.rp [(qa989 p2)] 0 0))), (4, .one (.pt 1 0 0 0)), (5, vk .u64 ((p1.size.1 + p2.size.1 + (0 : Int)) / 18446744073709551616)), (6, vi (1 : Int)), (16, vi (1 : Int))] [0 ≤ (1 : Int) ∧ (1 : Int) < 4, 0 ≤ (1 : Int) ∧ (1 : Int) < 4, ([(qa989 p2)] : List (List PV))[0]? = some (qa989 p2)] (by kernel_rfl) (⟨by decide, by decide, rfl, trivial⟩) ?_
    refine GY.ext 71 [.int .u64 p1.size.2.1, .int .u64 p2.size.2.1, .int .u64 ((p1.size.1 + p2.size.1 + (0 : Int)) / 18446744073709551616)] [.int .u64 ((p1.size.2.1 + p2.size.2.1 + ((p1.size.1 + p2.size.1 + (0 : Int)) / 18446744073709551616)) % 18446744073709551616), .int .u64 ((p1.size.2.1 + p2.size.2.1 + ((p1.size.1 + p2.size.1 + (0 : Int)) / 18446744073709551616)) / 18446744073709551616)] [(30, .tp [vk .u64 ((p1.size.2.1 + p2.size.2.1 + ((p1.size.1 + p2.size.1 + (0 : Int)) / 18446744073709551616)) % 18446744073709551616), vk .u64 ((p1.size.2.1 + p2.size.2.1 + ((p1.size.1 + p2.size.1 + (0 : Int)) / 18446744073709551616)) / 18446744073709551616)]), (29, vk .u64 ((p1.size.1 + p2.size.1 + (0 : Int)) / 18446744073709551616)), (28, vk .u64 p2.size.2.1), (27, .one (.pv (.rp [(qa989 p2)] 0 2))), (26, .one (.pv (.rp [(qa989 p2)] 0 1))), (25, vi (1 : Int)), (24, vk .u64 p1.size.2.1), (23, .one (.pt 0 0 0 2)), (22, .one (.pt 0 0 0 1)), (21, vi (1 : Int)), (20, vi (1 : Int)), (2, .one (.pt 0 0 0 0)), (3, .one (.pv (.rp [(qa989 p2)] 0 0))), (4, .one (.pt 1 0 0 0)), (5, vk .u64 ((p1.size.1 + p2.size.1 + (0 : Int)) / 18446744073709551616)), (6, vi (1 : Int)), (16, vi (1 : Int))] [] (by kernel_rfl) (by kernel_rfl) (ext_Add64 (fn := Tryd.f71) (by kernel_rfl) (by kernel_rfl) (by kernel_rfl) (by kernel_rfl) (by kernel_rfl) g20.1 g20.2.1 g20.2.2.1 g20.2.2.2) rfl (by kernel_rfl) (by kernel_rfl) (by kernel_rfl) ?_
    refine zgv 2 [] [(31, vk .u64 ((p1.size.2.1 + p2.size.2.1 + ((p1.size.1 + p2.size.1 + (0 : Int)) / 18446744073709551616)) % 18446744073709551616)), (19, .tp [vk .u64 ((p1.size.2.1 + p2.size.2.1 + ((p1.size.1 + p2.size.1 + (0 : Int)) / 18446744073709551616)) % 18446744073709551616), vk .u64 ((p1.size.2.1 + p2.size.2.1 + ((p1.size.1 + p2.size.1 + (0 : Int)) / 18446744073709551616)) / 18446744073709551616)]), (30, .tp [vk .u64 ((p1.size.2.1 + p2.size.2.1 + ((p1.size.1 + p2.size.1 + (0 : Int)) / 18446744073709551616)) % 18446744073709551616), vk .u64 ((p1.size.2.1 + p2.size.2.1 + ((p1.size.1 + p2.size.1 + (0 : Int)) / 18446744073709551616)) / 18446744073709551616)]), (29, vk .u64 ((p1.size.1 + p2.size.1 + (0 : Int)) / 18446744073709551616)), (28, vk .u64 p2.size.2.1), (27, .one (.pv (.rp [[.s (.bool p2.neg), .s (.int .u64 p2.size.1), .s (.int .u64 p2.size.2.1), .s (.int .u64 p2.size.2.2.1), .s (.int .u64 p2.size.2.2.2)]] 0 2))), (26, .one (.pv (.rp [[.s (.bool p2.neg), .s (.int .u64 p2.size.1), .s (.int .u64 p2.size.2.1), .s (.int .u64 p2.size.2.2.1), .s (.int .u64 p2.size.2.2.2)]] 0 1))), (25, vi (1 : Int)), (24, vk .u64 p1.size.2.1), (23, .one (.pt 0 0 0 2)), (22, .one (.pt 0 0 0 1)), (21, vi (1 : Int)), (20, vi (1 : Int)), (2, .one (.pt 0 0 0 0)), (3, .one (.pv (.rp [[.s (.bool p2.neg), .s (.int .u64 p2.size.1), .s (.int .u64 p2.size.2.1), .s (.int .u64 p2.size.2.2.1), .s (.int .u64 p2.size.2.2.2)]] 0 0))), (4, .one (.pt 1 0 0 0)), (5, vk .u64 ((p1.size.1 + p2.size.1 + (0 : Int)) / 18446744073709551616)), (6, vi (1 : Int)), (16, vi (1 : Int))] ?_
    rw [show ((p1.size.2.1 + p2.size.2.1 + ((p1.size.1 + p2.size.1 + (0 : Int)) / 18446744073709551616)) % 18446744073709551616) = y1 from Option.some.inj hy21]
    refine zgv 1 [] [(32, vk .u64 ((p1.size.2.1 + p2.size.2.1 + ((p1.size.1 + p2.size.1 + (0 : Int)) / 18446744073709551616)) / 18446744073709551616)), (31, vk .u64 y1), (19, .tp [vk .u64 y1, vk .u64 ((p1.size.2.1 + p2.size.2.1 + ((p1.size.1 + p2.size.1 + (0 : Int)) / 18446744073709551616)) / 18446744073709551616)]), (30, .tp [vk .u64 y1, vk .u64 ((p1.size.2.1 + p2.size.2.1 + ((p1.size.1 + p2.size.1 + (0 : Int)) / 18446744073709551616)) / 18446744073709551616)]), (29, vk .u64 ((p1.size.1 + p2.size.1 + (0 : Int)) / 18446744073709551616)), (28, vk .u64 p2.size.2.1), (27, .one (.pv (.rp [[.s (.bool p2.neg), .s (.int .u64 p2.size.1), .s (.int .u64 p2.size.2.1), .s (.int .u64 p2.size.2.2.1), .s (.int .u64 p2.size.2.2.2)]] 0 2))), (26, .one (.pv (.rp [[.s (.bool p2.neg), .s (.int .u64 p2.size.1), .s (.int .u64 p2.size.2.1), .s (.int .u64 p2.size.2.2.1), .s (.int .u64 p2.size.2.2.2)]] 0 1))), (25, vi (1 : Int)), (24, vk .u64 p1.size.2.1), (23, .one (.pt 0 0 0 2)), (22, .one (.pt 0 0 0 1)), (21, vi (1 : Int)), (20, vi (1 : Int)), (2, .one (.pt 0 0 0 0)), (3, .one (.pv (.rp [[.s (.bool p2.neg), .s (.int .u64 p2.size.1), .s (.int .u64 p2.size.2.1), .s (.int .u64 p2.size.2.2.1), .s (.int .u64 p2.size.2.2.2)]] 0 0))), (4, .one (.pt 1 0 0 0)), (5, vk .u64 ((p1.size.1 + p2.size.1 + (0 : Int)) / 18446744073709551616)), (6, vi (1 : Int)), (16, vi (1 : Int))] ?_
    rw [show ((p1.size.2.1 + p2.size.2.1 + ((p1.size.1 + p2.size.1 + (0 : Int)) / 18446744073709551616)) / 18446744073709551616) = y2 from Option.some.inj hy22]
    refine GY.go 2 [] (qa1009 p1 p2 y1 y2) [0 ≤ (1 : Int) ∧ (1 : Int) < 4] (by kernel_rfl) (⟨by decide, trivial⟩) ?_
    refine GY.wr [] (qa1009 p1 p2 y1 y2) [0] [.box (qa994 p1 p2 y1), .box qa992] [] (by kernel_rfl) (by kernel_rfl) trivial ?_
    exact GY.done (by kernel_rfl) (by kernel_rfl)
   refine zg [2, 4] 1 [2,3,4,5,16] (zd (hK18 _ _ (zr (zv [2, 4] 2 [2,3,4,5,16] [] [(2, .one (.pt 0 0 0 0)), (3, .one (.pv (.rp [(qa989 p2)] 0 0))), (4, .one (.pt 1 0 0 0)), (5, vk .u64 y2), (16, vi (2 : Int))] [.box (qa994 p1 p2 y1), .box qa992] (zd (XR.one ?_))))))
   refine zq fun K23 hK23 => zr (zg [2, 4] 1 [2,3,4,5,16,17] (zd (hK23 _ _ (zq fun K24 hK24 => zc true (fun _ => ?_) (fun hx => by cases hx)))))
   refine zs (hK24 _ _ (zq fun K25 hK25 => zb 1 (zq fun K26 hK26 => zr ?_)))
   refine zv [2, 4] 2 [2,3,4,5,6,16] [] [(2, .one (.pt 0 0 0 0)), (3, .one (.pv (.rp [(qa989 p2)] 0 0))), (4, .one (.pt 1 0 0 0)), (5, vk .u64 y2), (6, vi (2 : Int)), (16, vi (2 : Int))] [.box (qa994 p1 p2 y1), .box qa992] (zd (hK26 _ _ ?_))
   obtain ⟨g27, h⟩ := zG h
   refine XW.drwG 17 [2] [([], []), ([], []), ([0], []), ([0], []), ([0], []), ([], []), ([], []), ([], []), ([], []), ([], []), ([], []), ([], []), ([], []), ([], []), ([0], []), ([0], []), ([0], [0])] (qa1015 p1 p2 y2) [.box (qa995 p1 p2 y1 y2), .box qa992] (by kernel_rfl) (by kernel_rfl) ?_ ?_
   ·refine GY.go 10 [(qa989 p2)] [(29, vk .u64 y2), (28, vk .u64 p2.size.2.2.1), (27, .one (.pv (.rp [(qa989 p2)] 0 3))), (26, .one (.pv (.rp [(qa989 p2)] 0 1))), (25, vi (2 : Int)), (24, vk .u64 p1.size.2.2.1), (23, .one (.pt 0 0 0 3)), (22, .one (.pt 0 0 0 1)), (21, vi (2 : Int)), (20, vi (2 : Int)), (2, .one (.pt 0 0 0 0)), (3, .one (.pv (.rp [(qa989 p2)] 0 0))), (4, .one (.pt 1 0 0 0)), (5, vk .u64 y2), (6, vi (2 : Int)), (16, vi (2 : Int))] [0 ≤ (2 : Int) ∧ (2 : Int) < 4, 0 ≤ (2 : Int) ∧ (2 : Int) < 4, ([(qa989 p2)] : List (List PV))[0]? = some (qa989 p2)] (by kernel_rfl) (⟨by decide, by decide, rfl, trivial⟩) ?_
    refine GY.ext 71 [.int .u64 p1.size.2.2.1, .int .u64 p2.size.2.2.1, .int .u64 y2] [.int .u64 ((p1.size.2.2.1 + p2.size.2.2.1 + y2) % 18446744073709551616), .int .u64 ((p1.size.2.2.1 + p2.size.2.2.1 + y2) / 18446744073709551616)] [(30, .tp [vk .u64 ((p1.size.2.2.1 + p2.size.2.2.1 + y2) % 18446744073709551616), vk .u64 ((p1.size.2.2.1 + p2.size.2.2.1 + y2) / 18446744073709551616)]), (29, vk .u64 y2), (28, vk .u64 p2.size.2.2.1), (27, .one (.pv (.rp [(qa989 p2)] 0 3))), (26, .one (.pv (.rp [(qa989 p2)] 0 1))), (25, vi (2 : Int)), (24, vk .u64 p1.size.2.2.1), (23, .one (.pt 0 0 0 3)), (22, .one (.pt 0 0 0 1)), (21, vi (2 : Int)), (20, vi (2 : Int)), (2, .one (.pt 0 0 0 0)), (3, .one (.pv (.rp [(qa989 p2)] 0 0))), (4, .one (.pt 1 0 0 0)), (5, vk .u64 y2), (6, vi (2 : Int)), (16, vi (2 : Int))] [] (by kernel_rfl) (by kernel_rfl) (ext_Add64 (fn := Tryd.f71) (by kernel_rfl) (by kernel_rfl) (by kernel_rfl) (by kernel_rfl) (by kernel_rfl) g27.1 g27.2.1 g27.2.2.1 g27.2.2.2) rfl (by kernel_rfl) (by kernel_rfl) (by kernel_rfl) ?_
    refine GY.go 5 [] (qa1015 p1 p2 y2) [0 ≤ (2 : Int) ∧ (2 : Int) < 4] (by kernel_rfl) (⟨by decide, trivial⟩) ?_
    refine GY.wr [] (qa1015 p1 p2 y2) [0] [.box (qa995 p1 p2 y1 y2), .box qa992] [] (by kernel_rfl) (by kernel_rfl) trivial ?_
    exact GY.done (by kernel_rfl) (by kernel_rfl)
   refine zg [2, 4] 1 [2,3,4,5,16] (zd (hK25 _ _ (zr ?_)))
   refine zv [2, 4] 2 [2,3,4,5,16] [] [(2, .one (.pt 0 0 0 0)), (3, .one (.pv (.rp [(qa989 p2)] 0 0))), (4, .one (.pt 1 0 0 0)), (5, vk .u64 ((p1.size.2.2.1 + p2.size.2.2.1 + y2) / 18446744073709551616)), (16, vi (3 : Int))] [.box (qa995 p1 p2 y1 y2), .box qa992] ?_
   refine zd (XR.one (zq fun K28 hK28 => zr (zg [2, 4] 1 [2,3,4,5,16,17] (zd (hK28 _ _ (zq fun K29 hK29 => ?_))))))
   refine zc true (fun _ => ?_) (fun hx => by cases hx)
   refine zs (hK29 _ _ (zq fun K30 hK30 => zb 1 (zq fun K31 hK31 => zr ?_)))
   refine zv [2, 4] 2 [2,3,4,5,6,16] [] [(2, .one (.pt 0 0 0 0)), (3, .one (.pv (.rp [(qa989 p2)] 0 0))), (4, .one (.pt 1 0 0 0)), (5, vk .u64 ((p1.size.2.2.1 + p2.size.2.2.1 + y2) / 18446744073709551616)), (6, vi (3 : Int)), (16, vi (3 : Int))] [.box (qa995 p1 p2 y1 y2), .box qa992] ?_
   refine zd (hK31 _ _ ?_)
   obtain ⟨g32, h⟩ := zG h
   obtain ⟨y3, hy33, h⟩ := zB h
   obtain ⟨y4, hy34, h⟩ := zB h
   refine XW.drwG 17 [2] [([], []), ([], []), ([0], []), ([0], []), ([0], []), ([], []), ([], []), ([], []), ([], []), ([], []), ([], []), ([], []), ([], []), ([], []), ([0], []), ([0], []), ([0], [0])] (qa1021 p1 p2 y2 y3 y4) [.box (qa996 p1 p2 y1 y2 y3), .box qa992] (by kernel_rfl) (by kernel_rfl) ?_ ?_
   ·refine GY.go 10 [(qa989 p2)] [(29, vk .u64 ((p1.size.2.2.1 + p2.size.2.2.1 + y2) / 18446744073709551616)), (28, vk .u64 p2.size.2.2.2), (27, .one (.pv (.rp [(qa989 p2)] 0 4))), (26, .one (.pv (.rp [(qa989 p2)] 0 1))), (25, vi (3 : Int)), (24, vk .u64 p1.size.2.2.2), (23, .one (.pt 0 0 0 4)), (22, .one (.pt 0 0 0 1)), (21, vi (3 : Int)), (20, vi (3 : Int)), (2, .one (.pt 0 0 0 0)), (3, .one (.pv (.rp [(qa989 p2)] 0 0))), (4, .one (.pt 1 0 0 0)), (5, vk .u64 ((p1.size.2.2.1 + p2.size.2.2.1 + y2) / 18446744073709551616)), (6, vi (3 : Int)), (16, vi (3 : Int))] [0 ≤ (3 : Int) ∧ (3 : Int) < 4, 0 ≤ (3 : Int) ∧ (3 : Int) < 4, ([(qa989 p2)] : List (List PV))[0]? = some (qa989 p2)] (by kernel_rfl) (⟨by decide, by decide, rfl, trivial⟩) ?_
    refine GY.ext 71 [.int .u64 p1.size.2.2.2, .int .u64 p2.size.2.2.2, .int .u64 ((p1.size.2.2.1 + p2.size.2.2.1 + y2) / 18446744073709551616)] [.int .u64 ((p1.size.2.2.2 + p2.size.2.2.2 + ((p1.size.2.2.1 + p2.size.2.2.1 + y2) / 18446744073709551616)) % 18446744073709551616), .int .u64 ((p1.size.2.2.2 + p2.size.2.2.2 + ((p1.size.2.2.1 + p2.size.2.2.1 + y2) / 18446744073709551616)) / 18446744073709551616)] [(30, .tp [vk .u64 ((p1.size.2.2.2 + p2.size.2.2.2 + ((p1.size.2.2.1 + p2.size.2.2.1 + y2) / 18446744073709551616)) % 18446744073709551616), vk .u64 ((p1.size.2.2.2 + p2.size.2.2.2 + ((p1.size.2.2.1 + p2.size.2.2.1 + y2) / 18446744073709551616)) / 18446744073709551616)]), (29, vk .u64 ((p1.size.2.2.1 + p2.size.2.2.1 + y2) / 18446744073709551616)), (28, vk .u64 p2.size.2.2.2), (27, .one (.pv (.rp [(qa989 p2)] 0 4))), (26, .one (.pv (.rp [(qa989 p2)] 0 1))), (25, vi (3 : Int)), (24, vk .u64 p1.size.2.2.2), (23, .one (.pt 0 0 0 4)), (22, .one (.pt 0 0 0 1)), (21, vi (3 : Int)), (20, vi (3 : Int)), (2, .one (.pt 0 0 0 0)), (3, .one (.pv (.rp [(qa989 p2)] 0 0))), (4, .one (.pt 1 0 0 0)), (5, vk .u64 ((p1.size.2.2.1 + p2.size.2.2.1 + y2) / 18446744073709551616)), (6, vi (3 : Int)), (16, vi (3 : Int))] [] (by kernel_rfl) (by kernel_rfl) (ext_Add64 (fn := Tryd.f71) (by kernel_rfl) (by kernel_rfl) (by kernel_rfl) (by kernel_rfl) (by kernel_rfl) g32.1 g32.2.1 g32.2.2.1 g32.2.2.2) rfl (by kernel_rfl) (by kernel_rfl) (by kernel_rfl) ?_
    refine zgv 2 [] [(31, vk .u64 ((p1.size.2.2.2 + p2.size.2.2.2 + ((p1.size.2.2.1 + p2.size.2.2.1 + y2) / 18446744073709551616)) % 18446744073709551616)), (19, .tp [vk .u64 ((p1.size.2.2.2 + p2.size.2.2.2 + ((p1.size.2.2.1 + p2.size.2.2.1 + y2) / 18446744073709551616)) % 18446744073709551616), vk .u64 ((p1.size.2.2.2 + p2.size.2.2.2 + ((p1.size.2.2.1 + p2.size.2.2.1 + y2) / 18446744073709551616)) / 18446744073709551616)]), (30, .tp [vk .u64 ((p1.size.2.2.2 + p2.size.2.2.2 + ((p1.size.2.2.1 + p2.size.2.2.1 + y2) / 18446744073709551616)) % 18446744073709551616), vk .u64 ((p1.size.2.2.2 + p2.size.2.2.2 + ((p1.size.2.2.1 + p2.size.2.2.1 + y2) / 18446744073709551616)) / 18446744073709551616)]), (29, vk .u64 ((p1.size.2.2.1 + p2.size.2.2.1 + y2) / 18446744073709551616)), (28, vk .u64 p2.size.2.2.2), (27, .one (.pv (.rp [[.s (.bool p2.neg), .s (.int .u64 p2.size.1), .s (.int .u64 p2.size.2.1), .s (.int .u64 p2.size.2.2.1), .s (.int .u64 p2.size.2.2.2)]] 0 4))), (26, .one (.pv (.rp [[.s (.bool p2.neg), .s (.int .u64 p2.size.1), .s (.int .u64 p2.size.2.1), .s (.int .u64 p2.size.2.2.1), .s (.int .u64 p2.size.2.2.2)]] 0 1))), (25, vi (3 : Int)), (24, vk .u64 p1.size.2.2.2), (23, .one (.pt 0 0 0 4)), (22, .one (.pt 0 0 0 1)), (21, vi (3 : Int)), (20, vi (3 : Int)), (2, .one (.pt 0 0 0 0)), (3, .one (.pv (.rp [[.s (.bool p2.neg), .s (.int .u64 p2.size.1), .s (.int .u64 p2.size.2.1), .s (.int .u64 p2.size.2.2.1), .s (.int .u64 p2.size.2.2.2)]] 0 0))), (4, .one (.pt 1 0 0 0)), (5, vk .u64 ((p1.size.2.2.1 + p2.size.2.2.1 + y2) / 18446744073709551616)), (6, vi (3 : Int)), (16, vi (3 : Int))] ?_
    rw [show ((p1.size.2.2.2 + p2.size.2.2.2 + ((p1.size.2.2.1 + p2.size.2.2.1 + y2) / 18446744073709551616)) % 18446744073709551616) = y3 from Option.some.inj hy33]
    refine zgv 1 [] [(32, vk .u64 ((p1.size.2.2.2 + p2.size.2.2.2 + ((p1.size.2.2.1 + p2.size.2.2.1 + y2) / 18446744073709551616)) / 18446744073709551616)), (31, vk .u64 y3), (19, .tp [vk .u64 y3, vk .u64 ((p1.size.2.2.2 + p2.size.2.2.2 + ((p1.size.2.2.1 + p2.size.2.2.1 + y2) / 18446744073709551616)) / 18446744073709551616)]), (30, .tp [vk .u64 y3, vk .u64 ((p1.size.2.2.2 + p2.size.2.2.2 + ((p1.size.2.2.1 + p2.size.2.2.1 + y2) / 18446744073709551616)) / 18446744073709551616)]), (29, vk .u64 ((p1.size.2.2.1 + p2.size.2.2.1 + y2) / 18446744073709551616)), (28, vk .u64 p2.size.2.2.2), (27, .one (.pv (.rp [[.s (.bool p2.neg), .s (.int .u64 p2.size.1), .s (.int .u64 p2.size.2.1), .s (.int .u64 p2.size.2.2.1), .s (.int .u64 p2.size.2.2.2)]] 0 4))), (26, .one (.pv (.rp [[.s (.bool p2.neg), .s (.int .u64 p2.size.1), .s (.int .u64 p2.size.2.1), .s (.int .u64 p2.size.2.2.1), .s (.int .u64 p2.size.2.2.2)]] 0 1))), (25, vi (3 : Int)), (24, vk .u64 p1.size.2.2.2), (23, .one (.pt 0 0 0 4)), (22, .one (.pt 0 0 0 1)), (21, vi (3 : Int)), (20, vi (3 : Int)), (2, .one (.pt 0 0 0 0)), (3, .one (.pv (.rp [[.s (.bool p2.neg), .s (.int .u64 p2.size.1), .s (.int .u64 p2.size.2.1), .s (.int .u64 p2.size.2.2.1), .s (.int .u64 p2.size.2.2.2)]] 0 0))), (4, .one (.pt 1 0 0 0)), (5, vk .u64 ((p1.size.2.2.1 + p2.size.2.2.1 + y2) / 18446744073709551616)), (6, vi (3 : Int)), (16, vi (3 : Int))] ?_
    rw [show ((p1.size.2.2.2 + p2.size.2.2.2 + ((p1.size.2.2.1 + p2.size.2.2.1 + y2) / 18446744073709551616)) / 18446744073709551616) = y4 from Option.some.inj hy34]
    refine GY.go 2 [] (qa1021 p1 p2 y2 y3 y4) [0 ≤ (3 : Int) ∧ (3 : Int) < 4] (by kernel_rfl) (⟨by decide, trivial⟩) ?_
    refine GY.wr [] (qa1021 p1 p2 y2 y3 y4) [0] [.box (qa996 p1 p2 y1 y2 y3), .box qa992] [] (by kernel_rfl) (by kernel_rfl) trivial ?_
    exact GY.done (by kernel_rfl) (by kernel_rfl)
   refine zg [2, 4] 1 [2,3,4,5,16] (zd (hK30 _ _ (zr ?_)))
   refine zv [2, 4] 2 [2,3,4,5,16] [] [(2, .one (.pt 0 0 0 0)), (3, .one (.pv (.rp [(qa989 p2)] 0 0))), (4, .one (.pt 1 0 0 0)), (5, vk .u64 y4), (16, vi (4 : Int))] [.box (qa996 p1 p2 y1 y2 y3), .box qa992] (zd (XR.one (zq fun K35 hK35 => ?_)))
   refine zr (zg [2, 4] 1 [2,3,4,5,16,17] (zd (hK35 _ _ (zq fun K36 hK36 => zc false (fun hx => by cases hx) (fun _ => ?_)))))
   refine zx 0 (hQ1 _ _ _ (hK9 _ _ (zq fun K37 hK37 => zr (zg [2, 4] 2 [4] (zd (hK37 _ _ ?_))))))
   refine ze ?_
   obtain rfl := Option.some.inj h
   exact zf [.ag (qa996 p1 p2 y1 y2 y3)] (.ag (.cons (.rfl _ rfl) (.cons (.rfl _ rfl) (.cons (.rfl _ rfl) (.cons (.rfl _ rfl) (.cons (.rfl _ rfl) .nil))))))

end

def value_sum_j3 (rec1 : Bool → Int → Int → Int → Int → Int → Int → List GField → Int → Int → Option (GWide × Int × GType × Int)) (x2 : Int) (z12 : Bool) (z13 : Int) (z14 : Int) (z15 : Int) (z16 : Int) (z17 : Int) (z18 : Int) (z19 : List GField) (x4 : Int) : Option (GWide × Int × GType × Int) :=
    rec1 z12 z13 z14 z15 z16 z17 z18 z19 x4 (IntKind.i64.wrap (x2 + (1 : Int)))

def value_sum_j2 (rec1 : Bool → Int → Int → Int → Int → Int → Int → List GField → Int → Int → Option (GWide × Int × GType × Int)) (z1 : Bool) (z2 : Int) (z3 : Int) (z4 : Int) (z5 : Int) (x1 : Int) (x2 : Int) (e1 : GValue) (z9 : Int) (z10 : Int) (z11 : List GField) (x3 : Bool) : Option (GWide × Int × GType × Int) :=
    ift x3
      (some ((GWide.mk false ((0 : Int), (0 : Int), (0 : Int), (0 : Int))), (0 : Int), (GType.mk (0 : Int) (0 : Int) []), (2 : Int)))
      (bnd (value_whole e1.n) fun r4 =>
       bnd (value_wide_plus BIG (GWide.mk z1 (z2, z3, z4, z5)) (GWide.mk r4.neg (r4.size.1, r4.size.2.1, r4.size.2.2.1, r4.size.2.2.2))) fun r5 =>
       value_sum_j3 rec1 x2 r5.neg r5.size.1 r5.size.2.1 r5.size.2.2.1 r5.size.2.2.2 z9 z10 z11 (IntKind.i64.wrap (x1 + (1 : Int))))

def value_sum_j1 (rec1 : Bool → Int → Int → Int → Int → Int → Int → List GField → Int → Int → Option (GWide × Int × GType × Int)) (z1 : Bool) (z2 : Int) (z3 : Int) (z4 : Int) (z5 : Int) (x1 : Int) (x2 : Int) (e1 : GValue) (z9 : Int) (z10 : Int) (z11 : List GField) : Option (GWide × Int × GType × Int) :=
    bnd (value_Sound e1) fun r2 =>
    ift (!r2)
      (value_sum_j2 rec1 z1 z2 z3 z4 z5 x1 x2 e1 z9 z10 z11 true)
      (bnd (value_number (GType.mk z9 z10 z11)) fun r3 =>
       ift (!r3)
         (value_sum_j2 rec1 z1 z2 z3 z4 z5 x1 x2 e1 z9 z10 z11 true)
         (ift (e1.kind != z9)
            (value_sum_j2 rec1 z1 z2 z3 z4 z5 x1 x2 e1 z9 z10 z11 true)
            (value_sum_j2 rec1 z1 z2 z3 z4 z5 x1 x2 e1 z9 z10 z11 (e1.scale != z10))))

def value_sum_j4 (z20 : Bool) (z21 : Int) (z22 : Int) (z23 : Int) (z24 : Int) (z25 : Int) (z26 : Int) (z27 : List GField) (x5 : Int) : Option (GWide × Int × GType × Int) :=
    some ((GWide.mk z20 (z21, z22, z23, z24)), x5, (GType.mk z25 z26 z27), (0 : Int))

def value_sum_l1 (p1 : (List GValue)) : Nat → Bool → Int → Int → Int → Int → Int → Int → List GField → Int → Int → Option (GWide × Int × GType × Int)
  | 0, _, _, _, _, _, _, _, _, _, _ => none
  | k1 + 1, z1, z2, z3, z4, z5, z6, z7, z8, x1, x2 =>
    ift (decide (x2 < (p1.length : Int)))
      (bnd (at? p1 x2) fun e1 =>
       ift (e1.kind == (0 : Int))
         (value_sum_j3 (value_sum_l1 p1 k1) x2 z1 z2 z3 z4 z5 z6 z7 z8 x1)
         (ift (x1 == (0 : Int))
            (bnd (value_kindOf e1) fun r1 =>
             value_sum_j1 (value_sum_l1 p1 k1) z1 z2 z3 z4 z5 x1 x2 e1 r1.kind r1.scale r1.fields)
            (value_sum_j1 (value_sum_l1 p1 k1) z1 z2 z3 z4 z5 x1 x2 e1 z6 z7 z8)))
      (value_sum_j4 z1 z2 z3 z4 z5 z6 z7 z8 x1)

def value_sum (p1 : (List GValue)) : Option (GWide × Int × GType × Int) :=
    value_sum_l1 p1 BIG false (0 : Int) (0 : Int) (0 : Int) (0 : Int) (0 : Int) (0 : Int) [] (0 : Int) (0 : Int)

abbrev qa1029 : List CV := [cb false, ck .u64 (0 : Int), ck .u64 (0 : Int), ck .u64 (0 : Int), ck .u64 (0 : Int)]
abbrev qa1030 : List CV := [ci (0 : Int), ci (0 : Int), .pv (.s (.slice none 0 0))]
abbrev qa1032 (z20 : Bool) (z21 : Int) (z22 : Int) (z23 : Int) (z24 : Int) : List CV := [cb z20, ck .u64 z21, ck .u64 z22, ck .u64 z23, ck .u64 z24]
abbrev qa1036 (p1 : (List GValue)) (x1 : Int) (x2 : Int) : Fr := [(2, .one (.pt 0 0 0 0)), (3, vi x1), (4, .one (.pt 1 0 0 0)), (8, vl eValue p1), (9, vi (p1.length : Int)), (10, vi x2)]
abbrev qa1037 (z1 : Bool) (z2 : Int) (z3 : Int) (z4 : Int) (z5 : Int) : List CV := [cb z1, ck .u64 z2, ck .u64 z3, ck .u64 z4, ck .u64 z5]
abbrev qa1044 (e1 : GValue) : List CV := [ci e1.kind, ci e1.n, ci e1.scale, cst e1.s, cl eValue e1.items]
abbrev qa1046 (z9 : Int) (z10 : Int) (z11 : List GField) : List CV := [ci z9, ci z10, cl eField z11]
abbrev qa1048 (r4 : GWide) : List CV := [cb r4.neg, ck .u64 r4.size.1, ck .u64 r4.size.2.1, ck .u64 r4.size.2.2.1, ck .u64 r4.size.2.2.2]
abbrev qa1050 (p1 : (List GValue)) (x1 : Int) (x2 : Int) : Fr := [(2, .one (.pt 0 0 0 0)), (3, vi (IntKind.i64.wrap (x1 + (1 : Int)))), (4, .one (.pt 1 0 0 0)), (8, vl eValue p1), (9, vi (p1.length : Int)), (10, vi x2)]
abbrev qa1063 (z1 : Bool) (z2 : Int) (z3 : Int) (z4 : Int) (z5 : Int) (e1 : GValue) (z9 : Int) (z10 : Int) (z11 : List GField) : St := [.box (qa1037 z1 z2 z3 z4 z5), .box (qa1046 z9 z10 z11), .box (qa1044 e1)]
abbrev qa1066 (p1 : (List GValue)) (x1 : Int) (x2 : Int) (e1 : GValue) (r2 : Bool) : Fr := [(22, vb r2), (2, .one (.pt 0 0 0 0)), (3, vi x1), (4, .one (.pt 1 0 0 0)), (7, .one (.pt 2 0 0 0)), (8, vl eValue p1), (9, vi (p1.length : Int)), (10, vi x2), (21, .ag (qa1044 e1))]
abbrev qa1067 (p1 : (List GValue)) (x1 : Int) (x2 : Int) (z9 : Int) (z10 : Int) (z11 : List GField) (r3 : Bool) : Fr := [(26, vb r3), (2, .one (.pt 0 0 0 0)), (3, vi x1), (4, .one (.pt 1 0 0 0)), (7, .one (.pt 2 0 0 0)), (8, vl eValue p1), (9, vi (p1.length : Int)), (10, vi x2), (24, vb false), (25, .ag (qa1046 z9 z10 z11))]

theorem c_value_sum (p1 : (List GValue)) (r : (GWide × Int × GType × Int)) (h : value_sum p1 = some r) : PC Tryd.prog 27 [vl eValue p1] (.tp [.ag [cb r.1.neg, ck .u64 r.1.size.1, ck .u64 r.1.size.2.1, ck .u64 r.1.size.2.2.1, ck .u64 r.1.size.2.2.2], vi r.2.1, .ag [ci r.2.2.1.kind, ci r.2.2.1.scale, cl eField r.2.2.1.fields], vi r.2.2.2]) := by
 unfold value_sum at h
 refine zF 56 Tryd.f27 (zq fun K1 hK1 => zr (zv [2, 4, 7] 4 [0,2,3,4] [] [(0, vl eValue p1), (2, .one (.pt 0 0 0 0)), (3, vi (0 : Int)), (4, .one (.pt 1 0 0 0))] [.box qa1029, .box qa1030] (zd (hK1 _ _ (zq fun K2 hK2 => ?_)))))
 have hJ4 : ∀ (z20 : Bool) (z21 : Int) (z22 : Int) (z23 : Int) (z24 : Int) (z25 : Int) (z26 : Int) (z27 : List GField) (x5 : Int), value_sum_j4 z20 z21 z22 z23 z24 z25 z26 z27 x5 = some r → ∀ fr1 st1, Sub 56 0 [] fr1 st1 [(2, .one (.pt 0 0 0 0)), (3, vi x5), (4, .one (.pt 1 0 0 0))] [.box (qa1032 z20 z21 z22 z23 z24), .box [ci z25, ci z26, cl eField z27]] → K2 fr1 st1 := by
  intro z20 z21 z22 z23 z24 z25 z26 z27 x5 h fr1 st1 hS
  unfold value_sum_j4 at h
  refine hK2 _ _ (XW.sub hS ?_)
  refine zq fun K29 hK29 => XW.drwG 5 [2] [([0], []), ([], []), ([1], []), ([0], [0]), ([], [])] [(3, vi x5), (55, .ag [ci z25, ci z26, cl eField z27]), (54, vi x5), (53, .ag (qa1032 z20 z21 z22 z23 z24)), (2, .one (.pt 0 0 0 0)), (3, vi x5), (4, .one (.pt 1 0 0 0))] [.box (qa1032 z20 z21 z22 z23 z24), .box [ci z25, ci z26, cl eField z27]] (by kernel_rfl) (by kernel_rfl) ?_ ?_
  ·refine zgv 3 [] [(55, .ag [ci z25, ci z26, cl eField z27]), (54, vi x5), (53, .ag (qa1032 z20 z21 z22 z23 z24)), (2, .one (.pt 0 0 0 0)), (3, vi x5), (4, .one (.pt 1 0 0 0))] (GY.wr [] [(55, .ag [ci z25, ci z26, cl eField z27]), (54, vi x5), (53, .ag (qa1032 z20 z21 z22 z23 z24)), (2, .one (.pt 0 0 0 0)), (3, vi x5), (4, .one (.pt 1 0 0 0))] [0] [.box (qa1032 z20 z21 z22 z23 z24), .box [ci z25, ci z26, cl eField z27]] [] (by kernel_rfl) (by kernel_rfl) trivial ?_)
   exact zgv 1 [] [(3, vi x5), (55, .ag [ci z25, ci z26, cl eField z27]), (54, vi x5), (53, .ag (qa1032 z20 z21 z22 z23 z24)), (2, .one (.pt 0 0 0 0)), (3, vi x5), (4, .one (.pt 1 0 0 0))] (GY.done (by kernel_rfl) (by kernel_rfl))
  refine zg [2, 4, 7] 2 [2,3,4,5] (zd (hK29 _ _ (ze ?_)))
  obtain rfl := Option.some.inj h
  exact zf [.ag (qa1032 z20 z21 z22 z23 z24), vi x5, .ag [ci z25, ci z26, cl eField z27], vi (0 : Int)] (.tpc (.ag (.cons (.rfl _ rfl) (.cons (.rfl _ rfl) (.cons (.rfl _ rfl) (.cons (.rfl _ rfl) (.cons (.rfl _ rfl) .nil)))))) (.tpc (.one (.rfl _ rfl)) (.tpc (.ag (.cons (.rfl _ rfl) (.cons (.rfl _ rfl) (.cons (.rfl _ rfl) .nil)))) (.tpc (.one (.rfl _ rfl)) (.tp0)))))
 refine zq fun K3 hK3 => zr (zv [2, 4, 7] 2 [2,3,4,8,9] [] [(2, .one (.pt 0 0 0 0)), (3, vi (0 : Int)), (4, .one (.pt 1 0 0 0)), (8, vl eValue p1), (9, vi ((eValue.els p1).length : Int))] [.box [cb false, ck .u64 (0 : Int), ck .u64 (0 : Int), ck .u64 (0 : Int), ck .u64 (0 : Int)], .box [ci (0 : Int), ci (0 : Int), .pv (.s (.slice none 0 0))]] ?_)
 rw [eValue.len p1]
 refine zv [2, 4, 7] 1 [2,3,4,8,9,10] [] [(2, .one (.pt 0 0 0 0)), (3, vi (0 : Int)), (4, .one (.pt 1 0 0 0)), (8, vl eValue p1), (9, vi (p1.length : Int)), (10, vi (0 : Int))] [.box qa1029, .box qa1030] (zd (hK3 _ _ (zb 0 (XW.sub (Sub.softb 1 2 qa1030 rfl rfl [.box qa1029, .box [ci (0 : Int), ci (0 : Int), cl eField []]] rfl) ?_))))
 refine XW.rounds' BIG (x := cd Tryd.f27 [1,0,1,0,0]) (by kernel_rfl) fun Q1 hQ1 => ?_
 have hL1 : ∀ (k1 : Nat) (z1 : Bool) (z2 : Int) (z3 : Int) (z4 : Int) (z5 : Int) (z6 : Int) (z7 : Int) (z8 : List GField) (x1 : Int) (x2 : Int), value_sum_l1 p1 k1 z1 z2 z3 z4 z5 z6 z7 z8 x1 x2 = some r → XR Tryd.prog 56 0 [] (cd Tryd.f27 [1,0,1,0,0]) Q1 k1 (qa1036 p1 x1 x2) [.box (qa1037 z1 z2 z3 z4 z5), .box [ci z6, ci z7, cl eField z8]] := by
  intro k1
  induction k1 with
  | zero => intro z1 z2 z3 z4 z5 z6 z7 z8 x1 x2 h; rw [value_sum_l1.eq_1] at h; cases h
  | succ k1 ih1 =>
   intro z1 z2 z3 z4 z5 z6 z7 z8 x1 x2 h
   rw [value_sum_l1.eq_2] at h
   refine zq fun K4 hK4 => zr (zg [2, 4, 7] 1 [2,3,4,8,9,10,11] (zd (hK4 _ _ (zq fun K5 hK5 => zC h (fun b6 h => ?_) (fun b6 h => ?_)))))
   ·refine zs (hK5 _ _ (zq fun K7 hK7 => ?_))
    have hJ3 : ∀ (z12 : Bool) (z13 : Int) (z14 : Int) (z15 : Int) (z16 : Int) (z17 : Int) (z18 : Int) (z19 : List GField) (x4 : Int), value_sum_j3 (value_sum_l1 p1 k1) x2 z12 z13 z14 z15 z16 z17 z18 z19 x4 = some r → ∀ fr1 st1, Sub 56 0 [] fr1 st1 [(2, .one (.pt 0 0 0 0)), (3, vi x4), (4, .one (.pt 1 0 0 0)), (8, vl eValue p1), (9, vi (p1.length : Int)), (10, vi x2)] [.box [cb z12, ck .u64 z13, ck .u64 z14, ck .u64 z15, ck .u64 z16], .box [ci z17, ci z18, cl eField z19]] → K7 fr1 st1 := by
     intro z12 z13 z14 z15 z16 z17 z18 z19 x4 h fr1 st1 hS
     unfold value_sum_j3 at h
     refine hK7 _ _ (XW.sub hS ?_)
     exact zr (zg [2, 4, 7] 2 [2,3,4,8,9,10] (zd (XR.sub (zk [2,3,4,8,9,10]) (ih1 z12 z13 z14 z15 z16 z17 z18 z19 x4 (IntKind.i64.wrap (x2 + (1 : Int))) h))))
    refine zb 1 (zq fun K8 hK8 => ?_)
    obtain ⟨e1, a9, h⟩ := zB h
    refine zr (zo [2, 4, 7] 4 [2,3,4,7,8,9,10] [[pi e1.kind, pi e1.n, pi e1.scale, .s (.string e1.s), .ro (eValue.els e1.items)]] [0 ≤ x2 ∧ x2 < ((eValue.els p1).length : Int) ∧ elemsOk 5 (eValue.els p1), (eValue.els p1)[x2.toNat]? = some [pi e1.kind, pi e1.n, pi e1.scale, .s (.string e1.s), .ro (eValue.els e1.items)]] (⟨eValue.inb a9, ((eValue.get a9).trans (by cases e1; rfl)), trivial⟩) (zd (hK8 _ _ (zq fun K10 hK10 => zq fun K11 hK11 => zr ?_))))
    refine zv [2, 4, 7] 3 [2,3,4,7,8,9,10,16] [] [(2, .one (.pt 0 0 0 0)), (3, vi x1), (4, .one (.pt 1 0 0 0)), (7, .one (.pt 2 0 0 0)), (8, vl eValue p1), (9, vi (p1.length : Int)), (10, vi x2), (16, vb (e1.kind == (0 : Int)))] [.box (qa1037 z1 z2 z3 z4 z5), .box [ci z6, ci z7, cl eField z8], .box (qa1044 e1)] (zd (hK11 _ _ (zC h (fun b12 h => ?_) (fun b12 h => ?_))))
    ·exact zx 1 (hJ3 z1 z2 z3 z4 z5 z6 z7 z8 x1 h _ _ (Sub.trans (Sub.pick (fr' := (qa1036 p1 x1 x2)) [2,3,4,8,9,10] (by kernel_rfl)) (Sub.take (fr' := (qa1036 p1 x1 x2)) 2 (Nat.zero_le _) (by kernel_rfl) (by kernel_rfl))))
    ·refine zs (hK10 _ _ (zq fun K13 hK13 => ?_))
     have hJ1 : ∀ (z9 : Int) (z10 : Int) (z11 : List GField), value_sum_j1 (value_sum_l1 p1 k1) z1 z2 z3 z4 z5 x1 x2 e1 z9 z10 z11 = some r → ∀ fr1 st1, Sub 56 0 [] fr1 st1 [(2, .one (.pt 0 0 0 0)), (3, vi x1), (4, .one (.pt 1 0 0 0)), (7, .one (.pt 2 0 0 0)), (8, vl eValue p1), (9, vi (p1.length : Int)), (10, vi x2)] (qa1063 z1 z2 z3 z4 z5 e1 z9 z10 z11) → K13 fr1 st1 := by
      intro z9 z10 z11 h fr1 st1 hS
      unfold value_sum_j1 at h
      refine hK13 _ _ (XW.sub hS ?_)
      refine zq fun K17 hK17 => zq fun K18 hK18 => ?_
      have hJ2 : ∀ (x3 : Bool), value_sum_j2 (value_sum_l1 p1 k1) z1 z2 z3 z4 z5 x1 x2 e1 z9 z10 z11 x3 = some r → ∀ fr1 st1, Sub 56 0 [] fr1 st1 [(2, .one (.pt 0 0 0 0)), (3, vi x1), (4, .one (.pt 1 0 0 0)), (7, .one (.pt 2 0 0 0)), (8, vl eValue p1), (9, vi (p1.length : Int)), (10, vi x2), (42, vb x3)] (qa1063 z1 z2 z3 z4 z5 e1 z9 z10 z11) → K18 fr1 st1 := by
       intro x3 h fr1 st1 hS
       unfold value_sum_j2 at h
       refine hK18 _ _ (XW.sub hS ?_)
       refine zC h (fun b24 h => ?_) (fun b24 h => ?_)
       ·refine zq fun K25 hK25 => zr (zg [2, 4, 7] 6 [2,3,4,5] (zd (hK25 _ _ (ze (hQ1 _ _ _ ?_)))))
        obtain rfl := Option.some.inj h
        exact zf [.ag qa1029, vi (0 : Int), .ag qa1030, vi (2 : Int)] (.tpc (.ag (.cons (.rfl _ rfl) (.cons (.rfl _ rfl) (.cons (.rfl _ rfl) (.cons (.rfl _ rfl) (.cons (.rfl _ rfl) .nil)))))) (.tpc (.one (.rfl _ rfl)) (.tpc (.ag (.cons (.rfl _ rfl) (.cons (.rfl _ rfl) (.cons (.nl) .nil)))) (.tpc (.one (.rfl _ rfl)) (.tp0)))))
       ·refine zs (hK17 _ _ (zq fun K26 hK26 => ?_))
        obtain ⟨r4, c27, h⟩ := zB h
        obtain ⟨r5, c28, h⟩ := zB h
        refine zw 4 [(48, .ag (qa1048 r4)), (47, vi e1.n), (46, .one (.pt 2 0 0 1)), (45, .ag (qa1037 z1 z2 z3 z4 z5)), (2, .one (.pt 0 0 0 0)), (3, vi x1), (4, .one (.pt 1 0 0 0)), (7, .one (.pt 2 0 0 0)), (8, vl eValue p1), (9, vi (p1.length : Int)), (10, vi x2), (42, vb x3)] ?_ ?_
        ·exact zyg 3 (DX.cal 33 [vi e1.n] (.ag (qa1048 r4)) [(48, .ag (qa1048 r4)), (47, vi e1.n), (46, .one (.pt 2 0 0 1)), (45, .ag (qa1037 z1 z2 z3 z4 z5)), (2, .one (.pt 0 0 0 0)), (3, vi x1), (4, .one (.pt 1 0 0 0)), (7, .one (.pt 2 0 0 0)), (8, vl eValue p1), (9, vi (p1.length : Int)), (10, vi x2), (42, vb x3)] (by kernel_rfl) (c_value_whole _ _ c27) rfl rfl (by kernel_rfl) zyd)
        refine za (c_value_wide_plus BIG _ _ _ c28) (zv [2, 4, 7] 1 [2,3,4,8,9,10] [] (qa1036 p1 x1 x2) [.box [cb r5.neg, ck .u64 r5.size.1, ck .u64 r5.size.2.1, ck .u64 r5.size.2.2.1, ck .u64 r5.size.2.2.2], .box (qa1046 z9 z10 z11), .box (qa1044 e1)] (zd (hK26 _ _ (zr (zg [2, 4, 7] 3 [2,3,4,8,9,10] (zd ?_))))))
        exact hJ3 r5.neg r5.size.1 r5.size.2.1 r5.size.2.2.1 r5.size.2.2.2 z9 z10 z11 (IntKind.i64.wrap (x1 + (1 : Int))) h _ _ (Sub.trans (Sub.pick (fr' := (qa1050 p1 x1 x2)) [2,3,4,8,9,10] (by kernel_rfl)) (Sub.take (fr' := (qa1050 p1 x1 x2)) 2 (Nat.zero_le _) (by kernel_rfl) (by kernel_rfl)))
      obtain ⟨r2, c19, h⟩ := zB h
      rcases zW h with ⟨b20, h⟩ | ⟨b20, h⟩
      ·exact zr (zg [2, 4, 7] 1 [2,3,4,7,8,9,10,21] (za (c_value_Sound _ _ c19) (zv [2, 4, 7] 2 [2,3,4,7,8,9,10,24] [] [(2, .one (.pt 0 0 0 0)), (3, vi x1), (4, .one (.pt 1 0 0 0)), (7, .one (.pt 2 0 0 0)), (8, vl eValue p1), (9, vi (p1.length : Int)), (10, vi x2), (24, vb (!r2))] (qa1063 z1 z2 z3 z4 z5 e1 z9 z10 z11) (zt 24 b20 (zg [2, 4, 7] 18 [2,3,4,7,8,9,10,42] (zd (hJ2 true h _ _ (zk [2,3,4,7,8,9,10,42]))))))))
      ·obtain ⟨r3, c21, h⟩ := zB h
       rcases zW h with ⟨b22, h⟩ | ⟨b22, h⟩
       ·refine zr (zg [2, 4, 7] 1 [2,3,4,7,8,9,10,21] (zl 21 [.ag (qa1044 e1)] (vb r2) (qa1066 p1 x1 x2 e1 r2) (c_value_Sound _ _ c19) (zg [2, 4, 7] 2 [2,3,4,7,8,9,10,24] (zt 24 b20 (zg [2, 4, 7] 1 [2,3,4,7,8,9,10,24,25] ?_)))))
        exact zl 49 [.ag (qa1046 z9 z10 z11)] (vb r3) (qa1067 p1 x1 x2 z9 z10 z11 r3) (c_value_number _ _ c21) (zg [2, 4, 7] 3 [2,3,4,7,8,9,10,29] (zt 29 b22 (zg [2, 4, 7] 13 [2,3,4,7,8,9,10,42] (zd (hJ2 true h _ _ (zk [2,3,4,7,8,9,10,42]))))))
       ·rcases zW h with ⟨b23, h⟩ | ⟨b23, h⟩
        ·refine zr (zv [2, 4, 7] 1 [2,3,4,7,8,9,10,21] [] [(2, .one (.pt 0 0 0 0)), (3, vi x1), (4, .one (.pt 1 0 0 0)), (7, .one (.pt 2 0 0 0)), (8, vl eValue p1), (9, vi (p1.length : Int)), (10, vi x2), (21, .ag (qa1044 e1))] (qa1063 z1 z2 z3 z4 z5 e1 z9 z10 z11) (za (c_value_Sound _ _ c19) (zg [2, 4, 7] 2 [2,3,4,7,8,9,10,24] (zt 24 b20 ?_))))
         refine zv [2, 4, 7] 1 [2,3,4,7,8,9,10,24,25] [] [(2, .one (.pt 0 0 0 0)), (3, vi x1), (4, .one (.pt 1 0 0 0)), (7, .one (.pt 2 0 0 0)), (8, vl eValue p1), (9, vi (p1.length : Int)), (10, vi x2), (24, vb false), (25, .ag (qa1046 z9 z10 z11))] (qa1063 z1 z2 z3 z4 z5 e1 z9 z10 z11) (za (c_value_number _ _ c21) (zg [2, 4, 7] 3 [2,3,4,7,8,9,10,29] (zt 29 b22 ?_)))
         exact zv [2, 4, 7] 7 [2,3,4,7,8,9,10,36] [] [(2, .one (.pt 0 0 0 0)), (3, vi x1), (4, .one (.pt 1 0 0 0)), (7, .one (.pt 2 0 0 0)), (8, vl eValue p1), (9, vi (p1.length : Int)), (10, vi x2), (36, vb (e1.kind != z9))] (qa1063 z1 z2 z3 z4 z5 e1 z9 z10 z11) (zt 36 b23 (zg [2, 4, 7] 6 [2,3,4,7,8,9,10,42] (zd (hJ2 true h _ _ (zk [2,3,4,7,8,9,10,42])))))
        ·refine zr (zg [2, 4, 7] 1 [2,3,4,7,8,9,10,21] (zl 21 [.ag (qa1044 e1)] (vb r2) (qa1066 p1 x1 x2 e1 r2) (c_value_Sound _ _ c19) (zg [2, 4, 7] 2 [2,3,4,7,8,9,10,24] (zt 24 b20 (zg [2, 4, 7] 1 [2,3,4,7,8,9,10,24,25] ?_)))))
         refine zl 49 [.ag (qa1046 z9 z10 z11)] (vb r3) (qa1067 p1 x1 x2 z9 z10 z11 r3) (c_value_number _ _ c21) (zg [2, 4, 7] 3 [2,3,4,7,8,9,10,29] (zt 29 b22 (zg [2, 4, 7] 7 [2,3,4,7,8,9,10,36] (zt 36 b23 ?_))))
         exact zv [2, 4, 7] 6 [2,3,4,7,8,9,10,42] [] [(2, .one (.pt 0 0 0 0)), (3, vi x1), (4, .one (.pt 1 0 0 0)), (7, .one (.pt 2 0 0 0)), (8, vl eValue p1), (9, vi (p1.length : Int)), (10, vi x2), (42, vb (e1.scale != z10))] (qa1063 z1 z2 z3 z4 z5 e1 z9 z10 z11) (zd (hJ2 (e1.scale != z10) h _ _ (zk [2,3,4,7,8,9,10,42])))
     refine zq fun K14 hK14 => zr (zg [2, 4, 7] 2 [2,3,4,7,8,9,10,18] (zd (hK14 _ _ (zC h (fun b15 h => ?_) (fun b15 h => ?_)))))
     ·obtain ⟨r1, c16, h⟩ := zB h
      exact zr (zg [2, 4, 7] 1 [2,3,4,7,8,9,10,19] (zl 48 [.ag (qa1044 e1)] (.ag [ci r1.kind, ci r1.scale, cl eField r1.fields]) [(20, .ag [ci r1.kind, ci r1.scale, cl eField r1.fields]), (2, .one (.pt 0 0 0 0)), (3, vi x1), (4, .one (.pt 1 0 0 0)), (7, .one (.pt 2 0 0 0)), (8, vl eValue p1), (9, vi (p1.length : Int)), (10, vi x2), (19, .ag (qa1044 e1))] (c_value_kindOf _ _ c16) (zg [2, 4, 7] 1 [2,3,4,7,8,9,10] (zd (hJ1 r1.kind r1.scale r1.fields h _ _ (zk [2,3,4,7,8,9,10]))))))
     ·exact zs (hJ1 z6 z7 z8 h _ _ (zk [2,3,4,7,8,9,10]))
   ·exact zx 0 (hQ1 _ _ _ (hJ4 z1 z2 z3 z4 z5 z6 z7 z8 x1 h _ _ (zk [2,3,4])))
 exact XR.sub (zk [2,3,4,8,9,10]) (hL1 BIG false (0 : Int) (0 : Int) (0 : Int) (0 : Int) (0 : Int) (0 : Int) [] (0 : Int) (0 : Int) h)

def value_wide_number_j1 (p1 : GWide) (x1 : Bool) : Option (Int × Bool) :=
    ift x1
      (some ((0 : Int), false))
      (ift p1.neg
         (some ((IntKind.i64.wrap (0 - (IntKind.i64.wrap p1.size.1))), true))
         (some ((IntKind.i64.wrap p1.size.1), true)))

def value_wide_number (p1 : GWide) : Option (Int × Bool) :=
    bnd (some (IntKind.u64.wrap (BitVec.ofInt (IntKind.u64).bits p1.size.2.1 ||| BitVec.ofInt (IntKind.u64).bits p1.size.2.2.1).toNat)) fun y1 =>
    bnd (some (IntKind.u64.wrap (BitVec.ofInt (IntKind.u64).bits y1 ||| BitVec.ofInt (IntKind.u64).bits p1.size.2.2.2).toNat)) fun y2 =>
    ift (y2 != (0 : Int))
      (value_wide_number_j1 p1 true)
      (value_wide_number_j1 p1 (decide ((9223372036854775808 : Int) ≤ p1.size.1)))

abbrev qa1072 (p1 : GWide) : List PV := [.s (.bool p1.neg), .s (.int .u64 p1.size.1), .s (.int .u64 p1.size.2.1), .s (.int .u64 p1.size.2.2.1), .s (.int .u64 p1.size.2.2.2)]

theorem c_value_wide_number (p1 : GWide) (r : (Int × Bool)) (h : value_wide_number p1 = some r) : PC Tryd.prog 51 [.ag [cb p1.neg, ck .u64 p1.size.1, ck .u64 p1.size.2.1, ck .u64 p1.size.2.2.1, ck .u64 p1.size.2.2.2]] (.tp [vi r.1, vb r.2]) := by
 unfold value_wide_number at h
 refine zF 33 Tryd.f51 (zq fun K1 hK1 => zr (zg [] 3 [1] (zd (hK1 _ _ (zq fun K2 hK2 => zq fun K3 hK3 => ?_)))))
 have hJ1 : ∀ (x1 : Bool), value_wide_number_j1 p1 x1 = some r → ∀ fr1 st1, Sub 33 0 [] fr1 st1 [(1, .one (.pv (.rp [(qa1072 p1)] 0 0))), (21, vb x1)] [] → K3 fr1 st1 := by
  intro x1 h fr1 st1 hS
  unfold value_wide_number_j1 at h
  refine hK3 _ _ (XW.sub hS ?_)
  refine zC h (fun b7 h => ?_) (fun b7 h => ?_)
  ·refine zq fun K8 hK8 => zr (zg [] 2 [2,3] (zd (hK8 _ _ (ze ?_))))
   obtain rfl := Option.some.inj h
   exact zf [vi (0 : Int), vb false] (.tpc (.one (.rfl _ rfl)) (.tpc (.one (.rfl _ rfl)) (.tp0)))
  ·refine zs (hK2 _ _ (zq fun K9 hK9 => zq fun K10 hK10 => zr (zu [] 2 [1,23] [(qa1072 p1)] (zd (hK10 _ _ ?_)))))
   refine zC h (fun b11 h => ?_) (fun b11 h => ?_)
   ·refine zq fun K12 hK12 => zr ?_
    refine zp [] 7 [2,3] [(qa1072 p1)] [(2, vi (IntKind.i64.wrap (0 - (IntKind.i64.wrap p1.size.1)))), (3, vb true)] [] [0 ≤ (0 : Int) ∧ (0 : Int) < 4, ([(qa1072 p1)] : List (List PV))[0]? = some (qa1072 p1)] (⟨by decide, rfl, trivial⟩) ?_
    refine zd (hK12 _ _ (ze ?_))
    obtain rfl := Option.some.inj h
    exact zf [vi (IntKind.i64.wrap (0 - (IntKind.i64.wrap p1.size.1))), vb true] (.tpc (.one (.rfl _ rfl)) (.tpc (.one (.rfl _ rfl)) (.tp0)))
   ·refine zs (hK9 _ _ (zq fun K13 hK13 => zr (zo [] 6 [2,3] [(qa1072 p1)] [0 ≤ (0 : Int) ∧ (0 : Int) < 4, ([(qa1072 p1)] : List (List PV))[0]? = some (qa1072 p1)] (⟨by decide, rfl, trivial⟩) (zd (hK13 _ _ (ze ?_))))))
    obtain rfl := Option.some.inj h
    exact zf [vi (IntKind.i64.wrap p1.size.1), vb true] (.tpc (.one (.rfl _ rfl)) (.tpc (.one (.rfl _ rfl)) (.tp0)))
 obtain ⟨y1, hy4, h⟩ := zB h
 obtain ⟨y2, hy5, h⟩ := zB h
 rcases zW h with ⟨b6, h⟩ | ⟨b6, h⟩
 ·refine zr ?_
  refine zp [] 7 [1,10] [[.s (.bool p1.neg), .s (.int .u64 p1.size.1), .s (.int .u64 p1.size.2.1), .s (.int .u64 p1.size.2.2.1), .s (.int .u64 p1.size.2.2.2)], [.s (.bool p1.neg), .s (.int .u64 p1.size.1), .s (.int .u64 p1.size.2.1), .s (.int .u64 p1.size.2.2.1), .s (.int .u64 p1.size.2.2.2)]] [(1, .one (.pv (.rp [[.s (.bool p1.neg), .s (.int .u64 p1.size.1), .s (.int .u64 p1.size.2.1), .s (.int .u64 p1.size.2.2.1), .s (.int .u64 p1.size.2.2.2)]] 0 0))), (10, vk .u64 (IntKind.u64.wrap (BitVec.ofInt (IntKind.u64).bits p1.size.2.1 ||| BitVec.ofInt (IntKind.u64).bits p1.size.2.2.1).toNat))] [] [0 ≤ (1 : Int) ∧ (1 : Int) < 4, ([[.s (.bool p1.neg), .s (.int .u64 p1.size.1), .s (.int .u64 p1.size.2.1), .s (.int .u64 p1.size.2.2.1), .s (.int .u64 p1.size.2.2.2)]] : List (List PV))[0]? = some [.s (.bool p1.neg), .s (.int .u64 p1.size.1), .s (.int .u64 p1.size.2.1), .s (.int .u64 p1.size.2.2.1), .s (.int .u64 p1.size.2.2.2)], 0 ≤ (2 : Int) ∧ (2 : Int) < 4, ([[.s (.bool p1.neg), .s (.int .u64 p1.size.1), .s (.int .u64 p1.size.2.1), .s (.int .u64 p1.size.2.2.1), .s (.int .u64 p1.size.2.2.2)]] : List (List PV))[0]? = some [.s (.bool p1.neg), .s (.int .u64 p1.size.1), .s (.int .u64 p1.size.2.1), .s (.int .u64 p1.size.2.2.1), .s (.int .u64 p1.size.2.2.2)]] (⟨by decide, rfl, by decide, rfl, trivial⟩) ?_
  rw [show (IntKind.u64.wrap (BitVec.ofInt (IntKind.u64).bits p1.size.2.1 ||| BitVec.ofInt (IntKind.u64).bits p1.size.2.2.1).toNat) = y1 from Option.some.inj hy4]
  refine zp [] 4 [1,14] [[.s (.bool p1.neg), .s (.int .u64 p1.size.1), .s (.int .u64 p1.size.2.1), .s (.int .u64 p1.size.2.2.1), .s (.int .u64 p1.size.2.2.2)]] [(1, .one (.pv (.rp [[.s (.bool p1.neg), .s (.int .u64 p1.size.1), .s (.int .u64 p1.size.2.1), .s (.int .u64 p1.size.2.2.1), .s (.int .u64 p1.size.2.2.2)]] 0 0))), (14, vk .u64 (IntKind.u64.wrap (BitVec.ofInt (IntKind.u64).bits y1 ||| BitVec.ofInt (IntKind.u64).bits p1.size.2.2.2).toNat))] [] [0 ≤ (3 : Int) ∧ (3 : Int) < 4, ([[.s (.bool p1.neg), .s (.int .u64 p1.size.1), .s (.int .u64 p1.size.2.1), .s (.int .u64 p1.size.2.2.1), .s (.int .u64 p1.size.2.2.2)]] : List (List PV))[0]? = some [.s (.bool p1.neg), .s (.int .u64 p1.size.1), .s (.int .u64 p1.size.2.1), .s (.int .u64 p1.size.2.2.1), .s (.int .u64 p1.size.2.2.2)]] (⟨by decide, rfl, trivial⟩) ?_
  rw [show (IntKind.u64.wrap (BitVec.ofInt (IntKind.u64).bits y1 ||| BitVec.ofInt (IntKind.u64).bits p1.size.2.2.2).toNat) = y2 from Option.some.inj hy5]
  exact zg [] 2 [1,16] (zt 16 b6 (zg [] 5 [1,21] (zd (hJ1 true h _ _ (zk [1,21])))))
 ·refine zr ?_
  refine zp [] 7 [1,10] [[.s (.bool p1.neg), .s (.int .u64 p1.size.1), .s (.int .u64 p1.size.2.1), .s (.int .u64 p1.size.2.2.1), .s (.int .u64 p1.size.2.2.2)], [.s (.bool p1.neg), .s (.int .u64 p1.size.1), .s (.int .u64 p1.size.2.1), .s (.int .u64 p1.size.2.2.1), .s (.int .u64 p1.size.2.2.2)]] [(1, .one (.pv (.rp [[.s (.bool p1.neg), .s (.int .u64 p1.size.1), .s (.int .u64 p1.size.2.1), .s (.int .u64 p1.size.2.2.1), .s (.int .u64 p1.size.2.2.2)]] 0 0))), (10, vk .u64 (IntKind.u64.wrap (BitVec.ofInt (IntKind.u64).bits p1.size.2.1 ||| BitVec.ofInt (IntKind.u64).bits p1.size.2.2.1).toNat))] [] [0 ≤ (1 : Int) ∧ (1 : Int) < 4, ([[.s (.bool p1.neg), .s (.int .u64 p1.size.1), .s (.int .u64 p1.size.2.1), .s (.int .u64 p1.size.2.2.1), .s (.int .u64 p1.size.2.2.2)]] : List (List PV))[0]? = some [.s (.bool p1.neg), .s (.int .u64 p1.size.1), .s (.int .u64 p1.size.2.1), .s (.int .u64 p1.size.2.2.1), .s (.int .u64 p1.size.2.2.2)], 0 ≤ (2 : Int) ∧ (2 : Int) < 4, ([[.s (.bool p1.neg), .s (.int .u64 p1.size.1), .s (.int .u64 p1.size.2.1), .s (.int .u64 p1.size.2.2.1), .s (.int .u64 p1.size.2.2.2)]] : List (List PV))[0]? = some [.s (.bool p1.neg), .s (.int .u64 p1.size.1), .s (.int .u64 p1.size.2.1), .s (.int .u64 p1.size.2.2.1), .s (.int .u64 p1.size.2.2.2)]] (⟨by decide, rfl, by decide, rfl, trivial⟩) ?_
  rw [show (IntKind.u64.wrap (BitVec.ofInt (IntKind.u64).bits p1.size.2.1 ||| BitVec.ofInt (IntKind.u64).bits p1.size.2.2.1).toNat) = y1 from Option.some.inj hy4]
  refine zp [] 4 [1,14] [[.s (.bool p1.neg), .s (.int .u64 p1.size.1), .s (.int .u64 p1.size.2.1), .s (.int .u64 p1.size.2.2.1), .s (.int .u64 p1.size.2.2.2)]] [(1, .one (.pv (.rp [[.s (.bool p1.neg), .s (.int .u64 p1.size.1), .s (.int .u64 p1.size.2.1), .s (.int .u64 p1.size.2.2.1), .s (.int .u64 p1.size.2.2.2)]] 0 0))), (14, vk .u64 (IntKind.u64.wrap (BitVec.ofInt (IntKind.u64).bits y1 ||| BitVec.ofInt (IntKind.u64).bits p1.size.2.2.2).toNat))] [] [0 ≤ (3 : Int) ∧ (3 : Int) < 4, ([[.s (.bool p1.neg), .s (.int .u64 p1.size.1), .s (.int .u64 p1.size.2.1), .s (.int .u64 p1.size.2.2.1), .s (.int .u64 p1.size.2.2.2)]] : List (List PV))[0]? = some [.s (.bool p1.neg), .s (.int .u64 p1.size.1), .s (.int .u64 p1.size.2.1), .s (.int .u64 p1.size.2.2.1), .s (.int .u64 p1.size.2.2.2)]] (⟨by decide, rfl, trivial⟩) ?_
  rw [show (IntKind.u64.wrap (BitVec.ofInt (IntKind.u64).bits y1 ||| BitVec.ofInt (IntKind.u64).bits p1.size.2.2.2).toNat) = y2 from Option.some.inj hy5]
  refine zg [] 2 [1,16] (zt 16 b6 (zo [] 5 [1,21] [(qa1072 p1)] [0 ≤ (0 : Int) ∧ (0 : Int) < 4, ([(qa1072 p1)] : List (List PV))[0]? = some (qa1072 p1)] (⟨by decide, rfl, trivial⟩) (zd ?_)))
  exact hJ1 (decide ((9223372036854775808 : Int) ≤ p1.size.1)) h _ _ (zk [1,21])

def value_made_j1 (p1 : Int) (p3 : Int) (r1 : (Int × Bool)) (x1 : Bool) : Option GValue :=
    ift x1
      (some (GValue.mk (0 : Int) (0 : Int) (0 : Int) ByteArray.empty []))
      (some (GValue.mk p1 r1.1 p3 ByteArray.empty []))

def value_made (p1 : Int) (p2 : GWide) (p3 : Int) : Option GValue :=
    bnd (value_wide_number (GWide.mk p2.neg (p2.size.1, p2.size.2.1, p2.size.2.2.1, p2.size.2.2.2))) fun r1 =>
    ift (!r1.2)
      (value_made_j1 p1 p3 r1 true)
      (bnd (value_Sound (GValue.mk p1 r1.1 p3 ByteArray.empty [])) fun r2 =>
       value_made_j1 p1 p3 r1 (!r2))

abbrev qa1075 (p2 : GWide) : List CV := [cb p2.neg, ck .u64 p2.size.1, ck .u64 p2.size.2.1, ck .u64 p2.size.2.2.1, ck .u64 p2.size.2.2.2]
abbrev qa1079 : List CV := [ci (0 : Int), ci (0 : Int), ci (0 : Int), cst ByteArray.empty, .pv (.s (.slice none 0 0))]
abbrev qa1080 (p1 : Int) (p3 : Int) (r1 : (Int × Bool)) : List CV := [ci p1, ci r1.1, ci p3, cst ByteArray.empty, .pv (.s (.slice none 0 0))]

theorem c_value_made (p1 : Int) (p2 : GWide) (p3 : Int) (r : GValue) (h : value_made p1 p2 p3 = some r) : PC Tryd.prog 28 [vi p1, .ag (qa1075 p2), vi p3] (.ag [ci r.kind, ci r.n, ci r.scale, cst r.s, cl eValue r.items]) := by
 unfold value_made at h
 refine zF 28 Tryd.f28 (zq fun K1 hK1 => zr (zg [6, 9] 2 [0,2,4,6] (zd (hK1 _ _ (zq fun K2 hK2 => ?_)))))
 obtain ⟨r1, c3, h⟩ := zB h
 refine zr (zu [6, 9] 1 [0,2,6,11] [[.s (.bool p2.neg), .s (.int .u64 p2.size.1), .s (.int .u64 p2.size.2.1), .s (.int .u64 p2.size.2.2.1), .s (.int .u64 p2.size.2.2.2)]] (zl 51 [.ag (qa1075 p2)] (.tp [vi r1.1, vb r1.2]) [(12, .tp [vi r1.1, vb r1.2]), (0, vi p1), (2, vi p3), (6, .one (.pt 0 0 0 0)), (11, .ag (qa1075 p2))] (c_value_wide_number _ _ c3) (zg [6, 9] 5 [0,2,6,7,8] (zd (hK2 _ _ (zq fun K4 hK4 => zr ?_))))))
 refine zg [6, 9] 6 [6,8,9] (zd (hK4 _ _ (zq fun K5 hK5 => zq fun K6 hK6 => ?_)))
 have hJ1 : ∀ (x1 : Bool), value_made_j1 p1 p3 r1 x1 = some r → ∀ fr1 st1, Sub 28 0 [] fr1 st1 [(6, .one (.pt 0 0 0 0)), (9, .one (.pt 1 0 0 0)), (25, vb x1)] [.box qa1079, .box (qa1080 p1 p3 r1)] → K6 fr1 st1 := by
  intro x1 h fr1 st1 hS
  unfold value_made_j1 at h
  refine hK6 _ _ (XW.sub hS ?_)
  refine zC h (fun b9 h => ?_) (fun b9 h => ?_)
  ·refine zq fun K10 hK10 => zr (zg [6, 9] 2 [6] (zd (hK10 _ _ (ze ?_))))
   obtain rfl := Option.some.inj h
   exact zf [.ag qa1079] (.ag (.cons (.rfl _ rfl) (.cons (.rfl _ rfl) (.cons (.rfl _ rfl) (.cons (.rfl _ rfl) (.cons (.nl) .nil))))))
  ·refine zs (hK5 _ _ (zq fun K11 hK11 => zr (zg [6, 9] 2 [6] (zd (hK11 _ _ (ze ?_))))))
   obtain rfl := Option.some.inj h
   exact zf [.ag (qa1080 p1 p3 r1)] (.ag (.cons (.rfl _ rfl) (.cons (.rfl _ rfl) (.cons (.rfl _ rfl) (.cons (.rfl _ rfl) (.cons (.nl) .nil))))))
 rcases zW h with ⟨b7, h⟩ | ⟨b7, h⟩
 ·exact zr (zv [6, 9] 3 [6,9,21] [] [(6, .one (.pt 0 0 0 0)), (9, .one (.pt 1 0 0 0)), (21, vb (!r1.2))] [.box qa1079, .box (qa1080 p1 p3 r1)] (zt 21 b7 (zg [6, 9] 4 [6,9,25] (zd (hJ1 true h _ _ (zk [6,9,25]))))))
 ·obtain ⟨r2, c8, h⟩ := zB h
  refine zr (zg [6, 9] 3 [6,9,21] (zt 21 b7 (zv [6, 9] 1 [6,9,21,22] [] [(6, .one (.pt 0 0 0 0)), (9, .one (.pt 1 0 0 0)), (21, vb false), (22, .ag (qa1080 p1 p3 r1))] [.box qa1079, .box (qa1080 p1 p3 r1)] ?_)))
  exact zl 21 [.ag (qa1080 p1 p3 r1)] (vb r2) [(23, vb r2), (6, .one (.pt 0 0 0 0)), (9, .one (.pt 1 0 0 0)), (21, vb false), (22, .ag (qa1080 p1 p3 r1))] (PC.le (c_value_Sound _ _ c8) ⟨ALe.agc ⟨.rfl _, .rfl _, .rfl _, .rfl _, .nl, trivial⟩, trivial⟩) (zg [6, 9] 2 [6,9,25] (zd (hJ1 (!r2) h _ _ (zk [6,9,25]))))

def value_Sum_j1 (r1 : (GWide × Int × GType × Int)) (x1 : Bool) : Option (GValue × Int) :=
    ift x1
      (some ((GValue.mk (0 : Int) (0 : Int) (0 : Int) ByteArray.empty []), r1.2.2.2))
      (bnd (value_made r1.2.2.1.kind (GWide.mk r1.1.neg (r1.1.size.1, r1.1.size.2.1, r1.1.size.2.2.1, r1.1.size.2.2.2)) r1.2.2.1.scale) fun r2 =>
       some (r2, (0 : Int)))

def value_Sum (p1 : (List GValue)) : Option (GValue × Int) :=
    bnd (value_sum p1) fun r1 =>
    ift (r1.2.2.2 != (0 : Int))
      (value_Sum_j1 r1 true)
      (value_Sum_j1 r1 (r1.2.1 == (0 : Int)))

abbrev qa1087 (r1 : (GWide × Int × GType × Int)) : List CV := [cb r1.1.neg, ck .u64 r1.1.size.1, ck .u64 r1.1.size.2.1, ck .u64 r1.1.size.2.2.1, ck .u64 r1.1.size.2.2.2]
abbrev qa1088 (r1 : (GWide × Int × GType × Int)) : List CV := [ci r1.2.2.1.kind, ci r1.2.2.1.scale, cl eField r1.2.2.1.fields]
abbrev qa1090 : List CV := [ci (0 : Int), ci (0 : Int), ci (0 : Int), cst ByteArray.empty, .pv (.s (.slice none 0 0))]
abbrev qa1091 (r2 : GValue) : List CV := [ci r2.kind, ci r2.n, ci r2.scale, cst r2.s, cl eValue r2.items]

theorem c_value_Sum (p1 : (List GValue)) (r : (GValue × Int)) (h : value_Sum p1 = some r) : PC Tryd.prog 9 [vl eValue p1] (.tp [.ag [ci r.1.kind, ci r.1.n, ci r.1.scale, cst r.1.s, cl eValue r.1.items], vi r.2]) := by
 unfold value_Sum at h
 refine zF 29 Tryd.f9 (zq fun K1 hK1 => zr (zg [2, 4, 6] 2 [0,2] (zd (hK1 _ _ (zq fun K2 hK2 => ?_)))))
 obtain ⟨r1, c3, h⟩ := zB h
 refine zr (zg [2, 4, 6] 1 [2,9] (zl 27 [vl eValue p1] (.tp [.ag (qa1087 r1), vi r1.2.1, .ag (qa1088 r1), vi r1.2.2.2]) [(10, .tp [.ag (qa1087 r1), vi r1.2.1, .ag (qa1088 r1), vi r1.2.2.2]), (2, .one (.pt 0 0 0 0)), (9, vl eValue p1)] (c_value_sum _ _ c3) (zg [2, 4, 6] 11 [2,4,5,6,7] (zd (hK2 _ _ ?_)))))
 refine zq fun K4 hK4 => zq fun K5 hK5 => ?_
 have hJ1 : ∀ (x1 : Bool), value_Sum_j1 r1 x1 = some r → ∀ fr1 st1, Sub 29 0 [] fr1 st1 [(2, .one (.pt 0 0 0 0)), (4, .one (.pt 1 0 0 0)), (6, .one (.pt 2 0 0 0)), (7, vi r1.2.2.2), (20, vb x1)] [.box qa1090, .box (qa1087 r1), .box (qa1088 r1)] → K5 fr1 st1 := by
  intro x1 h fr1 st1 hS
  unfold value_Sum_j1 at h
  refine hK5 _ _ (XW.sub hS ?_)
  refine zC h (fun b7 h => ?_) (fun b7 h => ?_)
  ·refine zq fun K8 hK8 => zr (zg [2, 4, 6] 4 [2,3] (zd (hK8 _ _ (ze ?_))))
   obtain rfl := Option.some.inj h
   exact zf [.ag qa1090, vi r1.2.2.2] (.tpc (.ag (.cons (.rfl _ rfl) (.cons (.rfl _ rfl) (.cons (.rfl _ rfl) (.cons (.rfl _ rfl) (.cons (.nl) .nil)))))) (.tpc (.one (.rfl _ rfl)) (.tp0)))
  ·refine zs (hK4 _ _ (zq fun K9 hK9 => ?_))
   obtain ⟨r2, c10, h⟩ := zB h
   refine zr (zg [2, 4, 6] 5 [2,24,25,27] (zl 28 [vi r1.2.2.1.kind, .ag (qa1087 r1), vi r1.2.2.1.scale] (.ag (qa1091 r2)) [(28, .ag (qa1091 r2)), (2, .one (.pt 0 0 0 0)), (24, vi r1.2.2.1.kind), (25, .ag (qa1087 r1)), (27, vi r1.2.2.1.scale)] (c_value_made _ _ _ _ c10) (zg [2, 4, 6] 2 [2,3] (zd ?_))))
   refine hK9 _ _ (ze ?_)
   obtain rfl := Option.some.inj h
   exact zf [.ag (qa1091 r2), vi (0 : Int)] (.tpc (.ag (.cons (.rfl _ rfl) (.cons (.rfl _ rfl) (.cons (.rfl _ rfl) (.cons (.rfl _ rfl) (.cons (.rfl _ rfl) .nil)))))) (.tpc (.one (.rfl _ rfl)) (.tp0)))
 rcases zW h with ⟨b6, h⟩ | ⟨b6, h⟩
 ·exact zr (zg [2, 4, 6] 3 [2,4,5,6,7,17] (zt 17 b6 (zv [2, 4, 6] 3 [2,4,6,7,20] [] [(2, .one (.pt 0 0 0 0)), (4, .one (.pt 1 0 0 0)), (6, .one (.pt 2 0 0 0)), (7, vi r1.2.2.2), (20, vb true)] [.box qa1090, .box (qa1087 r1), .box (qa1088 r1)] (zd (hJ1 true h _ _ (zk [2,4,6,7,20]))))))
 ·exact zr (zg [2, 4, 6] 3 [2,4,5,6,7,17] (zt 17 b6 (zg [2, 4, 6] 3 [2,4,6,7,20] (zd (hJ1 (r1.2.1 == (0 : Int)) h _ _ (zk [2,4,6,7,20]))))))

def law1_exactly_j2 : Option Bool :=
    some true

def law1_exactly_l1 (q_law1_exactly : GValue → GValue → Option Bool) (p1 : GValue) (p2 : GValue) : Nat → Int → Option Bool
  | 0, _ => none
  | k1 + 1, x2 =>
    ift (decide (x2 < (p1.items.length : Int)))
      (bnd (at? p1.items x2) fun e1 =>
       bnd (at? p2.items x2) fun e2 =>
       bnd (q_law1_exactly e1 e2) fun r1 =>
       ift (!r1)
         (some false)
         ((law1_exactly_l1 q_law1_exactly p1 p2 k1) (IntKind.i64.wrap (x2 + (1 : Int)))))
      (law1_exactly_j2)

def law1_exactly_j1 (q_law1_exactly : GValue → GValue → Option Bool) (p1 : GValue) (p2 : GValue) (x1 : Bool) : Option Bool :=
    ift x1
      (some false)
      (law1_exactly_l1 q_law1_exactly p1 p2 BIG (0 : Int))

def law1_exactly : Nat → GValue → GValue → Option Bool
  | 0, _, _ => none
  | k0 + 1, p1, p2 =>
    ift (p1.kind != p2.kind)
      (law1_exactly_j1 (law1_exactly k0) p1 p2 true)
      (ift (p1.n != p2.n)
         (law1_exactly_j1 (law1_exactly k0) p1 p2 true)
         (ift (p1.scale != p2.scale)
            (law1_exactly_j1 (law1_exactly k0) p1 p2 true)
            (ift (!(p1.s.toList == p2.s.toList))
               (law1_exactly_j1 (law1_exactly k0) p1 p2 true)
               (law1_exactly_j1 (law1_exactly k0) p1 p2 ((p1.items.length : Int) != (p2.items.length : Int))))))

abbrev qa1098 (p1 : GValue) : List PV := [pi p1.kind, pi p1.n, pi p1.scale, .s (.string p1.s), .ro (eValue.els p1.items)]
abbrev qa1099 (p2 : GValue) : List PV := [pi p2.kind, pi p2.n, pi p2.scale, .s (.string p2.s), .ro (eValue.els p2.items)]
abbrev qa1100 (e2 : GValue) : List CV := [ci e2.kind, ci e2.n, ci e2.scale, cst e2.s, cl eValue e2.items]
abbrev qa1101 (e1 : GValue) : List CV := [ci e1.kind, ci e1.n, ci e1.scale, cst e1.s, cl eValue e1.items]
abbrev qa1106 (p1 : GValue) (p2 : GValue) (x2 : Int) (e1 : GValue) (e2 : GValue) : Fr := [(56, .ag (qa1100 e2)), (55, .one (.pv (.rp (eValue.els p2.items) x2.toNat 0))), (54, vi x2), (53, vl eValue p2.items), (52, .one (.pv (.rp [(qa1099 p2)] 0 4))), (51, .ag (qa1101 e1)), (50, .one (.pv (.rp (eValue.els p1.items) x2.toNat 0))), (49, vi x2), (48, vl eValue p1.items), (47, .one (.pv (.rp [(qa1098 p1)] 0 4))), (2, .one (.pv (.rp [(qa1098 p1)] 0 0))), (3, .one (.pv (.rp [(qa1099 p2)] 0 0))), (5, vi x2), (43, vi (p1.items.length : Int)), (44, vi x2)]
abbrev qa1109 (p1 : GValue) (p2 : GValue) : Fr := [(2, .one (.pv (.rp [(qa1098 p1)] 0 0))), (3, .one (.pv (.rp [(qa1099 p2)] 0 0))), (40, vb true)]
abbrev qa1110 (p1 : GValue) (p2 : GValue) : Fr := [(2, .one (.pv (.rp [(qa1098 p1)] 0 0))), (3, .one (.pv (.rp [(qa1099 p2)] 0 0))), (25, vb (p1.scale != p2.scale))]

theorem c_law1_exactly : ∀ (k0 : Nat) (p1 : GValue) (p2 : GValue) (r : Bool), law1_exactly k0 p1 p2 = some r → PC Tryd.prog 6 [.ag [ci p1.kind, ci p1.n, ci p1.scale, cst p1.s, cl eValue p1.items], .ag [ci p2.kind, ci p2.n, ci p2.scale, cst p2.s, cl eValue p2.items]] (vb r)
 | 0, _, _, r, h => by rw [law1_exactly.eq_1] at h; cases h
 | k0 + 1, p1, p2, r, h => by
  rw [law1_exactly.eq_2] at h
  refine zF 60 Tryd.f6 (zq fun K1 hK1 => zr (zg [] 3 [2,3] (zd (hK1 _ _ (zq fun K2 hK2 => zq fun K3 hK3 => ?_)))))
  have hJ1 : ∀ (x1 : Bool), law1_exactly_j1 (law1_exactly k0) p1 p2 x1 = some r → ∀ fr1 st1, Sub 60 0 [] fr1 st1 [(2, .one (.pv (.rp [(qa1098 p1)] 0 0))), (3, .one (.pv (.rp [(qa1099 p2)] 0 0))), (40, vb x1)] [] → K3 fr1 st1 := by
   intro x1 h fr1 st1 hS
   unfold law1_exactly_j1 at h
   refine hK3 _ _ (XW.sub hS ?_)
   refine zC h (fun b8 h => ?_) (fun b8 h => ?_)
   ·refine zq fun K9 hK9 => zr (zg [] 1 [4] (zd (hK9 _ _ (ze ?_))))
    obtain rfl := Option.some.inj h
    exact zf [vb false] (.one (.rfl _ rfl))
   ·refine zs (hK2 _ _ (zq fun K10 hK10 => ?_))
    have hJ2 : ∀ (_ : Unit), law1_exactly_j2 = some r → ∀ fr1 st1, Sub 60 0 [] fr1 st1 [] [] → K10 fr1 st1 := by
     intro _ h fr1 st1 hS
     unfold law1_exactly_j2 at h
     refine hK10 _ _ (XW.sub hS ?_)
     refine zq fun K23 hK23 => zr (zg [] 1 [4] (zd (hK23 _ _ (ze ?_))))
     obtain rfl := Option.some.inj h
     exact zf [vb true] (.one (.rfl _ rfl))
    refine zq fun K11 hK11 => zr (zv [] 3 [2,3,43] [[pi p1.kind, pi p1.n, pi p1.scale, .s (.string p1.s), .ro (eValue.els p1.items)]] [(2, .one (.pv (.rp [[pi p1.kind, pi p1.n, pi p1.scale, .s (.string p1.s), .ro (eValue.els p1.items)]] 0 0))), (3, .one (.pv (.rp [[pi p2.kind, pi p2.n, pi p2.scale, .s (.string p2.s), .ro (eValue.els p2.items)]] 0 0))), (43, vi ((eValue.els p1.items).length : Int))] [] ?_)
    rw [eValue.len p1.items]
    refine zg [] 1 [2,3,43,44] (zd (hK11 _ _ (zb 0 (XW.rounds' BIG (x := cd Tryd.f6 [1,1,0,1,0,0]) (by kernel_rfl) fun Q1 hQ1 => ?_))))
    have hL1 : ∀ (k1 : Nat) (x2 : Int), law1_exactly_l1 (law1_exactly k0) p1 p2 k1 x2 = some r → XR Tryd.prog 60 0 [] (cd Tryd.f6 [1,1,0,1,0,0]) Q1 k1 [(2, .one (.pv (.rp [(qa1098 p1)] 0 0))), (3, .one (.pv (.rp [(qa1099 p2)] 0 0))), (43, vi (p1.items.length : Int)), (44, vi x2)] [] := by
     intro k1
     induction k1 with
     | zero => intro x2 h; rw [law1_exactly_l1.eq_1] at h; cases h
     | succ k1 ih1 =>
      intro x2 h
      rw [law1_exactly_l1.eq_2] at h
      refine zq fun K12 hK12 => zr (zg [] 1 [2,3,43,44,45] (zd (hK12 _ _ (zq fun K13 hK13 => zC h (fun b14 h => ?_) (fun b14 h => ?_)))))
      ·refine zs (hK13 _ _ (zq fun K15 hK15 => zb 1 (zq fun K16 hK16 => zr (zg [] 2 [2,3,5,43,44] (zd ?_)))))
       refine hK16 _ _ (zq fun K17 hK17 => ?_)
       obtain ⟨e1, a18, h⟩ := zB h
       obtain ⟨e2, a19, h⟩ := zB h
       obtain ⟨r1, c20, h⟩ := zB h
       refine zw 10 (qa1106 p1 p2 x2 e1 e2) ?_ ?_
       ·refine zyp 10 [(qa1098 p1), [pi e1.kind, pi e1.n, pi e1.scale, .s (.string e1.s), .ro (eValue.els e1.items)], (qa1099 p2), [pi e2.kind, pi e2.n, pi e2.scale, .s (.string e2.s), .ro (eValue.els e2.items)]] (qa1106 p1 p2 x2 e1 e2) [([(qa1098 p1)] : List (List PV))[0]? = some (qa1098 p1), 0 ≤ x2 ∧ x2 < ((eValue.els p1.items).length : Int) ∧ elemsOk 5 (eValue.els p1.items), (eValue.els p1.items)[x2.toNat]? = some [pi e1.kind, pi e1.n, pi e1.scale, .s (.string e1.s), .ro (eValue.els e1.items)], ([(qa1099 p2)] : List (List PV))[0]? = some (qa1099 p2), 0 ≤ x2 ∧ x2 < ((eValue.els p2.items).length : Int) ∧ elemsOk 5 (eValue.els p2.items), (eValue.els p2.items)[x2.toNat]? = some [pi e2.kind, pi e2.n, pi e2.scale, .s (.string e2.s), .ro (eValue.els e2.items)]] (⟨rfl, eValue.inb a18, ((eValue.get a18).trans (by cases e1; rfl)), rfl, eValue.inb a19, ((eValue.get a19).trans (by cases e2; rfl)), trivial⟩) ?_
        exact zyd
       refine zl 6 [.ag (qa1101 e1), .ag (qa1100 e2)] (vb r1) [(57, vb r1), (56, .ag (qa1100 e2)), (55, .one (.pv (.rp (eValue.els p2.items) x2.toNat 0))), (54, vi x2), (53, vl eValue p2.items), (52, .one (.pv (.rp [(qa1099 p2)] 0 4))), (51, .ag (qa1101 e1)), (50, .one (.pv (.rp (eValue.els p1.items) x2.toNat 0))), (49, vi x2), (48, vl eValue p1.items), (47, .one (.pv (.rp [(qa1098 p1)] 0 4))), (2, .one (.pv (.rp [(qa1098 p1)] 0 0))), (3, .one (.pv (.rp [(qa1099 p2)] 0 0))), (5, vi x2), (43, vi (p1.items.length : Int)), (44, vi x2)] (c_law1_exactly k0 _ _ _ c20) ?_
       refine zg [] 1 [2,3,43,44,58] (zd (hK17 _ _ (zC h (fun b21 h => ?_) (fun b21 h => ?_))))
       ·refine zq fun K22 hK22 => zr (zg [] 1 [4] (zd (hK22 _ _ (ze (hQ1 _ _ _ ?_)))))
        obtain rfl := Option.some.inj h
        exact zf [vb false] (.one (.rfl _ rfl))
       ·exact zs (hK15 _ _ (zr (zv [] 2 [2,3,43,44] [] [(2, .one (.pv (.rp [(qa1098 p1)] 0 0))), (3, .one (.pv (.rp [(qa1099 p2)] 0 0))), (43, vi (p1.items.length : Int)), (44, vi (IntKind.i64.wrap (x2 + (1 : Int))))] [] (zd (XR.sub (zk [2,3,43,44]) (ih1 (IntKind.i64.wrap (x2 + (1 : Int))) h))))))
      ·exact zx 0 (hQ1 _ _ _ (hJ2 () h _ _ (zk [])))
    exact XR.sub (zk [2,3,43,44]) (hL1 BIG (0 : Int) h)
  rcases zW h with ⟨b4, h⟩ | ⟨b4, h⟩
  ·exact zr (zu [] 6 [2,3,11] [(qa1098 p1), (qa1099 p2)] (zt 11 b4 (zv [] 29 [2,3,40] [] (qa1109 p1 p2) [] (zd (hJ1 true h _ _ (zk [2,3,40]))))))
  ·rcases zW h with ⟨b5, h⟩ | ⟨b5, h⟩
   ·refine zr (zu [] 6 [2,3,11] [(qa1098 p1), (qa1099 p2)] (zt 11 b4 (zu [] 7 [2,3,18] [(qa1098 p1), (qa1099 p2)] (zt 18 b5 ?_))))
    exact zv [] 22 [2,3,40] [] (qa1109 p1 p2) [] (zd (hJ1 true h _ _ (zk [2,3,40])))
   ·rcases zW h with ⟨b6, h⟩ | ⟨b6, h⟩
    ·refine zr (zu [] 6 [2,3,11] [(qa1098 p1), (qa1099 p2)] (zt 11 b4 (zu [] 7 [2,3,18] [(qa1098 p1), (qa1099 p2)] (zt 18 b5 ?_))))
     exact zv [] 7 [2,3,25] [(qa1098 p1), (qa1099 p2)] (qa1110 p1 p2) [] (zt 25 b6 (zg [] 15 [2,3,40] (zd (hJ1 true h _ _ (zk [2,3,40])))))
    ·rcases zW h with ⟨b7, h⟩ | ⟨b7, h⟩
     ·refine zr (zu [] 6 [2,3,11] [(qa1098 p1), (qa1099 p2)] (zt 11 b4 ?_))
      refine zv [] 7 [2,3,18] [(qa1098 p1), (qa1099 p2)] [(2, .one (.pv (.rp [(qa1098 p1)] 0 0))), (3, .one (.pv (.rp [(qa1099 p2)] 0 0))), (18, vb (p1.n != p2.n))] [] (zt 18 b5 ?_)
      refine zu [] 7 [2,3,25] [(qa1098 p1), (qa1099 p2)] (zt 25 b6 (zu [] 7 [2,3,32] [(qa1098 p1), (qa1099 p2)] (zt 32 b7 ?_)))
      exact zv [] 8 [2,3,40] [] (qa1109 p1 p2) [] (zd (hJ1 true h _ _ (zk [2,3,40])))
     ·refine zr (zu [] 6 [2,3,11] [(qa1098 p1), (qa1099 p2)] (zt 11 b4 (zu [] 7 [2,3,18] [(qa1098 p1), (qa1099 p2)] (zt 18 b5 ?_))))
      refine zv [] 7 [2,3,25] [(qa1098 p1), (qa1099 p2)] (qa1110 p1 p2) [] (zt 25 b6 ?_)
      refine zu [] 7 [2,3,32] [[pi p1.kind, pi p1.n, pi p1.scale, .s (.string p1.s), .ro (eValue.els p1.items)], [pi p2.kind, pi p2.n, pi p2.scale, .s (.string p2.s), .ro (eValue.els p2.items)]] (zt 32 b7 (zv [] 3 [2,3,32,35] [[pi p1.kind, pi p1.n, pi p1.scale, .s (.string p1.s), .ro (eValue.els p1.items)]] [(2, .one (.pv (.rp [[pi p1.kind, pi p1.n, pi p1.scale, .s (.string p1.s), .ro (eValue.els p1.items)]] 0 0))), (3, .one (.pv (.rp [[pi p2.kind, pi p2.n, pi p2.scale, .s (.string p2.s), .ro (eValue.els p2.items)]] 0 0))), (32, vb false), (35, vi ((eValue.els p1.items).length : Int))] [] ?_))
      rw [eValue.len p1.items]
      refine zv [] 3 [2,3,32,35,38] [[pi p2.kind, pi p2.n, pi p2.scale, .s (.string p2.s), .ro (eValue.els p2.items)]] [(2, .one (.pv (.rp [[pi p1.kind, pi p1.n, pi p1.scale, .s (.string p1.s), .ro (eValue.els p1.items)]] 0 0))), (3, .one (.pv (.rp [[pi p2.kind, pi p2.n, pi p2.scale, .s (.string p2.s), .ro (eValue.els p2.items)]] 0 0))), (32, vb false), (35, vi (p1.items.length : Int)), (38, vi ((eValue.els p2.items).length : Int))] [] ?_
      rw [eValue.len p2.items]
      exact zg [] 2 [2,3,40] (zd (hJ1 ((p1.items.length : Int) != (p2.items.length : Int)) h _ _ (zk [2,3,40])))

def ref1_isNumber_j1 (x1 : Bool) : Option Bool :=
    some x1

def ref1_isNumber (p1 : Int) : Option Bool :=
    ift (p1 == (2 : Int))
      (ref1_isNumber_j1 true)
      (ref1_isNumber_j1 (p1 == (3 : Int)))


theorem c_ref1_isNumber (p1 : Int) (r : Bool) (h : ref1_isNumber p1 = some r) : PC Tryd.prog 52 [vi p1] (vb r) := by
 unfold ref1_isNumber at h
 refine zF 9 Tryd.f52 (zq fun K1 hK1 => zr (zg [] 1 [0] (zd (hK1 _ _ (zq fun K2 hK2 => ?_)))))
 have hJ1 : ∀ (x1 : Bool), ref1_isNumber_j1 x1 = some r → ∀ fr1 st1, Sub 9 0 [] fr1 st1 [(2, vb x1)] [] → K2 fr1 st1 := by
  intro x1 h fr1 st1 hS
  unfold ref1_isNumber_j1 at h
  refine hK2 _ _ (XW.sub hS ?_)
  refine ze ?_
  obtain rfl := Option.some.inj h
  exact zf [vb x1] (.one (.rfl _ rfl))
 rcases zW h with ⟨b3, h⟩ | ⟨b3, h⟩
 ·exact zr (zg [] 3 [0,5] (zt 5 b3 (zv [] 4 [2] [] [(2, vb true)] [] (zd (hJ1 true h _ _ (zk [2]))))))
 ·exact zr (zg [] 3 [0,5] (zt 5 b3 (zg [] 4 [2] (zd (hJ1 (p1 == (3 : Int)) h _ _ (zk [2]))))))

def ref1_within_j1 (x1 : Bool) : Option Bool :=
    some x1

def ref1_within (p1 : Int) (p2 : Int) (p3 : Int) : Option Bool :=
    ift (decide (p2 ≤ p1))
      (ref1_within_j1 (decide (p1 ≤ p3)))
      (ref1_within_j1 false)


theorem c_ref1_within (p1 : Int) (p2 : Int) (p3 : Int) (r : Bool) (h : ref1_within p1 p2 p3 = some r) : PC Tryd.prog 80 [vi p1, vi p2, vi p3] (vb r) := by
 unfold ref1_within at h
 refine zF 15 Tryd.f80 (zq fun K1 hK1 => zr (zg [] 1 [0,1,2] (zd (hK1 _ _ (zq fun K2 hK2 => ?_)))))
 have hJ1 : ∀ (x1 : Bool), ref1_within_j1 x1 = some r → ∀ fr1 st1, Sub 15 0 [] fr1 st1 [(6, vb x1)] [] → K2 fr1 st1 := by
  intro x1 h fr1 st1 hS
  unfold ref1_within_j1 at h
  refine hK2 _ _ (XW.sub hS ?_)
  refine ze ?_
  obtain rfl := Option.some.inj h
  exact zf [vb x1] (.one (.rfl _ rfl))
 rcases zW h with ⟨b3, h⟩ | ⟨b3, h⟩
 ·exact zr (zg [] 4 [0,2,10] (zt 10 b3 (zv [] 5 [6] [] [(6, vb (decide (p1 ≤ p3)))] [] (zd (hJ1 (decide (p1 ≤ p3)) h _ _ (zk [6]))))))
 ·exact zr (zg [] 4 [0,2,10] (zt 10 b3 (zg [] 5 [6] (zd (hJ1 false h _ _ (zk [6]))))))

def ref1_characters_j2 (rec1 : Int → Option Bool) (x2 : Int) (x3 : Bool) : Option Bool :=
    ift x3
      (some false)
      (rec1 (IntKind.i64.wrap (x2 + (1 : Int))))

def ref1_characters_j3 : Option Bool :=
    some true

def ref1_characters_l1 (p1 : ByteArray) : Nat → Int → Option Bool
  | 0, _ => none
  | k1 + 1, x2 =>
    ift (decide (x2 < (p1.size : Int)))
      (grd (0 ≤ x2 ∧ x2 < (p1.size : Int)) <|
       bnd (some (decide (((p1.data.toList.getD x2.toNat 0).toNat : Int) < (32 : Int)))) fun y1 =>
       ift y1
         (ref1_characters_j2 (ref1_characters_l1 p1 k1) x2 true)
         (grd (0 ≤ x2 ∧ x2 < (p1.size : Int)) <|
          ref1_characters_j2 (ref1_characters_l1 p1 k1) x2 (((p1.data.toList.getD x2.toNat 0).toNat : Int) == (127 : Int))))
      (ref1_characters_j3)

def ref1_characters_j1 (p1 : ByteArray) (x1 : Bool) : Option Bool :=
    ift x1
      (some false)
      (ref1_characters_l1 p1 BIG (0 : Int))

def ref1_characters (p1 : ByteArray) : Option Bool :=
    bnd (utf8_ValidString p1) fun r1 =>
    ift (!r1)
      (ref1_characters_j1 p1 true)
      (ref1_characters_j1 p1 (decide ((256 : Int) < (p1.size : Int))))


theorem c_ref1_characters (p1 : ByteArray) (r : Bool) (h : ref1_characters p1 = some r) : PC Tryd.prog 81 [vs p1] (vb r) := by
 unfold ref1_characters at h
 refine zF 28 Tryd.f81 (zq fun K1 hK1 => zr (zg [] 1 [0] (zd (hK1 _ _ (zq fun K2 hK2 => zq fun K3 hK3 => ?_)))))
 have hJ1 : ∀ (x1 : Bool), ref1_characters_j1 p1 x1 = some r → ∀ fr1 st1, Sub 28 0 [] fr1 st1 [(0, vs p1), (11, vb x1)] [] → K3 fr1 st1 := by
  intro x1 h fr1 st1 hS
  unfold ref1_characters_j1 at h
  refine hK3 _ _ (XW.sub hS ?_)
  refine zC h (fun b6 h => ?_) (fun b6 h => ?_)
  ·refine zq fun K7 hK7 => zr (zg [] 1 [2] (zd (hK7 _ _ (ze ?_))))
   obtain rfl := Option.some.inj h
   exact zf [vb false] (.one (.rfl _ rfl))
  ·refine zs (hK2 _ _ (zq fun K8 hK8 => ?_))
   have hJ3 : ∀ (_ : Unit), ref1_characters_j3 = some r → ∀ fr1 st1, Sub 28 0 [] fr1 st1 [] [] → K8 fr1 st1 := by
    intro _ h fr1 st1 hS
    unfold ref1_characters_j3 at h
    refine hK8 _ _ (XW.sub hS ?_)
    refine zq fun K21 hK21 => zr (zg [] 1 [2] (zd (hK21 _ _ (ze ?_))))
    obtain rfl := Option.some.inj h
    exact zf [vb true] (.one (.rfl _ rfl))
   refine zq fun K9 hK9 => zr (zg [] 1 [0,3] (zd (hK9 _ _ (zb 0 (XW.rounds' BIG (x := cd Tryd.f81 [1,1,0,1,0,0]) (by kernel_rfl) fun Q1 hQ1 => ?_)))))
   have hL1 : ∀ (k1 : Nat) (x2 : Int), ref1_characters_l1 p1 k1 x2 = some r → XR Tryd.prog 28 0 [] (cd Tryd.f81 [1,1,0,1,0,0]) Q1 k1 [(0, vs p1), (3, vi x2)] [] := by
    intro k1
    induction k1 with
    | zero => intro x2 h; rw [ref1_characters_l1.eq_1] at h; cases h
    | succ k1 ih1 =>
     intro x2 h
     rw [ref1_characters_l1.eq_2] at h
     refine zq fun K10 hK10 => zq fun K11 hK11 => zr (zg [] 4 [0,3,15] (zd (hK11 _ _ (zC h (fun b12 h => ?_) (fun b12 h => ?_)))))
     ·refine zs (hK10 _ _ (zq fun K13 hK13 => zb 1 (zq fun K14 hK14 => ?_)))
      have hJ2 : ∀ (x3 : Bool), ref1_characters_j2 (ref1_characters_l1 p1 k1) x2 x3 = some r → ∀ fr1 st1, Sub 28 0 [] fr1 st1 [(0, vs p1), (3, vi x2), (27, vb x3)] [] → K14 fr1 st1 := by
       intro x3 h fr1 st1 hS
       unfold ref1_characters_j2 at h
       refine hK14 _ _ (XW.sub hS ?_)
       refine zC h (fun b19 h => ?_) (fun b19 h => ?_)
       ·refine zq fun K20 hK20 => zr (zg [] 1 [2] (zd (hK20 _ _ (ze (hQ1 _ _ _ ?_)))))
        obtain rfl := Option.some.inj h
        exact zf [vb false] (.one (.rfl _ rfl))
       ·exact zs (hK13 _ _ (zr (zg [] 3 [0,3] (zd (XR.sub (zk [0,3]) (ih1 (IntKind.i64.wrap (x2 + (1 : Int))) h))))))
      obtain ⟨g15, h⟩ := zG h
      obtain ⟨y1, hy16, h⟩ := zB h
      rcases zW h with ⟨b17, h⟩ | ⟨b17, h⟩
      ·refine zr (zp [] 4 [0,3,21] [] [(0, vs p1), (3, vi x2), (21, vb (decide (((p1.data.toList.getD x2.toNat 0).toNat : Int) < (32 : Int))))] [] [0 ≤ x2 ∧ x2 < (p1.size : Int)] (⟨g15, trivial⟩) ?_)
       rw [show (decide (((p1.data.toList.getD x2.toNat 0).toNat : Int) < (32 : Int))) = y1 from Option.some.inj hy16]
       exact zg [] 1 [0,3,22] (zt 22 b17 (zg [] 5 [0,3,27] (zd (hJ2 true h _ _ (zk [0,3,27])))))
      ·obtain ⟨g18, h⟩ := zG h
       refine zr (zp [] 4 [0,3,21] [] [(0, vs p1), (3, vi x2), (21, vb (decide (((p1.data.toList.getD x2.toNat 0).toNat : Int) < (32 : Int))))] [] [0 ≤ x2 ∧ x2 < (p1.size : Int)] (⟨g15, trivial⟩) ?_)
       rw [show (decide (((p1.data.toList.getD x2.toNat 0).toNat : Int) < (32 : Int))) = y1 from Option.some.inj hy16]
       exact zg [] 1 [0,3,22] (zt 22 b17 (zo [] 5 [0,3,27] [] [0 ≤ x2 ∧ x2 < (p1.size : Int)] (⟨g18, trivial⟩) (zd (hJ2 (((p1.data.toList.getD x2.toNat 0).toNat : Int) == (127 : Int)) h _ _ (zk [0,3,27])))))
     ·exact zx 0 (hQ1 _ _ _ (hJ3 () h _ _ (zk [])))
   exact XR.sub (zk [0,3]) (hL1 BIG (0 : Int) h)
 obtain ⟨r1, c4, h⟩ := zB h
 rcases zW h with ⟨b5, h⟩ | ⟨b5, h⟩
 ·exact zr (zg [] 1 [0,4] (zl 87 [vs p1] (vb r1) [(5, vb r1), (0, vs p1), (4, vs p1)] (c_utf8_ValidString _ _ c4) (zg [] 2 [0,7] (zt 7 b5 (zg [] 4 [0,11] (zd (hJ1 true h _ _ (zk [0,11]))))))))
 ·exact zr (zv [] 1 [0,4] [] [(0, vs p1), (4, vs p1)] [] (za (c_utf8_ValidString _ _ c4) (zg [] 2 [0,7] (zt 7 b5 (zv [] 4 [0,11] [] [(0, vs p1), (11, vb (decide ((256 : Int) < (p1.size : Int))))] [] (zd (hJ1 (decide ((256 : Int) < (p1.size : Int))) h _ _ (zk [0,11]))))))))

def ref1_alone_j2 (x2 : Bool) : Option Bool :=
    some x2

def ref1_alone_j3 (x3 : Bool) : Option Bool :=
    some x3

def ref1_alone_j4 (x4 : Bool) : Option Bool :=
    some x4

def ref1_alone_j5 (x5 : Bool) : Option Bool :=
    some x5

def ref1_alone_j6 (x6 : Bool) : Option Bool :=
    some x6

def ref1_alone_j7 (x7 : Bool) : Option Bool :=
    some x7

def ref1_alone_j8 (x8 : Bool) : Option Bool :=
    some x8

def ref1_alone_j9 (x9 : Bool) : Option Bool :=
    some x9

def ref1_alone_j1 (p1 : GValue) (x1 : Bool) : Option Bool :=
    ift (p1.kind == (0 : Int))
      (ift x1
         (ift (p1.n == (0 : Int))
            (ref1_alone_j2 (p1.scale == (0 : Int)))
            (ref1_alone_j2 false))
         (ref1_alone_j2 false))
      (ift (p1.kind == (1 : Int))
         (ift x1
            (bnd (ref1_within p1.n (0 : Int) (1 : Int)) fun r1 =>
             ift r1
               (ref1_alone_j3 (p1.scale == (0 : Int)))
               (ref1_alone_j3 false))
            (ref1_alone_j3 false))
         (ift (p1.kind == (2 : Int))
            (ift x1
               (bnd (ref1_within p1.n (-999999999999999999 : Int) (999999999999999999 : Int)) fun r2 =>
                ift r2
                  (ref1_alone_j4 (p1.scale == (0 : Int)))
                  (ref1_alone_j4 false))
               (ref1_alone_j4 false))
            (ift (p1.kind == (3 : Int))
               (ift x1
                  (bnd (ref1_within p1.n (-999999999999999999 : Int) (999999999999999999 : Int)) fun r3 =>
                   ift r3
                     (bnd (ref1_within p1.scale (0 : Int) (12 : Int)) fun r4 =>
                      ref1_alone_j5 r4)
                     (ref1_alone_j5 false))
                  (ref1_alone_j5 false))
               (ift (p1.kind == (4 : Int))
                  (ift ((p1.items.length : Int) == (0 : Int))
                     (ift (p1.n == (0 : Int))
                        (ift (p1.scale == (0 : Int))
                           (bnd (ref1_characters p1.s) fun r5 =>
                            ref1_alone_j6 r5)
                           (ref1_alone_j6 false))
                        (ref1_alone_j6 false))
                     (ref1_alone_j6 false))
                  (ift (p1.kind == (5 : Int))
                     (ift x1
                        (bnd (ref1_within p1.n (-62135596800 : Int) (253402300799 : Int)) fun r6 =>
                         ift r6
                           (ref1_alone_j7 (p1.scale == (0 : Int)))
                           (ref1_alone_j7 false))
                        (ref1_alone_j7 false))
                     (ift (p1.kind == (6 : Int))
                        (ift (p1.s.toList == (ByteArray.mk #[]).toList)
                           (ift (p1.n == (0 : Int))
                              (ift (p1.scale == (0 : Int))
                                 (ref1_alone_j8 (decide ((p1.items.length : Int) ≤ (64 : Int))))
                                 (ref1_alone_j8 false))
                              (ref1_alone_j8 false))
                           (ref1_alone_j8 false))
                        (ift (p1.kind == (7 : Int))
                           (ift (p1.s.toList == (ByteArray.mk #[]).toList)
                              (ift (p1.n == (0 : Int))
                                 (ift (p1.scale == (0 : Int))
                                    (ref1_alone_j9 (decide ((0 : Int) < (p1.items.length : Int))))
                                    (ref1_alone_j9 false))
                                 (ref1_alone_j9 false))
                              (ref1_alone_j9 false))
                           (some false))))))))

def ref1_alone (p1 : GValue) : Option Bool :=
    ift (p1.s.toList == (ByteArray.mk #[]).toList)
      (ref1_alone_j1 p1 ((p1.items.length : Int) == (0 : Int)))
      (ref1_alone_j1 p1 false)

abbrev qa1123 (p1 : GValue) : List PV := [pi p1.kind, pi p1.n, pi p1.scale, .s (.string p1.s), .ro (eValue.els p1.items)]
abbrev qa1151 (p1 : GValue) : Fr := [(1, .one (.pv (.rp [(qa1123 p1)] 0 0))), (106, vb (p1.s.toList == (ByteArray.mk #[]).toList))]

theorem c_ref1_alone (p1 : GValue) (r : Bool) (h : ref1_alone p1 = some r) : PC Tryd.prog 67 [.ag [ci p1.kind, ci p1.n, ci p1.scale, cst p1.s, cl eValue p1.items]] (vb r) := by
 unfold ref1_alone at h
 refine zF 143 Tryd.f67 (zq fun K1 hK1 => zr (zg [] 2 [1] (zd (hK1 _ _ (zq fun K2 hK2 => ?_)))))
 have hJ1 : ∀ (x1 : Bool), ref1_alone_j1 p1 x1 = some r → ∀ fr1 st1, Sub 143 0 [] fr1 st1 [(1, .one (.pv (.rp [(qa1123 p1)] 0 0))), (3, vb x1)] [] → K2 fr1 st1 := by
  intro x1 h fr1 st1 hS
  unfold ref1_alone_j1 at h
  refine hK2 _ _ (XW.sub hS ?_)
  refine zq fun K4 hK4 => zq fun K5 hK5 => zr (zu [] 2 [1,3,14] [(qa1123 p1)] (zd (hK5 _ _ (zb 0 (zq fun K6 hK6 => ?_)))))
  refine zr (zg [] 2 [1,3,14,15] (zd (hK6 _ _ (zC h (fun b7 h => ?_) (fun b7 h => ?_)))))
  ·refine zq fun K8 hK8 => ?_
   have hJ2 : ∀ (x2 : Bool), ref1_alone_j2 x2 = some r → ∀ fr1 st1, Sub 143 0 [] fr1 st1 [(2, vb x2)] [] → K8 fr1 st1 := by
    intro x2 h fr1 st1 hS
    unfold ref1_alone_j2 at h
    refine hK8 _ _ (XW.sub hS ?_)
    refine ze ?_
    obtain rfl := Option.some.inj h
    exact zf [vb x2] (.one (.rfl _ rfl))
   rcases zW h with ⟨b9, h⟩ | ⟨b9, h⟩
   ·rcases zW h with ⟨b10, h⟩ | ⟨b10, h⟩
    ·exact zr (zv [] 2 [1,18] [] [(1, .one (.pv (.rp [(qa1123 p1)] 0 0))), (18, vb x1)] [] (zt 18 b9 (zu [] 5 [1,23] [(qa1123 p1)] (zt 23 b10 (zu [] 5 [2] [(qa1123 p1)] (zd (hJ2 (p1.scale == (0 : Int)) h _ _ (zk [2]))))))))
    ·exact zr (zv [] 2 [1,18] [] [(1, .one (.pv (.rp [(qa1123 p1)] 0 0))), (18, vb x1)] [] (zt 18 b9 (zu [] 5 [1,23] [(qa1123 p1)] (zt 23 b10 (zg [] 5 [2] (zd (hJ2 false h _ _ (zk [2]))))))))
   ·exact zr (zv [] 2 [1,18] [] [(1, .one (.pv (.rp [(qa1123 p1)] 0 0))), (18, vb x1)] [] (zt 18 b9 (zg [] 10 [2] (zd (hJ2 false h _ _ (zk [2]))))))
  ·refine zq fun K11 hK11 => zr (zv [] 2 [1,3,14,28] [] [(1, .one (.pv (.rp [(qa1123 p1)] 0 0))), (3, vb x1), (14, vi p1.kind), (28, vb (p1.kind == (1 : Int)))] [] (zd (hK11 _ _ (zC h (fun b12 h => ?_) (fun b12 h => ?_)))))
   ·refine zq fun K13 hK13 => ?_
    have hJ3 : ∀ (x3 : Bool), ref1_alone_j3 x3 = some r → ∀ fr1 st1, Sub 143 0 [] fr1 st1 [(2, vb x3)] [] → K13 fr1 st1 := by
     intro x3 h fr1 st1 hS
     unfold ref1_alone_j3 at h
     refine hK13 _ _ (XW.sub hS ?_)
     refine ze ?_
     obtain rfl := Option.some.inj h
     exact zf [vb x3] (.one (.rfl _ rfl))
    rcases zW h with ⟨b14, h⟩ | ⟨b14, h⟩
    ·obtain ⟨r1, c15, h⟩ := zB h
     rcases zW h with ⟨b16, h⟩ | ⟨b16, h⟩
     ·refine zr (zg [] 2 [1,31] (zt 31 b14 (zu [] 2 [1,31,33] [(qa1123 p1)] (zl 80 [vi p1.n, vi (0 : Int), vi (1 : Int)] (vb r1) [(34, vb r1), (1, .one (.pv (.rp [(qa1123 p1)] 0 0))), (31, vb true), (33, vi p1.n)] (c_ref1_within _ _ _ _ c15) (zg [] 2 [1,36] (zt 36 b16 (zu [] 5 [2] [(qa1123 p1)] ?_)))))))
      exact zd (hJ3 (p1.scale == (0 : Int)) h _ _ (zk [2]))
     ·refine zr (zv [] 2 [1,31] [] [(1, .one (.pv (.rp [(qa1123 p1)] 0 0))), (31, vb x1)] [] (zt 31 b14 (zu [] 2 [1,31,33] [(qa1123 p1)] (za (c_ref1_within _ _ _ _ c15) (zv [] 2 [1,36] [] [(1, .one (.pv (.rp [(qa1123 p1)] 0 0))), (36, vb r1)] [] (zt 36 b16 (zg [] 5 [2] ?_)))))))
      exact zd (hJ3 false h _ _ (zk [2]))
    ·exact zr (zg [] 2 [1,31] (zt 31 b14 (zg [] 10 [2] (zd (hJ3 false h _ _ (zk [2]))))))
   ·refine zq fun K17 hK17 => zr (zg [] 2 [1,3,14,41] (zd (hK17 _ _ (zC h (fun b18 h => ?_) (fun b18 h => ?_)))))
    ·refine zq fun K19 hK19 => ?_
     have hJ4 : ∀ (x4 : Bool), ref1_alone_j4 x4 = some r → ∀ fr1 st1, Sub 143 0 [] fr1 st1 [(2, vb x4)] [] → K19 fr1 st1 := by
      intro x4 h fr1 st1 hS
      unfold ref1_alone_j4 at h
      refine hK19 _ _ (XW.sub hS ?_)
      refine ze ?_
      obtain rfl := Option.some.inj h
      exact zf [vb x4] (.one (.rfl _ rfl))
     rcases zW h with ⟨b20, h⟩ | ⟨b20, h⟩
     ·obtain ⟨r2, c21, h⟩ := zB h
      rcases zW h with ⟨b22, h⟩ | ⟨b22, h⟩
      ·refine zr (zg [] 2 [1,44] (zt 44 b20 (zv [] 2 [1,44,46] [(qa1123 p1)] [(1, .one (.pv (.rp [(qa1123 p1)] 0 0))), (44, vb true), (46, vi p1.n)] [] (za (c_ref1_within _ _ _ _ c21) (zg [] 2 [1,49] (zt 49 b22 (zv [] 5 [2] [(qa1123 p1)] [(2, vb (p1.scale == (0 : Int)))] [] ?_)))))))
       exact zd (hJ4 (p1.scale == (0 : Int)) h _ _ (zk [2]))
      ·refine zr (zg [] 2 [1,44] (zt 44 b20 (zu [] 2 [1,44,46] [(qa1123 p1)] (zl 80 [vi p1.n, vi (-999999999999999999 : Int), vi (999999999999999999 : Int)] (vb r2) [(47, vb r2), (1, .one (.pv (.rp [(qa1123 p1)] 0 0))), (44, vb true), (46, vi p1.n)] (c_ref1_within _ _ _ _ c21) (zg [] 2 [1,49] (zt 49 b22 (zg [] 5 [2] ?_)))))))
       exact zd (hJ4 false h _ _ (zk [2]))
     ·exact zr (zg [] 2 [1,44] (zt 44 b20 (zv [] 10 [2] [] [(2, vb false)] [] (zd (hJ4 false h _ _ (zk [2]))))))
    ·refine zq fun K23 hK23 => zr (zg [] 2 [1,3,14,54] (zd (hK23 _ _ (zC h (fun b24 h => ?_) (fun b24 h => ?_)))))
     ·refine zq fun K25 hK25 => ?_
      have hJ5 : ∀ (x5 : Bool), ref1_alone_j5 x5 = some r → ∀ fr1 st1, Sub 143 0 [] fr1 st1 [(2, vb x5)] [] → K25 fr1 st1 := by
       intro x5 h fr1 st1 hS
       unfold ref1_alone_j5 at h
       refine hK25 _ _ (XW.sub hS ?_)
       refine ze ?_
       obtain rfl := Option.some.inj h
       exact zf [vb x5] (.one (.rfl _ rfl))
      rcases zW h with ⟨b26, h⟩ | ⟨b26, h⟩
      ·obtain ⟨r3, c27, h⟩ := zB h
       rcases zW h with ⟨b28, h⟩ | ⟨b28, h⟩
       ·obtain ⟨r4, c29, h⟩ := zB h
        refine zr (zv [] 2 [1,57] [] [(1, .one (.pv (.rp [(qa1123 p1)] 0 0))), (57, vb x1)] [] (zt 57 b26 (zu [] 2 [1,57,59] [(qa1123 p1)] (za (c_ref1_within _ _ _ _ c27) (zv [] 2 [1,62] [] [(1, .one (.pv (.rp [(qa1123 p1)] 0 0))), (62, vb r3)] [] (zt 62 b28 (zu [] 2 [62,64] [(qa1123 p1)] ?_)))))))
        exact za (c_ref1_within _ _ _ _ c29) (zv [] 2 [2] [] [(2, vb r4)] [] (zd (hJ5 r4 h _ _ (zk [2]))))
       ·refine zr (zg [] 2 [1,57] (zt 57 b26 (zu [] 2 [1,57,59] [(qa1123 p1)] (zl 80 [vi p1.n, vi (-999999999999999999 : Int), vi (999999999999999999 : Int)] (vb r3) [(60, vb r3), (1, .one (.pv (.rp [(qa1123 p1)] 0 0))), (57, vb true), (59, vi p1.n)] (c_ref1_within _ _ _ _ c27) (zg [] 2 [1,62] (zt 62 b28 (zg [] 5 [2] ?_)))))))
        exact zd (hJ5 false h _ _ (zk [2]))
      ·exact zr (zv [] 2 [1,57] [] [(1, .one (.pv (.rp [(qa1123 p1)] 0 0))), (57, vb x1)] [] (zt 57 b26 (zg [] 10 [2] (zd (hJ5 false h _ _ (zk [2]))))))
     ·refine zq fun K30 hK30 => zr (zv [] 2 [1,3,14,67] [] [(1, .one (.pv (.rp [(qa1123 p1)] 0 0))), (3, vb x1), (14, vi p1.kind), (67, vb (p1.kind == (4 : Int)))] [] (zd (hK30 _ _ (zC h (fun b31 h => ?_) (fun b31 h => ?_)))))
      ·refine zq fun K32 hK32 => ?_
       have hJ6 : ∀ (x6 : Bool), ref1_alone_j6 x6 = some r → ∀ fr1 st1, Sub 143 0 [] fr1 st1 [(2, vb x6)] [] → K32 fr1 st1 := by
        intro x6 h fr1 st1 hS
        unfold ref1_alone_j6 at h
        refine hK32 _ _ (XW.sub hS ?_)
        refine ze ?_
        obtain rfl := Option.some.inj h
        exact zf [vb x6] (.one (.rfl _ rfl))
       rcases zW h with ⟨b33, h⟩ | ⟨b33, h⟩
       ·rcases zW h with ⟨b34, h⟩ | ⟨b34, h⟩
        ·rcases zW h with ⟨b35, h⟩ | ⟨b35, h⟩
         ·obtain ⟨r5, c36, h⟩ := zB h
          refine zr (zv [] 3 [1,71] [[pi p1.kind, pi p1.n, pi p1.scale, .s (.string p1.s), .ro (eValue.els p1.items)]] [(1, .one (.pv (.rp [[pi p1.kind, pi p1.n, pi p1.scale, .s (.string p1.s), .ro (eValue.els p1.items)]] 0 0))), (71, vi ((eValue.els p1.items).length : Int))] [] ?_)
          rw [eValue.len p1.items]
          refine zg [] 2 [1,73] (zt 73 b33 (zu [] 5 [1,78] [(qa1123 p1)] (zt 78 b34 (zv [] 5 [1,83] [(qa1123 p1)] [(1, .one (.pv (.rp [(qa1123 p1)] 0 0))), (83, vb (p1.scale == (0 : Int)))] [] (zt 83 b35 (zu [] 2 [83,85] [(qa1123 p1)] (za (c_ref1_characters _ _ c36) ?_)))))))
          exact zv [] 2 [2] [] [(2, vb r5)] [] (zd (hJ6 r5 h _ _ (zk [2])))
         ·refine zr (zv [] 3 [1,71] [[pi p1.kind, pi p1.n, pi p1.scale, .s (.string p1.s), .ro (eValue.els p1.items)]] [(1, .one (.pv (.rp [[pi p1.kind, pi p1.n, pi p1.scale, .s (.string p1.s), .ro (eValue.els p1.items)]] 0 0))), (71, vi ((eValue.els p1.items).length : Int))] [] ?_)
          rw [eValue.len p1.items]
          refine zg [] 2 [1,73] (zt 73 b33 (zu [] 5 [1,78] [(qa1123 p1)] (zt 78 b34 (zv [] 5 [1,83] [(qa1123 p1)] [(1, .one (.pv (.rp [(qa1123 p1)] 0 0))), (83, vb (p1.scale == (0 : Int)))] [] (zt 83 b35 (zg [] 5 [2] (zd ?_)))))))
          exact hJ6 false h _ _ (zk [2])
        ·refine zr (zv [] 3 [1,71] [[pi p1.kind, pi p1.n, pi p1.scale, .s (.string p1.s), .ro (eValue.els p1.items)]] [(1, .one (.pv (.rp [[pi p1.kind, pi p1.n, pi p1.scale, .s (.string p1.s), .ro (eValue.els p1.items)]] 0 0))), (71, vi ((eValue.els p1.items).length : Int))] [] ?_)
         rw [eValue.len p1.items]
         exact zg [] 2 [1,73] (zt 73 b33 (zu [] 5 [1,78] [(qa1123 p1)] (zt 78 b34 (zv [] 10 [2] [] [(2, vb false)] [] (zd (hJ6 false h _ _ (zk [2])))))))
       ·refine zr (zv [] 3 [1,71] [[pi p1.kind, pi p1.n, pi p1.scale, .s (.string p1.s), .ro (eValue.els p1.items)]] [(1, .one (.pv (.rp [[pi p1.kind, pi p1.n, pi p1.scale, .s (.string p1.s), .ro (eValue.els p1.items)]] 0 0))), (71, vi ((eValue.els p1.items).length : Int))] [] ?_)
        rw [eValue.len p1.items]
        exact zg [] 2 [1,73] (zt 73 b33 (zg [] 15 [2] (zd (hJ6 false h _ _ (zk [2])))))
      ·refine zq fun K37 hK37 => zr (zg [] 2 [1,3,14,88] (zd (hK37 _ _ (zC h (fun b38 h => ?_) (fun b38 h => ?_)))))
       ·refine zq fun K39 hK39 => ?_
        have hJ7 : ∀ (x7 : Bool), ref1_alone_j7 x7 = some r → ∀ fr1 st1, Sub 143 0 [] fr1 st1 [(2, vb x7)] [] → K39 fr1 st1 := by
         intro x7 h fr1 st1 hS
         unfold ref1_alone_j7 at h
         refine hK39 _ _ (XW.sub hS ?_)
         refine ze ?_
         obtain rfl := Option.some.inj h
         exact zf [vb x7] (.one (.rfl _ rfl))
        rcases zW h with ⟨b40, h⟩ | ⟨b40, h⟩
        ·obtain ⟨r6, c41, h⟩ := zB h
         rcases zW h with ⟨b42, h⟩ | ⟨b42, h⟩
         ·refine zr (zg [] 2 [1,91] (zt 91 b40 (zv [] 2 [1,91,93] [(qa1123 p1)] [(1, .one (.pv (.rp [(qa1123 p1)] 0 0))), (91, vb true), (93, vi p1.n)] [] (za (c_ref1_within _ _ _ _ c41) (zg [] 2 [1,96] (zt 96 b42 (zv [] 5 [2] [(qa1123 p1)] [(2, vb (p1.scale == (0 : Int)))] [] ?_)))))))
          exact zd (hJ7 (p1.scale == (0 : Int)) h _ _ (zk [2]))
         ·refine zr (zg [] 2 [1,91] (zt 91 b40 (zu [] 2 [1,91,93] [(qa1123 p1)] (zl 80 [vi p1.n, vi (-62135596800 : Int), vi (253402300799 : Int)] (vb r6) [(94, vb r6), (1, .one (.pv (.rp [(qa1123 p1)] 0 0))), (91, vb true), (93, vi p1.n)] (c_ref1_within _ _ _ _ c41) (zg [] 2 [1,96] (zt 96 b42 (zg [] 5 [2] ?_)))))))
          exact zd (hJ7 false h _ _ (zk [2]))
        ·exact zr (zg [] 2 [1,91] (zt 91 b40 (zv [] 10 [2] [] [(2, vb false)] [] (zd (hJ7 false h _ _ (zk [2]))))))
       ·refine zq fun K43 hK43 => zr (zg [] 2 [1,14,101] (zd (hK43 _ _ (zC h (fun b44 h => ?_) (fun b44 h => ?_)))))
        ·refine zq fun K45 hK45 => ?_
         have hJ8 : ∀ (x8 : Bool), ref1_alone_j8 x8 = some r → ∀ fr1 st1, Sub 143 0 [] fr1 st1 [(2, vb x8)] [] → K45 fr1 st1 := by
          intro x8 h fr1 st1 hS
          unfold ref1_alone_j8 at h
          refine hK45 _ _ (XW.sub hS ?_)
          refine ze ?_
          obtain rfl := Option.some.inj h
          exact zf [vb x8] (.one (.rfl _ rfl))
         rcases zW h with ⟨b46, h⟩ | ⟨b46, h⟩
         ·rcases zW h with ⟨b47, h⟩ | ⟨b47, h⟩
          ·rcases zW h with ⟨b48, h⟩ | ⟨b48, h⟩
           ·refine zr (zv [] 4 [1,106] [(qa1123 p1)] (qa1151 p1) [] (zt 106 b46 (zu [] 5 [1,111] [(qa1123 p1)] (zt 111 b47 (zu [] 5 [1,116] [(qa1123 p1)] (zt 116 b48 ?_))))))
            refine zv [] 3 [116,119] [[pi p1.kind, pi p1.n, pi p1.scale, .s (.string p1.s), .ro (eValue.els p1.items)]] [(116, vb true), (119, vi ((eValue.els p1.items).length : Int))] [] ?_
            rw [eValue.len p1.items]
            exact zg [] 3 [2] (zd (hJ8 (decide ((p1.items.length : Int) ≤ (64 : Int))) h _ _ (zk [2])))
           ·refine zr (zu [] 4 [1,106] [(qa1123 p1)] (zt 106 b46 (zv [] 5 [1,111] [(qa1123 p1)] [(1, .one (.pv (.rp [(qa1123 p1)] 0 0))), (111, vb (p1.n == (0 : Int)))] [] (zt 111 b47 (zu [] 5 [1,116] [(qa1123 p1)] (zt 116 b48 (zg [] 6 [2] ?_)))))))
            exact zd (hJ8 false h _ _ (zk [2]))
          ·exact zr (zv [] 4 [1,106] [(qa1123 p1)] (qa1151 p1) [] (zt 106 b46 (zu [] 5 [1,111] [(qa1123 p1)] (zt 111 b47 (zg [] 11 [2] (zd (hJ8 false h _ _ (zk [2]))))))))
         ·exact zr (zv [] 4 [1,106] [(qa1123 p1)] (qa1151 p1) [] (zt 106 b46 (zg [] 16 [2] (zd (hJ8 false h _ _ (zk [2]))))))
        ·refine zq fun K49 hK49 => zr (zv [] 2 [1,122] [] [(1, .one (.pv (.rp [(qa1123 p1)] 0 0))), (122, vb (p1.kind == (7 : Int)))] [] (zd (hK49 _ _ (zC h (fun b50 h => ?_) (fun b50 h => ?_)))))
         ·refine zq fun K51 hK51 => ?_
          have hJ9 : ∀ (x9 : Bool), ref1_alone_j9 x9 = some r → ∀ fr1 st1, Sub 143 0 [] fr1 st1 [(2, vb x9)] [] → K51 fr1 st1 := by
           intro x9 h fr1 st1 hS
           unfold ref1_alone_j9 at h
           refine hK51 _ _ (XW.sub hS ?_)
           refine ze ?_
           obtain rfl := Option.some.inj h
           exact zf [vb x9] (.one (.rfl _ rfl))
          rcases zW h with ⟨b52, h⟩ | ⟨b52, h⟩
          ·rcases zW h with ⟨b53, h⟩ | ⟨b53, h⟩
           ·rcases zW h with ⟨b54, h⟩ | ⟨b54, h⟩
            ·refine zr (zu [] 4 [1,127] [(qa1123 p1)] (zt 127 b52 (zu [] 5 [1,132] [(qa1123 p1)] (zt 132 b53 (zv [] 5 [1,137] [(qa1123 p1)] [(1, .one (.pv (.rp [(qa1123 p1)] 0 0))), (137, vb (p1.scale == (0 : Int)))] [] (zt 137 b54 ?_))))))
             refine zv [] 3 [137,140] [[pi p1.kind, pi p1.n, pi p1.scale, .s (.string p1.s), .ro (eValue.els p1.items)]] [(137, vb true), (140, vi ((eValue.els p1.items).length : Int))] [] ?_
             rw [eValue.len p1.items]
             exact zg [] 3 [2] (zd (hJ9 (decide ((0 : Int) < (p1.items.length : Int))) h _ _ (zk [2])))
            ·refine zr (zu [] 4 [1,127] [(qa1123 p1)] (zt 127 b52 (zv [] 5 [1,132] [(qa1123 p1)] [(1, .one (.pv (.rp [(qa1123 p1)] 0 0))), (132, vb (p1.n == (0 : Int)))] [] (zt 132 b53 (zu [] 5 [1,137] [(qa1123 p1)] (zt 137 b54 (zg [] 6 [2] ?_)))))))
             exact zd (hJ9 false h _ _ (zk [2]))
           ·exact zr (zu [] 4 [1,127] [(qa1123 p1)] (zt 127 b52 (zu [] 5 [1,132] [(qa1123 p1)] (zt 132 b53 (zv [] 11 [2] [] [(2, vb false)] [] (zd (hJ9 false h _ _ (zk [2]))))))))
          ·exact zr (zu [] 4 [1,127] [(qa1123 p1)] (zt 127 b52 (zg [] 16 [2] (zd (hJ9 false h _ _ (zk [2]))))))
         ·refine zs (hK4 _ _ (zq fun K55 hK55 => zr (zg [] 1 [2] (zd (hK55 _ _ (ze ?_))))))
          obtain rfl := Option.some.inj h
          exact zf [vb false] (.one (.rfl _ rfl))
 rcases zW h with ⟨b3, h⟩ | ⟨b3, h⟩
 ·refine zr (zu [] 4 [1,7] [[pi p1.kind, pi p1.n, pi p1.scale, .s (.string p1.s), .ro (eValue.els p1.items)]] (zt 7 b3 (zv [] 3 [1,7,10] [[pi p1.kind, pi p1.n, pi p1.scale, .s (.string p1.s), .ro (eValue.els p1.items)]] [(1, .one (.pv (.rp [[pi p1.kind, pi p1.n, pi p1.scale, .s (.string p1.s), .ro (eValue.els p1.items)]] 0 0))), (7, vb true), (10, vi ((eValue.els p1.items).length : Int))] [] ?_)))
  rw [eValue.len p1.items]
  exact zg [] 3 [1,3] (zd (hJ1 ((p1.items.length : Int) == (0 : Int)) h _ _ (zk [1,3])))
 ·exact zr (zu [] 4 [1,7] [(qa1123 p1)] (zt 7 b3 (zv [] 6 [1,3] [] [(1, .one (.pv (.rp [(qa1123 p1)] 0 0))), (3, vb false)] [] (zd (hJ1 false h _ _ (zk [1,3]))))))

def ref1_sound_j3 (z3 : Int) : Option (Bool × Int) :=
    some (true, z3)

def ref1_sound_l1 (q_ref1_sound : GValue → Int → Int → Option (Bool × Int)) (p1 : GValue) (p2 : Int) : Nat → Int → Int → Option (Bool × Int)
  | 0, _, _ => none
  | k1 + 1, z2, x2 =>
    ift (decide (x2 < (p1.items.length : Int)))
      (bnd (at? p1.items x2) fun e1 =>
       bnd (q_ref1_sound e1 (IntKind.i64.wrap (p2 + (1 : Int))) z2) fun r2 =>
       ift (!r2.1)
         (some (false, r2.2))
         ((ref1_sound_l1 q_ref1_sound p1 p2 k1) r2.2 (IntKind.i64.wrap (x2 + (1 : Int)))))
      (ref1_sound_j3 z2)

def ref1_sound_j2 (q_ref1_sound : GValue → Int → Int → Option (Bool × Int)) (p1 : GValue) (p2 : Int) (z1 : Int) (x1 : Bool) : Option (Bool × Int) :=
    ift x1
      (some (false, z1))
      (ref1_sound_l1 q_ref1_sound p1 p2 BIG z1 (0 : Int))

def ref1_sound_j1 (q_ref1_sound : GValue → Int → Int → Option (Bool × Int)) (p1 : GValue) (p2 : Int) (z1 : Int) : Option (Bool × Int) :=
    ift (decide ((4 : Int) < p2))
      (ref1_sound_j2 q_ref1_sound p1 p2 z1 true)
      (ift (decide ((256 : Int) < z1))
         (ref1_sound_j2 q_ref1_sound p1 p2 z1 true)
         (bnd (ref1_alone p1) fun r1 =>
          ref1_sound_j2 q_ref1_sound p1 p2 z1 (!r1)))

def ref1_sound : Nat → GValue → Int → Int → Option (Bool × Int)
  | 0, _, _, _ => none
  | k0 + 1, p1, p2, p3 =>
    ift (p1.kind != (0 : Int))
      (ref1_sound_j1 (ref1_sound k0) p1 p2 (IntKind.i64.wrap (p3 + (1 : Int))))
      (ref1_sound_j1 (ref1_sound k0) p1 p2 p3)

abbrev qa1157 (p1 : GValue) : List CV := [ci p1.kind, ci p1.n, ci p1.scale, cst p1.s, cl eValue p1.items]
abbrev qa1160 (p1 : GValue) : List PV := [pi p1.kind, pi p1.n, pi p1.scale, .s (.string p1.s), .ro (eValue.els p1.items)]
abbrev qa1167 (e1 : GValue) : List CV := [ci e1.kind, ci e1.n, ci e1.scale, cst e1.s, cl eValue e1.items]
abbrev qa1181 (p1 : GValue) (p2 : Int) : Fr := [(1, vi p2), (2, .one (.pt 0 0 0 0)), (3, .one (.pv (.rp [(qa1160 p1)] 0 0))), (18, vb (decide ((4 : Int) < p2)))]

theorem c_ref1_sound : ∀ (k0 : Nat) (p1 : GValue) (p2 : Int) (p3 : Int) (r : (Bool × Int)), ref1_sound k0 p1 p2 p3 = some r → MC Tryd.prog 46 [.ag (qa1157 p1), vi p2, .one (.pt 0 0 0 0)] [.box [ci p3]] (vb r.1) [.box [ci r.2]]
 | 0, _, _, _, r, h => by rw [ref1_sound.eq_1] at h; cases h
 | k0 + 1, p1, p2, p3, r, h => by
  rw [ref1_sound.eq_2] at h
  refine MC.of 1 (n := 46) (fn := Tryd.f46) (c := cd Tryd.f46 []) (by kernel_rfl) (by kernel_rfl) (by kernel_rfl) (Nat.le_of_ble_eq_true rfl) rfl (zq fun K1 hK1 => zr (zg [] 2 [1,2,3] (zd (hK1 _ _ (zq fun K2 hK2 => ?_)))))
  have hJ1 : ∀ (z1 : Int), ref1_sound_j1 (ref1_sound k0) p1 p2 z1 = some r → ∀ fr1 st1, Sub 46 1 [] fr1 st1 [(1, vi p2), (2, .one (.pt 0 0 0 0)), (3, .one (.pv (.rp [(qa1160 p1)] 0 0)))] [.box [ci z1]] → K2 fr1 st1 := by
   intro z1 h fr1 st1 hS
   unfold ref1_sound_j1 at h
   refine hK2 _ _ (XW.sub hS ?_)
   refine zq fun K5 hK5 => zq fun K6 hK6 => ?_
   have hJ2 : ∀ (x1 : Bool), ref1_sound_j2 (ref1_sound k0) p1 p2 z1 x1 = some r → ∀ fr1 st1, Sub 46 1 [] fr1 st1 [(1, vi p2), (2, .one (.pt 0 0 0 0)), (3, .one (.pv (.rp [(qa1160 p1)] 0 0))), (28, vb x1)] [.box [ci z1]] → K6 fr1 st1 := by
    intro x1 h fr1 st1 hS
    unfold ref1_sound_j2 at h
    refine hK6 _ _ (XW.sub hS ?_)
    refine zC h (fun b10 h => ?_) (fun b10 h => ?_)
    ·refine zq fun K11 hK11 => zr (zv [] 1 [6] [] [(6, vb false)] [.box [ci z1]] (zd (hK11 _ _ (ze ?_))))
     obtain rfl := Option.some.inj h
     exact FinM.fin (.inr rfl) [] [vb false] [] (by kernel_rfl) trivial (by kernel_rfl) (by kernel_rfl) (.one (.rfl _ rfl))
    ·refine zs (hK5 _ _ (zq fun K12 hK12 => ?_))
     have hJ3 : ∀ (z3 : Int), ref1_sound_j3 z3 = some r → ∀ fr1 st1, Sub 46 1 [] fr1 st1 [] [.box [ci z3]] → K12 fr1 st1 := by
      intro z3 h fr1 st1 hS
      unfold ref1_sound_j3 at h
      refine hK12 _ _ (XW.sub hS ?_)
      refine zq fun K24 hK24 => zr (zv [] 1 [6] [] [(6, vb true)] [.box [ci z3]] (zd (hK24 _ _ (ze ?_))))
      obtain rfl := Option.some.inj h
      exact FinM.fin (.inr rfl) [] [vb true] [] (by kernel_rfl) trivial (by kernel_rfl) (by kernel_rfl) (.one (.rfl _ rfl))
     refine zq fun K13 hK13 => zr (zv [] 3 [1,2,3,31] [[pi p1.kind, pi p1.n, pi p1.scale, .s (.string p1.s), .ro (eValue.els p1.items)]] [(1, vi p2), (2, .one (.pt 0 0 0 0)), (3, .one (.pv (.rp [[pi p1.kind, pi p1.n, pi p1.scale, .s (.string p1.s), .ro (eValue.els p1.items)]] 0 0))), (31, vi ((eValue.els p1.items).length : Int))] [.box [ci z1]] ?_)
     rw [eValue.len p1.items]
     refine zg [] 1 [1,2,3,31,32] (zd (hK13 _ _ (zb 0 (XW.rounds' BIG (x := cd Tryd.f46 [1,1,1,0,1,0,0]) (by kernel_rfl) fun Q1 hQ1 => ?_))))
     have hL1 : ∀ (k1 : Nat) (z2 : Int) (x2 : Int), ref1_sound_l1 (ref1_sound k0) p1 p2 k1 z2 x2 = some r → XR Tryd.prog 46 1 [] (cd Tryd.f46 [1,1,1,0,1,0,0]) Q1 k1 [(1, vi p2), (2, .one (.pt 0 0 0 0)), (3, .one (.pv (.rp [(qa1160 p1)] 0 0))), (31, vi (p1.items.length : Int)), (32, vi x2)] [.box [ci z2]] := by
      intro k1
      induction k1 with
      | zero => intro z2 x2 h; rw [ref1_sound_l1.eq_1] at h; cases h
      | succ k1 ih1 =>
       intro z2 x2 h
       rw [ref1_sound_l1.eq_2] at h
       refine zq fun K14 hK14 => zr (zg [] 1 [1,2,3,31,32,33] (zd (hK14 _ _ (zq fun K15 hK15 => zC h (fun b16 h => ?_) (fun b16 h => ?_)))))
       ·refine zs (hK15 _ _ (zq fun K17 hK17 => zb 1 (zq fun K18 hK18 => zr (zg [] 2 [1,2,3,7,31,32] (zd ?_)))))
        refine hK18 _ _ (zq fun K19 hK19 => ?_)
        obtain ⟨e1, a20, h⟩ := zB h
        obtain ⟨r2, c21, h⟩ := zB h
        refine zr ?_
        refine zp [] 8 [1,2,3,31,32,39,41,42] [(qa1160 p1), [pi e1.kind, pi e1.n, pi e1.scale, .s (.string e1.s), .ro (eValue.els e1.items)]] [(1, vi p2), (2, .one (.pt 0 0 0 0)), (3, .one (.pv (.rp [(qa1160 p1)] 0 0))), (31, vi (p1.items.length : Int)), (32, vi x2), (39, .ag (qa1167 e1)), (41, vi (IntKind.i64.wrap (p2 + (1 : Int)))), (42, .one (.pt 0 0 0 0))] [.box [ci z2]] [([(qa1160 p1)] : List (List PV))[0]? = some (qa1160 p1), 0 ≤ x2 ∧ x2 < ((eValue.els p1.items).length : Int) ∧ elemsOk 5 (eValue.els p1.items), (eValue.els p1.items)[x2.toNat]? = some [pi e1.kind, pi e1.n, pi e1.scale, .s (.string e1.s), .ro (eValue.els e1.items)]] (⟨rfl, eValue.inb a20, ((eValue.get a20).trans (by cases e1; rfl)), trivial⟩) ?_
        refine XO.calm 46 [.ag (qa1167 e1), vi (IntKind.i64.wrap (p2 + (1 : Int))), .one (.pt 0 0 0 0)] [.box [ci z2]] [.box [ci r2.2]] (vb r2.1) [0] [(43, vb r2.1), (1, vi p2), (2, .one (.pt 0 0 0 0)), (3, .one (.pv (.rp [(qa1160 p1)] 0 0))), (31, vi (p1.items.length : Int)), (32, vi x2), (39, .ag (qa1167 e1)), (41, vi (IntKind.i64.wrap (p2 + (1 : Int)))), (42, .one (.pt 0 0 0 0))] [.box [ci r2.2]] (by kernel_rfl) (c_ref1_sound k0 _ _ _ _ c21) (by kernel_rfl) (by kernel_rfl) (by kernel_rfl) (by kernel_rfl) ?_
        refine zg [] 1 [1,2,3,31,32,44] (zd (hK19 _ _ (zC h (fun b22 h => ?_) (fun b22 h => ?_))))
        ·refine zq fun K23 hK23 => zr (zv [] 1 [6] [] [(6, vb false)] [.box [ci r2.2]] (zd (hK23 _ _ (ze (hQ1 _ _ _ ?_)))))
         obtain rfl := Option.some.inj h
         exact FinM.fin (.inr rfl) [] [vb false] [] (by kernel_rfl) trivial (by kernel_rfl) (by kernel_rfl) (.one (.rfl _ rfl))
        ·exact zs (hK17 _ _ (zr (zg [] 2 [1,2,3,31,32] (zd (XR.sub (zk [1,2,3,31,32]) (ih1 r2.2 (IntKind.i64.wrap (x2 + (1 : Int))) h))))))
       ·exact zx 0 (hQ1 _ _ _ (hJ3 z2 h _ _ (zk [])))
     exact XR.sub (zk [1,2,3,31,32]) (hL1 BIG z1 (0 : Int) h)
   rcases zW h with ⟨b7, h⟩ | ⟨b7, h⟩
   ·exact zr (zg [] 3 [1,2,3,18] (zt 18 b7 (zg [] 10 [1,2,3,28] (zd (hJ2 true h _ _ (zk [1,2,3,28]))))))
   ·rcases zW h with ⟨b8, h⟩ | ⟨b8, h⟩
    ·exact zr (zv [] 3 [1,2,3,18] [] (qa1181 p1 p2) [.box [ci z1]] (zt 18 b7 (zg [] 6 [1,2,3,24] (zt 24 b8 (zg [] 4 [1,2,3,28] (zd (hJ2 true h _ _ (zk [1,2,3,28]))))))))
    ·obtain ⟨r1, c9, h⟩ := zB h
     refine zr (zv [] 3 [1,2,3,18] [] (qa1181 p1 p2) [.box [ci z1]] (zt 18 b7 (zg [] 6 [1,2,3,24] (zt 24 b8 (zu [] 1 [1,2,3,24,25] [(qa1160 p1)] ?_)))))
     exact zl 67 [.ag (qa1157 p1)] (vb r1) [(26, vb r1), (1, vi p2), (2, .one (.pt 0 0 0 0)), (3, .one (.pv (.rp [(qa1160 p1)] 0 0))), (24, vb false), (25, .ag (qa1157 p1))] (c_ref1_alone _ _ c9) (zg [] 2 [1,2,3,28] (zd (hJ2 (!r1) h _ _ (zk [1,2,3,28]))))
  refine zq fun K3 hK3 => zr (zu [] 3 [1,2,3,10] [(qa1160 p1)] (zd (hK3 _ _ (zC h (fun b4 h => ?_) (fun b4 h => ?_)))))
  ·exact zr (zv [] 6 [1,2,3] [] [(1, vi p2), (2, .one (.pt 0 0 0 0)), (3, .one (.pv (.rp [(qa1160 p1)] 0 0)))] [.box [ci (IntKind.i64.wrap (p3 + (1 : Int)))]] (zd (hJ1 (IntKind.i64.wrap (p3 + (1 : Int))) h _ _ (zk [1,2,3]))))
  ·exact zs (hJ1 p3 h _ _ (zk [1,2,3]))

def ref1_Sound (p1 : GValue) : Option Bool :=
    bnd (ref1_sound BIG p1 (1 : Int) (0 : Int)) fun r1 =>
    some r1.1

abbrev qa1184 (p1 : GValue) : List CV := [ci p1.kind, ci p1.n, ci p1.scale, cst p1.s, cl eValue p1.items]

theorem c_ref1_Sound (p1 : GValue) (r : Bool) (h : ref1_Sound p1 = some r) : PC Tryd.prog 24 [.ag (qa1184 p1)] (vb r) := by
 unfold ref1_Sound at h
 refine zF 6 Tryd.f24 (zq fun K1 hK1 => zr (zg [3] 2 [1] (zd (hK1 _ _ (zq fun K2 hK2 => zr ?_)))))
 refine zg [3] 2 [1,3] (zd (hK2 _ _ (zq fun K3 hK3 => ?_)))
 obtain ⟨r1, c4, h⟩ := zB h
 refine zr (zv [3] 1 [3,4] [[pi p1.kind, pi p1.n, pi p1.scale, .s (.string p1.s), .ro (eValue.els p1.items)]] [(3, .one (.pt 0 0 0 0)), (4, .ag (qa1184 p1))] [.box [ci (0 : Int)]] ?_)
 refine XO.calm 46 [.ag (qa1184 p1), vi (1 : Int), .one (.pt 0 0 0 0)] [.box [ci (0 : Int)]] [.box [ci r1.2]] (vb r1.1) [0] [(5, vb r1.1), (3, .one (.pt 0 0 0 0)), (4, .ag (qa1184 p1))] [.box [ci r1.2]] (by kernel_rfl) (c_ref1_sound BIG _ _ _ _ c4) (by kernel_rfl) (by kernel_rfl) (by kernel_rfl) (by kernel_rfl) (zg [3] 1 [2] (zd (hK3 _ _ (ze ?_))))
 obtain rfl := Option.some.inj h
 exact zf [vb r1.1] (.one (.rfl _ rfl))

def ref1_wideOf_j1 (rec1 : List Int → Int → Option RWide) (l1 : List Int) (x1 : Int) (x2 : Int) : Option RWide :=
    grd (l1.length + 1 ≤ 4294967296) <|
    rec1 (l1 ++ [x2]) (IntKind.i64.wrap (x1.tdiv (10 : Int)))

def ref1_wideOf_j2 (p1 : Int) (l2 : List Int) : Option RWide :=
    some (RWide.mk (decide (p1 < (0 : Int))) l2)

def ref1_wideOf_l1 (p1 : Int) : Nat → List Int → Int → Option RWide
  | 0, _, _ => none
  | k1 + 1, l1, x1 =>
    ift (x1 != (0 : Int))
      (ift (decide ((x1.tmod (10 : Int)) < (0 : Int)))
         (ref1_wideOf_j1 (ref1_wideOf_l1 p1 k1) l1 x1 (IntKind.i64.wrap (0 - (x1.tmod (10 : Int)))))
         (ref1_wideOf_j1 (ref1_wideOf_l1 p1 k1) l1 x1 (x1.tmod (10 : Int))))
      (ref1_wideOf_j2 p1 l1)

def ref1_wideOf (p1 : Int) : Option RWide :=
    ref1_wideOf_l1 p1 BIG [] p1

abbrev qa1194 : List CV := [cb false, .pv (.s (.slice none 0 0))]

theorem c_ref1_wideOf (p1 : Int) (r : RWide) (h : ref1_wideOf p1 = some r) : PC Tryd.prog 36 [vi p1] (.ag [cb r.below, cl eI r.d]) := by
 unfold ref1_wideOf at h
 refine zF 25 Tryd.f36 (zq fun K1 hK1 => zr (zg [2] 1 [0,2] (zd (hK1 _ _ (zq fun K2 hK2 => zr ?_)))))
 refine zg [2] 1 [0,2,3] (zd (hK2 _ _ (zq fun K3 hK3 => ?_)))
 have hJ2 : ∀ (l2 : List Int), ref1_wideOf_j2 p1 l2 = some r → ∀ fr1 st1, Sub 25 0 [] fr1 st1 [(0, vi p1), (2, .one (.pt 0 0 0 0)), (3, .one (.sl 1 1 0 l2.length))] [.box qa1194, .arr 1 (eI.els l2)] → K3 fr1 st1 := by
  intro l2 h fr1 st1 hS
  unfold ref1_wideOf_j2 at h
  refine hK3 _ _ (XW.sub hS ?_)
  refine zq fun K14 hK14 => zr (zg [2] 5 [2] (zd (hK14 _ _ (ze ?_))))
  obtain rfl := Option.some.inj h
  exact zf [.ag [cb (decide (p1 < (0 : Int))), .sl 1 1 0 l2.length]] (.ag (.cons (.rfl _ rfl) (.cons (cf_sl eI l2 rfl rfl rfl) .nil)))
 refine zq fun K4 hK4 => zr (zv [2] 2 [0,2,3,4] [] [(0, vi p1), (2, .one (.pt 0 0 0 0)), (3, .one (.pv (.s (.slice none 0 0)))), (4, vi p1)] [.box [cb false, .pv (.s (.slice none 0 0))]] (zd (hK4 _ _ (zb 0 (XW.sub (Sub.list (t := 3) (sz := 1) rfl) (XW.rounds' BIG (x := cd Tryd.f36 [1,1,0,1,0,0]) (by kernel_rfl) fun Q1 hQ1 => ?_))))))
 have hL1 : ∀ (k1 : Nat) (l1 : List Int) (x1 : Int), ref1_wideOf_l1 p1 k1 l1 x1 = some r → XR Tryd.prog 25 0 [] (cd Tryd.f36 [1,1,0,1,0,0]) Q1 k1 [(0, vi p1), (2, .one (.pt 0 0 0 0)), (3, .one (.sl 1 1 0 l1.length)), (4, vi x1)] [.box qa1194, .arr 1 (eI.els l1)] := by
  intro k1
  induction k1 with
  | zero => intro l1 x1 h; rw [ref1_wideOf_l1.eq_1] at h; cases h
  | succ k1 ih1 =>
   intro l1 x1 h
   rw [ref1_wideOf_l1.eq_2] at h
   refine zq fun K5 hK5 => zq fun K6 hK6 => zr (zg [2] 2 [0,2,3,4,8] (zd (hK6 _ _ (zC h (fun b7 h => ?_) (fun b7 h => ?_)))))
   ·refine zs (hK5 _ _ (zq fun K8 hK8 => zb 1 (zq fun K9 hK9 => zr (zo [2] 3 [0,2,3,4,5] [] [(10 : Int) ≠ 0] (⟨by decide, trivial⟩) (zd ?_)))))
    refine hK9 _ _ (zq fun K10 hK10 => ?_)
    have hJ1 : ∀ (x2 : Int), ref1_wideOf_j1 (ref1_wideOf_l1 p1 k1) l1 x1 x2 = some r → ∀ fr1 st1, Sub 25 0 [] fr1 st1 [(0, vi p1), (2, .one (.pt 0 0 0 0)), (3, .one (.sl 1 1 0 l1.length)), (4, vi x1), (5, vi x2)] [.box qa1194, .arr 1 (eI.els l1)] → K10 fr1 st1 := by
     intro x2 h fr1 st1 hS
     unfold ref1_wideOf_j1 at h
     refine hK10 _ _ (XW.sub hS ?_)
     obtain ⟨g13, h⟩ := zG h
     refine zr (zp [2] 4 [0,2,4,20] [] [(0, vi p1), (2, .one (.pt 0 0 0 0)), (4, vi x1), (20, .one (.sl 1 1 0 (l1.length + (eI.els [x2]).length)))] [.box [cb false, .pv (.s (.slice none 0 0))], .arr 1 (eI.els l1 ++ eI.els [x2])] [elemsOk 1 (eI.els [x2]), l1.length = (eI.els l1).length, l1.length + (eI.els [x2]).length ≤ 4294967296] (⟨eI.ok _, (eI.len l1).symm, g13, trivial⟩) ?_)
     rw [show l1.length + (eI.els [x2]).length = (l1 ++ [x2]).length from eI.lapp _ _]
     rw [show eI.els l1 ++ eI.els [x2] = eI.els (l1 ++ [x2]) from eI.app2 _ _]
     exact zg [2] 1 [0,2,3,4] (zd (hK8 _ _ (zr (zo [2] 3 [0,2,3,4] [] [(10 : Int) ≠ 0] (⟨by decide, trivial⟩) (zd (XR.sub (zk [0,2,3,4]) (ih1 (l1 ++ [x2]) (IntKind.i64.wrap (x1.tdiv (10 : Int))) h)))))))
    refine zq fun K11 hK11 => zr (zv [2] 2 [0,2,3,4,5,14] [] [(0, vi p1), (2, .one (.pt 0 0 0 0)), (3, .one (.sl 1 1 0 l1.length)), (4, vi x1), (5, vi (x1.tmod (10 : Int))), (14, vb (decide ((x1.tmod (10 : Int)) < (0 : Int))))] [.box qa1194, .arr 1 (eI.els l1)] (zd (hK11 _ _ (zC h (fun b12 h => ?_) (fun b12 h => ?_)))))
    ·exact zr (zg [2] 3 [0,2,3,4,5] (zd (hJ1 (IntKind.i64.wrap (0 - (x1.tmod (10 : Int)))) h _ _ (zk [0,2,3,4,5]))))
    ·exact zs (hJ1 (x1.tmod (10 : Int)) h _ _ (zk [0,2,3,4,5]))
   ·exact zx 0 (hQ1 _ _ _ (hJ2 l1 h _ _ (zk [0,2,3])))
 exact XR.sub (zk [0,2,3,4]) (hL1 BIG [] p1 h)

def ref1_plus_j3 (rec1 : List Int → Int → Int → Option (List Int)) (l1 : List Int) (x2 : Int) (x5 : Int) : Option (List Int) :=
    grd (l1.length + 1 ≤ 4294967296) <|
    rec1 (l1 ++ [(x5.tmod (10 : Int))]) (IntKind.i64.wrap (x5.tdiv (10 : Int))) (IntKind.i64.wrap (x2 + (1 : Int)))

def ref1_plus_j2 (rec1 : List Int → Int → Int → Option (List Int)) (p2 : (List Int)) (l1 : List Int) (x2 : Int) (x4 : Int) : Option (List Int) :=
    ift (decide (x2 < (p2.length : Int)))
      (bnd (at? p2 x2) fun e2 =>
       ref1_plus_j3 rec1 l1 x2 (IntKind.i64.wrap (x4 + e2)))
      (ref1_plus_j3 rec1 l1 x2 x4)

def ref1_plus_j4 (l2 : List Int) : Option (List Int) :=
    some l2

def ref1_plus_j1 (rec1 : List Int → Int → Int → Option (List Int)) (p1 : (List Int)) (p2 : (List Int)) (l1 : List Int) (x1 : Int) (x2 : Int) (x3 : Bool) : Option (List Int) :=
    ift x3
      (ift (decide (x2 < (p1.length : Int)))
         (bnd (at? p1 x2) fun e1 =>
          ref1_plus_j2 rec1 p2 l1 x2 (IntKind.i64.wrap (x1 + e1)))
         (ref1_plus_j2 rec1 p2 l1 x2 x1))
      (ref1_plus_j4 l1)

def ref1_plus_l1 (p1 : (List Int)) (p2 : (List Int)) : Nat → List Int → Int → Int → Option (List Int)
  | 0, _, _, _ => none
  | k1 + 1, l1, x1, x2 =>
    ift (decide (x2 < (p1.length : Int)))
      (ref1_plus_j1 (ref1_plus_l1 p1 p2 k1) p1 p2 l1 x1 x2 true)
      (ift (decide (x2 < (p2.length : Int)))
         (ref1_plus_j1 (ref1_plus_l1 p1 p2 k1) p1 p2 l1 x1 x2 true)
         (ref1_plus_j1 (ref1_plus_l1 p1 p2 k1) p1 p2 l1 x1 x2 (decide ((0 : Int) < x1))))

def ref1_plus (p1 : (List Int)) (p2 : (List Int)) : Option (List Int) :=
    ref1_plus_l1 p1 p2 BIG [] (0 : Int) (0 : Int)


theorem c_ref1_plus (p1 : (List Int)) (p2 : (List Int)) (r : (List Int)) (h : ref1_plus p1 p2 = some r) : PC Tryd.prog 60 [vl eI p1, vl eI p2] (vl eI r) := by
 unfold ref1_plus at h
 refine zF 54 Tryd.f60 (zq fun K1 hK1 => zr (zg [] 1 [0,1] (zd (hK1 _ _ (zq fun K2 hK2 => zr ?_)))))
 refine zg [] 1 [0,1,5] (zd (hK2 _ _ (zq fun K3 hK3 => zr (zv [] 1 [0,1,5,6] [] [(0, vl eI p1), (1, vl eI p2), (5, .one (.pv (.s (.slice none 0 0)))), (6, vi (0 : Int))] [] (zd (hK3 _ _ ?_))))))
 refine zq fun K4 hK4 => ?_
 have hJ4 : ∀ (l2 : List Int), ref1_plus_j4 l2 = some r → ∀ fr1 st1, Sub 54 0 [] fr1 st1 [(5, .one (.sl 0 1 0 l2.length))] [.arr 1 (eI.els l2)] → K4 fr1 st1 := by
  intro l2 h fr1 st1 hS
  unfold ref1_plus_j4 at h
  refine hK4 _ _ (XW.sub hS ?_)
  refine zq fun K23 hK23 => zr (zg [] 2 [4] (zd (hK23 _ _ (ze ?_))))
  obtain rfl := Option.some.inj h
  exact zf [.one (.sl 0 1 0 l2.length)] (.one (cf_sl eI l2 rfl rfl rfl))
 refine zq fun K5 hK5 => zr (zv [] 1 [0,1,5,6,7] [] [(0, vl eI p1), (1, vl eI p2), (5, .one (.pv (.s (.slice none 0 0)))), (6, vi (0 : Int)), (7, vi (0 : Int))] [] (zd (hK5 _ _ (zb 0 (XW.sub (Sub.list (t := 5) (sz := 1) rfl) (XW.rounds' BIG (x := cd Tryd.f60 [1,1,1,0,1,0,0]) (by kernel_rfl) fun Q1 hQ1 => ?_))))))
 have hL1 : ∀ (k1 : Nat) (l1 : List Int) (x1 : Int) (x2 : Int), ref1_plus_l1 p1 p2 k1 l1 x1 x2 = some r → XR Tryd.prog 54 0 [] (cd Tryd.f60 [1,1,1,0,1,0,0]) Q1 k1 [(0, vl eI p1), (1, vl eI p2), (5, .one (.sl 0 1 0 l1.length)), (6, vi x1), (7, vi x2)] [.arr 1 (eI.els l1)] := by
  intro k1
  induction k1 with
  | zero => intro l1 x1 x2 h; rw [ref1_plus_l1.eq_1] at h; cases h
  | succ k1 ih1 =>
   intro l1 x1 x2 h
   rw [ref1_plus_l1.eq_2] at h
   refine zq fun K6 hK6 => zq fun K7 hK7 => ?_
   have hJ1 : ∀ (x3 : Bool), ref1_plus_j1 (ref1_plus_l1 p1 p2 k1) p1 p2 l1 x1 x2 x3 = some r → ∀ fr1 st1, Sub 54 0 [] fr1 st1 [(0, vl eI p1), (1, vl eI p2), (5, .one (.sl 0 1 0 l1.length)), (6, vi x1), (7, vi x2), (22, vb x3)] [.arr 1 (eI.els l1)] → K7 fr1 st1 := by
    intro x3 h fr1 st1 hS
    unfold ref1_plus_j1 at h
    refine hK7 _ _ (XW.sub hS ?_)
    refine zC h (fun b10 h => ?_) (fun b10 h => ?_)
    ·refine zs (hK6 _ _ (zq fun K11 hK11 => zb 1 (zq fun K12 hK12 => zr (zg [] 2 [0,1,5,7,8] (zd ?_)))))
     refine hK12 _ _ (zq fun K13 hK13 => ?_)
     have hJ2 : ∀ (x4 : Int), ref1_plus_j2 (ref1_plus_l1 p1 p2 k1) p2 l1 x2 x4 = some r → ∀ fr1 st1, Sub 54 0 [] fr1 st1 [(0, vl eI p1), (1, vl eI p2), (5, .one (.sl 0 1 0 l1.length)), (7, vi x2), (8, vi x4)] [.arr 1 (eI.els l1)] → K13 fr1 st1 := by
      intro x4 h fr1 st1 hS
      unfold ref1_plus_j2 at h
      refine hK13 _ _ (XW.sub hS ?_)
      refine zq fun K17 hK17 => ?_
      have hJ3 : ∀ (x5 : Int), ref1_plus_j3 (ref1_plus_l1 p1 p2 k1) l1 x2 x5 = some r → ∀ fr1 st1, Sub 54 0 [] fr1 st1 [(0, vl eI p1), (1, vl eI p2), (5, .one (.sl 0 1 0 l1.length)), (7, vi x2), (8, vi x5)] [.arr 1 (eI.els l1)] → K17 fr1 st1 := by
       intro x5 h fr1 st1 hS
       unfold ref1_plus_j3 at h
       refine hK17 _ _ (XW.sub hS ?_)
       refine zq fun K21 hK21 => ?_
       obtain ⟨g22, h⟩ := zG h
       refine zr (zp [] 5 [0,1,7,8,50] [] [(0, vl eI p1), (1, vl eI p2), (7, vi x2), (8, vi x5), (50, .one (.sl 0 1 0 (l1.length + (eI.els [(x5.tmod (10 : Int))]).length)))] [.arr 1 (eI.els l1 ++ eI.els [(x5.tmod (10 : Int))])] [(10 : Int) ≠ 0, elemsOk 1 (eI.els [(x5.tmod (10 : Int))]), l1.length = (eI.els l1).length, l1.length + (eI.els [(x5.tmod (10 : Int))]).length ≤ 4294967296] (⟨by decide, eI.ok _, (eI.len l1).symm, g22, trivial⟩) ?_)
       rw [show l1.length + (eI.els [(x5.tmod (10 : Int))]).length = (l1 ++ [(x5.tmod (10 : Int))]).length from eI.lapp _ _]
       rw [show eI.els l1 ++ eI.els [(x5.tmod (10 : Int))] = eI.els (l1 ++ [(x5.tmod (10 : Int))]) from eI.app2 _ _]
       refine zg [] 1 [0,1,5,7,8] (zd (hK21 _ _ (zr (zo [] 3 [0,1,5,6,7] [] [(10 : Int) ≠ 0] (⟨by decide, trivial⟩) (zd (hK11 _ _ (zr ?_)))))))
       exact zv [] 3 [0,1,5,6,7] [] [(0, vl eI p1), (1, vl eI p2), (5, .one (.sl 0 1 0 ((l1 ++ [(x5.tmod (10 : Int))]).length))), (6, vi (IntKind.i64.wrap (x5.tdiv (10 : Int)))), (7, vi (IntKind.i64.wrap (x2 + (1 : Int))))] [.arr 1 (eI.els (l1 ++ [(x5.tmod (10 : Int))]))] (zd (XR.sub (zk [0,1,5,6,7]) (ih1 (l1 ++ [(x5.tmod (10 : Int))]) (IntKind.i64.wrap (x5.tdiv (10 : Int))) (IntKind.i64.wrap (x2 + (1 : Int))) h)))
      refine zq fun K18 hK18 => zr (zv [] 3 [0,1,5,7,8,36,38] [] [(0, vl eI p1), (1, vl eI p2), (5, .one (.sl 0 1 0 l1.length)), (7, vi x2), (8, vi x4), (36, vi x2), (38, vi ((eI.els p2).length : Int))] [.arr 1 (eI.els l1)] ?_)
      rw [eI.len p2]
      refine zg [] 1 [0,1,5,7,8,39] (zd (hK18 _ _ (zC h (fun b19 h => ?_) (fun b19 h => ?_))))
      ·obtain ⟨e2, a20, h⟩ := zB h
       exact zr (zo [] 7 [0,1,5,7,8] [[pi e2]] [0 ≤ x2 ∧ x2 < ((eI.els p2).length : Int) ∧ elemsOk 1 (eI.els p2), (eI.els p2)[x2.toNat]? = some [pi e2]] (⟨eI.inb a20, (eI.get a20), trivial⟩) (zd (hJ3 (IntKind.i64.wrap (x4 + e2)) h _ _ (zk [0,1,5,7,8]))))
      ·exact zs (hJ3 x4 h _ _ (zk [0,1,5,7,8]))
     refine zq fun K14 hK14 => zr (zv [] 3 [0,1,5,7,8,26,28] [] [(0, vl eI p1), (1, vl eI p2), (5, .one (.sl 0 1 0 l1.length)), (7, vi x2), (8, vi x1), (26, vi x2), (28, vi ((eI.els p1).length : Int))] [.arr 1 (eI.els l1)] ?_)
     rw [eI.len p1]
     refine zg [] 1 [0,1,5,7,8,29] (zd (hK14 _ _ (zC h (fun b15 h => ?_) (fun b15 h => ?_))))
     ·obtain ⟨e1, a16, h⟩ := zB h
      exact zr (zo [] 7 [0,1,5,7,8] [[pi e1]] [0 ≤ x2 ∧ x2 < ((eI.els p1).length : Int) ∧ elemsOk 1 (eI.els p1), (eI.els p1)[x2.toNat]? = some [pi e1]] (⟨eI.inb a16, (eI.get a16), trivial⟩) (zd (hJ2 (IntKind.i64.wrap (x1 + e1)) h _ _ (zk [0,1,5,7,8]))))
     ·exact zs (hJ2 x1 h _ _ (zk [0,1,5,7,8]))
    ·exact zx 0 (hQ1 _ _ _ (hJ4 l1 h _ _ (zk [5])))
   rcases zW h with ⟨b8, h⟩ | ⟨b8, h⟩
   ·refine zr (zv [] 3 [0,1,5,6,7,9,11] [] [(0, vl eI p1), (1, vl eI p2), (5, .one (.sl 0 1 0 l1.length)), (6, vi x1), (7, vi x2), (9, vi x2), (11, vi ((eI.els p1).length : Int))] [.arr 1 (eI.els l1)] ?_)
    rw [eI.len p1]
    exact zg [] 2 [0,1,5,6,7,13] (zt 13 b8 (zg [] 9 [0,1,5,6,7,22] (zd (hJ1 true h _ _ (zk [0,1,5,6,7,22])))))
   ·rcases zW h with ⟨b9, h⟩ | ⟨b9, h⟩
    ·refine zr (zv [] 3 [0,1,5,6,7,9,11] [] [(0, vl eI p1), (1, vl eI p2), (5, .one (.sl 0 1 0 l1.length)), (6, vi x1), (7, vi x2), (9, vi x2), (11, vi ((eI.els p1).length : Int))] [.arr 1 (eI.els l1)] ?_)
     rw [eI.len p1]
     refine zg [] 2 [0,1,5,6,7,13] (zt 13 b8 (zv [] 3 [0,1,5,6,7,13,14,16] [] [(0, vl eI p1), (1, vl eI p2), (5, .one (.sl 0 1 0 l1.length)), (6, vi x1), (7, vi x2), (13, vb false), (14, vi x2), (16, vi ((eI.els p2).length : Int))] [.arr 1 (eI.els l1)] ?_))
     rw [eI.len p2]
     exact zg [] 3 [0,1,5,6,7,19] (zt 19 b9 (zg [] 3 [0,1,5,6,7,22] (zd (hJ1 true h _ _ (zk [0,1,5,6,7,22])))))
    ·refine zr (zv [] 3 [0,1,5,6,7,9,11] [] [(0, vl eI p1), (1, vl eI p2), (5, .one (.sl 0 1 0 l1.length)), (6, vi x1), (7, vi x2), (9, vi x2), (11, vi ((eI.els p1).length : Int))] [.arr 1 (eI.els l1)] ?_)
     rw [eI.len p1]
     refine zg [] 2 [0,1,5,6,7,13] (zt 13 b8 (zv [] 3 [0,1,5,6,7,13,14,16] [] [(0, vl eI p1), (1, vl eI p2), (5, .one (.sl 0 1 0 l1.length)), (6, vi x1), (7, vi x2), (13, vb false), (14, vi x2), (16, vi ((eI.els p2).length : Int))] [.arr 1 (eI.els l1)] ?_))
     rw [eI.len p2]
     exact zg [] 3 [0,1,5,6,7,19] (zt 19 b9 (zg [] 3 [0,1,5,6,7,22] (zd (hJ1 (decide ((0 : Int) < x1)) h _ _ (zk [0,1,5,6,7,22])))))
 exact XR.sub (zk [0,1,5,6,7]) (hL1 BIG [] (0 : Int) (0 : Int) h)

def ref1_cut_j3 (x3 : List Int) (z1 : Bool) : Option RWide :=
    some (RWide.mk z1 x3)

def ref1_cut_j2 (p1 : Bool) (x3 : List Int) : Option RWide :=
    ift p1
      (ref1_cut_j3 x3 (decide ((0 : Int) < (x3.length : Int))))
      (ref1_cut_j3 x3 false)

def ref1_cut_j1 (rec1 : List Int → Option RWide) (p1 : Bool) (x1 : List Int) (x2 : Bool) : Option RWide :=
    ift x2
      (grd (0 ≤ (0 : Int) ∧ (0 : Int) ≤ (IntKind.i64.wrap ((x1.length : Int) - (1 : Int))) ∧ (IntKind.i64.wrap ((x1.length : Int) - (1 : Int))) ≤ (x1.length : Int)) <|
       rec1 ((x1.drop (0 : Int).toNat).take ((IntKind.i64.wrap ((x1.length : Int) - (1 : Int))).toNat - (0 : Int).toNat)))
      (ref1_cut_j2 p1 x1)

def ref1_cut_l1 (p1 : Bool) : Nat → List Int → Option RWide
  | 0, _ => none
  | k1 + 1, x1 =>
    ift (decide ((0 : Int) < (x1.length : Int)))
      (bnd (at? x1 (IntKind.i64.wrap ((x1.length : Int) - (1 : Int)))) fun e1 =>
       ref1_cut_j1 (ref1_cut_l1 p1 k1) p1 x1 (e1 == (0 : Int)))
      (ref1_cut_j1 (ref1_cut_l1 p1 k1) p1 x1 false)

def ref1_cut (p1 : Bool) (p2 : (List Int)) : Option RWide :=
    ref1_cut_l1 p1 BIG p2

abbrev qa1215 : List CV := [cb false, .pv (.s (.slice none 0 0))]

theorem c_ref1_cut (p1 : Bool) (p2 : (List Int)) (r : RWide) (h : ref1_cut p1 p2 = some r) : PC Tryd.prog 61 [vb p1, vl eI p2] (.ag [cb r.below, cl eI r.d]) := by
 unfold ref1_cut at h
 refine zF 30 Tryd.f61 (zq fun K1 hK1 => zr (zg [4] 1 [0,1,4] (zd (hK1 _ _ (zq fun K2 hK2 => ?_)))))
 have hJ2 : ∀ (x3 : List Int), ref1_cut_j2 p1 x3 = some r → ∀ fr1 st1, Sub 30 0 [] fr1 st1 [(0, vb p1), (1, vl eI x3), (4, .one (.pt 0 0 0 0))] [.box qa1215] → K2 fr1 st1 := by
  intro x3 h fr1 st1 hS
  unfold ref1_cut_j2 at h
  refine hK2 _ _ (XW.sub hS ?_)
  refine zq fun K9 hK9 => ?_
  have hJ3 : ∀ (z1 : Bool), ref1_cut_j3 x3 z1 = some r → ∀ fr1 st1, Sub 30 0 [] fr1 st1 [(4, .one (.pt 0 0 0 0))] [.box [cb z1, cl eI x3]] → K9 fr1 st1 := by
   intro z1 h fr1 st1 hS
   unfold ref1_cut_j3 at h
   refine hK9 _ _ (XW.sub hS ?_)
   refine ze ?_
   obtain rfl := Option.some.inj h
   exact zf [.ag [cb z1, cl eI x3]] (.ag (.cons (.rfl _ rfl) (.cons (.rfl _ rfl) .nil)))
  rcases zW h with ⟨b10, h⟩ | ⟨b10, h⟩
  ·refine zr (zg [4] 2 [1,4,23] (zt 23 b10 (zv [4] 2 [1,4,23,25] [] [(1, vl eI x3), (4, .one (.pt 0 0 0 0)), (23, vb true), (25, vi ((eI.els x3).length : Int))] [.box [cb false, .pv (.s (.slice none 0 0))]] ?_)))
   rw [eI.len x3]
   exact zg [4] 5 [4] (zd (hJ3 (decide ((0 : Int) < (x3.length : Int))) h _ _ (zk [4])))
  ·exact zr (zg [4] 2 [1,4,23] (zt 23 b10 (zv [4] 7 [4] [] [(4, .one (.pt 0 0 0 0))] [.box [cb false, cl eI x3]] (zd (hJ3 false h _ _ (zk [4]))))))
 refine zb 0 (XW.rounds' BIG (x := cd Tryd.f61 [1,0,0,0]) (by kernel_rfl) fun Q1 hQ1 => ?_)
 have hL1 : ∀ (k1 : Nat) (x1 : List Int), ref1_cut_l1 p1 k1 x1 = some r → XR Tryd.prog 30 0 [] (cd Tryd.f61 [1,0,0,0]) Q1 k1 [(0, vb p1), (1, vl eI x1), (4, .one (.pt 0 0 0 0))] [.box qa1215] := by
  intro k1
  induction k1 with
  | zero => intro x1 h; rw [ref1_cut_l1.eq_1] at h; cases h
  | succ k1 ih1 =>
   intro x1 h
   rw [ref1_cut_l1.eq_2] at h
   refine zq fun K3 hK3 => zq fun K4 hK4 => ?_
   have hJ1 : ∀ (x2 : Bool), ref1_cut_j1 (ref1_cut_l1 p1 k1) p1 x1 x2 = some r → ∀ fr1 st1, Sub 30 0 [] fr1 st1 [(0, vb p1), (1, vl eI x1), (4, .one (.pt 0 0 0 0)), (16, vb x2)] [.box qa1215] → K4 fr1 st1 := by
    intro x2 h fr1 st1 hS
    unfold ref1_cut_j1 at h
    refine hK4 _ _ (XW.sub hS ?_)
    refine zC h (fun b7 h => ?_) (fun b7 h => ?_)
    ·refine zs (hK3 _ _ (zb 1 ?_))
     obtain ⟨g8, h⟩ := zG h
     refine zr (zv [4] 3 [0,4,17,19] [] [(0, vb p1), (4, .one (.pt 0 0 0 0)), (17, vl eI x1), (19, vi ((eI.els x1).length : Int))] [.box [cb false, .pv (.s (.slice none 0 0))]] ?_)
     rw [eI.len x1]
     refine zp [4] 2 [0,4,21] [] [(0, vb p1), (4, .one (.pt 0 0 0 0)), (21, .one (.pv (.ro (((eI.els x1).drop (0 : Int).toNat).take ((IntKind.i64.wrap ((x1.length : Int) - (1 : Int))).toNat - (0 : Int).toNat)))))] [.box [cb false, .pv (.s (.slice none 0 0))]] [(0 ≤ (0 : Int) ∧ (0 : Int) ≤ (IntKind.i64.wrap ((x1.length : Int) - (1 : Int))) ∧ (IntKind.i64.wrap ((x1.length : Int) - (1 : Int))) ≤ ((eI.els x1).length : Int)) ∧ elemsOk 1 (eI.els x1)] (⟨eI.cutOk g8, trivial⟩) ?_
     rw [show ((eI.els x1).drop (0 : Int).toNat).take ((IntKind.i64.wrap ((x1.length : Int) - (1 : Int))).toNat - (0 : Int).toNat) = eI.els ((x1.drop (0 : Int).toNat).take ((IntKind.i64.wrap ((x1.length : Int) - (1 : Int))).toNat - (0 : Int).toNat)) from eI.cut _ _ _]
     exact zg [4] 1 [0,1,4] (zd (XR.sub (zk [0,1,4]) (ih1 ((x1.drop (0 : Int).toNat).take ((IntKind.i64.wrap ((x1.length : Int) - (1 : Int))).toNat - (0 : Int).toNat)) h)))
    ·exact zx 0 (hQ1 _ _ _ (hJ2 x1 h _ _ (zk [0,1,4])))
   rcases zW h with ⟨b5, h⟩ | ⟨b5, h⟩
   ·obtain ⟨e1, a6, h⟩ := zB h
    refine zr (zv [4] 2 [0,1,4,6] [] [(0, vb p1), (1, vl eI x1), (4, .one (.pt 0 0 0 0)), (6, vi ((eI.els x1).length : Int))] [.box [cb false, .pv (.s (.slice none 0 0))]] ?_)
    rw [eI.len x1]
    refine zg [4] 2 [0,1,4,8] (zt 8 b5 (zv [4] 3 [0,1,4,8,9,11] [] [(0, vb p1), (1, vl eI x1), (4, .one (.pt 0 0 0 0)), (8, vb true), (9, vl eI x1), (11, vi ((eI.els x1).length : Int))] [.box [cb false, .pv (.s (.slice none 0 0))]] ?_))
    rw [eI.len x1]
    exact zo [4] 5 [0,1,4,16] [[pi e1]] [0 ≤ (IntKind.i64.wrap ((x1.length : Int) - (1 : Int))) ∧ (IntKind.i64.wrap ((x1.length : Int) - (1 : Int))) < ((eI.els x1).length : Int) ∧ elemsOk 1 (eI.els x1), (eI.els x1)[(IntKind.i64.wrap ((x1.length : Int) - (1 : Int))).toNat]? = some [pi e1]] (⟨eI.inb a6, (eI.get a6), trivial⟩) (zd (hJ1 (e1 == (0 : Int)) h _ _ (zk [0,1,4,16])))
   ·refine zr (zv [4] 2 [0,1,4,6] [] [(0, vb p1), (1, vl eI x1), (4, .one (.pt 0 0 0 0)), (6, vi ((eI.els x1).length : Int))] [.box [cb false, .pv (.s (.slice none 0 0))]] ?_)
    rw [eI.len x1]
    exact zg [4] 2 [0,1,4,8] (zt 8 b5 (zg [4] 8 [0,1,4,16] (zd (hJ1 false h _ _ (zk [0,1,4,16])))))
 exact XR.sub (zk [0,1,4]) (hL1 BIG p2 h)

def ref1_most_j1 : Option Int :=
    some (0 : Int)

def ref1_most_l1 (p1 : (List Int)) (p2 : (List Int)) : Nat → Int → Option Int
  | 0, _ => none
  | k1 + 1, x1 =>
    ift (decide ((0 : Int) ≤ x1))
      (bnd (at? p1 x1) fun e1 =>
       bnd (at? p2 x1) fun e2 =>
       ift (e1 != e2)
         (some (IntKind.i64.wrap (e1 - e2)))
         ((ref1_most_l1 p1 p2 k1) (IntKind.i64.wrap (x1 - (1 : Int)))))
      (ref1_most_j1)

def ref1_most (p1 : (List Int)) (p2 : (List Int)) : Option Int :=
    ift ((p1.length : Int) != (p2.length : Int))
      (some (IntKind.i64.wrap ((p1.length : Int) - (p2.length : Int))))
      (ref1_most_l1 p1 p2 BIG (IntKind.i64.wrap ((p1.length : Int) - (1 : Int))))

abbrev qa1229 (p1 : (List Int)) (p2 : (List Int)) (x1 : Int) (e1 : Int) (e2 : Int) : Fr := [(39, vi e2), (38, .one (.pv (.rp (eI.els p2) x1.toNat 0))), (37, vi x1), (36, vl eI p2), (35, vi e1), (34, .one (.pv (.rp (eI.els p1) x1.toNat 0))), (33, vi x1), (32, vl eI p1), (0, vl eI p1), (1, vl eI p2), (5, vi x1), (31, vb (e1 != e2))]

theorem c_ref1_most (p1 : (List Int)) (p2 : (List Int)) (r : Int) (h : ref1_most p1 p2 = some r) : PC Tryd.prog 59 [vl eI p1, vl eI p2] (vi r) := by
 unfold ref1_most at h
 refine zF 41 Tryd.f59 (zq fun K1 hK1 => zr (zg [] 1 [0,1] (zd (hK1 _ _ (zq fun K2 hK2 => zq fun K3 hK3 => ?_)))))
 refine zr (zv [] 2 [0,1,7] [] [(0, vl eI p1), (1, vl eI p2), (7, vi ((eI.els p1).length : Int))] [] ?_)
 rw [eI.len p1]
 refine zv [] 2 [0,1,7,9] [] [(0, vl eI p1), (1, vl eI p2), (7, vi (p1.length : Int)), (9, vi ((eI.els p2).length : Int))] [] ?_
 rw [eI.len p2]
 refine zg [] 1 [0,1,10] (zd (hK3 _ _ (zC h (fun b4 h => ?_) (fun b4 h => ?_))))
 ·refine zq fun K5 hK5 => zr (zv [] 2 [1,12] [] [(1, vl eI p2), (12, vi ((eI.els p1).length : Int))] [] ?_)
  rw [eI.len p1]
  refine zv [] 2 [12,14] [] [(12, vi (p1.length : Int)), (14, vi ((eI.els p2).length : Int))] [] ?_
  rw [eI.len p2]
  refine zg [] 2 [4] (zd (hK5 _ _ (ze ?_)))
  obtain rfl := Option.some.inj h
  exact zf [vi (IntKind.i64.wrap ((p1.length : Int) - (p2.length : Int)))] (.one (.rfl _ rfl))
 ·refine zs (hK2 _ _ (zq fun K6 hK6 => ?_))
  have hJ1 : ∀ (_ : Unit), ref1_most_j1 = some r → ∀ fr1 st1, Sub 41 0 [] fr1 st1 [] [] → K6 fr1 st1 := by
   intro _ h fr1 st1 hS
   unfold ref1_most_j1 at h
   refine hK6 _ _ (XW.sub hS ?_)
   refine zq fun K17 hK17 => zr (zg [] 1 [4] (zd (hK17 _ _ (ze ?_))))
   obtain rfl := Option.some.inj h
   exact zf [vi (0 : Int)] (.one (.rfl _ rfl))
  refine zq fun K7 hK7 => zr (zv [] 2 [0,1,17] [] [(0, vl eI p1), (1, vl eI p2), (17, vi ((eI.els p1).length : Int))] [] ?_)
  rw [eI.len p1]
  refine zg [] 2 [0,1,5] (zd (hK7 _ _ (zb 0 (XW.rounds' BIG (x := cd Tryd.f59 [1,1,0,1,0,0]) (by kernel_rfl) fun Q1 hQ1 => ?_))))
  have hL1 : ∀ (k1 : Nat) (x1 : Int), ref1_most_l1 p1 p2 k1 x1 = some r → XR Tryd.prog 41 0 [] (cd Tryd.f59 [1,1,0,1,0,0]) Q1 k1 [(0, vl eI p1), (1, vl eI p2), (5, vi x1)] [] := by
   intro k1
   induction k1 with
   | zero => intro x1 h; rw [ref1_most_l1.eq_1] at h; cases h
   | succ k1 ih1 =>
    intro x1 h
    rw [ref1_most_l1.eq_2] at h
    refine zq fun K8 hK8 => zq fun K9 hK9 => zr (zg [] 2 [0,1,5,20] (zd (hK9 _ _ (zC h (fun b10 h => ?_) (fun b10 h => ?_)))))
    ·refine zs (hK8 _ _ (zq fun K11 hK11 => zb 1 (zq fun K12 hK12 => ?_)))
     obtain ⟨e1, a13, h⟩ := zB h
     obtain ⟨e2, a14, h⟩ := zB h
     refine zw 8 [(30, vi e2), (29, .one (.pv (.rp (eI.els p2) x1.toNat 0))), (28, vi x1), (27, vl eI p2), (26, vi e1), (25, .one (.pv (.rp (eI.els p1) x1.toNat 0))), (24, vi x1), (23, vl eI p1), (0, vl eI p1), (1, vl eI p2), (5, vi x1), (20, vb (decide ((0 : Int) ≤ x1)))] ?_ ?_
     ·exact zyo 8 [[pi e1], [pi e2]] [0 ≤ x1 ∧ x1 < ((eI.els p1).length : Int) ∧ elemsOk 1 (eI.els p1), (eI.els p1)[x1.toNat]? = some [pi e1], 0 ≤ x1 ∧ x1 < ((eI.els p2).length : Int) ∧ elemsOk 1 (eI.els p2), (eI.els p2)[x1.toNat]? = some [pi e2]] (⟨eI.inb a13, (eI.get a13), eI.inb a14, (eI.get a14), trivial⟩) zyd
     refine zg [] 1 [0,1,5,31] (zd (hK12 _ _ (zC h (fun b15 h => ?_) (fun b15 h => ?_))))
     ·refine zq fun K16 hK16 => zw 8 (qa1229 p1 p2 x1 e1 e2) ?_ ?_
      ·exact zyp 8 [[pi e1], [pi e2]] (qa1229 p1 p2 x1 e1 e2) [0 ≤ x1 ∧ x1 < ((eI.els p1).length : Int) ∧ elemsOk 1 (eI.els p1), (eI.els p1)[x1.toNat]? = some [pi e1], 0 ≤ x1 ∧ x1 < ((eI.els p2).length : Int) ∧ elemsOk 1 (eI.els p2), (eI.els p2)[x1.toNat]? = some [pi e2]] (⟨eI.inb a13, (eI.get a13), eI.inb a14, (eI.get a14), trivial⟩) zyd
      refine zv [] 2 [4] [] [(4, vi (IntKind.i64.wrap (e1 - e2)))] [] (zd (hK16 _ _ (ze (hQ1 _ _ _ ?_))))
      obtain rfl := Option.some.inj h
      exact zf [vi (IntKind.i64.wrap (e1 - e2))] (.one (.rfl _ rfl))
     ·exact zs (hK11 _ _ (zr (zg [] 3 [0,1,5] (zd (XR.sub (zk [0,1,5]) (ih1 (IntKind.i64.wrap (x1 - (1 : Int))) h))))))
    ·exact zx 0 (hQ1 _ _ _ (hJ1 () h _ _ (zk [])))
  exact XR.sub (zk [0,1,5]) (hL1 BIG (IntKind.i64.wrap ((p1.length : Int) - (1 : Int))) h)

def ref1_minus_j2 (rec1 : List Int → Int → Int → Option (List Int)) (l1 : List Int) (x2 : Int) (x4 : Int) (x5 : Int) : Option (List Int) :=
    grd (l1.length + 1 ≤ 4294967296) <|
    rec1 (l1 ++ [x5]) x4 (IntKind.i64.wrap (x2 + (1 : Int)))

def ref1_minus_j1 (rec1 : List Int → Int → Int → Option (List Int)) (l1 : List Int) (x2 : Int) (x3 : Int) : Option (List Int) :=
    ift (decide (x3 < (0 : Int)))
      (ref1_minus_j2 rec1 l1 x2 (1 : Int) (IntKind.i64.wrap (x3 + (10 : Int))))
      (ref1_minus_j2 rec1 l1 x2 (0 : Int) x3)

def ref1_minus_j3 (l2 : List Int) : Option (List Int) :=
    bnd (ref1_cut false l2) fun r1 =>
    some r1.d

def ref1_minus_l1 (p1 : (List Int)) (p2 : (List Int)) : Nat → List Int → Int → Int → Option (List Int)
  | 0, _, _, _ => none
  | k1 + 1, l1, x1, x2 =>
    ift (decide (x2 < (p1.length : Int)))
      (bnd (at? p1 x2) fun e1 =>
       ift (decide (x2 < (p2.length : Int)))
         (bnd (at? p2 x2) fun e2 =>
          ref1_minus_j1 (ref1_minus_l1 p1 p2 k1) l1 x2 (IntKind.i64.wrap ((IntKind.i64.wrap (e1 - x1)) - e2)))
         (ref1_minus_j1 (ref1_minus_l1 p1 p2 k1) l1 x2 (IntKind.i64.wrap (e1 - x1))))
      (ref1_minus_j3 l1)

def ref1_minus (p1 : (List Int)) (p2 : (List Int)) : Option (List Int) :=
    ref1_minus_l1 p1 p2 BIG [] (0 : Int) (0 : Int)


theorem c_ref1_minus (p1 : (List Int)) (p2 : (List Int)) (r : (List Int)) (h : ref1_minus p1 p2 = some r) : PC Tryd.prog 72 [vl eI p1, vl eI p2] (vl eI r) := by
 unfold ref1_minus at h
 refine zF 42 Tryd.f72 (zq fun K1 hK1 => zr (zg [] 1 [0,1] (zd (hK1 _ _ (zq fun K2 hK2 => zr ?_)))))
 refine zg [] 1 [0,1,5] (zd (hK2 _ _ (zq fun K3 hK3 => zr (zv [] 1 [0,1,5,6] [] [(0, vl eI p1), (1, vl eI p2), (5, .one (.pv (.s (.slice none 0 0)))), (6, vi (0 : Int))] [] (zd (hK3 _ _ ?_))))))
 refine zq fun K4 hK4 => ?_
 have hJ3 : ∀ (l2 : List Int), ref1_minus_j3 l2 = some r → ∀ fr1 st1, Sub 42 0 [] fr1 st1 [(5, .one (.sl 0 1 0 l2.length))] [.arr 1 (eI.els l2)] → K4 fr1 st1 := by
  intro l2 h fr1 st1 hS
  unfold ref1_minus_j3 at h
  refine hK4 _ _ (XW.sub hS ?_)
  refine zq fun K22 hK22 => ?_
  obtain ⟨r1, c23, h⟩ := zB h
  refine zr (zv [] 1 [39] [] [(39, .one (.sl 0 1 0 l2.length))] [.arr 1 (eI.els l2)] (XO.sub (Sub.kill (fr' := [(39, vl eI l2)]) 0 (Nat.zero_le _) (by kernel_rfl) ⟨.one (cf_sl eI l2 rfl rfl rfl), trivial⟩) (za (c_ref1_cut _ _ _ c23) (zg [] 2 [4] (zd (hK22 _ _ (ze ?_)))))))
  obtain rfl := Option.some.inj h
  exact zf [vl eI r1.d] (.one (.rfl _ rfl))
 refine zq fun K5 hK5 => zr (zv [] 2 [0,1,5,6,10] [] [(0, vl eI p1), (1, vl eI p2), (5, .one (.pv (.s (.slice none 0 0)))), (6, vi (0 : Int)), (10, vi ((eI.els p1).length : Int))] [] ?_)
 rw [eI.len p1]
 refine zv [] 1 [0,1,5,6,10,11] [] [(0, vl eI p1), (1, vl eI p2), (5, .one (.pv (.s (.slice none 0 0)))), (6, vi (0 : Int)), (10, vi (p1.length : Int)), (11, vi (0 : Int))] [] (zd (hK5 _ _ (zb 0 (XW.sub (Sub.list (t := 5) (sz := 1) rfl) (XW.rounds' BIG (x := cd Tryd.f72 [1,1,1,0,1,0,0]) (by kernel_rfl) fun Q1 hQ1 => ?_)))))
 have hL1 : ∀ (k1 : Nat) (l1 : List Int) (x1 : Int) (x2 : Int), ref1_minus_l1 p1 p2 k1 l1 x1 x2 = some r → XR Tryd.prog 42 0 [] (cd Tryd.f72 [1,1,1,0,1,0,0]) Q1 k1 [(0, vl eI p1), (1, vl eI p2), (5, .one (.sl 0 1 0 l1.length)), (6, vi x1), (10, vi (p1.length : Int)), (11, vi x2)] [.arr 1 (eI.els l1)] := by
  intro k1
  induction k1 with
  | zero => intro l1 x1 x2 h; rw [ref1_minus_l1.eq_1] at h; cases h
  | succ k1 ih1 =>
   intro l1 x1 x2 h
   rw [ref1_minus_l1.eq_2] at h
   refine zq fun K6 hK6 => zr (zg [] 1 [0,1,5,6,10,11,12] (zd (hK6 _ _ (zq fun K7 hK7 => zC h (fun b8 h => ?_) (fun b8 h => ?_)))))
   ·refine zs (hK7 _ _ (zq fun K9 hK9 => zb 1 (zq fun K10 hK10 => zr (zg [] 2 [0,1,5,6,7,10,11] (zd ?_)))))
    refine hK10 _ _ (zq fun K11 hK11 => ?_)
    obtain ⟨e1, a12, h⟩ := zB h
    refine zr (zp [] 7 [0,1,5,7,8,10,11] [[pi e1]] [(0, vl eI p1), (1, vl eI p2), (5, .one (.sl 0 1 0 l1.length)), (7, vi x2), (8, vi (IntKind.i64.wrap (e1 - x1))), (10, vi (p1.length : Int)), (11, vi x2)] [.arr 1 (eI.els l1)] [0 ≤ x2 ∧ x2 < ((eI.els p1).length : Int) ∧ elemsOk 1 (eI.els p1), (eI.els p1)[x2.toNat]? = some [pi e1]] (⟨eI.inb a12, (eI.get a12), trivial⟩) (zd (hK11 _ _ (zq fun K13 hK13 => ?_))))
    have hJ1 : ∀ (x3 : Int), ref1_minus_j1 (ref1_minus_l1 p1 p2 k1) l1 x2 x3 = some r → ∀ fr1 st1, Sub 42 0 [] fr1 st1 [(0, vl eI p1), (1, vl eI p2), (5, .one (.sl 0 1 0 l1.length)), (8, vi x3), (10, vi (p1.length : Int)), (11, vi x2)] [.arr 1 (eI.els l1)] → K13 fr1 st1 := by
     intro x3 h fr1 st1 hS
     unfold ref1_minus_j1 at h
     refine hK13 _ _ (XW.sub hS ?_)
     refine zq fun K17 hK17 => zr (zg [] 1 [0,1,5,6,8,10,11] (zd (hK17 _ _ (zq fun K18 hK18 => ?_))))
     have hJ2 : ∀ (x4 : Int) (x5 : Int), ref1_minus_j2 (ref1_minus_l1 p1 p2 k1) l1 x2 x4 x5 = some r → ∀ fr1 st1, Sub 42 0 [] fr1 st1 [(0, vl eI p1), (1, vl eI p2), (5, .one (.sl 0 1 0 l1.length)), (6, vi x4), (8, vi x5), (10, vi (p1.length : Int)), (11, vi x2)] [.arr 1 (eI.els l1)] → K18 fr1 st1 := by
      intro x4 x5 h fr1 st1 hS
      unfold ref1_minus_j2 at h
      refine hK18 _ _ (XW.sub hS ?_)
      obtain ⟨g21, h⟩ := zG h
      refine zr (zp [] 4 [0,1,6,10,11,37] [] [(0, vl eI p1), (1, vl eI p2), (6, vi x4), (10, vi (p1.length : Int)), (11, vi x2), (37, .one (.sl 0 1 0 (l1.length + (eI.els [x5]).length)))] [.arr 1 (eI.els l1 ++ eI.els [x5])] [elemsOk 1 (eI.els [x5]), l1.length = (eI.els l1).length, l1.length + (eI.els [x5]).length ≤ 4294967296] (⟨eI.ok _, (eI.len l1).symm, g21, trivial⟩) ?_)
      rw [show l1.length + (eI.els [x5]).length = (l1 ++ [x5]).length from eI.lapp _ _]
      rw [show eI.els l1 ++ eI.els [x5] = eI.els (l1 ++ [x5]) from eI.app2 _ _]
      exact zg [] 1 [0,1,5,6,10,11] (zd (hK9 _ _ (zr (zg [] 2 [0,1,5,6,10,11] (zd (XR.sub (zk [0,1,5,6,10,11]) (ih1 (l1 ++ [x5]) x4 (IntKind.i64.wrap (x2 + (1 : Int))) h)))))))
     refine zq fun K19 hK19 => zr (zg [] 2 [0,1,5,6,8,10,11,31] (zd (hK19 _ _ (zC h (fun b20 h => ?_) (fun b20 h => ?_)))))
     ·exact zr (zv [] 4 [0,1,5,6,8,10,11] [] [(0, vl eI p1), (1, vl eI p2), (5, .one (.sl 0 1 0 l1.length)), (6, vi (1 : Int)), (8, vi (IntKind.i64.wrap (x3 + (10 : Int)))), (10, vi (p1.length : Int)), (11, vi x2)] [.arr 1 (eI.els l1)] (zd (hJ2 (1 : Int) (IntKind.i64.wrap (x3 + (10 : Int))) h _ _ (zk [0,1,5,6,8,10,11]))))
     ·exact zs (hJ2 (0 : Int) x3 h _ _ (zk [0,1,5,6,8,10,11]))
    refine zq fun K14 hK14 => zr (zv [] 3 [0,1,5,7,8,10,11,20,22] [] [(0, vl eI p1), (1, vl eI p2), (5, .one (.sl 0 1 0 l1.length)), (7, vi x2), (8, vi (IntKind.i64.wrap (e1 - x1))), (10, vi (p1.length : Int)), (11, vi x2), (20, vi x2), (22, vi ((eI.els p2).length : Int))] [.arr 1 (eI.els l1)] ?_)
    rw [eI.len p2]
    refine zg [] 1 [0,1,5,7,8,10,11,23] (zd (hK14 _ _ (zC h (fun b15 h => ?_) (fun b15 h => ?_))))
    ·obtain ⟨e2, a16, h⟩ := zB h
     exact zr (zo [] 7 [0,1,5,8,10,11] [[pi e2]] [0 ≤ x2 ∧ x2 < ((eI.els p2).length : Int) ∧ elemsOk 1 (eI.els p2), (eI.els p2)[x2.toNat]? = some [pi e2]] (⟨eI.inb a16, (eI.get a16), trivial⟩) (zd (hJ1 (IntKind.i64.wrap ((IntKind.i64.wrap (e1 - x1)) - e2)) h _ _ (zk [0,1,5,8,10,11]))))
    ·exact zs (hJ1 (IntKind.i64.wrap (e1 - x1)) h _ _ (zk [0,1,5,8,10,11]))
   ·exact zx 0 (hQ1 _ _ _ (hJ3 l1 h _ _ (zk [5])))
 exact XR.sub (zk [0,1,5,6,10,11]) (hL1 BIG [] (0 : Int) (0 : Int) h)


end Go.Proofs.YtdbfodeghijdlaaDoor
