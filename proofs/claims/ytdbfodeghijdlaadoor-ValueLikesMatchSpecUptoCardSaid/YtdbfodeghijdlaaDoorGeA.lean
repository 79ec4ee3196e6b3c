/- The shelf's contracts of utf8.ValidString and utf8.DecodeRuneInString, laid at this program. Printed by a program: what the functions compute, and the proofs of their contracts. Printed by a program: what the functions compute, and the proofs of their contracts. -/
import Derived.Test.YtdbfodeghijdlaaDoorProg
import Derived.Test.YtdbfodeghijdlaaDoorChecked
import Derived.Test.YtdbfodeghijdlaaDoorSxC
set_option linter.unusedVariables false
set_option linter.unusedSimpArgs false
set_option linter.unnecessarySimpa false
namespace Go.Proofs.YtdbfodeghijdlaaDoor
open Go Go.SX Go.Shelf Go.Lib
set_option linter.unusedVariables false

def u8ren : Ren where
  f := fun n => if n = 196 then 87 else if n = 259 then 94 else if n = 197 then 47 else if n = 260 then 68 else n
  t := fun n => if n = 0 then 0 else if n = 3 then 3 else if n = 4 then 4 else if n = 5 then 5 else if n = 9 then 9 else if n = 12 then 12 else if n = 21 then 21 else if n = 46 then 96 else if n = 53 then 49 else if n = 105 then 78 else if n = 119 then 105 else if n = 138 then 107 else if n = 139 then 108 else n
  g := fun n => if n = 3 then 0 else if n = 4 then 1 else n

set_option maxRecDepth 100000 in
theorem u8lays : Lays.n196 Tryd.prog u8ren where
  mixed := by kernel_rfl
  f196 := by kernel_rfl
  f259 := by kernel_rfl
  t0 := by kernel_rfl
  a0 := fun w => by kernel_rfl
  z0 := fun w => by kernel_rfl
  v0 := fun w => by kernel_rfl
  t3 := by kernel_rfl
  a3 := fun w => by kernel_rfl
  z3 := fun w => by kernel_rfl
  v3 := fun w => by kernel_rfl
  t4 := by kernel_rfl
  a4 := fun w => by kernel_rfl
  z4 := fun w => by kernel_rfl
  v4 := fun w => by kernel_rfl
  t5 := by kernel_rfl
  a5 := fun w => by kernel_rfl
  z5 := fun w => by kernel_rfl
  v5 := fun w => by kernel_rfl
  t9 := by kernel_rfl
  a9 := fun w => by kernel_rfl
  z9 := fun w => by kernel_rfl
  v9 := fun w => by kernel_rfl
  t12 := by kernel_rfl
  a12 := fun w => by kernel_rfl
  z12 := fun w => by kernel_rfl
  v12 := fun w => by kernel_rfl
  t46 := by kernel_rfl
  a46 := fun w => by kernel_rfl
  z46 := fun w => by kernel_rfl
  v46 := fun w => by kernel_rfl
  t53 := by kernel_rfl
  a53 := fun w => by kernel_rfl
  z53 := fun w => by kernel_rfl
  v53 := fun w => by kernel_rfl
  t119 := by kernel_rfl
  a119 := fun w => by kernel_rfl
  z119 := fun w => by kernel_rfl
  t138 := by kernel_rfl
  a138 := fun w => by kernel_rfl
  z138 := fun w => by kernel_rfl
  v138 := fun w => by kernel_rfl
  t139 := by kernel_rfl
  a139 := fun w => by kernel_rfl
  z139 := fun w => by kernel_rfl
  v139 := fun w => by kernel_rfl
  g3 := by kernel_rfl
  g4 := by kernel_rfl

def u8ren2 : Ren where
  f := fun n => if n = 196 then 87 else if n = 259 then 94 else if n = 197 then 47 else if n = 260 then 68 else n
  t := fun n => if n = 0 then 0 else if n = 3 then 3 else if n = 4 then 4 else if n = 5 then 5 else if n = 9 then 9 else if n = 12 then 12 else if n = 21 then 21 else if n = 46 then 96 else if n = 53 then 49 else if n = 105 then 78 else if n = 119 then 105 else if n = 138 then 107 else if n = 139 then 108 else n
  g := fun n => if n = 3 then 0 else if n = 4 then 1 else n

set_option maxRecDepth 100000 in
theorem u8layd : Lays.n197 Tryd.prog u8ren2 where
  mixed := by kernel_rfl
  f197 := by kernel_rfl
  f260 := by kernel_rfl
  t0 := by kernel_rfl
  a0 := fun w => by kernel_rfl
  z0 := fun w => by kernel_rfl
  v0 := fun w => by kernel_rfl
  t3 := by kernel_rfl
  a3 := fun w => by kernel_rfl
  z3 := fun w => by kernel_rfl
  v3 := fun w => by kernel_rfl
  t4 := by kernel_rfl
  a4 := fun w => by kernel_rfl
  z4 := fun w => by kernel_rfl
  v4 := fun w => by kernel_rfl
  t5 := by kernel_rfl
  a5 := fun w => by kernel_rfl
  z5 := fun w => by kernel_rfl
  v5 := fun w => by kernel_rfl
  t9 := by kernel_rfl
  a9 := fun w => by kernel_rfl
  z9 := fun w => by kernel_rfl
  v9 := fun w => by kernel_rfl
  t21 := by kernel_rfl
  a21 := fun w => by kernel_rfl
  z21 := fun w => by kernel_rfl
  v21 := fun w => by kernel_rfl
  t46 := by kernel_rfl
  a46 := fun w => by kernel_rfl
  z46 := fun w => by kernel_rfl
  v46 := fun w => by kernel_rfl
  t105 := by kernel_rfl
  a105 := fun w => by kernel_rfl
  z105 := fun w => by kernel_rfl
  v105 := fun w => by kernel_rfl
  t119 := by kernel_rfl
  a119 := fun w => by kernel_rfl
  z119 := fun w => by kernel_rfl
  t138 := by kernel_rfl
  a138 := fun w => by kernel_rfl
  z138 := fun w => by kernel_rfl
  v138 := fun w => by kernel_rfl
  t139 := by kernel_rfl
  a139 := fun w => by kernel_rfl
  z139 := fun w => by kernel_rfl
  v139 := fun w => by kernel_rfl
  g3 := by kernel_rfl
  g4 := by kernel_rfl


def utf8_ValidString (p1 : ByteArray) : Option Bool := grd (p1.size ≤ 9223372036854775807) <| some (validD p1.data.toList)

theorem c_utf8_ValidString (p1 : ByteArray) (r : Bool) (h : utf8_ValidString p1 = some r) : PC Tryd.prog 87 [vs p1] (vb r) := by
  unfold utf8_ValidString at h
  obtain ⟨g1, h⟩ := grd_some h
  obtain rfl := Option.some.inj h
  exact pc_validString u8lays (by kernel_rfl) (by kernel_rfl) p1 g1

def utf8_DecodeRuneInString (p1 : ByteArray) : Option (Int × Int) := some (((decodeGo p1).1 : Int), ((decodeGo p1).2 : Int))

theorem c_utf8_DecodeRuneInString (p1 : ByteArray) (r : Int × Int) (h : utf8_DecodeRuneInString p1 = some r) : PC Tryd.prog 47 [vs p1] (.tp [vk .i32 r.1, vi r.2]) := by
  unfold utf8_DecodeRuneInString at h
  obtain rfl := Option.some.inj h
  exact pc_decodeRune u8layd (by kernel_rfl) (by kernel_rfl) p1

end Go.Proofs.YtdbfodeghijdlaaDoor
namespace Go.Proofs.YtdbfodeghijdlaaDoor
open Go.SX Go
set_option linter.unusedVariables false
set_option linter.unusedSimpArgs false
set_option maxRecDepth 100000
set_option maxHeartbeats 8000000

def value_within_j1 (x1 : Bool) : Option Bool :=
    some x1

def value_within (p1 : Int) (p2 : Int) (p3 : Int) : Option Bool :=
    ift (decide (p2 ≤ p1))
      (value_within_j1 (decide (p1 ≤ p3)))
      (value_within_j1 false)


theorem c_value_within (p1 : Int) (p2 : Int) (p3 : Int) (r : Bool) (h : value_within p1 p2 p3 = some r) : PC Tryd.prog 78 [vi p1, vi p2, vi p3] (vb r) := by
 unfold value_within at h
 refine zF 15 Tryd.f78 (zq fun K1 hK1 => zr (zg [] 1 [0,1,2] (zd (hK1 _ _ (zq fun K2 hK2 => ?_)))))
 have hJ1 : ∀ (x1 : Bool), value_within_j1 x1 = some r → ∀ fr1 st1, Sub 15 0 [] fr1 st1 [(6, vb x1)] [] → K2 fr1 st1 := by
  intro x1 h fr1 st1 hS
  unfold value_within_j1 at h
  refine hK2 _ _ (XW.sub hS ?_)
  refine ze ?_
  obtain rfl := Option.some.inj h
  exact zf [vb x1] (.one (.rfl _ rfl))
 rcases zW h with ⟨b3, h⟩ | ⟨b3, h⟩
 ·exact zr (zg [] 4 [0,2,10] (zt 10 b3 (zv [] 5 [6] [] [(6, vb (decide (p1 ≤ p3)))] [] (zd (hJ1 (decide (p1 ≤ p3)) h _ _ (zk [6]))))))
 ·exact zr (zg [] 4 [0,2,10] (zt 10 b3 (zg [] 5 [6] (zd (hJ1 false h _ _ (zk [6]))))))

def value_text_j2 (rec1 : Nat → Option Bool) (p1 : ByteArray) (z1 : Nat) (x2 : Bool) : Option Bool :=
    ift x2
      (some false)
      (rec1 (z1 + (Utf8.decode p1 z1).2))

def value_text_j3 : Option Bool :=
    some true

def value_text_l1 (p1 : ByteArray) : Nat → Nat → Option Bool
  | 0, _ => none
  | k1 + 1, z1 =>
    ift (decide (z1 < p1.size))
      (ift (decide (Int.ofNat (Utf8.decode p1 z1).1 < (32 : Int)))
         (value_text_j2 (value_text_l1 p1 k1) p1 z1 true)
         (value_text_j2 (value_text_l1 p1 k1) p1 z1 (Int.ofNat (Utf8.decode p1 z1).1 == (127 : Int))))
      (value_text_j3)

def value_text_j1 (p1 : ByteArray) (x1 : Bool) : Option Bool :=
    ift x1
      (some false)
      (value_text_l1 p1 BIG 0)

def value_text (p1 : ByteArray) : Option Bool :=
    ift (decide ((256 : Int) < (p1.size : Int)))
      (value_text_j1 p1 true)
      (bnd (utf8_ValidString p1) fun r1 =>
       value_text_j1 p1 (!r1))

abbrev qa399 (p1 : ByteArray) (z1 : Nat) : St := [.raw (.stringIter p1 (z1 + (Utf8.decode p1 z1).2))]

theorem c_value_text (p1 : ByteArray) (r : Bool) (h : value_text p1 = some r) : PC Tryd.prog 79 [vs p1] (vb r) := by
 unfold value_text at h
 refine zF 24 Tryd.f79 (zq fun K1 hK1 => zr (zg [] 1 [0] (zd (hK1 _ _ (zq fun K2 hK2 => zq fun K3 hK3 => ?_)))))
 have hJ1 : ∀ (x1 : Bool), value_text_j1 p1 x1 = some r → ∀ fr1 st1, Sub 24 0 [] fr1 st1 [(0, vs p1), (12, vb x1)] [] → K3 fr1 st1 := by
  intro x1 h fr1 st1 hS
  unfold value_text_j1 at h
  refine hK3 _ _ (XW.sub hS ?_)
  refine zC h (fun b6 h => ?_) (fun b6 h => ?_)
  ·refine zq fun K7 hK7 => zr (zg [] 1 [2] (zd (hK7 _ _ (ze ?_))))
   obtain rfl := Option.some.inj h
   exact zf [vb false] (.one (.rfl _ rfl))
  ·refine zs (hK2 _ _ (zq fun K8 hK8 => ?_))
   have hJ3 : ∀ (_ : Unit), value_text_j3 = some r → ∀ fr1 st1, Sub 24 0 [] fr1 st1 [] [] → K8 fr1 st1 := by
    intro _ h fr1 st1 hS
    unfold value_text_j3 at h
    refine hK8 _ _ (XW.sub hS ?_)
    refine zq fun K19 hK19 => zr (zg [] 1 [2] (zd (hK19 _ _ (ze ?_))))
    obtain rfl := Option.some.inj h
    exact zf [vb true] (.one (.rfl _ rfl))
   refine zq fun K9 hK9 => zr (zv [] 1 [13] [] [(13, vs p1)] [] (XO.rng p1 [(14, .one (.pt 0 0 0 0)), (13, vs p1)] [.raw (.stringIter p1 0)] (by kernel_rfl) (by kernel_rfl) (by kernel_rfl) (zd (hK9 _ _ (zb 0 (XW.rounds' BIG (x := cd Tryd.f79 [1,1,0,1,0,0]) (by kernel_rfl) fun Q1 hQ1 => ?_))))))
   have hL1 : ∀ (k1 : Nat) (z1 : Nat), value_text_l1 p1 k1 z1 = some r → XR Tryd.prog 24 0 [] (cd Tryd.f79 [1,1,0,1,0,0]) Q1 k1 [(14, .one (.pt 0 0 0 0))] [.raw (.stringIter p1 z1)] := by
    intro k1
    induction k1 with
    | zero => intro z1 h; rw [value_text_l1.eq_1] at h; cases h
    | succ k1 ih1 =>
     intro z1 h
     rw [value_text_l1.eq_2] at h
     refine zq fun K10 hK10 => ?_
     rcases zW h with ⟨b11, h⟩ | ⟨b11, h⟩
     ·refine zr (XO.nxt 0 p1 z1 [(15, .tp [vb true, vi (Int.ofNat z1), vk .i32 (Int.ofNat (Utf8.decode p1 z1).1)]), (14, .one (.pt 0 0 0 0))] (qa399 p1 z1) (by kernel_rfl) (by kernel_rfl) (by kernel_rfl) (by kernel_rfl) b11 (zg [] 1 [14,15,16] (zd (hK10 _ _ (zq fun K12 hK12 => zc true (fun _ => ?_) (fun hx => by cases hx))))))
      refine zs (hK12 _ _ (zb 1 (zq fun K13 hK13 => zr (zg [] 2 [4,14] (zd (hK13 _ _ ?_))))))
      refine zq fun K14 hK14 => ?_
      have hJ2 : ∀ (x2 : Bool), value_text_j2 (value_text_l1 p1 k1) p1 z1 x2 = some r → ∀ fr1 st1, Sub 24 0 [] fr1 st1 [(14, .one (.pt 0 0 0 0)), (23, vb x2)] (qa399 p1 z1) → K14 fr1 st1 := by
       intro x2 h fr1 st1 hS
       unfold value_text_j2 at h
       refine hK14 _ _ (XW.sub hS ?_)
       refine zC h (fun b16 h => ?_) (fun b16 h => ?_)
       ·refine zq fun K17 hK17 => zr (zg [] 1 [2] (zd (hK17 _ _ (ze (hQ1 _ _ _ ?_)))))
        obtain rfl := Option.some.inj h
        exact zf [vb false] (.one (.rfl _ rfl))
       ·exact zs (XR.sub (zk [14]) (ih1 (z1 + (Utf8.decode p1 z1).2) h))
      rcases zW h with ⟨b15, h⟩ | ⟨b15, h⟩
      ·exact zr (zv [] 3 [4,14,20] [] [(4, vk .i32 (Int.ofNat (Utf8.decode p1 z1).1)), (14, .one (.pt 0 0 0 0)), (20, vb (decide (Int.ofNat (Utf8.decode p1 z1).1 < (32 : Int))))] (qa399 p1 z1) (zt 20 b15 (zg [] 3 [14,23] (zd (hJ2 true h _ _ (zk [14,23]))))))
      ·exact zr (zg [] 3 [4,14,20] (zt 20 b15 (zv [] 3 [14,23] [] [(14, .one (.pt 0 0 0 0)), (23, vb (Int.ofNat (Utf8.decode p1 z1).1 == (127 : Int)))] (qa399 p1 z1) (zd (hJ2 (Int.ofNat (Utf8.decode p1 z1).1 == (127 : Int)) h _ _ (zk [14,23]))))))
     ·refine zr (XO.nxtE 0 p1 z1 [(15, .tp [vb false]), (14, .one (.pt 0 0 0 0))] (by kernel_rfl) (by kernel_rfl) (by kernel_rfl) b11 (zv [] 1 [14,15,16] [] [(14, .one (.pt 0 0 0 0)), (15, .tp [vb false]), (16, vb false)] [.raw (.stringIter p1 z1)] (zd (hK10 _ _ (zq fun K18 hK18 => zc false (fun hx => by cases hx) (fun _ => ?_))))))
      exact zx 0 (hQ1 _ _ _ (hJ3 () h _ _ (Sub.trans (Sub.pick (fr' := []) [] (by kernel_rfl)) (Sub.take (fr' := []) 0 (Nat.zero_le _) (by kernel_rfl) (by kernel_rfl)))))
   exact XR.sub (zk [14]) (hL1 BIG 0 h)
 rcases zW h with ⟨b4, h⟩ | ⟨b4, h⟩
 ·exact zr (zg [] 4 [0,8] (zt 8 b4 (zv [] 4 [0,12] [] [(0, vs p1), (12, vb true)] [] (zd (hJ1 true h _ _ (zk [0,12]))))))
 ·obtain ⟨r1, c5, h⟩ := zB h
  exact zr (zg [] 4 [0,8] (zt 8 b4 (zg [] 1 [0,8,9] (zl 87 [vs p1] (vb r1) [(10, vb r1), (0, vs p1), (8, vb false), (9, vs p1)] (c_utf8_ValidString _ _ c5) (zg [] 2 [0,12] (zd (hJ1 (!r1) h _ _ (zk [0,12]))))))))

def value_plain_j2 (x2 : Bool) : Option Bool :=
    some x2

def value_plain_j3 (x3 : Bool) : Option Bool :=
    some x3

def value_plain_j4 (x4 : Bool) : Option Bool :=
    some x4

def value_plain_j5 (x5 : Bool) : Option Bool :=
    some x5

def value_plain_j6 (x6 : Bool) : Option Bool :=
    some x6

def value_plain_j7 (x7 : Bool) : Option Bool :=
    some x7

def value_plain_j8 (x8 : Bool) : Option Bool :=
    some x8

def value_plain_j9 (x9 : Bool) : Option Bool :=
    some x9

def value_plain_j1 (p1 : GValue) (x1 : Bool) : Option Bool :=
    ift (p1.kind == (0 : Int))
      (ift x1
         (ift (p1.s.toList == (ByteArray.mk #[]).toList)
            (value_plain_j2 ((p1.items.length : Int) == (0 : Int)))
            (value_plain_j2 false))
         (value_plain_j2 false))
      (ift (p1.kind == (1 : Int))
         (bnd (value_within p1.n (0 : Int) (1 : Int)) fun r1 =>
          ift r1
            (ift (p1.scale == (0 : Int))
               (ift (p1.s.toList == (ByteArray.mk #[]).toList)
                  (value_plain_j3 ((p1.items.length : Int) == (0 : Int)))
                  (value_plain_j3 false))
               (value_plain_j3 false))
            (value_plain_j3 false))
         (ift (p1.kind == (2 : Int))
            (bnd (value_within p1.n (-999999999999999999 : Int) (999999999999999999 : Int)) fun r2 =>
             ift r2
               (ift (p1.scale == (0 : Int))
                  (ift (p1.s.toList == (ByteArray.mk #[]).toList)
                     (value_plain_j4 ((p1.items.length : Int) == (0 : Int)))
                     (value_plain_j4 false))
                  (value_plain_j4 false))
               (value_plain_j4 false))
            (ift (p1.kind == (3 : Int))
               (bnd (value_within p1.n (-999999999999999999 : Int) (999999999999999999 : Int)) fun r3 =>
                ift r3
                  (bnd (value_within p1.scale (0 : Int) (12 : Int)) fun r4 =>
                   ift r4
                     (ift (p1.s.toList == (ByteArray.mk #[]).toList)
                        (value_plain_j5 ((p1.items.length : Int) == (0 : Int)))
                        (value_plain_j5 false))
                     (value_plain_j5 false))
                  (value_plain_j5 false))
               (ift (p1.kind == (4 : Int))
                  (ift x1
                     (bnd (value_text p1.s) fun r5 =>
                      ift r5
                        (value_plain_j6 ((p1.items.length : Int) == (0 : Int)))
                        (value_plain_j6 false))
                     (value_plain_j6 false))
                  (ift (p1.kind == (5 : Int))
                     (bnd (value_within p1.n (-62135596800 : Int) (253402300799 : Int)) fun r6 =>
                      ift r6
                        (ift (p1.scale == (0 : Int))
                           (ift (p1.s.toList == (ByteArray.mk #[]).toList)
                              (value_plain_j7 ((p1.items.length : Int) == (0 : Int)))
                              (value_plain_j7 false))
                           (value_plain_j7 false))
                        (value_plain_j7 false))
                     (ift (p1.kind == (6 : Int))
                        (ift x1
                           (ift (p1.s.toList == (ByteArray.mk #[]).toList)
                              (value_plain_j8 (decide ((p1.items.length : Int) ≤ (64 : Int))))
                              (value_plain_j8 false))
                           (value_plain_j8 false))
                        (ift (p1.kind == (7 : Int))
                           (ift x1
                              (ift (p1.s.toList == (ByteArray.mk #[]).toList)
                                 (value_plain_j9 (decide ((0 : Int) < (p1.items.length : Int))))
                                 (value_plain_j9 false))
                              (value_plain_j9 false))
                           (some false))))))))

def value_plain (p1 : GValue) : Option Bool :=
    ift (p1.n == (0 : Int))
      (value_plain_j1 p1 (p1.scale == (0 : Int)))
      (value_plain_j1 p1 false)

abbrev qa408 (p1 : GValue) : List PV := [pi p1.kind, pi p1.n, pi p1.scale, .s (.string p1.s), .ro (eValue.els p1.items)]
abbrev qa412 : Fr := [(2, vb false)]
abbrev qa425 (p1 : GValue) (r2 : Bool) : Fr := [(53, vb r2), (1, .one (.pv (.rp [(qa408 p1)] 0 0))), (52, vi p1.n)]
abbrev qa427 (p1 : GValue) : Fr := [(1, .one (.pv (.rp [(qa408 p1)] 0 0))), (73, vi p1.n)]
abbrev qa433 (p1 : GValue) (r6 : Bool) : Fr := [(109, vb r6), (1, .one (.pv (.rp [(qa408 p1)] 0 0))), (108, vi p1.n)]

theorem c_value_plain (p1 : GValue) (r : Bool) (h : value_plain p1 = some r) : PC Tryd.prog 65 [.ag [ci p1.kind, ci p1.n, ci p1.scale, cst p1.s, cl eValue p1.items]] (vb r) := by
 unfold value_plain at h
 refine zF 154 Tryd.f65 (zq fun K1 hK1 => zr (zg [] 2 [1] (zd (hK1 _ _ (zq fun K2 hK2 => ?_)))))
 have hJ1 : ∀ (x1 : Bool), value_plain_j1 p1 x1 = some r → ∀ fr1 st1, Sub 154 0 [] fr1 st1 [(1, .one (.pv (.rp [(qa408 p1)] 0 0))), (3, vb x1)] [] → K2 fr1 st1 := by
  intro x1 h fr1 st1 hS
  unfold value_plain_j1 at h
  refine hK2 _ _ (XW.sub hS ?_)
  refine zq fun K4 hK4 => zq fun K5 hK5 => zr (zu [] 2 [1,3,13] [(qa408 p1)] (zd (hK5 _ _ (zb 0 (zq fun K6 hK6 => ?_)))))
  refine zr (zg [] 2 [1,3,13,14] (zd (hK6 _ _ (zC h (fun b7 h => ?_) (fun b7 h => ?_)))))
  ·refine zq fun K8 hK8 => ?_
   have hJ2 : ∀ (x2 : Bool), value_plain_j2 x2 = some r → ∀ fr1 st1, Sub 154 0 [] fr1 st1 [(2, vb x2)] [] → K8 fr1 st1 := by
    intro x2 h fr1 st1 hS
    unfold value_plain_j2 at h
    refine hK8 _ _ (XW.sub hS ?_)
    refine ze ?_
    obtain rfl := Option.some.inj h
    exact zf [vb x2] (.one (.rfl _ rfl))
   rcases zW h with ⟨b9, h⟩ | ⟨b9, h⟩
   ·rcases zW h with ⟨b10, h⟩ | ⟨b10, h⟩
    ·refine zr (zv [] 2 [1,17] [] [(1, .one (.pv (.rp [[pi p1.kind, pi p1.n, pi p1.scale, .s (.string p1.s), .ro (eValue.els p1.items)]] 0 0))), (17, vb x1)] [] (zt 17 b9 (zu [] 5 [1,22] [[pi p1.kind, pi p1.n, pi p1.scale, .s (.string p1.s), .ro (eValue.els p1.items)]] (zt 22 b10 (zv [] 3 [22,25] [[pi p1.kind, pi p1.n, pi p1.scale, .s (.string p1.s), .ro (eValue.els p1.items)]] [(22, vb true), (25, vi ((eValue.els p1.items).length : Int))] [] ?_)))))
     rw [eValue.len p1.items]
     exact zg [] 3 [2] (zd (hJ2 ((p1.items.length : Int) == (0 : Int)) h _ _ (zk [2])))
    ·exact zr (zg [] 2 [1,17] (zt 17 b9 (zv [] 5 [1,22] [(qa408 p1)] [(1, .one (.pv (.rp [(qa408 p1)] 0 0))), (22, vb (p1.s.toList == (ByteArray.mk #[]).toList))] [] (zt 22 b10 (zg [] 6 [2] (zd (hJ2 false h _ _ (zk [2]))))))))
   ·exact zr (zv [] 2 [1,17] [] [(1, .one (.pv (.rp [(qa408 p1)] 0 0))), (17, vb x1)] [] (zt 17 b9 (zg [] 11 [2] (zd (hJ2 false h _ _ (zk [2]))))))
  ·refine zq fun K11 hK11 => zr (zv [] 2 [1,3,13,28] [] [(1, .one (.pv (.rp [(qa408 p1)] 0 0))), (3, vb x1), (13, vi p1.kind), (28, vb (p1.kind == (1 : Int)))] [] (zd (hK11 _ _ (zC h (fun b12 h => ?_) (fun b12 h => ?_)))))
   ·refine zq fun K13 hK13 => ?_
    have hJ3 : ∀ (x3 : Bool), value_plain_j3 x3 = some r → ∀ fr1 st1, Sub 154 0 [] fr1 st1 [(2, vb x3)] [] → K13 fr1 st1 := by
     intro x3 h fr1 st1 hS
     unfold value_plain_j3 at h
     refine hK13 _ _ (XW.sub hS ?_)
     refine ze ?_
     obtain rfl := Option.some.inj h
     exact zf [vb x3] (.one (.rfl _ rfl))
    obtain ⟨r1, c14, h⟩ := zB h
    rcases zW h with ⟨b15, h⟩ | ⟨b15, h⟩
    ·rcases zW h with ⟨b16, h⟩ | ⟨b16, h⟩
     ·rcases zW h with ⟨b17, h⟩ | ⟨b17, h⟩
      ·refine zr (zu [] 2 [1,31] [(qa408 p1)] (za (c_value_within _ _ _ _ c14) (zv [] 1 [1,33] [] [(1, .one (.pv (.rp [(qa408 p1)] 0 0))), (33, vb r1)] [] (zt 33 b15 (zu [] 5 [1,38] [(qa408 p1)] (zt 38 b16 (zu [] 5 [1,43] [(qa408 p1)] ?_)))))))
       refine zt 43 b17 (zv [] 3 [43,46] [[pi p1.kind, pi p1.n, pi p1.scale, .s (.string p1.s), .ro (eValue.els p1.items)]] [(43, vb true), (46, vi ((eValue.els p1.items).length : Int))] [] ?_)
       rw [eValue.len p1.items]
       exact zg [] 3 [2] (zd (hJ3 ((p1.items.length : Int) == (0 : Int)) h _ _ (zk [2])))
      ·refine zr (zu [] 2 [1,31] [(qa408 p1)] (zl 78 [vi p1.n, vi (0 : Int), vi (1 : Int)] (vb r1) [(32, vb r1), (1, .one (.pv (.rp [(qa408 p1)] 0 0))), (31, vi p1.n)] (c_value_within _ _ _ _ c14) (zg [] 1 [1,33] (zt 33 b15 (zu [] 5 [1,38] [(qa408 p1)] (zt 38 b16 ?_))))))
       exact zv [] 5 [1,43] [(qa408 p1)] [(1, .one (.pv (.rp [(qa408 p1)] 0 0))), (43, vb (p1.s.toList == (ByteArray.mk #[]).toList))] [] (zt 43 b17 (zg [] 6 [2] (zd (hJ3 false h _ _ (zk [2])))))
     ·refine zr (zu [] 2 [1,31] [(qa408 p1)] (za (c_value_within _ _ _ _ c14) (zv [] 1 [1,33] [] [(1, .one (.pv (.rp [(qa408 p1)] 0 0))), (33, vb r1)] [] (zt 33 b15 (zu [] 5 [1,38] [(qa408 p1)] (zt 38 b16 (zg [] 11 [2] ?_)))))))
      exact zd (hJ3 false h _ _ (zk [2]))
    ·exact zr (zu [] 2 [1,31] [(qa408 p1)] (za (c_value_within _ _ _ _ c14) (zv [] 1 [1,33] [] [(1, .one (.pv (.rp [(qa408 p1)] 0 0))), (33, vb r1)] [] (zt 33 b15 (zg [] 16 [2] (zd (hJ3 false h _ _ (zk [2]))))))))
   ·refine zq fun K18 hK18 => zr (zg [] 2 [1,3,13,49] (zd (hK18 _ _ (zC h (fun b19 h => ?_) (fun b19 h => ?_)))))
    ·refine zq fun K20 hK20 => ?_
     have hJ4 : ∀ (x4 : Bool), value_plain_j4 x4 = some r → ∀ fr1 st1, Sub 154 0 [] fr1 st1 [(2, vb x4)] [] → K20 fr1 st1 := by
      intro x4 h fr1 st1 hS
      unfold value_plain_j4 at h
      refine hK20 _ _ (XW.sub hS ?_)
      refine ze ?_
      obtain rfl := Option.some.inj h
      exact zf [vb x4] (.one (.rfl _ rfl))
     obtain ⟨r2, c21, h⟩ := zB h
     rcases zW h with ⟨b22, h⟩ | ⟨b22, h⟩
     ·rcases zW h with ⟨b23, h⟩ | ⟨b23, h⟩
      ·rcases zW h with ⟨b24, h⟩ | ⟨b24, h⟩
       ·refine zr (zu [] 2 [1,52] [(qa408 p1)] (zl 78 [vi p1.n, vi (-999999999999999999 : Int), vi (999999999999999999 : Int)] (vb r2) (qa425 p1 r2) (c_value_within _ _ _ _ c21) (zg [] 1 [1,54] (zt 54 b22 (zu [] 5 [1,59] [(qa408 p1)] (zt 59 b23 ?_))))))
        refine zv [] 5 [1,64] [[pi p1.kind, pi p1.n, pi p1.scale, .s (.string p1.s), .ro (eValue.els p1.items)]] [(1, .one (.pv (.rp [[pi p1.kind, pi p1.n, pi p1.scale, .s (.string p1.s), .ro (eValue.els p1.items)]] 0 0))), (64, vb (p1.s.toList == (ByteArray.mk #[]).toList))] [] (zt 64 b24 (zv [] 3 [64,67] [[pi p1.kind, pi p1.n, pi p1.scale, .s (.string p1.s), .ro (eValue.els p1.items)]] [(64, vb true), (67, vi ((eValue.els p1.items).length : Int))] [] ?_))
        rw [eValue.len p1.items]
        exact zg [] 3 [2] (zd (hJ4 ((p1.items.length : Int) == (0 : Int)) h _ _ (zk [2])))
       ·refine zr (zu [] 2 [1,52] [(qa408 p1)] (zl 78 [vi p1.n, vi (-999999999999999999 : Int), vi (999999999999999999 : Int)] (vb r2) (qa425 p1 r2) (c_value_within _ _ _ _ c21) (zg [] 1 [1,54] (zt 54 b22 (zu [] 5 [1,59] [(qa408 p1)] (zt 59 b23 ?_))))))
        exact zv [] 5 [1,64] [(qa408 p1)] [(1, .one (.pv (.rp [(qa408 p1)] 0 0))), (64, vb (p1.s.toList == (ByteArray.mk #[]).toList))] [] (zt 64 b24 (zg [] 6 [2] (zd (hJ4 false h _ _ (zk [2])))))
      ·refine zr (zu [] 2 [1,52] [(qa408 p1)] (zl 78 [vi p1.n, vi (-999999999999999999 : Int), vi (999999999999999999 : Int)] (vb r2) (qa425 p1 r2) (c_value_within _ _ _ _ c21) (zg [] 1 [1,54] (zt 54 b22 (zu [] 5 [1,59] [(qa408 p1)] (zt 59 b23 (zv [] 11 [2] [] qa412 [] ?_)))))))
       exact zd (hJ4 false h _ _ (zk [2]))
     ·exact zr (zu [] 2 [1,52] [(qa408 p1)] (zl 78 [vi p1.n, vi (-999999999999999999 : Int), vi (999999999999999999 : Int)] (vb r2) (qa425 p1 r2) (c_value_within _ _ _ _ c21) (zg [] 1 [1,54] (zt 54 b22 (zg [] 16 [2] (zd (hJ4 false h _ _ (zk [2]))))))))
    ·refine zq fun K25 hK25 => zr (zg [] 2 [1,3,13,70] (zd (hK25 _ _ (zC h (fun b26 h => ?_) (fun b26 h => ?_)))))
     ·refine zq fun K27 hK27 => ?_
      have hJ5 : ∀ (x5 : Bool), value_plain_j5 x5 = some r → ∀ fr1 st1, Sub 154 0 [] fr1 st1 [(2, vb x5)] [] → K27 fr1 st1 := by
       intro x5 h fr1 st1 hS
       unfold value_plain_j5 at h
       refine hK27 _ _ (XW.sub hS ?_)
       refine ze ?_
       obtain rfl := Option.some.inj h
       exact zf [vb x5] (.one (.rfl _ rfl))
      obtain ⟨r3, c28, h⟩ := zB h
      rcases zW h with ⟨b29, h⟩ | ⟨b29, h⟩
      ·obtain ⟨r4, c30, h⟩ := zB h
       rcases zW h with ⟨b31, h⟩ | ⟨b31, h⟩
       ·rcases zW h with ⟨b32, h⟩ | ⟨b32, h⟩
        ·refine zr (zv [] 2 [1,73] [(qa408 p1)] (qa427 p1) [] (za (c_value_within _ _ _ _ c28) (zg [] 1 [1,75] (zt 75 b29 (zv [] 2 [1,75,77] [(qa408 p1)] [(1, .one (.pv (.rp [(qa408 p1)] 0 0))), (75, vb true), (77, vi p1.scale)] [] (za (c_value_within _ _ _ _ c30) ?_))))))
         refine zg [] 2 [1,80] (zt 80 b31 (zv [] 5 [1,85] [[pi p1.kind, pi p1.n, pi p1.scale, .s (.string p1.s), .ro (eValue.els p1.items)]] [(1, .one (.pv (.rp [[pi p1.kind, pi p1.n, pi p1.scale, .s (.string p1.s), .ro (eValue.els p1.items)]] 0 0))), (85, vb (p1.s.toList == (ByteArray.mk #[]).toList))] [] (zt 85 b32 (zv [] 3 [85,88] [[pi p1.kind, pi p1.n, pi p1.scale, .s (.string p1.s), .ro (eValue.els p1.items)]] [(85, vb true), (88, vi ((eValue.els p1.items).length : Int))] [] ?_))))
         rw [eValue.len p1.items]
         exact zg [] 3 [2] (zd (hJ5 ((p1.items.length : Int) == (0 : Int)) h _ _ (zk [2])))
        ·refine zr (zu [] 2 [1,73] [(qa408 p1)] (zl 78 [vi p1.n, vi (-999999999999999999 : Int), vi (999999999999999999 : Int)] (vb r3) [(74, vb r3), (1, .one (.pv (.rp [(qa408 p1)] 0 0))), (73, vi p1.n)] (c_value_within _ _ _ _ c28) (zg [] 1 [1,75] (zt 75 b29 (zu [] 2 [1,75,77] [(qa408 p1)] ?_)))))
         exact zl 78 [vi p1.scale, vi (0 : Int), vi (12 : Int)] (vb r4) [(78, vb r4), (1, .one (.pv (.rp [(qa408 p1)] 0 0))), (75, vb true), (77, vi p1.scale)] (c_value_within _ _ _ _ c30) (zg [] 2 [1,80] (zt 80 b31 (zu [] 5 [1,85] [(qa408 p1)] (zt 85 b32 (zv [] 6 [2] [] qa412 [] (zd (hJ5 false h _ _ (zk [2]))))))))
       ·refine zr (zv [] 2 [1,73] [(qa408 p1)] (qa427 p1) [] (za (c_value_within _ _ _ _ c28) (zg [] 1 [1,75] (zt 75 b29 (zv [] 2 [1,75,77] [(qa408 p1)] [(1, .one (.pv (.rp [(qa408 p1)] 0 0))), (75, vb true), (77, vi p1.scale)] [] (za (c_value_within _ _ _ _ c30) ?_))))))
        exact zg [] 2 [1,80] (zt 80 b31 (zv [] 11 [2] [] qa412 [] (zd (hJ5 false h _ _ (zk [2])))))
      ·exact zr (zv [] 2 [1,73] [(qa408 p1)] (qa427 p1) [] (za (c_value_within _ _ _ _ c28) (zg [] 1 [1,75] (zt 75 b29 (zv [] 16 [2] [] qa412 [] (zd (hJ5 false h _ _ (zk [2]))))))))
     ·refine zq fun K33 hK33 => zr (zv [] 2 [1,3,13,91] [] [(1, .one (.pv (.rp [(qa408 p1)] 0 0))), (3, vb x1), (13, vi p1.kind), (91, vb (p1.kind == (4 : Int)))] [] (zd (hK33 _ _ (zC h (fun b34 h => ?_) (fun b34 h => ?_)))))
      ·refine zq fun K35 hK35 => ?_
       have hJ6 : ∀ (x6 : Bool), value_plain_j6 x6 = some r → ∀ fr1 st1, Sub 154 0 [] fr1 st1 [(2, vb x6)] [] → K35 fr1 st1 := by
        intro x6 h fr1 st1 hS
        unfold value_plain_j6 at h
        refine hK35 _ _ (XW.sub hS ?_)
        refine ze ?_
        obtain rfl := Option.some.inj h
        exact zf [vb x6] (.one (.rfl _ rfl))
       rcases zW h with ⟨b36, h⟩ | ⟨b36, h⟩
       ·obtain ⟨r5, c37, h⟩ := zB h
        rcases zW h with ⟨b38, h⟩ | ⟨b38, h⟩
        ·refine zr (zg [] 2 [1,94] (zt 94 b36 (zu [] 2 [1,94,96] [[pi p1.kind, pi p1.n, pi p1.scale, .s (.string p1.s), .ro (eValue.els p1.items)]] (zl 79 [vs p1.s] (vb r5) [(97, vb r5), (1, .one (.pv (.rp [[pi p1.kind, pi p1.n, pi p1.scale, .s (.string p1.s), .ro (eValue.els p1.items)]] 0 0))), (94, vb true), (96, vs p1.s)] (c_value_text _ _ c37) (zg [] 2 [1,99] (zt 99 b38 (zv [] 3 [99,102] [[pi p1.kind, pi p1.n, pi p1.scale, .s (.string p1.s), .ro (eValue.els p1.items)]] [(99, vb true), (102, vi ((eValue.els p1.items).length : Int))] [] ?_)))))))
         rw [eValue.len p1.items]
         exact zg [] 3 [2] (zd (hJ6 ((p1.items.length : Int) == (0 : Int)) h _ _ (zk [2])))
        ·refine zr (zg [] 2 [1,94] (zt 94 b36 (zv [] 2 [1,94,96] [(qa408 p1)] [(1, .one (.pv (.rp [(qa408 p1)] 0 0))), (94, vb true), (96, vs p1.s)] [] (za (c_value_text _ _ c37) (zg [] 2 [1,99] (zt 99 b38 (zv [] 6 [2] [] qa412 [] ?_)))))))
         exact zd (hJ6 false h _ _ (zk [2]))
       ·exact zr (zg [] 2 [1,94] (zt 94 b36 (zg [] 11 [2] (zd (hJ6 false h _ _ (zk [2]))))))
      ·refine zq fun K39 hK39 => zr (zg [] 2 [1,3,13,105] (zd (hK39 _ _ (zC h (fun b40 h => ?_) (fun b40 h => ?_)))))
       ·refine zq fun K41 hK41 => ?_
        have hJ7 : ∀ (x7 : Bool), value_plain_j7 x7 = some r → ∀ fr1 st1, Sub 154 0 [] fr1 st1 [(2, vb x7)] [] → K41 fr1 st1 := by
         intro x7 h fr1 st1 hS
         unfold value_plain_j7 at h
         refine hK41 _ _ (XW.sub hS ?_)
         refine ze ?_
         obtain rfl := Option.some.inj h
         exact zf [vb x7] (.one (.rfl _ rfl))
        obtain ⟨r6, c42, h⟩ := zB h
        rcases zW h with ⟨b43, h⟩ | ⟨b43, h⟩
        ·rcases zW h with ⟨b44, h⟩ | ⟨b44, h⟩
         ·rcases zW h with ⟨b45, h⟩ | ⟨b45, h⟩
          ·refine zr (zu [] 2 [1,108] [(qa408 p1)] (zl 78 [vi p1.n, vi (-62135596800 : Int), vi (253402300799 : Int)] (vb r6) (qa433 p1 r6) (c_value_within _ _ _ _ c42) (zg [] 1 [1,110] (zt 110 b43 (zu [] 5 [1,115] [(qa408 p1)] (zt 115 b44 ?_))))))
           refine zv [] 5 [1,120] [[pi p1.kind, pi p1.n, pi p1.scale, .s (.string p1.s), .ro (eValue.els p1.items)]] [(1, .one (.pv (.rp [[pi p1.kind, pi p1.n, pi p1.scale, .s (.string p1.s), .ro (eValue.els p1.items)]] 0 0))), (120, vb (p1.s.toList == (ByteArray.mk #[]).toList))] [] (zt 120 b45 (zv [] 3 [120,123] [[pi p1.kind, pi p1.n, pi p1.scale, .s (.string p1.s), .ro (eValue.els p1.items)]] [(120, vb true), (123, vi ((eValue.els p1.items).length : Int))] [] ?_))
           rw [eValue.len p1.items]
           exact zg [] 3 [2] (zd (hJ7 ((p1.items.length : Int) == (0 : Int)) h _ _ (zk [2])))
          ·refine zr (zu [] 2 [1,108] [(qa408 p1)] (zl 78 [vi p1.n, vi (-62135596800 : Int), vi (253402300799 : Int)] (vb r6) (qa433 p1 r6) (c_value_within _ _ _ _ c42) (zg [] 1 [1,110] (zt 110 b43 (zu [] 5 [1,115] [(qa408 p1)] (zt 115 b44 ?_))))))
           exact zv [] 5 [1,120] [(qa408 p1)] [(1, .one (.pv (.rp [(qa408 p1)] 0 0))), (120, vb (p1.s.toList == (ByteArray.mk #[]).toList))] [] (zt 120 b45 (zg [] 6 [2] (zd (hJ7 false h _ _ (zk [2])))))
         ·refine zr (zu [] 2 [1,108] [(qa408 p1)] (zl 78 [vi p1.n, vi (-62135596800 : Int), vi (253402300799 : Int)] (vb r6) (qa433 p1 r6) (c_value_within _ _ _ _ c42) (zg [] 1 [1,110] (zt 110 b43 (zu [] 5 [1,115] [(qa408 p1)] (zt 115 b44 (zv [] 11 [2] [] qa412 [] ?_)))))))
          exact zd (hJ7 false h _ _ (zk [2]))
        ·exact zr (zu [] 2 [1,108] [(qa408 p1)] (zl 78 [vi p1.n, vi (-62135596800 : Int), vi (253402300799 : Int)] (vb r6) (qa433 p1 r6) (c_value_within _ _ _ _ c42) (zg [] 1 [1,110] (zt 110 b43 (zg [] 16 [2] (zd (hJ7 false h _ _ (zk [2]))))))))
       ·refine zq fun K46 hK46 => zr (zg [] 2 [1,3,13,126] (zd (hK46 _ _ (zC h (fun b47 h => ?_) (fun b47 h => ?_)))))
        ·refine zq fun K48 hK48 => ?_
         have hJ8 : ∀ (x8 : Bool), value_plain_j8 x8 = some r → ∀ fr1 st1, Sub 154 0 [] fr1 st1 [(2, vb x8)] [] → K48 fr1 st1 := by
          intro x8 h fr1 st1 hS
          unfold value_plain_j8 at h
          refine hK48 _ _ (XW.sub hS ?_)
          refine ze ?_
          obtain rfl := Option.some.inj h
          exact zf [vb x8] (.one (.rfl _ rfl))
         rcases zW h with ⟨b49, h⟩ | ⟨b49, h⟩
         ·rcases zW h with ⟨b50, h⟩ | ⟨b50, h⟩
          ·refine zr (zv [] 2 [1,129] [] [(1, .one (.pv (.rp [[pi p1.kind, pi p1.n, pi p1.scale, .s (.string p1.s), .ro (eValue.els p1.items)]] 0 0))), (129, vb x1)] [] (zt 129 b49 (zu [] 5 [1,134] [[pi p1.kind, pi p1.n, pi p1.scale, .s (.string p1.s), .ro (eValue.els p1.items)]] (zt 134 b50 (zv [] 3 [134,137] [[pi p1.kind, pi p1.n, pi p1.scale, .s (.string p1.s), .ro (eValue.els p1.items)]] [(134, vb true), (137, vi ((eValue.els p1.items).length : Int))] [] ?_)))))
           rw [eValue.len p1.items]
           exact zg [] 3 [2] (zd (hJ8 (decide ((p1.items.length : Int) ≤ (64 : Int))) h _ _ (zk [2])))
          ·exact zr (zg [] 2 [1,129] (zt 129 b49 (zv [] 5 [1,134] [(qa408 p1)] [(1, .one (.pv (.rp [(qa408 p1)] 0 0))), (134, vb (p1.s.toList == (ByteArray.mk #[]).toList))] [] (zt 134 b50 (zg [] 6 [2] (zd (hJ8 false h _ _ (zk [2]))))))))
         ·exact zr (zv [] 2 [1,129] [] [(1, .one (.pv (.rp [(qa408 p1)] 0 0))), (129, vb x1)] [] (zt 129 b49 (zg [] 11 [2] (zd (hJ8 false h _ _ (zk [2]))))))
        ·refine zq fun K51 hK51 => zr (zv [] 2 [1,3,140] [] [(1, .one (.pv (.rp [(qa408 p1)] 0 0))), (3, vb x1), (140, vb (p1.kind == (7 : Int)))] [] (zd (hK51 _ _ (zC h (fun b52 h => ?_) (fun b52 h => ?_)))))
         ·refine zq fun K53 hK53 => ?_
          have hJ9 : ∀ (x9 : Bool), value_plain_j9 x9 = some r → ∀ fr1 st1, Sub 154 0 [] fr1 st1 [(2, vb x9)] [] → K53 fr1 st1 := by
           intro x9 h fr1 st1 hS
           unfold value_plain_j9 at h
           refine hK53 _ _ (XW.sub hS ?_)
           refine ze ?_
           obtain rfl := Option.some.inj h
           exact zf [vb x9] (.one (.rfl _ rfl))
          rcases zW h with ⟨b54, h⟩ | ⟨b54, h⟩
          ·rcases zW h with ⟨b55, h⟩ | ⟨b55, h⟩
           ·refine zr (zg [] 2 [1,143] (zt 143 b54 (zu [] 5 [1,148] [[pi p1.kind, pi p1.n, pi p1.scale, .s (.string p1.s), .ro (eValue.els p1.items)]] (zt 148 b55 (zv [] 3 [148,151] [[pi p1.kind, pi p1.n, pi p1.scale, .s (.string p1.s), .ro (eValue.els p1.items)]] [(148, vb true), (151, vi ((eValue.els p1.items).length : Int))] [] ?_)))))
            rw [eValue.len p1.items]
            exact zg [] 3 [2] (zd (hJ9 (decide ((0 : Int) < (p1.items.length : Int))) h _ _ (zk [2])))
           ·exact zr (zg [] 2 [1,143] (zt 143 b54 (zv [] 5 [1,148] [(qa408 p1)] [(1, .one (.pv (.rp [(qa408 p1)] 0 0))), (148, vb (p1.s.toList == (ByteArray.mk #[]).toList))] [] (zt 148 b55 (zg [] 6 [2] (zd (hJ9 false h _ _ (zk [2]))))))))
          ·exact zr (zg [] 2 [1,143] (zt 143 b54 (zg [] 11 [2] (zd (hJ9 false h _ _ (zk [2]))))))
         ·refine zs (hK4 _ _ (zq fun K56 hK56 => zr (zg [] 1 [2] (zd (hK56 _ _ (ze ?_))))))
          obtain rfl := Option.some.inj h
          exact zf [vb false] (.one (.rfl _ rfl))
 rcases zW h with ⟨b3, h⟩ | ⟨b3, h⟩
 ·exact zr (zu [] 4 [1,7] [(qa408 p1)] (zt 7 b3 (zv [] 5 [1,3] [(qa408 p1)] [(1, .one (.pv (.rp [(qa408 p1)] 0 0))), (3, vb (p1.scale == (0 : Int)))] [] (zd (hJ1 (p1.scale == (0 : Int)) h _ _ (zk [1,3]))))))
 ·exact zr (zu [] 4 [1,7] [(qa408 p1)] (zt 7 b3 (zg [] 5 [1,3] (zd (hJ1 false h _ _ (zk [1,3]))))))

def slices_IndexFunc_api_Value_api_Value_of_value_sound_1_j1 (z2 : Int) : Option (Int × Int) :=
    some ((-1 : Int), z2)

def slices_IndexFunc_api_Value_api_Value_of_value_sound_1_l1 (q_value_sound_1_s : GValue → Int → Int → Option (Bool × Int)) (p1 : (List GValue)) (p2 : Int) : Nat → Int → Int → Option (Int × Int)
  | 0, _, _ => none
  | k1 + 1, z1, x1 =>
    ift (decide (x1 < (p1.length : Int)))
      (bnd (at? p1 x1) fun e1 =>
       bnd (q_value_sound_1_s e1 p2 z1) fun r1 =>
       ift r1.1
         (some (x1, r1.2))
         ((slices_IndexFunc_api_Value_api_Value_of_value_sound_1_l1 q_value_sound_1_s p1 p2 k1) r1.2 (IntKind.i64.wrap (x1 + (1 : Int)))))
      (slices_IndexFunc_api_Value_api_Value_of_value_sound_1_j1 z1)

def value_sound_j2 (q_slices_ContainsFunc_api_Value_api_Value_of_value_sound_1 : (List GValue) → Int → Int → Option (Bool × Int)) (p1 : GValue) (p2 : Int) (z1 : Int) (x1 : Bool) : Option (Bool × Int) :=
    ift x1
      (some (false, z1))
      (bnd (q_slices_ContainsFunc_api_Value_api_Value_of_value_sound_1 p1.items p2 z1) fun r2 =>
       some ((!r2.1), r2.2))

def value_sound_j1 (q_slices_ContainsFunc_api_Value_api_Value_of_value_sound_1 : (List GValue) → Int → Int → Option (Bool × Int)) (p1 : GValue) (p2 : Int) (z1 : Int) : Option (Bool × Int) :=
    ift (decide ((4 : Int) < p2))
      (value_sound_j2 q_slices_ContainsFunc_api_Value_api_Value_of_value_sound_1 p1 p2 z1 true)
      (ift (decide ((256 : Int) < z1))
         (value_sound_j2 q_slices_ContainsFunc_api_Value_api_Value_of_value_sound_1 p1 p2 z1 true)
         (bnd (value_plain p1) fun r1 =>
          value_sound_j2 q_slices_ContainsFunc_api_Value_api_Value_of_value_sound_1 p1 p2 z1 (!r1)))

mutual

def slices_ContainsFunc_api_Value_api_Value_of_value_sound_1 : Nat → (List GValue) → Int → Int → Option (Bool × Int)
  | 0, _, _, _ => none
  | k0 + 1, p1, p2, p3 =>
    bnd ((slices_IndexFunc_api_Value_api_Value_of_value_sound_1 k0) p1 p2 p3) fun r1 =>
    some ((decide ((0 : Int) ≤ r1.1)), r1.2)

def slices_IndexFunc_api_Value_api_Value_of_value_sound_1 : Nat → (List GValue) → Int → Int → Option (Int × Int)
  | 0, _, _, _ => none
  | k0 + 1, p1, p2, p3 =>
    slices_IndexFunc_api_Value_api_Value_of_value_sound_1_l1 (value_sound_1_s k0) p1 p2 BIG p3 (0 : Int)

def value_sound : Nat → GValue → Int → Int → Option (Bool × Int)
  | 0, _, _, _ => none
  | k0 + 1, p1, p2, p3 =>
    ift (p1.kind != (0 : Int))
      (value_sound_j1 (slices_ContainsFunc_api_Value_api_Value_of_value_sound_1 k0) p1 p2 (IntKind.i64.wrap (p3 + (1 : Int))))
      (value_sound_j1 (slices_ContainsFunc_api_Value_api_Value_of_value_sound_1 k0) p1 p2 p3)

def value_sound_1_s : Nat → GValue → Int → Int → Option (Bool × Int)
  | 0, _, _, _ => none
  | k0 + 1, p1, p2, p3 =>
    bnd ((value_sound k0) p1 (IntKind.i64.wrap (p2 + (1 : Int))) p3) fun r1 =>
    some ((!r1.1), r1.2)

end

abbrev qa452 : List CV := [.pt 1 0 0 0]
abbrev qa459 (e1 : GValue) : List CV := [ci e1.kind, ci e1.n, ci e1.scale, cst e1.s, cl eValue e1.items]
abbrev qa470 (p1 : GValue) : List CV := [ci p1.kind, ci p1.n, ci p1.scale, cst p1.s, cl eValue p1.items]
abbrev qa473 (p1 : GValue) : List PV := [pi p1.kind, pi p1.n, pi p1.scale, .s (.string p1.s), .ro (eValue.els p1.items)]
abbrev qa476 : List CV := [.pt 0 0 0 0]
abbrev qa484 (p1 : GValue) (p2 : Int) : Fr := [(3, .one (.pv (.rp [(qa473 p1)] 0 0))), (4, .one (.pv (.rp [[pi p2]] 0 0))), (5, .one (.pt 1 0 0 0))]
abbrev qa485 (z1 : Int) : St := [.box [ci z1], .box qa476]
abbrev qa492 (p1 : GValue) (p2 : Int) : Fr := [(3, .one (.pv (.rp [(qa473 p1)] 0 0))), (4, .one (.pv (.rp [[pi p2]] 0 0))), (5, .one (.pt 1 0 0 0)), (17, vb (decide ((4 : Int) < p2)))]
abbrev qa495 (p1 : GValue) : List CV := [ci p1.kind, ci p1.n, ci p1.scale, cst p1.s, cl eValue p1.items]

mutual

theorem c_slices_ContainsFunc_api_Value_api_Value_of_value_sound_1 : ∀ (k0 : Nat) (p1 : (List GValue)) (p2 : Int) (p3 : Int) (r : (Bool × Int)), slices_ContainsFunc_api_Value_api_Value_of_value_sound_1 k0 p1 p2 p3 = some r → MC Tryd.prog 38 [vl eValue p1, .one (.fn 66 [.pv (.rp [[pi p2]] 0 0), .pt 0 0 0 0])] [.box [.pt 1 0 0 0], .box [ci p3]] (vb r.1) [.box [.pt 1 0 0 0], .box [ci r.2]]
 | 0, _, _, _, r, h => by rw [slices_ContainsFunc_api_Value_api_Value_of_value_sound_1.eq_1] at h; cases h
 | k0 + 1, p1, p2, p3, r, h => by
  rw [slices_ContainsFunc_api_Value_api_Value_of_value_sound_1.eq_2] at h
  refine MC.of 2 (n := 9) (fn := Tryd.f38) (c := cd Tryd.f38 []) (by kernel_rfl) (by kernel_rfl) (by kernel_rfl) (Nat.le_of_ble_eq_true rfl) rfl (zq fun K1 hK1 => zr (zg [] 1 [0,1] (zd (hK1 _ _ (zq fun K2 hK2 => ?_)))))
  obtain ⟨r1, c3, h⟩ := zB h
  refine zr (zv [] 2 [5,6] [] [(5, vl eValue p1), (6, .one (.fn 66 [.pv (.rp [[pi p2]] 0 0), .pt 0 0 0 0]))] [.box [.pt 1 0 0 0], .box [ci p3]] (XO.calm 62 [vl eValue p1, .one (.fn 66 [.pv (.rp [[pi p2]] 0 0), .pt 0 0 0 0])] [.box [.pt 1 0 0 0], .box [ci p3]] [.box [.pt 1 0 0 0], .box [ci r1.2]] (vi r1.1) [0, 1] [(7, vi r1.1), (5, vl eValue p1), (6, .one (.fn 66 [.pv (.rp [[pi p2]] 0 0), .pt 0 0 0 0]))] [.box [.pt 1 0 0 0], .box [ci r1.2]] (by kernel_rfl) (c_slices_IndexFunc_api_Value_api_Value_of_value_sound_1 k0 _ _ _ _ c3) (by kernel_rfl) (by kernel_rfl) (by kernel_rfl) (by kernel_rfl) ?_))
  refine zv [] 2 [4] [] [(4, vb (decide ((0 : Int) ≤ r1.1)))] [.box [.pt 1 0 0 0], .box [ci r1.2]] (zd (hK2 _ _ (ze ?_)))
  obtain rfl := Option.some.inj h
  exact FinM.fin (.inr rfl) [] [vb (decide ((0 : Int) ≤ r1.1))] [] (by kernel_rfl) trivial (by kernel_rfl) (by kernel_rfl) (.one (.rfl _ rfl))

theorem c_slices_IndexFunc_api_Value_api_Value_of_value_sound_1 : ∀ (k0 : Nat) (p1 : (List GValue)) (p2 : Int) (p3 : Int) (r : (Int × Int)), slices_IndexFunc_api_Value_api_Value_of_value_sound_1 k0 p1 p2 p3 = some r → MC Tryd.prog 62 [vl eValue p1, .one (.fn 66 [.pv (.rp [[pi p2]] 0 0), .pt 0 0 0 0])] [.box qa452, .box [ci p3]] (vi r.1) [.box qa452, .box [ci r.2]]
 | 0, _, _, _, r, h => by rw [slices_IndexFunc_api_Value_api_Value_of_value_sound_1.eq_1] at h; cases h
 | k0 + 1, p1, p2, p3, r, h => by
  rw [slices_IndexFunc_api_Value_api_Value_of_value_sound_1.eq_2] at h
  refine MC.of 2 (n := 19) (fn := Tryd.f62) (c := cd Tryd.f62 []) (by kernel_rfl) (by kernel_rfl) (by kernel_rfl) (Nat.le_of_ble_eq_true rfl) rfl (zq fun K1 hK1 => zr (zg [] 1 [0,1] (zd (hK1 _ _ (zq fun K2 hK2 => ?_)))))
  have hJ1 : ∀ (z2 : Int), slices_IndexFunc_api_Value_api_Value_of_value_sound_1_j1 z2 = some r → ∀ fr1 st1, Sub 19 2 [] fr1 st1 [] [.box qa452, .box [ci z2]] → K2 fr1 st1 := by
   intro z2 h fr1 st1 hS
   unfold slices_IndexFunc_api_Value_api_Value_of_value_sound_1_j1 at h
   refine hK2 _ _ (XW.sub hS ?_)
   refine zq fun K14 hK14 => zr (zv [] 1 [4] [] [(4, vi (-1 : Int))] [.box qa452, .box [ci z2]] (zd (hK14 _ _ (ze ?_))))
   obtain rfl := Option.some.inj h
   exact FinM.fin (.inr rfl) [] [vi (-1 : Int)] [] (by kernel_rfl) trivial (by kernel_rfl) (by kernel_rfl) (.one (.rfl _ rfl))
  refine zq fun K3 hK3 => zr (zv [] 2 [0,1,7] [] [(0, vl eValue p1), (1, .one (.fn 66 [.pv (.rp [[pi p2]] 0 0), .pt 0 0 0 0])), (7, vi ((eValue.els p1).length : Int))] [.box [.pt 1 0 0 0], .box [ci p3]] ?_)
  rw [eValue.len p1]
  refine zg [] 1 [0,1,7,8] (zd (hK3 _ _ (zb 0 (XW.rounds' BIG (x := cd Tryd.f62 [1,0,1,0,0]) (by kernel_rfl) fun Q1 hQ1 => ?_))))
  have hL1 : ∀ (k1 : Nat) (z1 : Int) (x1 : Int), slices_IndexFunc_api_Value_api_Value_of_value_sound_1_l1 (value_sound_1_s k0) p1 p2 k1 z1 x1 = some r → XR Tryd.prog 19 2 [] (cd Tryd.f62 [1,0,1,0,0]) Q1 k1 [(0, vl eValue p1), (1, .one (.fn 66 [.pv (.rp [[pi p2]] 0 0), .pt 0 0 0 0])), (7, vi (p1.length : Int)), (8, vi x1)] [.box qa452, .box [ci z1]] := by
   intro k1
   induction k1 with
   | zero => intro z1 x1 h; rw [slices_IndexFunc_api_Value_api_Value_of_value_sound_1_l1.eq_1] at h; cases h
   | succ k1 ih1 =>
    intro z1 x1 h
    rw [slices_IndexFunc_api_Value_api_Value_of_value_sound_1_l1.eq_2] at h
    refine zq fun K4 hK4 => zr (zg [] 1 [0,1,7,8,9] (zd (hK4 _ _ (zq fun K5 hK5 => zC h (fun b6 h => ?_) (fun b6 h => ?_)))))
    ·refine zs (hK5 _ _ (zq fun K7 hK7 => zb 1 (zq fun K8 hK8 => zr (zg [] 2 [0,1,5,7,8] (zd ?_)))))
     refine hK8 _ _ (zq fun K9 hK9 => ?_)
     obtain ⟨e1, a10, h⟩ := zB h
     obtain ⟨r1, c11, h⟩ := zB h
     refine zr ?_
     refine zp [] 5 [0,1,5,7,8,11,15] [[pi e1.kind, pi e1.n, pi e1.scale, .s (.string e1.s), .ro (eValue.els e1.items)]] [(0, vl eValue p1), (1, .one (.fn 66 [.pv (.rp [[pi p2]] 0 0), .pt 0 0 0 0])), (5, vi x1), (7, vi (p1.length : Int)), (8, vi x1), (11, .one (.fn 66 [.pv (.rp [[pi p2]] 0 0), .pt 0 0 0 0])), (15, .ag (qa459 e1))] [.box qa452, .box [ci z1]] [0 ≤ x1 ∧ x1 < ((eValue.els p1).length : Int) ∧ elemsOk 5 (eValue.els p1), (eValue.els p1)[x1.toNat]? = some [pi e1.kind, pi e1.n, pi e1.scale, .s (.string e1.s), .ro (eValue.els e1.items)]] (⟨eValue.inb a10, ((eValue.get a10).trans (by cases e1; rfl)), trivial⟩) ?_
     refine XO.calm 66 [.ag (qa459 e1), .one (.pv (.rp [[pi p2]] 0 0)), .one (.pt 0 0 0 0)] [.box qa452, .box [ci z1]] [.box qa452, .box [ci r1.2]] (vb r1.1) [0, 1] [(16, vb r1.1), (0, vl eValue p1), (1, .one (.fn 66 [.pv (.rp [[pi p2]] 0 0), .pt 0 0 0 0])), (5, vi x1), (7, vi (p1.length : Int)), (8, vi x1), (11, .one (.fn 66 [.pv (.rp [[pi p2]] 0 0), .pt 0 0 0 0])), (15, .ag (qa459 e1))] [.box qa452, .box [ci r1.2]] (by kernel_rfl) (c_value_sound_1_s k0 _ _ _ _ c11) (by kernel_rfl) (by kernel_rfl) (by kernel_rfl) (by kernel_rfl) ?_
     refine zd (hK9 _ _ (zC h (fun b12 h => ?_) (fun b12 h => ?_)))
     ·refine zq fun K13 hK13 => zr (zv [] 2 [4] [] [(4, vi x1)] [.box qa452, .box [ci r1.2]] (zd (hK13 _ _ (ze (hQ1 _ _ _ ?_)))))
      obtain rfl := Option.some.inj h
      exact FinM.fin (.inr rfl) [] [vi x1] [] (by kernel_rfl) trivial (by kernel_rfl) (by kernel_rfl) (.one (.rfl _ rfl))
     ·exact zs (hK7 _ _ (zr (zg [] 2 [0,1,7,8] (zd (XR.sub (zk [0,1,7,8]) (ih1 r1.2 (IntKind.i64.wrap (x1 + (1 : Int))) h))))))
    ·exact zx 0 (hQ1 _ _ _ (hJ1 z1 h _ _ (zk [])))
  exact XR.sub (zk [0,1,7,8]) (hL1 BIG p3 (0 : Int) h)

theorem c_value_sound : ∀ (k0 : Nat) (p1 : GValue) (p2 : Int) (p3 : Int) (r : (Bool × Int)), value_sound k0 p1 p2 p3 = some r → MC Tryd.prog 45 [.ag (qa470 p1), vi p2, .one (.pt 0 0 0 0)] [.box [ci p3]] (vb r.1) [.box [ci r.2]]
 | 0, _, _, _, r, h => by rw [value_sound.eq_1] at h; cases h
 | k0 + 1, p1, p2, p3, r, h => by
  rw [value_sound.eq_2] at h
  refine MC.of 1 (n := 33) (fn := Tryd.f45) (c := cd Tryd.f45 []) (by kernel_rfl) (by kernel_rfl) (by kernel_rfl) (Nat.le_of_ble_eq_true rfl) rfl (zq fun K1 hK1 => zr (zg [5] 4 [3,4,5] (zd (hK1 _ _ (zq fun K2 hK2 => ?_)))))
  have hJ1 : ∀ (z1 : Int), value_sound_j1 (slices_ContainsFunc_api_Value_api_Value_of_value_sound_1 k0) p1 p2 z1 = some r → ∀ fr1 st1, Sub 33 1 [] fr1 st1 (qa484 p1 p2) (qa485 z1) → K2 fr1 st1 := by
   intro z1 h fr1 st1 hS
   unfold value_sound_j1 at h
   refine hK2 _ _ (XW.sub hS ?_)
   refine zq fun K5 hK5 => zq fun K6 hK6 => ?_
   have hJ2 : ∀ (x1 : Bool), value_sound_j2 (slices_ContainsFunc_api_Value_api_Value_of_value_sound_1 k0) p1 p2 z1 x1 = some r → ∀ fr1 st1, Sub 33 1 [] fr1 st1 [(3, .one (.pv (.rp [(qa473 p1)] 0 0))), (4, .one (.pv (.rp [[pi p2]] 0 0))), (5, .one (.pt 1 0 0 0)), (27, vb x1)] (qa485 z1) → K6 fr1 st1 := by
    intro x1 h fr1 st1 hS
    unfold value_sound_j2 at h
    refine hK6 _ _ (XW.sub hS ?_)
    refine zC h (fun b10 h => ?_) (fun b10 h => ?_)
    ·refine zq fun K11 hK11 => zr (zv [5] 1 [6] [] [(6, vb false)] (qa485 z1) (zd (hK11 _ _ (ze ?_))))
     obtain rfl := Option.some.inj h
     exact FinM.fin (.inr rfl) [] [vb false] [] (by kernel_rfl) trivial (by kernel_rfl) (by kernel_rfl) (.one (.rfl _ rfl))
    ·refine zs (hK5 _ _ (zq fun K12 hK12 => ?_))
     obtain ⟨r2, c13, h⟩ := zB h
     refine zr (zv [5] 3 [29,30] [(qa473 p1)] [(29, vl eValue p1.items), (30, .one (.fn 66 [.pv (.rp [[pi p2]] 0 0), .pt 1 0 0 0]))] (qa485 z1) ?_)
     refine XO.calm 38 [vl eValue p1.items, .one (.fn 66 [.pv (.rp [[pi p2]] 0 0), .pt 0 0 0 0])] [.box [.pt 1 0 0 0], .box [ci z1]] [.box [.pt 1 0 0 0], .box [ci r2.2]] (vb r2.1) [1, 0] [(31, vb r2.1), (29, vl eValue p1.items), (30, .one (.fn 66 [.pv (.rp [[pi p2]] 0 0), .pt 1 0 0 0]))] [.box [ci r2.2], .box qa476] (by kernel_rfl) (c_slices_ContainsFunc_api_Value_api_Value_of_value_sound_1 k0 _ _ _ _ c13) (by kernel_rfl) (by kernel_rfl) (by kernel_rfl) (by kernel_rfl) (zv [5] 2 [6] [] [(6, vb (!r2.1))] [.box [ci r2.2], .box qa476] (zd (hK12 _ _ (ze ?_))))
     obtain rfl := Option.some.inj h
     exact FinM.fin (.inr rfl) [] [vb (!r2.1)] [] (by kernel_rfl) trivial (by kernel_rfl) (by kernel_rfl) (.one (.rfl _ rfl))
   rcases zW h with ⟨b7, h⟩ | ⟨b7, h⟩
   ·exact zr (zu [5] 3 [3,4,5,17] [[pi p2]] (zt 17 b7 (zg [5] 10 [3,4,5,27] (zd (hJ2 true h _ _ (zk [3,4,5,27]))))))
   ·rcases zW h with ⟨b8, h⟩ | ⟨b8, h⟩
    ·exact zr (zv [5] 3 [3,4,5,17] [[pi p2]] (qa492 p1 p2) (qa485 z1) (zt 17 b7 (zg [5] 6 [3,4,5,23] (zt 23 b8 (zg [5] 4 [3,4,5,27] (zd (hJ2 true h _ _ (zk [3,4,5,27]))))))))
    ·obtain ⟨r1, c9, h⟩ := zB h
     refine zr (zv [5] 3 [3,4,5,17] [[pi p2]] (qa492 p1 p2) (qa485 z1) (zt 17 b7 (zg [5] 6 [3,4,5,23] (zt 23 b8 (zu [5] 1 [3,4,5,23,24] [(qa473 p1)] ?_)))))
     exact zl 65 [.ag (qa470 p1)] (vb r1) [(25, vb r1), (3, .one (.pv (.rp [(qa473 p1)] 0 0))), (4, .one (.pv (.rp [[pi p2]] 0 0))), (5, .one (.pt 1 0 0 0)), (23, vb false), (24, .ag (qa470 p1))] (c_value_plain _ _ c9) (zg [5] 2 [3,4,5,27] (zd (hJ2 (!r1) h _ _ (zk [3,4,5,27]))))
  refine zq fun K3 hK3 => zr (zu [5] 3 [3,4,5,9] [(qa473 p1)] (zd (hK3 _ _ (zC h (fun b4 h => ?_) (fun b4 h => ?_)))))
  ·exact zr (zv [5] 6 [3,4,5] [] (qa484 p1 p2) [.box [ci (IntKind.i64.wrap (p3 + (1 : Int)))], .box qa476] (zd (hJ1 (IntKind.i64.wrap (p3 + (1 : Int))) h _ _ (zk [3,4,5]))))
  ·exact zs (hJ1 p3 h _ _ (zk [3,4,5]))

theorem c_value_sound_1_s : ∀ (k0 : Nat) (p1 : GValue) (p2 : Int) (p3 : Int) (r : (Bool × Int)), value_sound_1_s k0 p1 p2 p3 = some r → MC Tryd.prog 66 [.ag (qa495 p1), .one (.pv (.rp [[pi p2]] 0 0)), .one (.pt 0 0 0 0)] [.box [.pt 1 0 0 0], .box [ci p3]] (vb r.1) [.box [.pt 1 0 0 0], .box [ci r.2]]
 | 0, _, _, _, r, h => by rw [value_sound_1_s.eq_1] at h; cases h
 | k0 + 1, p1, p2, p3, r, h => by
  rw [value_sound_1_s.eq_2] at h
  refine MC.of 2 (n := 11) (fn := Tryd.f66) (c := cd Tryd.f66 []) (by kernel_rfl) (by kernel_rfl) (by kernel_rfl) (Nat.le_of_ble_eq_true rfl) rfl (zq fun K1 hK1 => zr (zg [] 2 [1,2,3] (zd (hK1 _ _ (zq fun K2 hK2 => ?_)))))
  obtain ⟨r1, c3, h⟩ := zB h
  refine zr (zv [] 4 [5,7,8] [[pi p1.kind, pi p1.n, pi p1.scale, .s (.string p1.s), .ro (eValue.els p1.items)], [pi p2]] [(5, .ag (qa495 p1)), (7, vi (IntKind.i64.wrap (p2 + (1 : Int)))), (8, .one (.pt 1 0 0 0))] [.box [.pt 1 0 0 0], .box [ci p3]] ?_)
  refine XO.calm 45 [.ag (qa495 p1), vi (IntKind.i64.wrap (p2 + (1 : Int))), .one (.pt 0 0 0 0)] [.box [ci p3]] [.box [ci r1.2]] (vb r1.1) [1] [(9, vb r1.1), (5, .ag (qa495 p1)), (7, vi (IntKind.i64.wrap (p2 + (1 : Int)))), (8, .one (.pt 1 0 0 0))] [.box [.pt 1 0 0 0], .box [ci r1.2]] (by kernel_rfl) (c_value_sound k0 _ _ _ _ c3) (by kernel_rfl) (by kernel_rfl) (by kernel_rfl) (by kernel_rfl) (zv [] 2 [4] [] [(4, vb (!r1.1))] [.box [.pt 1 0 0 0], .box [ci r1.2]] (zd (hK2 _ _ (ze ?_))))
  obtain rfl := Option.some.inj h
  exact FinM.fin (.inr rfl) [] [vb (!r1.1)] [] (by kernel_rfl) trivial (by kernel_rfl) (by kernel_rfl) (.one (.rfl _ rfl))

end

def value_Sound (p1 : GValue) : Option Bool :=
    bnd (value_sound BIG p1 (1 : Int) (0 : Int)) fun r1 =>
    some r1.1

abbrev qa510 (p1 : GValue) : List CV := [ci p1.kind, ci p1.n, ci p1.scale, cst p1.s, cl eValue p1.items]

theorem c_value_Sound (p1 : GValue) (r : Bool) (h : value_Sound p1 = some r) : PC Tryd.prog 21 [.ag (qa510 p1)] (vb r) := by
 unfold value_Sound at h
 refine zF 6 Tryd.f21 (zq fun K1 hK1 => zr (zg [3] 2 [1] (zd (hK1 _ _ (zq fun K2 hK2 => zr ?_)))))
 refine zg [3] 2 [1,3] (zd (hK2 _ _ (zq fun K3 hK3 => ?_)))
 obtain ⟨r1, c4, h⟩ := zB h
 refine zr (zv [3] 1 [3,4] [[pi p1.kind, pi p1.n, pi p1.scale, .s (.string p1.s), .ro (eValue.els p1.items)]] [(3, .one (.pt 0 0 0 0)), (4, .ag (qa510 p1))] [.box [ci (0 : Int)]] ?_)
 refine XO.calm 45 [.ag (qa510 p1), vi (1 : Int), .one (.pt 0 0 0 0)] [.box [ci (0 : Int)]] [.box [ci r1.2]] (vb r1.1) [0] [(5, vb r1.1), (3, .one (.pt 0 0 0 0)), (4, .ag (qa510 p1))] [.box [ci r1.2]] (by kernel_rfl) (c_value_sound BIG _ _ _ _ c4) (by kernel_rfl) (by kernel_rfl) (by kernel_rfl) (by kernel_rfl) (zg [3] 1 [2] (zd (hK3 _ _ (ze ?_))))
 obtain rfl := Option.some.inj h
 exact zf [vb r1.1] (.one (.rfl _ rfl))

def value_Like_1_j1 (x1 : Bool) : Option Bool :=
    some x1

def value_Like_1 (p1 : GValue) : Option Bool :=
    ift (p1.kind == (4 : Int))
      (bnd (value_Sound p1) fun r1 =>
       value_Like_1_j1 r1)
      (value_Like_1_j1 false)

abbrev qa520 (p1 : GValue) : List PV := [pi p1.kind, pi p1.n, pi p1.scale, .s (.string p1.s), .ro (eValue.els p1.items)]

theorem c_value_Like_1 (p1 : GValue) (r : Bool) (h : value_Like_1 p1 = some r) : PC Tryd.prog 20 [.ag [ci p1.kind, ci p1.n, ci p1.scale, cst p1.s, cl eValue p1.items]] (vb r) := by
 unfold value_Like_1 at h
 refine zF 10 Tryd.f20 (zq fun K1 hK1 => zr (zg [] 2 [1] (zd (hK1 _ _ (zq fun K2 hK2 => ?_)))))
 have hJ1 : ∀ (x1 : Bool), value_Like_1_j1 x1 = some r → ∀ fr1 st1, Sub 10 0 [] fr1 st1 [(2, vb x1)] [] → K2 fr1 st1 := by
  intro x1 h fr1 st1 hS
  unfold value_Like_1_j1 at h
  refine hK2 _ _ (XW.sub hS ?_)
  refine ze ?_
  obtain rfl := Option.some.inj h
  exact zf [vb x1] (.one (.rfl _ rfl))
 rcases zW h with ⟨b3, h⟩ | ⟨b3, h⟩
 ·obtain ⟨r1, c4, h⟩ := zB h
  exact zr (zu [] 4 [1,6] [(qa520 p1)] (zt 6 b3 (zv [] 1 [6,7] [(qa520 p1)] [(6, vb true), (7, .ag [ci p1.kind, ci p1.n, ci p1.scale, cst p1.s, cl eValue p1.items])] [] (za (c_value_Sound _ _ c4) (zg [] 2 [2] (zd (hJ1 r1 h _ _ (zk [2]))))))))
 ·exact zr (zv [] 4 [1,6] [(qa520 p1)] [(1, .one (.pv (.rp [(qa520 p1)] 0 0))), (6, vb (p1.kind == (4 : Int)))] [] (zt 6 b3 (zg [] 4 [2] (zd (hJ1 false h _ _ (zk [2]))))))

def value_steps_j1 (l2 : List LStep) (x2 : Bool) : Option ((List LStep) × Bool) :=
    some (l2, (!x2))

def value_steps_l1 (p1 : ByteArray) : Nat → List LStep → Nat → Bool → Option ((List LStep) × Bool)
  | 0, _, _, _ => none
  | k1 + 1, l1, z1, x1 =>
    ift (decide (z1 < p1.size))
      (ift x1
         (grd (l1.length + 1 ≤ 4294967296) <|
          (value_steps_l1 p1 k1) (l1 ++ [(LStep.mk (Int.ofNat (Utf8.decode p1 z1).1) false false)]) (z1 + (Utf8.decode p1 z1).2) false)
         (ift (Int.ofNat (Utf8.decode p1 z1).1 == (92 : Int))
            ((value_steps_l1 p1 k1) l1 (z1 + (Utf8.decode p1 z1).2) true)
            (ift (Int.ofNat (Utf8.decode p1 z1).1 == (37 : Int))
               (grd (l1.length + 1 ≤ 4294967296) <|
                (value_steps_l1 p1 k1) (l1 ++ [(LStep.mk (0 : Int) false true)]) (z1 + (Utf8.decode p1 z1).2) x1)
               (ift (Int.ofNat (Utf8.decode p1 z1).1 == (95 : Int))
                  (grd (l1.length + 1 ≤ 4294967296) <|
                   (value_steps_l1 p1 k1) (l1 ++ [(LStep.mk (0 : Int) true false)]) (z1 + (Utf8.decode p1 z1).2) x1)
                  (grd (l1.length + 1 ≤ 4294967296) <|
                   (value_steps_l1 p1 k1) (l1 ++ [(LStep.mk (Int.ofNat (Utf8.decode p1 z1).1) false false)]) (z1 + (Utf8.decode p1 z1).2) x1)))))
      (value_steps_j1 l1 x1)

def value_steps (p1 : ByteArray) : Option ((List LStep) × Bool) :=
    value_steps_l1 p1 BIG [] 0 false

abbrev qa532 (p1 : ByteArray) (l1 : List LStep) (z1 : Nat) : St := [.raw (.stringIter p1 (z1 + (Utf8.decode p1 z1).2)), .arr 3 (eStep.els l1)]

theorem c_value_steps (p1 : ByteArray) (r : ((List LStep) × Bool)) (h : value_steps p1 = some r) : PC Tryd.prog 22 [vs p1] (.tp [vl eStep r.1, vb r.2]) := by
 unfold value_steps at h
 refine zF 45 Tryd.f22 (zq fun K1 hK1 => zr (zg [] 2 [0] (zd (hK1 _ _ (zq fun K2 hK2 => zr ?_)))))
 refine zg [] 1 [0,4] (zd (hK2 _ _ (zq fun K3 hK3 => zr (zv [] 1 [0,4,5] [] [(0, vs p1), (4, .one (.pv (.s (.slice none 0 0)))), (5, vb false)] [] (zd (hK3 _ _ ?_))))))
 refine zq fun K4 hK4 => ?_
 have hJ1 : ∀ (l2 : List LStep) (x2 : Bool), value_steps_j1 l2 x2 = some r → ∀ fr1 st1, Sub 45 0 [] fr1 st1 [(4, .one (.sl 1 3 0 l2.length)), (5, vb x2)] [.dead, .arr 3 (eStep.els l2)] → K4 fr1 st1 := by
  intro l2 x2 h fr1 st1 hS
  unfold value_steps_j1 at h
  refine hK4 _ _ (XW.sub hS ?_)
  refine zq fun K23 hK23 => zr (zg [] 5 [2,3] (zd (hK23 _ _ (ze ?_))))
  obtain rfl := Option.some.inj h
  exact zf [.one (.sl 1 3 0 l2.length), vb (!x2)] (.tpc (.one (cf_sl eStep l2 rfl rfl rfl)) (.tpc (.one (.rfl _ rfl)) (.tp0)))
 refine zq fun K5 hK5 => zr (zv [] 1 [4,5,8] [] [(4, .one (.pv (.s (.slice none 0 0)))), (5, vb false), (8, vs p1)] [] (XO.rng p1 [(9, .one (.pt 0 0 0 0)), (4, .one (.pv (.s (.slice none 0 0)))), (5, vb false), (8, vs p1)] [.raw (.stringIter p1 0)] (by kernel_rfl) (by kernel_rfl) (by kernel_rfl) (zd (hK5 _ _ (zb 0 (XW.sub (Sub.list (t := 4) (sz := 3) rfl) ?_))))))
 refine XW.rounds' BIG (x := cd Tryd.f22 [1,1,1,0,1,0,0]) (by kernel_rfl) fun Q1 hQ1 => ?_
 have hL1 : ∀ (k1 : Nat) (l1 : List LStep) (z1 : Nat) (x1 : Bool), value_steps_l1 p1 k1 l1 z1 x1 = some r → XR Tryd.prog 45 0 [] (cd Tryd.f22 [1,1,1,0,1,0,0]) Q1 k1 [(4, .one (.sl 1 3 0 l1.length)), (5, vb x1), (9, .one (.pt 0 0 0 0))] [.raw (.stringIter p1 z1), .arr 3 (eStep.els l1)] := by
  intro k1
  induction k1 with
  | zero => intro l1 z1 x1 h; rw [value_steps_l1.eq_1] at h; cases h
  | succ k1 ih1 =>
   intro l1 z1 x1 h
   rw [value_steps_l1.eq_2] at h
   refine zq fun K6 hK6 => ?_
   rcases zW h with ⟨b7, h⟩ | ⟨b7, h⟩
   ·refine zr (XO.nxt 0 p1 z1 [(10, .tp [vb true, vi (Int.ofNat z1), vk .i32 (Int.ofNat (Utf8.decode p1 z1).1)]), (4, .one (.sl 1 3 0 l1.length)), (5, vb x1), (9, .one (.pt 0 0 0 0))] (qa532 p1 l1 z1) (by kernel_rfl) (by kernel_rfl) (by kernel_rfl) (by kernel_rfl) b7 (zg [] 1 [4,5,9,10,11] (zd (hK6 _ _ (zq fun K8 hK8 => zc true (fun _ => ?_) (fun hx => by cases hx))))))
    refine zs (hK8 _ _ (zb 1 (zq fun K9 hK9 => zr (zg [] 2 [4,5,7,9] (zd (hK9 _ _ ?_))))))
    refine zb 2 (zq fun K10 hK10 => zr (zv [] 2 [4,5,7,9,18] [] [(4, .one (.sl 1 3 0 l1.length)), (5, vb x1), (7, vk .i32 (Int.ofNat (Utf8.decode p1 z1).1)), (9, .one (.pt 0 0 0 0)), (18, vb x1)] (qa532 p1 l1 z1) (zd (hK10 _ _ (zC h (fun b11 h => ?_) (fun b11 h => ?_))))))
    ·obtain ⟨g12, h⟩ := zG h
     refine zr (zp [] 5 [9,24] [] [(9, .one (.pt 0 0 0 0)), (24, .one (.sl 1 3 0 (l1.length + (eStep.els [(LStep.mk (Int.ofNat (Utf8.decode p1 z1).1) false false)]).length)))] [.raw (.stringIter p1 (z1 + (Utf8.decode p1 z1).2)), .arr 3 (eStep.els l1 ++ eStep.els [(LStep.mk (Int.ofNat (Utf8.decode p1 z1).1) false false)])] [elemsOk 3 (eStep.els [(LStep.mk (Int.ofNat (Utf8.decode p1 z1).1) false false)]), l1.length = (eStep.els l1).length, l1.length + (eStep.els [(LStep.mk (Int.ofNat (Utf8.decode p1 z1).1) false false)]).length ≤ 4294967296] (⟨eStep.ok _, (eStep.len l1).symm, g12, trivial⟩) ?_)
     rw [show l1.length + (eStep.els [(LStep.mk (Int.ofNat (Utf8.decode p1 z1).1) false false)]).length = (l1 ++ [(LStep.mk (Int.ofNat (Utf8.decode p1 z1).1) false false)]).length from eStep.lapp _ _]
     rw [show eStep.els l1 ++ eStep.els [(LStep.mk (Int.ofNat (Utf8.decode p1 z1).1) false false)] = eStep.els (l1 ++ [(LStep.mk (Int.ofNat (Utf8.decode p1 z1).1) false false)]) from eStep.app2 _ _]
     exact zg [] 2 [4,5,9] (zd (XR.sub (zk [4,5,9]) (ih1 (l1 ++ [(LStep.mk (Int.ofNat (Utf8.decode p1 z1).1) false false)]) (z1 + (Utf8.decode p1 z1).2) false h)))
    ·refine zq fun K13 hK13 => zr (zg [] 3 [4,5,7,9,25] (zd (hK13 _ _ (zC h (fun b14 h => ?_) (fun b14 h => ?_)))))
     ·exact zr (zv [] 1 [4,5,9] [] [(4, .one (.sl 1 3 0 l1.length)), (5, vb true), (9, .one (.pt 0 0 0 0))] (qa532 p1 l1 z1) (zd (XR.sub (zk [4,5,9]) (ih1 l1 (z1 + (Utf8.decode p1 z1).2) true h))))
     ·refine zq fun K15 hK15 => zr (zg [] 3 [4,5,7,9,28] (zd (hK15 _ _ (zC h (fun b16 h => ?_) (fun b16 h => ?_)))))
      ·obtain ⟨g17, h⟩ := zG h
       refine zr (zp [] 4 [5,9,34] [] [(5, vb x1), (9, .one (.pt 0 0 0 0)), (34, .one (.sl 1 3 0 (l1.length + (eStep.els [(LStep.mk (0 : Int) false true)]).length)))] [.raw (.stringIter p1 (z1 + (Utf8.decode p1 z1).2)), .arr 3 (eStep.els l1 ++ eStep.els [(LStep.mk (0 : Int) false true)])] [elemsOk 3 (eStep.els [(LStep.mk (0 : Int) false true)]), l1.length = (eStep.els l1).length, l1.length + (eStep.els [(LStep.mk (0 : Int) false true)]).length ≤ 4294967296] (⟨eStep.ok _, (eStep.len l1).symm, g17, trivial⟩) ?_)
       rw [show l1.length + (eStep.els [(LStep.mk (0 : Int) false true)]).length = (l1 ++ [(LStep.mk (0 : Int) false true)]).length from eStep.lapp _ _]
       rw [show eStep.els l1 ++ eStep.els [(LStep.mk (0 : Int) false true)] = eStep.els (l1 ++ [(LStep.mk (0 : Int) false true)]) from eStep.app2 _ _]
       exact zg [] 1 [4,5,9] (zd (XR.sub (zk [4,5,9]) (ih1 (l1 ++ [(LStep.mk (0 : Int) false true)]) (z1 + (Utf8.decode p1 z1).2) x1 h)))
      ·refine zq fun K18 hK18 => zr (zg [] 3 [4,5,7,9,35] (zd (hK18 _ _ (zC h (fun b19 h => ?_) (fun b19 h => ?_)))))
       ·obtain ⟨g20, h⟩ := zG h
        refine zr (zp [] 4 [5,9,41] [] [(5, vb x1), (9, .one (.pt 0 0 0 0)), (41, .one (.sl 1 3 0 (l1.length + (eStep.els [(LStep.mk (0 : Int) true false)]).length)))] [.raw (.stringIter p1 (z1 + (Utf8.decode p1 z1).2)), .arr 3 (eStep.els l1 ++ eStep.els [(LStep.mk (0 : Int) true false)])] [elemsOk 3 (eStep.els [(LStep.mk (0 : Int) true false)]), l1.length = (eStep.els l1).length, l1.length + (eStep.els [(LStep.mk (0 : Int) true false)]).length ≤ 4294967296] (⟨eStep.ok _, (eStep.len l1).symm, g20, trivial⟩) ?_)
        rw [show l1.length + (eStep.els [(LStep.mk (0 : Int) true false)]).length = (l1 ++ [(LStep.mk (0 : Int) true false)]).length from eStep.lapp _ _]
        rw [show eStep.els l1 ++ eStep.els [(LStep.mk (0 : Int) true false)] = eStep.els (l1 ++ [(LStep.mk (0 : Int) true false)]) from eStep.app2 _ _]
        exact zg [] 1 [4,5,9] (zd (XR.sub (zk [4,5,9]) (ih1 (l1 ++ [(LStep.mk (0 : Int) true false)]) (z1 + (Utf8.decode p1 z1).2) x1 h)))
       ·obtain ⟨g21, h⟩ := zG h
        refine zr ?_
        refine zp [] 5 [5,9,17] [] [(5, vb x1), (9, .one (.pt 0 0 0 0)), (17, .one (.sl 1 3 0 (l1.length + (eStep.els [(LStep.mk (Int.ofNat (Utf8.decode p1 z1).1) false false)]).length)))] [.raw (.stringIter p1 (z1 + (Utf8.decode p1 z1).2)), .arr 3 (eStep.els l1 ++ eStep.els [(LStep.mk (Int.ofNat (Utf8.decode p1 z1).1) false false)])] [elemsOk 3 (eStep.els [(LStep.mk (Int.ofNat (Utf8.decode p1 z1).1) false false)]), l1.length = (eStep.els l1).length, l1.length + (eStep.els [(LStep.mk (Int.ofNat (Utf8.decode p1 z1).1) false false)]).length ≤ 4294967296] (⟨eStep.ok _, (eStep.len l1).symm, g21, trivial⟩) ?_
        rw [show l1.length + (eStep.els [(LStep.mk (Int.ofNat (Utf8.decode p1 z1).1) false false)]).length = (l1 ++ [(LStep.mk (Int.ofNat (Utf8.decode p1 z1).1) false false)]).length from eStep.lapp _ _]
        rw [show eStep.els l1 ++ eStep.els [(LStep.mk (Int.ofNat (Utf8.decode p1 z1).1) false false)] = eStep.els (l1 ++ [(LStep.mk (Int.ofNat (Utf8.decode p1 z1).1) false false)]) from eStep.app2 _ _]
        exact zg [] 1 [4,5,9] (zd (XR.sub (zk [4,5,9]) (ih1 (l1 ++ [(LStep.mk (Int.ofNat (Utf8.decode p1 z1).1) false false)]) (z1 + (Utf8.decode p1 z1).2) x1 h)))
   ·refine zr (XO.nxtE 0 p1 z1 [(10, .tp [vb false]), (4, .one (.sl 1 3 0 l1.length)), (5, vb x1), (9, .one (.pt 0 0 0 0))] (by kernel_rfl) (by kernel_rfl) (by kernel_rfl) b7 (zg [] 1 [4,5,9,10,11] (zd (hK6 _ _ (zq fun K22 hK22 => zc false (fun hx => by cases hx) (fun _ => ?_))))))
    exact zx 0 (hQ1 _ _ _ (hJ1 l1 x1 h _ _ (Sub.trans (Sub.pick (fr' := [(4, .one (.sl 1 3 0 l1.length)), (5, vb x1)]) [4,5] (by kernel_rfl)) (Sub.only (fr' := [(4, .one (.sl 1 3 0 l1.length)), (5, vb x1)]) (st' := [.dead, .arr 3 (eStep.els l1)]) [1] 2 (by kernel_rfl) (by kernel_rfl) (by kernel_rfl) (by kernel_rfl)))))
 exact XR.sub (zk [4,5,9]) (hL1 BIG [] 0 false h)

def value_truth_j1 (z1 : Int) : Option GValue :=
    some (GValue.mk (1 : Int) z1 (0 : Int) ByteArray.empty [])

def value_truth (p1 : Bool) : Option GValue :=
    ift p1
      (value_truth_j1 (1 : Int))
      (value_truth_j1 (0 : Int))

abbrev qa540 : List CV := [ci (0 : Int), ci (0 : Int), ci (0 : Int), cst ByteArray.empty, .pv (.s (.slice none 0 0))]
abbrev qa541 (z1 : Int) : List CV := [ci (1 : Int), ci z1, ci (0 : Int), cst ByteArray.empty, .pv (.s (.slice none 0 0))]

theorem c_value_truth (p1 : Bool) (r : GValue) (h : value_truth p1 = some r) : PC Tryd.prog 23 [vb p1] (.ag [ci r.kind, ci r.n, ci r.scale, cst r.s, cl eValue r.items]) := by
 unfold value_truth at h
 refine zF 8 Tryd.f23 (zq fun K1 hK1 => zr (zg [2, 3] 1 [0,2] (zd (hK1 _ _ (zq fun K2 hK2 => zr ?_)))))
 refine zg [2, 3] 3 [0,2,3] (zd (hK2 _ _ (zq fun K3 hK3 => ?_)))
 have hJ1 : ∀ (z1 : Int), value_truth_j1 z1 = some r → ∀ fr1 st1, Sub 8 0 [] fr1 st1 [(2, .one (.pt 0 0 0 0)), (3, .one (.pt 1 0 0 0))] [.box qa540, .box (qa541 z1)] → K3 fr1 st1 := by
  intro z1 h fr1 st1 hS
  unfold value_truth_j1 at h
  refine hK3 _ _ (XW.sub hS ?_)
  refine zq fun K6 hK6 => zr (zg [2, 3] 2 [2] (zd (hK6 _ _ (ze ?_))))
  obtain rfl := Option.some.inj h
  exact zf [.ag (qa541 z1)] (.ag (.cons (.rfl _ rfl) (.cons (.rfl _ rfl) (.cons (.rfl _ rfl) (.cons (.rfl _ rfl) (.cons (.nl) .nil))))))
 refine zq fun K4 hK4 => zr (zv [2, 3] 1 [2,3,5] [] [(2, .one (.pt 0 0 0 0)), (3, .one (.pt 1 0 0 0)), (5, vb p1)] [.box qa540, .box [ci (1 : Int), ci (0 : Int), ci (0 : Int), cst ByteArray.empty, .pv (.s (.slice none 0 0))]] (zd (hK4 _ _ (zC h (fun b5 h => ?_) (fun b5 h => ?_)))))
 ·exact zr (zg [2, 3] 2 [2,3] (zd (hJ1 (1 : Int) h _ _ (zk [2,3]))))
 ·exact zs (hJ1 (0 : Int) h _ _ (zk [2,3]))

def value_Like_j3 (rec2 : List Int → Int → Option GValue) (x4 : Int) (l2 : List Int) : Option GValue :=
    rec2 l2 (IntKind.i64.wrap (x4 + (1 : Int)))

def value_Like_j2 (rec2 : List Int → Int → Option GValue) (x2 : List Int) (l1 : List Int) (x4 : Int) (x5 : Bool) : Option GValue :=
    ift x5
      (bnd (at? x2 (IntKind.i64.wrap (x4 - (1 : Int)))) fun e8 =>
       bnd (at? l1 x4) fun e9 =>
       value_Like_j3 rec2 x4 (l1.set x4.toNat e8))
      (value_Like_j3 rec2 x4 l1)

def value_Like_j4 (rec1 : List Int → Int → Option GValue) (x3 : Int) (l3 : List Int) : Option GValue :=
    rec1 l3 (IntKind.i64.wrap (x3 + (1 : Int)))

def value_Like_l2 (rec1 : List Int → Int → Option GValue) (p1 : GValue) (x2 : List Int) (x3 : Int) (e2 : LStep) : Nat → List Int → Int → Option GValue
  | 0, _, _ => none
  | k2 + 1, l1, x4 =>
    ift (decide (x4 < (((x2.length : Int).toNat : Nat) : Int)))
      (ift e2.many
         (bnd (at? x2 x4) fun e3 =>
          bnd (at? l1 x4) fun e4 =>
          ift (decide ((0 : Int) < x4))
            (bnd (at? (l1.set x4.toNat e3) x4) fun e5 =>
             bnd (at? (l1.set x4.toNat e3) (IntKind.i64.wrap (x4 - (1 : Int)))) fun e6 =>
             bnd (some (IntKind.i64.wrap (BitVec.ofInt (IntKind.i64).bits e5 ||| BitVec.ofInt (IntKind.i64).bits e6).toNat)) fun y1 =>
             value_Like_j3 (value_Like_l2 rec1 p1 x2 x3 e2 k2) x4 ((l1.set x4.toNat e3).set x4.toNat y1))
            (value_Like_j3 (value_Like_l2 rec1 p1 x2 x3 e2 k2) x4 (l1.set x4.toNat e3)))
         (ift (decide ((0 : Int) < x4))
            (ift e2.one
               (value_Like_j2 (value_Like_l2 rec1 p1 x2 x3 e2 k2) x2 l1 x4 true)
               (bnd (at? (runesS p1.s) (IntKind.i64.wrap (x4 - (1 : Int)))) fun e7 =>
                value_Like_j2 (value_Like_l2 rec1 p1 x2 x3 e2 k2) x2 l1 x4 (e7 == e2.char)))
            (value_Like_j2 (value_Like_l2 rec1 p1 x2 x3 e2 k2) x2 l1 x4 false)))
      (value_Like_j4 rec1 x3 l1)

def value_Like_j5 (p1 : GValue) (x6 : List Int) : Option GValue :=
    bnd (at? x6 ((runesS p1.s).length : Int)) fun e10 =>
    bnd (value_truth (e10 == (1 : Int))) fun r4 =>
    some r4

def value_Like_l1 (p1 : GValue) (r3 : ((List LStep) × Bool)) : Nat → List Int → Int → Option GValue
  | 0, _, _ => none
  | k1 + 1, x2, x3 =>
    ift (decide (x3 < (r3.1.length : Int)))
      (bnd (at? r3.1 x3) fun e2 =>
       grd (0 ≤ (x2.length : Int) ∧ (x2.length : Int) ≤ (x2.length : Int) ∧ (x2.length : Int) ≤ 4294967296) <|
       value_Like_l2 (value_Like_l1 p1 r3 k1) p1 x2 x3 e2 BIG (List.replicate (x2.length : Int).toNat (0 : Int)) (0 : Int))
      (value_Like_j5 p1 x2)

def value_Like_j1 (p1 : GValue) (p2 : GValue) (x1 : Bool) : Option GValue :=
    ift x1
      (some (GValue.mk (0 : Int) (0 : Int) (0 : Int) ByteArray.empty []))
      (bnd (value_steps p2.s) fun r3 =>
       ift (!r3.2)
         (some (GValue.mk (0 : Int) (0 : Int) (0 : Int) ByteArray.empty []))
         (grd (p1.s.size ≤ 4294967296) <|
          grd (0 ≤ (IntKind.i64.wrap (((runesS p1.s).length : Int) + (1 : Int))) ∧ (IntKind.i64.wrap (((runesS p1.s).length : Int) + (1 : Int))) ≤ (IntKind.i64.wrap (((runesS p1.s).length : Int) + (1 : Int))) ∧ (IntKind.i64.wrap (((runesS p1.s).length : Int) + (1 : Int))) ≤ 4294967296) <|
          bnd (at? (List.replicate (IntKind.i64.wrap (((runesS p1.s).length : Int) + (1 : Int))).toNat (0 : Int)) (0 : Int)) fun e1 =>
          value_Like_l1 p1 r3 BIG ((List.replicate (IntKind.i64.wrap (((runesS p1.s).length : Int) + (1 : Int))).toNat (0 : Int)).set (0 : Int).toNat (1 : Int)) (0 : Int)))

def value_Like (p1 : GValue) (p2 : GValue) : Option GValue :=
    bnd (value_Like_1 p1) fun r1 =>
    ift (!r1)
      (value_Like_j1 p1 p2 true)
      (bnd (value_Like_1 p2) fun r2 =>
       value_Like_j1 p1 p2 (!r2))

abbrev qa549 (p1 : GValue) : List PV := [pi p1.kind, pi p1.n, pi p1.scale, .s (.string p1.s), .ro (eValue.els p1.items)]
abbrev qa550 (p2 : GValue) : List PV := [pi p2.kind, pi p2.n, pi p2.scale, .s (.string p2.s), .ro (eValue.els p2.items)]
abbrev qa551 : List CV := [ci (0 : Int), ci (0 : Int), ci (0 : Int), cst ByteArray.empty, .pv (.s (.slice none 0 0))]
abbrev qa561 (p1 : GValue) (r3 : ((List LStep) × Bool)) (x3 : Int) (l3 : List Int) : Fr := [(4, .one (.pt 0 0 0 0)), (8, vl (eK .i32) (runesS p1.s)), (9, vl eI l3), (43, vl eStep r3.1), (44, vi (r3.1.length : Int)), (45, vi (IntKind.i64.wrap (x3 + (1 : Int))))]
abbrev qa563 (e2 : LStep) : List CV := [ck .i32 e2.char, cb e2.one, cb e2.many]
abbrev qa575 (p1 : GValue) (r3 : ((List LStep) × Bool)) (x3 : Int) (l1 : List Int) : Fr := [(4, .one (.pt 0 0 0 0)), (8, vl (eK .i32) (runesS p1.s)), (12, .one (.sl 3 1 0 l1.length)), (43, vl eStep r3.1), (44, vi (r3.1.length : Int)), (45, vi x3)]
abbrev qa583 (e2 : LStep) (l1 : List Int) : St := [.box qa551, .dead, .box (qa563 e2), .arr 1 (eI.els l1)]

theorem c_value_Like (p1 : GValue) (p2 : GValue) (r : GValue) (h : value_Like p1 p2 = some r) : PC Tryd.prog 7 [.ag [ci p1.kind, ci p1.n, ci p1.scale, cst p1.s, cl eValue p1.items], .ag [ci p2.kind, ci p2.n, ci p2.scale, cst p2.s, cl eValue p2.items]] (.ag [ci r.kind, ci r.n, ci r.scale, cst r.s, cl eValue r.items]) := by
 unfold value_Like at h
 refine zF 115 Tryd.f7 (zq fun K1 hK1 => zr (zg [4, 11] 3 [2,3,4] (zd (hK1 _ _ (zq fun K2 hK2 => zr ?_)))))
 refine zg [4, 11] 1 [2,3,4,5] (zd (hK2 _ _ (zq fun K3 hK3 => zq fun K4 hK4 => ?_)))
 have hJ1 : ∀ (x1 : Bool), value_Like_j1 p1 p2 x1 = some r → ∀ fr1 st1, Sub 115 0 [] fr1 st1 [(2, .one (.pv (.rp [(qa549 p1)] 0 0))), (3, .one (.pv (.rp [(qa550 p2)] 0 0))), (4, .one (.pt 0 0 0 0)), (23, vb x1)] [.box qa551] → K4 fr1 st1 := by
  intro x1 h fr1 st1 hS
  unfold value_Like_j1 at h
  refine hK4 _ _ (XW.sub hS ?_)
  refine zC h (fun b8 h => ?_) (fun b8 h => ?_)
  ·refine zq fun K9 hK9 => zr (zg [4, 11] 2 [4] (zd (hK9 _ _ (ze ?_))))
   obtain rfl := Option.some.inj h
   exact zf [.ag qa551] (.ag (.cons (.rfl _ rfl) (.cons (.rfl _ rfl) (.cons (.rfl _ rfl) (.cons (.rfl _ rfl) (.cons (.nl) .nil))))))
  ·refine zs (hK3 _ _ (zq fun K10 hK10 => ?_))
   obtain ⟨r3, c11, h⟩ := zB h
   refine zr (zu [4, 11] 2 [2,4,27] [(qa550 p2)] (zl 22 [vs p2.s] (.tp [vl eStep r3.1, vb r3.2]) [(28, .tp [vl eStep r3.1, vb r3.2]), (2, .one (.pv (.rp [(qa549 p1)] 0 0))), (4, .one (.pt 0 0 0 0)), (27, vs p2.s)] (c_value_steps _ _ c11) (zg [4, 11] 5 [2,4,6,7] (zd (hK10 _ _ (zq fun K12 hK12 => zq fun K13 hK13 => ?_))))))
   refine zr (zg [4, 11] 2 [2,4,6,32] (zd (hK13 _ _ (zC h (fun b14 h => ?_) (fun b14 h => ?_)))))
   ·refine zq fun K15 hK15 => zr (zv [4, 11] 2 [4] [] [(4, .one (.pt 0 0 0 0))] [.box qa551] (zd (hK15 _ _ (ze ?_))))
    obtain rfl := Option.some.inj h
    exact zf [.ag qa551] (.ag (.cons (.rfl _ rfl) (.cons (.rfl _ rfl) (.cons (.rfl _ rfl) (.cons (.rfl _ rfl) (.cons (.nl) .nil))))))
   ·refine zs (hK12 _ _ (zq fun K16 hK16 => ?_))
    obtain ⟨g17, h⟩ := zG h
    refine zr (zp [4, 11] 3 [4,6,36] [[pi p1.kind, pi p1.n, pi p1.scale, .s (.string p1.s), .ro (eValue.els p1.items)]] [(4, .one (.pt 0 0 0 0)), (6, vl eStep r3.1), (36, .one (.pv (.ro (runeEls p1.s))))] [.box [ci (0 : Int), ci (0 : Int), ci (0 : Int), cst ByteArray.empty, .pv (.s (.slice none 0 0))]] [([[pi p1.kind, pi p1.n, pi p1.scale, .s (.string p1.s), .ro (eValue.els p1.items)]] : List (List PV))[0]? = some [pi p1.kind, pi p1.n, pi p1.scale, .s (.string p1.s), .ro (eValue.els p1.items)], p1.s.size ≤ 4294967296] (⟨rfl, g17, trivial⟩) ?_)
    rw [runeEls_eR p1.s]
    refine zg [4, 11] 1 [4,6,8] (zd (hK16 _ _ (zq fun K18 hK18 => ?_)))
    obtain ⟨g20, h⟩ := zG h
    refine zr (zv [4, 11] 2 [4,6,8,38] [] [(4, .one (.pt 0 0 0 0)), (6, vl eStep r3.1), (8, vl (eK .i32) (runesS p1.s)), (38, vi (((eK .i32).els (runesS p1.s)).length : Int))] [.box [ci (0 : Int), ci (0 : Int), ci (0 : Int), cst ByteArray.empty, .pv (.s (.slice none 0 0))]] ?_)
    rw [(eK .i32).len (runesS p1.s)]
    refine zp [4, 11] 2 [4,6,8,40] [] [(4, .one (.pt 0 0 0 0)), (6, vl eStep r3.1), (8, vl (eK .i32) (runesS p1.s)), (40, .one (.sl 1 1 0 ((IntKind.i64.wrap (((runesS p1.s).length : Int) + (1 : Int))).toNat)))] [.box [ci (0 : Int), ci (0 : Int), ci (0 : Int), cst ByteArray.empty, .pv (.s (.slice none 0 0))], .arr 1 (List.replicate (IntKind.i64.wrap (((runesS p1.s).length : Int) + (1 : Int))).toNat [pi (0 : Int)])] [0 ≤ (IntKind.i64.wrap (((runesS p1.s).length : Int) + (1 : Int))), (IntKind.i64.wrap (((runesS p1.s).length : Int) + (1 : Int))) ≤ (IntKind.i64.wrap (((runesS p1.s).length : Int) + (1 : Int))), (IntKind.i64.wrap (((runesS p1.s).length : Int) + (1 : Int))) ≤ 4294967296] (⟨g20.1, g20.2.1, g20.2.2, trivial⟩) ?_
    rw [show List.replicate (IntKind.i64.wrap (((runesS p1.s).length : Int) + (1 : Int))).toNat [pi (0 : Int)] = eI.els (List.replicate (IntKind.i64.wrap (((runesS p1.s).length : Int) + (1 : Int))).toNat (0 : Int)) from eI.rep _ (0 : Int)]
    refine zg [4, 11] 1 [4,6,8,9] (zd (hK18 _ _ (zq fun K21 hK21 => ?_)))
    obtain ⟨e1, a22, h⟩ := zB h
    refine zr ?_
    refine zp [4, 11] 3 [4,6,8,9] [[pi e1]] [(4, .one (.pt 0 0 0 0)), (6, vl eStep r3.1), (8, vl (eK .i32) (runesS p1.s)), (9, .one (.sl 1 1 0 ((IntKind.i64.wrap (((runesS p1.s).length : Int) + (1 : Int))).toNat)))] [.box [ci (0 : Int), ci (0 : Int), ci (0 : Int), cst ByteArray.empty, .pv (.s (.slice none 0 0))], .arr 1 ((eI.els (List.replicate (IntKind.i64.wrap (((runesS p1.s).length : Int) + (1 : Int))).toNat (0 : Int))).set (0 + (0 : Int).toNat) [pi (1 : Int)])] [0 ≤ (0 : Int) ∧ (0 : Int) < (((IntKind.i64.wrap (((runesS p1.s).length : Int) + (1 : Int))).toNat : Nat) : Int), (eI.els (List.replicate (IntKind.i64.wrap (((runesS p1.s).length : Int) + (1 : Int))).toNat (0 : Int)))[(0 + (0 : Int).toNat)]? = some [pi e1]] (⟨(by have := Enc.inb' a22; simpa using this), (eI.get0 a22), trivial⟩) ?_
    rw [show (eI.els (List.replicate (IntKind.i64.wrap (((runesS p1.s).length : Int) + (1 : Int))).toNat (0 : Int))).set (0 + (0 : Int).toNat) [pi (1 : Int)] = eI.els ((List.replicate (IntKind.i64.wrap (((runesS p1.s).length : Int) + (1 : Int))).toNat (0 : Int)).set (0 : Int).toNat (1 : Int)) from eI.set0 _ _ (1 : Int)]
    refine zd (hK21 _ _ (zq fun K23 hK23 => ?_))
    have hJ5 : ∀ (x6 : List Int), value_Like_j5 p1 x6 = some r → ∀ fr1 st1, Sub 115 0 [] fr1 st1 [(4, .one (.pt 0 0 0 0)), (8, vl (eK .i32) (runesS p1.s)), (9, vl eI x6)] [.box qa551, .dead] → K23 fr1 st1 := by
     intro x6 h fr1 st1 hS
     unfold value_Like_j5 at h
     refine hK23 _ _ (XW.sub hS ?_)
     refine zq fun K58 hK58 => ?_
     obtain ⟨e10, a59, h⟩ := zB h
     obtain ⟨r4, c60, h⟩ := zB h
     refine zr (zv [4, 11] 3 [4,108,110] [] [(4, .one (.pt 0 0 0 0)), (108, vl eI x6), (110, vi (((eK .i32).els (runesS p1.s)).length : Int))] [.box [ci (0 : Int), ci (0 : Int), ci (0 : Int), cst ByteArray.empty, .pv (.s (.slice none 0 0))], .dead] ?_)
     rw [(eK .i32).len (runesS p1.s)]
     refine zo [4, 11] 3 [4,113] [[pi e10]] [0 ≤ ((runesS p1.s).length : Int) ∧ ((runesS p1.s).length : Int) < ((eI.els x6).length : Int) ∧ elemsOk 1 (eI.els x6), (eI.els x6)[((runesS p1.s).length : Int).toNat]? = some [pi e10]] (⟨eI.inb a59, (eI.get a59), trivial⟩) (za (c_value_truth _ _ c60) (zv [4, 11] 1 [4] [] [(4, .one (.pt 0 0 0 0))] [.box [ci r4.kind, ci r4.n, ci r4.scale, cst r4.s, cl eValue r4.items], .dead] (zd (hK58 _ _ (ze ?_)))))
     obtain rfl := Option.some.inj h
     exact zf [.ag [ci r4.kind, ci r4.n, ci r4.scale, cst r4.s, cl eValue r4.items]] (.ag (.cons (.rfl _ rfl) (.cons (.rfl _ rfl) (.cons (.rfl _ rfl) (.cons (.rfl _ rfl) (.cons (.rfl _ rfl) .nil))))))
    refine zq fun K24 hK24 => zr (zv [4, 11] 2 [4,8,9,43,44] [] [(4, .one (.pt 0 0 0 0)), (8, vl (eK .i32) (runesS p1.s)), (9, .one (.sl 1 1 0 ((IntKind.i64.wrap (((runesS p1.s).length : Int) + (1 : Int))).toNat))), (43, vl eStep r3.1), (44, vi ((eStep.els r3.1).length : Int))] [.box [ci (0 : Int), ci (0 : Int), ci (0 : Int), cst ByteArray.empty, .pv (.s (.slice none 0 0))], .arr 1 (eI.els ((List.replicate (IntKind.i64.wrap (((runesS p1.s).length : Int) + (1 : Int))).toNat (0 : Int)).set (0 : Int).toNat (1 : Int)))] ?_)
    rw [eStep.len r3.1]
    refine zv [4, 11] 1 [4,8,9,43,44,45] [] [(4, .one (.pt 0 0 0 0)), (8, vl (eK .i32) (runesS p1.s)), (9, .one (.sl 1 1 0 ((IntKind.i64.wrap (((runesS p1.s).length : Int) + (1 : Int))).toNat))), (43, vl eStep r3.1), (44, vi (r3.1.length : Int)), (45, vi (0 : Int))] [.box qa551, .arr 1 (eI.els ((List.replicate (IntKind.i64.wrap (((runesS p1.s).length : Int) + (1 : Int))).toNat (0 : Int)).set (0 : Int).toNat (1 : Int)))] (zd (hK24 _ _ (zb 0 ?_)))
    refine XW.sub (Sub.kill (fr' := [(4, .one (.pt 0 0 0 0)), (8, vl (eK .i32) (runesS p1.s)), (9, vl eI ((List.replicate (IntKind.i64.wrap (((runesS p1.s).length : Int) + (1 : Int))).toNat (0 : Int)).set (0 : Int).toNat (1 : Int))), (43, vl eStep r3.1), (44, vi (r3.1.length : Int)), (45, vi (0 : Int))]) 1 (Nat.zero_le _) (by kernel_rfl) ⟨.one (.rfl _ rfl), .one (.rfl _ rfl), .one (cf_sl eI ((List.replicate (IntKind.i64.wrap (((runesS p1.s).length : Int) + (1 : Int))).toNat (0 : Int)).set (0 : Int).toNat (1 : Int)) rfl rfl (by simp)), .one (.rfl _ rfl), .one (.rfl _ rfl), .one (.rfl _ rfl), trivial⟩) ?_
    refine XW.rounds' BIG (x := cd Tryd.f7 [1,1,1,1,1,1,1,1,0,1,0,0]) (by kernel_rfl) fun Q1 hQ1 => ?_
    have hL1 : ∀ (k1 : Nat) (x2 : List Int) (x3 : Int), value_Like_l1 p1 r3 k1 x2 x3 = some r → XR Tryd.prog 115 0 [] (cd Tryd.f7 [1,1,1,1,1,1,1,1,0,1,0,0]) Q1 k1 [(4, .one (.pt 0 0 0 0)), (8, vl (eK .i32) (runesS p1.s)), (9, vl eI x2), (43, vl eStep r3.1), (44, vi (r3.1.length : Int)), (45, vi x3)] [.box qa551, .dead] := by
     intro k1
     induction k1 with
     | zero => intro x2 x3 h; rw [value_Like_l1.eq_1] at h; cases h
     | succ k1 ih1 =>
      intro x2 x3 h
      rw [value_Like_l1.eq_2] at h
      refine zq fun K25 hK25 => zr (zg [4, 11] 1 [4,8,9,43,44,45,46] (zd (hK25 _ _ (zq fun K26 hK26 => zC h (fun b27 h => ?_) (fun b27 h => ?_)))))
      ·refine zs (hK26 _ _ (zq fun K28 hK28 => zb 1 (zq fun K29 hK29 => ?_)))
       obtain ⟨e2, a30, h⟩ := zB h
       refine zr (zo [4, 11] 4 [4,8,9,11,43,44,45] [[.s (.int .i32 e2.char), .s (.bool e2.one), .s (.bool e2.many)]] [0 ≤ x3 ∧ x3 < ((eStep.els r3.1).length : Int) ∧ elemsOk 3 (eStep.els r3.1), (eStep.els r3.1)[x3.toNat]? = some [.s (.int .i32 e2.char), .s (.bool e2.one), .s (.bool e2.many)]] (⟨eStep.inb a30, (eStep.get a30), trivial⟩) (zd (hK29 _ _ (zq fun K31 hK31 => ?_))))
       obtain ⟨g33, h⟩ := zG h
       refine zr (zv [4, 11] 2 [4,8,9,11,43,44,45,50] [] [(4, .one (.pt 0 0 0 0)), (8, vl (eK .i32) (runesS p1.s)), (9, vl eI x2), (11, .one (.pt 2 0 0 0)), (43, vl eStep r3.1), (44, vi (r3.1.length : Int)), (45, vi x3), (50, vi ((eI.els x2).length : Int))] [.box [ci (0 : Int), ci (0 : Int), ci (0 : Int), cst ByteArray.empty, .pv (.s (.slice none 0 0))], .dead, .box [ck .i32 e2.char, cb e2.one, cb e2.many]] ?_)
       rw [eI.len x2]
       refine zp [4, 11] 1 [4,8,9,11,43,44,45,51] [] [(4, .one (.pt 0 0 0 0)), (8, vl (eK .i32) (runesS p1.s)), (9, vl eI x2), (11, .one (.pt 2 0 0 0)), (43, vl eStep r3.1), (44, vi (r3.1.length : Int)), (45, vi x3), (51, .one (.sl 3 1 0 ((x2.length : Int).toNat)))] [.box [ci (0 : Int), ci (0 : Int), ci (0 : Int), cst ByteArray.empty, .pv (.s (.slice none 0 0))], .dead, .box [ck .i32 e2.char, cb e2.one, cb e2.many], .arr 1 (List.replicate (x2.length : Int).toNat [pi (0 : Int)])] [0 ≤ (x2.length : Int), (x2.length : Int) ≤ (x2.length : Int), (x2.length : Int) ≤ 4294967296] (⟨g33.1, g33.2.1, g33.2.2, trivial⟩) ?_
       rw [show List.replicate (x2.length : Int).toNat [pi (0 : Int)] = eI.els (List.replicate (x2.length : Int).toNat (0 : Int)) from eI.rep _ (0 : Int)]
       refine zg [4, 11] 1 [4,8,9,11,12,43,44,45] (zd (hK31 _ _ (zq fun K34 hK34 => ?_)))
       have hJ4 : ∀ (l3 : List Int), value_Like_j4 (value_Like_l1 p1 r3 k1) x3 l3 = some r → ∀ fr1 st1, Sub 115 0 [] fr1 st1 [(4, .one (.pt 0 0 0 0)), (8, vl (eK .i32) (runesS p1.s)), (12, .one (.sl 3 1 0 l3.length)), (43, vl eStep r3.1), (44, vi (r3.1.length : Int)), (45, vi x3)] [.box qa551, .dead, .dead, .arr 1 (eI.els l3)] → K34 fr1 st1 := by
        intro l3 h fr1 st1 hS
        unfold value_Like_j4 at h
        refine hK34 _ _ (XW.sub hS ?_)
        refine zr (zg [4, 11] 2 [4,8,9,43,44,45] (zd (hK28 _ _ (zr (zv [4, 11] 2 [4,8,9,43,44,45] [] [(4, .one (.pt 0 0 0 0)), (8, vl (eK .i32) (runesS p1.s)), (9, .one (.sl 3 1 0 l3.length)), (43, vl eStep r3.1), (44, vi (r3.1.length : Int)), (45, vi (IntKind.i64.wrap (x3 + (1 : Int))))] [.box qa551, .dead, .dead, .arr 1 (eI.els l3)] (zd ?_))))))
        refine XR.sub (Sub.kill (fr' := (qa561 p1 r3 x3 l3)) 3 (Nat.zero_le _) (by kernel_rfl) ⟨.one (.rfl _ rfl), .one (.rfl _ rfl), .one (cf_sl eI l3 rfl rfl rfl), .one (.rfl _ rfl), .one (.rfl _ rfl), .one (.rfl _ rfl), trivial⟩) ?_
        exact XR.sub (Sub.trans (Sub.pick (fr' := (qa561 p1 r3 x3 l3)) [4,8,9,43,44,45] (by kernel_rfl)) (Sub.take (fr' := (qa561 p1 r3 x3 l3)) 2 (Nat.zero_le _) (by kernel_rfl) (by kernel_rfl))) (ih1 l3 (IntKind.i64.wrap (x3 + (1 : Int))) h)
       refine zq fun K35 hK35 => zr (zg [4, 11] 3 [4,8,9,11,12,43,44,45,53,54] (zd (hK35 _ _ (zb 2 (XW.rounds' BIG (x := cd Tryd.f7 [1,1,1,1,1,1,1,1,0,1,0,0,1,1,0,0,1,1,0,1,0,0]) (by kernel_rfl) fun Q2 hQ2 => ?_)))))
       have hL2 : ∀ (k2 : Nat) (l1 : List Int) (x4 : Int), value_Like_l2 (value_Like_l1 p1 r3 k1) p1 x2 x3 e2 k2 l1 x4 = some r → XR Tryd.prog 115 0 [] (cd Tryd.f7 [1,1,1,1,1,1,1,1,0,1,0,0,1,1,0,0,1,1,0,1,0,0]) Q2 k2 [(4, .one (.pt 0 0 0 0)), (8, vl (eK .i32) (runesS p1.s)), (9, vl eI x2), (11, .one (.pt 2 0 0 0)), (12, .one (.sl 3 1 0 l1.length)), (43, vl eStep r3.1), (44, vi (r3.1.length : Int)), (45, vi x3), (53, vi (((x2.length : Int).toNat : Nat) : Int)), (54, vi x4)] (qa583 e2 l1) := by
        intro k2
        induction k2 with
        | zero => intro l1 x4 h; rw [value_Like_l2.eq_1] at h; cases h
        | succ k2 ih2 =>
         intro l1 x4 h
         rw [value_Like_l2.eq_2] at h
         refine zq fun K36 hK36 => zr (zg [4, 11] 1 [4,8,9,11,12,43,44,45,53,54,55] (zd (hK36 _ _ (zq fun K37 hK37 => zC h (fun b38 h => ?_) (fun b38 h => ?_)))))
         ·refine zs (hK37 _ _ (zq fun K39 hK39 => ?_))
          have hJ3 : ∀ (l2 : List Int), value_Like_j3 (value_Like_l2 (value_Like_l1 p1 r3 k1) p1 x2 x3 e2 k2) x4 l2 = some r → ∀ fr1 st1, Sub 115 0 [] fr1 st1 [(4, .one (.pt 0 0 0 0)), (8, vl (eK .i32) (runesS p1.s)), (9, vl eI x2), (11, .one (.pt 2 0 0 0)), (12, .one (.sl 3 1 0 l2.length)), (43, vl eStep r3.1), (44, vi (r3.1.length : Int)), (45, vi x3), (53, vi (((x2.length : Int).toNat : Nat) : Int)), (54, vi x4)] [.box qa551, .dead, .box (qa563 e2), .arr 1 (eI.els l2)] → K39 fr1 st1 := by
           intro l2 h fr1 st1 hS
           unfold value_Like_j3 at h
           refine hK39 _ _ (XW.sub hS ?_)
           exact zr (zg [4, 11] 2 [4,8,9,11,12,43,44,45,53,54] (zd (XR.sub (zk [4,8,9,11,12,43,44,45,53,54]) (ih2 l2 (IntKind.i64.wrap (x4 + (1 : Int))) h))))
          refine zb 3 (zq fun K40 hK40 => zr (zg [4, 11] 2 [4,8,9,11,12,13,43,44,45,53,54] (zd (hK40 _ _ (zb 4 (zq fun K41 hK41 => ?_))))))
          refine zr (zv [4, 11] 3 [4,8,9,11,12,13,43,44,45,53,54,57] [] [(4, .one (.pt 0 0 0 0)), (8, vl (eK .i32) (runesS p1.s)), (9, vl eI x2), (11, .one (.pt 2 0 0 0)), (12, .one (.sl 3 1 0 l1.length)), (13, vi x4), (43, vl eStep r3.1), (44, vi (r3.1.length : Int)), (45, vi x3), (53, vi (((x2.length : Int).toNat : Nat) : Int)), (54, vi x4), (57, vb e2.many)] (qa583 e2 l1) (zd (hK41 _ _ (zC h (fun b42 h => ?_) (fun b42 h => ?_)))))
          ·refine zq fun K43 hK43 => ?_
           obtain ⟨e3, a44, h⟩ := zB h
           obtain ⟨e4, a45, h⟩ := zB h
           refine zr ?_
           refine zp [4, 11] 8 [4,8,9,11,12,13,43,44,45,53,54] [[pi e3], [pi e4]] [(4, .one (.pt 0 0 0 0)), (8, vl (eK .i32) (runesS p1.s)), (9, vl eI x2), (11, .one (.pt 2 0 0 0)), (12, .one (.sl 3 1 0 l1.length)), (13, vi x4), (43, vl eStep r3.1), (44, vi (r3.1.length : Int)), (45, vi x3), (53, vi (((x2.length : Int).toNat : Nat) : Int)), (54, vi x4)] [.box [ci (0 : Int), ci (0 : Int), ci (0 : Int), cst ByteArray.empty, .pv (.s (.slice none 0 0))], .dead, .box [ck .i32 e2.char, cb e2.one, cb e2.many], .arr 1 ((eI.els l1).set (0 + x4.toNat) [pi e3])] [0 ≤ x4 ∧ x4 < ((eI.els x2).length : Int) ∧ elemsOk 1 (eI.els x2), (eI.els x2)[x4.toNat]? = some [pi e3], 0 ≤ x4 ∧ x4 < ((l1.length : Nat) : Int), (eI.els l1)[(0 + x4.toNat)]? = some [pi e4]] (⟨eI.inb a44, (eI.get a44), Enc.inb' a45, (eI.get0 a45), trivial⟩) ?_
           rw [show (eI.els l1).set (0 + x4.toNat) [pi e3] = eI.els (l1.set x4.toNat e3) from eI.set0 _ _ e3]
           refine zd (hK43 _ _ (zq fun K46 hK46 => zr (zg [4, 11] 2 [4,8,9,11,12,13,43,44,45,53,54,68] (zd (hK46 _ _ (zC h (fun b47 h => ?_) (fun b47 h => ?_)))))))
           ·obtain ⟨e5, a48, h⟩ := zB h
            obtain ⟨e6, a49, h⟩ := zB h
            obtain ⟨y1, hy50, h⟩ := zB h
            refine zw 9 [(77, vi e6), (76, .one (.pt 3 1 (0 + (IntKind.i64.wrap (x4 - (1 : Int))).toNat) 0)), (75, vi (IntKind.i64.wrap (x4 - (1 : Int)))), (74, vi x4), (73, .one (.sl 3 1 0 l1.length)), (72, vi e5), (71, .one (.pt 3 1 (0 + x4.toNat) 0)), (70, vi x4), (69, .one (.sl 3 1 0 l1.length)), (4, .one (.pt 0 0 0 0)), (8, vl (eK .i32) (runesS p1.s)), (9, vl eI x2), (11, .one (.pt 2 0 0 0)), (12, .one (.sl 3 1 0 l1.length)), (13, vi x4), (43, vl eStep r3.1), (44, vi (r3.1.length : Int)), (45, vi x3), (53, vi (((x2.length : Int).toNat : Nat) : Int)), (54, vi x4), (68, vb (decide ((0 : Int) < x4)))] ?_ ?_
            ·exact zyo 9 [[pi e5], [pi e6]] [0 ≤ x4 ∧ x4 < ((l1.length : Nat) : Int), (eI.els (l1.set x4.toNat e3))[(0 + x4.toNat)]? = some [pi e5], 0 ≤ (IntKind.i64.wrap (x4 - (1 : Int))) ∧ (IntKind.i64.wrap (x4 - (1 : Int))) < ((l1.length : Nat) : Int), (eI.els (l1.set x4.toNat e3))[(0 + (IntKind.i64.wrap (x4 - (1 : Int))).toNat)]? = some [pi e6]] (⟨(by have := Enc.inb' a48; simpa using this), (eI.get0 a48), (by have := Enc.inb' a49; simpa using this), (eI.get0 a49), trivial⟩) zyd
            refine zv [4, 11] 1 [4,8,9,11,12,43,44,45,53,54,69,70,78] [] [(4, .one (.pt 0 0 0 0)), (8, vl (eK .i32) (runesS p1.s)), (9, vl eI x2), (11, .one (.pt 2 0 0 0)), (12, .one (.sl 3 1 0 l1.length)), (43, vl eStep r3.1), (44, vi (r3.1.length : Int)), (45, vi x3), (53, vi (((x2.length : Int).toNat : Nat) : Int)), (54, vi x4), (69, .one (.sl 3 1 0 l1.length)), (70, vi x4), (78, vi (IntKind.i64.wrap (BitVec.ofInt (IntKind.i64).bits e5 ||| BitVec.ofInt (IntKind.i64).bits e6).toNat))] [.box [ci (0 : Int), ci (0 : Int), ci (0 : Int), cst ByteArray.empty, .pv (.s (.slice none 0 0))], .dead, .box [ck .i32 e2.char, cb e2.one, cb e2.many], .arr 1 (eI.els (l1.set x4.toNat e3))] ?_
            rw [show (IntKind.i64.wrap (BitVec.ofInt (IntKind.i64).bits e5 ||| BitVec.ofInt (IntKind.i64).bits e6).toNat) = y1 from Option.some.inj hy50]
            refine zp [4, 11] 2 [4,8,9,11,12,43,44,45,53,54] [[pi e5]] [(4, .one (.pt 0 0 0 0)), (8, vl (eK .i32) (runesS p1.s)), (9, vl eI x2), (11, .one (.pt 2 0 0 0)), (12, .one (.sl 3 1 0 l1.length)), (43, vl eStep r3.1), (44, vi (r3.1.length : Int)), (45, vi x3), (53, vi (((x2.length : Int).toNat : Nat) : Int)), (54, vi x4)] [.box [ci (0 : Int), ci (0 : Int), ci (0 : Int), cst ByteArray.empty, .pv (.s (.slice none 0 0))], .dead, .box [ck .i32 e2.char, cb e2.one, cb e2.many], .arr 1 ((eI.els (l1.set x4.toNat e3)).set (0 + x4.toNat) [pi y1])] [0 ≤ x4 ∧ x4 < ((l1.length : Nat) : Int), (eI.els (l1.set x4.toNat e3))[(0 + x4.toNat)]? = some [pi e5]] (⟨(by have := Enc.inb' a48; simpa using this), (eI.get0 a48), trivial⟩) ?_
            rw [show (eI.els (l1.set x4.toNat e3)).set (0 + x4.toNat) [pi y1] = eI.els ((l1.set x4.toNat e3).set x4.toNat y1) from eI.set0 _ _ y1]
            refine zd ?_
            exact hJ3 ((l1.set x4.toNat e3).set x4.toNat y1) h _ _ (Sub.trans (Sub.pick (fr' := [(4, .one (.pt 0 0 0 0)), (8, vl (eK .i32) (runesS p1.s)), (9, vl eI x2), (11, .one (.pt 2 0 0 0)), (12, .one (.sl 3 1 0 l1.length)), (43, vl eStep r3.1), (44, vi (r3.1.length : Int)), (45, vi x3), (53, vi (((x2.length : Int).toNat : Nat) : Int)), (54, vi x4)]) [4,8,9,11,12,43,44,45,53,54] (by kernel_rfl)) (Sub.frame (fr' := [(4, .one (.pt 0 0 0 0)), (8, vl (eK .i32) (runesS p1.s)), (9, vl eI x2), (11, .one (.pt 2 0 0 0)), (12, .one (.sl 3 1 0 ((l1.set x4.toNat e3).set x4.toNat y1).length)), (43, vl eStep r3.1), (44, vi (r3.1.length : Int)), (45, vi x3), (53, vi (((x2.length : Int).toNat : Nat) : Int)), (54, vi x4)]) ⟨.rfl _, .rfl _, .rfl _, .rfl _, ALe.of_eq (show (.one (.sl 3 1 0 l1.length) : AV) = .one (.sl 3 1 0 ((l1.set x4.toNat e3).set x4.toNat y1).length) from by simp), .rfl _, .rfl _, .rfl _, .rfl _, .rfl _, trivial⟩))
           ·refine zs ?_
            exact hJ3 (l1.set x4.toNat e3) h _ _ (Sub.trans (Sub.pick (fr' := [(4, .one (.pt 0 0 0 0)), (8, vl (eK .i32) (runesS p1.s)), (9, vl eI x2), (11, .one (.pt 2 0 0 0)), (12, .one (.sl 3 1 0 l1.length)), (43, vl eStep r3.1), (44, vi (r3.1.length : Int)), (45, vi x3), (53, vi (((x2.length : Int).toNat : Nat) : Int)), (54, vi x4)]) [4,8,9,11,12,43,44,45,53,54] (by kernel_rfl)) (Sub.frame (fr' := [(4, .one (.pt 0 0 0 0)), (8, vl (eK .i32) (runesS p1.s)), (9, vl eI x2), (11, .one (.pt 2 0 0 0)), (12, .one (.sl 3 1 0 (l1.set x4.toNat e3).length)), (43, vl eStep r3.1), (44, vi (r3.1.length : Int)), (45, vi x3), (53, vi (((x2.length : Int).toNat : Nat) : Int)), (54, vi x4)]) ⟨.rfl _, .rfl _, .rfl _, .rfl _, ALe.of_eq (show (.one (.sl 3 1 0 l1.length) : AV) = .one (.sl 3 1 0 (l1.set x4.toNat e3).length) from by simp), .rfl _, .rfl _, .rfl _, .rfl _, .rfl _, trivial⟩))
          ·refine zq fun K51 hK51 => ?_
           have hJ2 : ∀ (x5 : Bool), value_Like_j2 (value_Like_l2 (value_Like_l1 p1 r3 k1) p1 x2 x3 e2 k2) x2 l1 x4 x5 = some r → ∀ fr1 st1, Sub 115 0 [] fr1 st1 [(4, .one (.pt 0 0 0 0)), (8, vl (eK .i32) (runesS p1.s)), (9, vl eI x2), (11, .one (.pt 2 0 0 0)), (12, .one (.sl 3 1 0 l1.length)), (13, vi x4), (43, vl eStep r3.1), (44, vi (r3.1.length : Int)), (45, vi x3), (53, vi (((x2.length : Int).toNat : Nat) : Int)), (54, vi x4), (80, vb x5)] (qa583 e2 l1) → K51 fr1 st1 := by
            intro x5 h fr1 st1 hS
            unfold value_Like_j2 at h
            refine hK51 _ _ (XW.sub hS ?_)
            refine zC h (fun b55 h => ?_) (fun b55 h => ?_)
            ·obtain ⟨e8, a56, h⟩ := zB h
             obtain ⟨e9, a57, h⟩ := zB h
             refine zr ?_
             refine zp [4, 11] 9 [4,8,9,11,12,43,44,45,53,54] [[pi e8], [pi e9]] [(4, .one (.pt 0 0 0 0)), (8, vl (eK .i32) (runesS p1.s)), (9, vl eI x2), (11, .one (.pt 2 0 0 0)), (12, .one (.sl 3 1 0 l1.length)), (43, vl eStep r3.1), (44, vi (r3.1.length : Int)), (45, vi x3), (53, vi (((x2.length : Int).toNat : Nat) : Int)), (54, vi x4)] [.box [ci (0 : Int), ci (0 : Int), ci (0 : Int), cst ByteArray.empty, .pv (.s (.slice none 0 0))], .dead, .box [ck .i32 e2.char, cb e2.one, cb e2.many], .arr 1 ((eI.els l1).set (0 + x4.toNat) [pi e8])] [0 ≤ (IntKind.i64.wrap (x4 - (1 : Int))) ∧ (IntKind.i64.wrap (x4 - (1 : Int))) < ((eI.els x2).length : Int) ∧ elemsOk 1 (eI.els x2), (eI.els x2)[(IntKind.i64.wrap (x4 - (1 : Int))).toNat]? = some [pi e8], 0 ≤ x4 ∧ x4 < ((l1.length : Nat) : Int), (eI.els l1)[(0 + x4.toNat)]? = some [pi e9]] (⟨eI.inb a56, (eI.get a56), Enc.inb' a57, (eI.get0 a57), trivial⟩) ?_
             rw [show (eI.els l1).set (0 + x4.toNat) [pi e8] = eI.els (l1.set x4.toNat e8) from eI.set0 _ _ e8]
             refine zd ?_
             exact hJ3 (l1.set x4.toNat e8) h _ _ (Sub.trans (Sub.pick (fr' := [(4, .one (.pt 0 0 0 0)), (8, vl (eK .i32) (runesS p1.s)), (9, vl eI x2), (11, .one (.pt 2 0 0 0)), (12, .one (.sl 3 1 0 l1.length)), (43, vl eStep r3.1), (44, vi (r3.1.length : Int)), (45, vi x3), (53, vi (((x2.length : Int).toNat : Nat) : Int)), (54, vi x4)]) [4,8,9,11,12,43,44,45,53,54] (by kernel_rfl)) (Sub.frame (fr' := [(4, .one (.pt 0 0 0 0)), (8, vl (eK .i32) (runesS p1.s)), (9, vl eI x2), (11, .one (.pt 2 0 0 0)), (12, .one (.sl 3 1 0 (l1.set x4.toNat e8).length)), (43, vl eStep r3.1), (44, vi (r3.1.length : Int)), (45, vi x3), (53, vi (((x2.length : Int).toNat : Nat) : Int)), (54, vi x4)]) ⟨.rfl _, .rfl _, .rfl _, .rfl _, ALe.of_eq (show (.one (.sl 3 1 0 l1.length) : AV) = .one (.sl 3 1 0 (l1.set x4.toNat e8).length) from by simp), .rfl _, .rfl _, .rfl _, .rfl _, .rfl _, trivial⟩))
            ·exact zs (hJ3 l1 h _ _ (zk [4,8,9,11,12,43,44,45,53,54]))
           rcases zW h with ⟨b52, h⟩ | ⟨b52, h⟩
           ·rcases zW h with ⟨b53, h⟩ | ⟨b53, h⟩
            ·refine zw 13 [(93, .tp []), (92, .tp []), (91, .tp []), (90, .tp []), (89, .tp []), (88, .tp []), (87, .tp []), (86, vb true), (85, vb e2.one), (84, .one (.pt 2 0 0 1)), (83, vb true), (82, vb (decide ((0 : Int) < x4))), (81, vi x4), (4, .one (.pt 0 0 0 0)), (8, vl (eK .i32) (runesS p1.s)), (9, vl eI x2), (11, .one (.pt 2 0 0 0)), (12, .one (.sl 3 1 0 l1.length)), (13, vi x4), (43, vl eStep r3.1), (44, vi (r3.1.length : Int)), (45, vi x3), (53, vi (((x2.length : Int).toNat : Nat) : Int)), (54, vi x4), (57, vb e2.many)] ?_ ?_
             ·refine zyv 3 [] [(83, vb (decide ((0 : Int) < x4))), (82, vb (decide ((0 : Int) < x4))), (81, vi x4), (4, .one (.pt 0 0 0 0)), (8, vl (eK .i32) (runesS p1.s)), (9, vl eI x2), (11, .one (.pt 2 0 0 0)), (12, .one (.sl 3 1 0 l1.length)), (13, vi x4), (43, vl eStep r3.1), (44, vi (r3.1.length : Int)), (45, vi x3), (53, vi (((x2.length : Int).toNat : Nat) : Int)), (54, vi x4), (57, vb e2.many)] ?_
              refine DX.eq (fr1 := [(83, vb true), (82, vb (decide ((0 : Int) < x4))), (81, vi x4), (4, .one (.pt 0 0 0 0)), (8, vl (eK .i32) (runesS p1.s)), (9, vl eI x2), (11, .one (.pt 2 0 0 0)), (12, .one (.sl 3 1 0 l1.length)), (13, vi x4), (43, vl eStep r3.1), (44, vi (r3.1.length : Int)), (45, vi x3), (53, vi (((x2.length : Int).toNat : Nat) : Int)), (54, vi x4), (57, vb e2.many)]) (by rw [b52]) ?_
              refine zyv 3 [] [(86, vb e2.one), (85, vb e2.one), (84, .one (.pt 2 0 0 1)), (83, vb true), (82, vb (decide ((0 : Int) < x4))), (81, vi x4), (4, .one (.pt 0 0 0 0)), (8, vl (eK .i32) (runesS p1.s)), (9, vl eI x2), (11, .one (.pt 2 0 0 0)), (12, .one (.sl 3 1 0 l1.length)), (13, vi x4), (43, vl eStep r3.1), (44, vi (r3.1.length : Int)), (45, vi x3), (53, vi (((x2.length : Int).toNat : Nat) : Int)), (54, vi x4), (57, vb e2.many)] ?_
              exact DX.eq (fr1 := [(86, vb true), (85, vb e2.one), (84, .one (.pt 2 0 0 1)), (83, vb true), (82, vb (decide ((0 : Int) < x4))), (81, vi x4), (4, .one (.pt 0 0 0 0)), (8, vl (eK .i32) (runesS p1.s)), (9, vl eI x2), (11, .one (.pt 2 0 0 0)), (12, .one (.sl 3 1 0 l1.length)), (13, vi x4), (43, vl eStep r3.1), (44, vi (r3.1.length : Int)), (45, vi x3), (53, vi (((x2.length : Int).toNat : Nat) : Int)), (54, vi x4), (57, vb e2.many)]) (by rw [b53]) (zyg 7 zyd)
             exact zg [4, 11] 4 [4,8,9,11,12,13,43,44,45,53,54,80] (zd (hJ2 true h _ _ (zk [4,8,9,11,12,13,43,44,45,53,54,80])))
            ·obtain ⟨e7, a54, h⟩ := zB h
             refine zw 13 [(93, vk .i32 e2.char), (92, .one (.pt 2 0 0 0)), (91, vk .i32 e7), (90, .one (.pv (.rp ((eK .i32).els (runesS p1.s)) ((IntKind.i64.wrap (x4 - (1 : Int))).toNat) 0))), (89, vi (IntKind.i64.wrap (x4 - (1 : Int)))), (88, vi x4), (87, vl (eK .i32) (runesS p1.s)), (86, vb false), (85, vb e2.one), (84, .one (.pt 2 0 0 1)), (83, vb true), (82, vb (decide ((0 : Int) < x4))), (81, vi x4), (4, .one (.pt 0 0 0 0)), (8, vl (eK .i32) (runesS p1.s)), (9, vl eI x2), (11, .one (.pt 2 0 0 0)), (12, .one (.sl 3 1 0 l1.length)), (13, vi x4), (43, vl eStep r3.1), (44, vi (r3.1.length : Int)), (45, vi x3), (53, vi (((x2.length : Int).toNat : Nat) : Int)), (54, vi x4), (57, vb e2.many)] ?_ ?_
             ·refine zyv 3 [] [(83, vb (decide ((0 : Int) < x4))), (82, vb (decide ((0 : Int) < x4))), (81, vi x4), (4, .one (.pt 0 0 0 0)), (8, vl (eK .i32) (runesS p1.s)), (9, vl eI x2), (11, .one (.pt 2 0 0 0)), (12, .one (.sl 3 1 0 l1.length)), (13, vi x4), (43, vl eStep r3.1), (44, vi (r3.1.length : Int)), (45, vi x3), (53, vi (((x2.length : Int).toNat : Nat) : Int)), (54, vi x4), (57, vb e2.many)] ?_
              refine DX.eq (fr1 := [(83, vb true), (82, vb (decide ((0 : Int) < x4))), (81, vi x4), (4, .one (.pt 0 0 0 0)), (8, vl (eK .i32) (runesS p1.s)), (9, vl eI x2), (11, .one (.pt 2 0 0 0)), (12, .one (.sl 3 1 0 l1.length)), (13, vi x4), (43, vl eStep r3.1), (44, vi (r3.1.length : Int)), (45, vi x3), (53, vi (((x2.length : Int).toNat : Nat) : Int)), (54, vi x4), (57, vb e2.many)]) (by rw [b52]) ?_
              refine zyv 3 [] [(86, vb e2.one), (85, vb e2.one), (84, .one (.pt 2 0 0 1)), (83, vb true), (82, vb (decide ((0 : Int) < x4))), (81, vi x4), (4, .one (.pt 0 0 0 0)), (8, vl (eK .i32) (runesS p1.s)), (9, vl eI x2), (11, .one (.pt 2 0 0 0)), (12, .one (.sl 3 1 0 l1.length)), (13, vi x4), (43, vl eStep r3.1), (44, vi (r3.1.length : Int)), (45, vi x3), (53, vi (((x2.length : Int).toNat : Nat) : Int)), (54, vi x4), (57, vb e2.many)] ?_
              refine DX.eq (fr1 := [(86, vb false), (85, vb e2.one), (84, .one (.pt 2 0 0 1)), (83, vb true), (82, vb (decide ((0 : Int) < x4))), (81, vi x4), (4, .one (.pt 0 0 0 0)), (8, vl (eK .i32) (runesS p1.s)), (9, vl eI x2), (11, .one (.pt 2 0 0 0)), (12, .one (.sl 3 1 0 l1.length)), (13, vi x4), (43, vl eStep r3.1), (44, vi (r3.1.length : Int)), (45, vi x3), (53, vi (((x2.length : Int).toNat : Nat) : Int)), (54, vi x4), (57, vb e2.many)]) (by rw [b53]) ?_
              exact zyo 7 [[.s (.int .i32 e7)]] [0 ≤ (IntKind.i64.wrap (x4 - (1 : Int))) ∧ (IntKind.i64.wrap (x4 - (1 : Int))) < (((eK .i32).els (runesS p1.s)).length : Int) ∧ elemsOk 1 ((eK .i32).els (runesS p1.s)), ((eK .i32).els (runesS p1.s))[(IntKind.i64.wrap (x4 - (1 : Int))).toNat]? = some [.s (.int .i32 e7)]] (⟨(eK .i32).inb a54, ((eK .i32).get a54), trivial⟩) zyd
             refine zv [4, 11] 4 [4,8,9,11,12,13,43,44,45,53,54,80] [] [(4, .one (.pt 0 0 0 0)), (8, vl (eK .i32) (runesS p1.s)), (9, vl eI x2), (11, .one (.pt 2 0 0 0)), (12, .one (.sl 3 1 0 l1.length)), (13, vi x4), (43, vl eStep r3.1), (44, vi (r3.1.length : Int)), (45, vi x3), (53, vi (((x2.length : Int).toNat : Nat) : Int)), (54, vi x4), (80, vb (e7 == e2.char))] (qa583 e2 l1) (zd ?_)
             exact hJ2 (e7 == e2.char) h _ _ (zk [4,8,9,11,12,13,43,44,45,53,54,80])
           ·refine zw 13 [(93, .tp []), (92, .tp []), (91, .tp []), (90, .tp []), (89, .tp []), (88, .tp []), (87, .tp []), (86, .tp []), (85, .tp []), (84, .tp []), (83, vb false), (82, vb (decide ((0 : Int) < x4))), (81, vi x4), (4, .one (.pt 0 0 0 0)), (8, vl (eK .i32) (runesS p1.s)), (9, vl eI x2), (11, .one (.pt 2 0 0 0)), (12, .one (.sl 3 1 0 l1.length)), (13, vi x4), (43, vl eStep r3.1), (44, vi (r3.1.length : Int)), (45, vi x3), (53, vi (((x2.length : Int).toNat : Nat) : Int)), (54, vi x4), (57, vb e2.many)] ?_ ?_
            ·refine zyv 3 [] [(83, vb (decide ((0 : Int) < x4))), (82, vb (decide ((0 : Int) < x4))), (81, vi x4), (4, .one (.pt 0 0 0 0)), (8, vl (eK .i32) (runesS p1.s)), (9, vl eI x2), (11, .one (.pt 2 0 0 0)), (12, .one (.sl 3 1 0 l1.length)), (13, vi x4), (43, vl eStep r3.1), (44, vi (r3.1.length : Int)), (45, vi x3), (53, vi (((x2.length : Int).toNat : Nat) : Int)), (54, vi x4), (57, vb e2.many)] ?_
             exact DX.eq (fr1 := [(83, vb false), (82, vb (decide ((0 : Int) < x4))), (81, vi x4), (4, .one (.pt 0 0 0 0)), (8, vl (eK .i32) (runesS p1.s)), (9, vl eI x2), (11, .one (.pt 2 0 0 0)), (12, .one (.sl 3 1 0 l1.length)), (13, vi x4), (43, vl eStep r3.1), (44, vi (r3.1.length : Int)), (45, vi x3), (53, vi (((x2.length : Int).toNat : Nat) : Int)), (54, vi x4), (57, vb e2.many)]) (by rw [b52]) (zyg 10 zyd)
            exact zg [4, 11] 4 [4,8,9,11,12,13,43,44,45,53,54,80] (zd (hJ2 false h _ _ (zk [4,8,9,11,12,13,43,44,45,53,54,80])))
         ·refine zx 2 (hQ2 _ _ _ ?_)
          exact hJ4 l1 h _ _ (Sub.trans (Sub.pick (fr' := (qa575 p1 r3 x3 l1)) [4,8,12,43,44,45] (by kernel_rfl)) (Sub.only (fr' := (qa575 p1 r3 x3 l1)) (st' := [.box qa551, .dead, .dead, .arr 1 (eI.els l1)]) [0, 3] 4 (by kernel_rfl) (by kernel_rfl) (by kernel_rfl) (by kernel_rfl)))
       exact XR.sub (Sub.trans (Sub.pick (fr' := [(4, .one (.pt 0 0 0 0)), (8, vl (eK .i32) (runesS p1.s)), (9, vl eI x2), (11, .one (.pt 2 0 0 0)), (12, .one (.sl 3 1 0 ((x2.length : Int).toNat))), (43, vl eStep r3.1), (44, vi (r3.1.length : Int)), (45, vi x3), (53, vi (((x2.length : Int).toNat : Nat) : Int)), (54, vi (0 : Int))]) [4,8,9,11,12,43,44,45,53,54] (by kernel_rfl)) (Sub.frame (fr' := [(4, .one (.pt 0 0 0 0)), (8, vl (eK .i32) (runesS p1.s)), (9, vl eI x2), (11, .one (.pt 2 0 0 0)), (12, .one (.sl 3 1 0 (List.replicate (x2.length : Int).toNat (0 : Int)).length)), (43, vl eStep r3.1), (44, vi (r3.1.length : Int)), (45, vi x3), (53, vi (((x2.length : Int).toNat : Nat) : Int)), (54, vi (0 : Int))]) ⟨.rfl _, .rfl _, .rfl _, .rfl _, ALe.of_eq (show (.one (.sl 3 1 0 ((x2.length : Int).toNat)) : AV) = .one (.sl 3 1 0 (List.replicate (x2.length : Int).toNat (0 : Int)).length) from by simp), .rfl _, .rfl _, .rfl _, .rfl _, .rfl _, trivial⟩)) (hL2 BIG (List.replicate (x2.length : Int).toNat (0 : Int)) (0 : Int) h)
      ·exact zx 0 (hQ1 _ _ _ (hJ5 x2 h _ _ (zk [4,8,9])))
    exact XR.sub (zk [4,8,9,43,44,45]) (hL1 BIG ((List.replicate (IntKind.i64.wrap (((runesS p1.s).length : Int) + (1 : Int))).toNat (0 : Int)).set (0 : Int).toNat (1 : Int)) (0 : Int) h)
 obtain ⟨r1, c5, h⟩ := zB h
 rcases zW h with ⟨b6, h⟩ | ⟨b6, h⟩
 ·refine zr ?_
  refine zv [4, 11] 2 [2,3,4,5,14,15] [(qa549 p1)] [(2, .one (.pv (.rp [(qa549 p1)] 0 0))), (3, .one (.pv (.rp [(qa550 p2)] 0 0))), (4, .one (.pt 0 0 0 0)), (5, .one (.pv (.fn 20 []))), (14, .one (.pv (.fn 20 []))), (15, .ag [ci p1.kind, ci p1.n, ci p1.scale, cst p1.s, cl eValue p1.items])] [.box qa551] ?_
  exact za (c_value_Like_1 _ _ c5) (zg [4, 11] 2 [2,3,4,5,18] (zt 18 b6 (zv [4, 11] 5 [2,3,4,23] [] [(2, .one (.pv (.rp [(qa549 p1)] 0 0))), (3, .one (.pv (.rp [(qa550 p2)] 0 0))), (4, .one (.pt 0 0 0 0)), (23, vb true)] [.box qa551] (zd (hJ1 true h _ _ (zk [2,3,4,23]))))))
 ·obtain ⟨r2, c7, h⟩ := zB h
  refine zr (zu [4, 11] 2 [2,3,4,5,14,15] [(qa549 p1)] (za (c_value_Like_1 _ _ c5) (zv [4, 11] 2 [2,3,4,5,18] [] [(2, .one (.pv (.rp [(qa549 p1)] 0 0))), (3, .one (.pv (.rp [(qa550 p2)] 0 0))), (4, .one (.pt 0 0 0 0)), (5, .one (.pv (.fn 20 []))), (18, vb (!r1))] [.box qa551] (zt 18 b6 ?_))))
  exact zu [4, 11] 2 [2,3,4,18,19,20] [(qa550 p2)] (za (c_value_Like_1 _ _ c7) (zv [4, 11] 2 [2,3,4,23] [] [(2, .one (.pv (.rp [(qa549 p1)] 0 0))), (3, .one (.pv (.rp [(qa550 p2)] 0 0))), (4, .one (.pt 0 0 0 0)), (23, vb (!r2))] [.box qa551] (zd (hJ1 (!r2) h _ _ (zk [2,3,4,23])))))

def law1_exactly_j2 : Option Bool :=
    some true

def law1_exactly_l1 (q_law1_exactly : GValue → GValue → Option Bool) (p1 : GValue) (p2 : GValue) : Nat → Int → Option Bool
  | 0, _ => none
  | k1 + 1, x2 =>
    ift (decide (x2 < (p1.items.length : Int)))
      (bnd (at? p1.items x2) fun e1 =>
       bnd (at? p2.items x2) fun e2 =>
       bnd (q_law1_exactly e1 e2) fun r1 =>
       ift (!r1)
         (some false)
         ((law1_exactly_l1 q_law1_exactly p1 p2 k1) (IntKind.i64.wrap (x2 + (1 : Int)))))
      (law1_exactly_j2)

def law1_exactly_j1 (q_law1_exactly : GValue → GValue → Option Bool) (p1 : GValue) (p2 : GValue) (x1 : Bool) : Option Bool :=
    ift x1
      (some false)
      (law1_exactly_l1 q_law1_exactly p1 p2 BIG (0 : Int))

def law1_exactly : Nat → GValue → GValue → Option Bool
  | 0, _, _ => none
  | k0 + 1, p1, p2 =>
    ift (p1.kind != p2.kind)
      (law1_exactly_j1 (law1_exactly k0) p1 p2 true)
      (ift (p1.n != p2.n)
         (law1_exactly_j1 (law1_exactly k0) p1 p2 true)
         (ift (p1.scale != p2.scale)
            (law1_exactly_j1 (law1_exactly k0) p1 p2 true)
            (ift (!(p1.s.toList == p2.s.toList))
               (law1_exactly_j1 (law1_exactly k0) p1 p2 true)
               (law1_exactly_j1 (law1_exactly k0) p1 p2 ((p1.items.length : Int) != (p2.items.length : Int))))))

abbrev qa592 (p1 : GValue) : List PV := [pi p1.kind, pi p1.n, pi p1.scale, .s (.string p1.s), .ro (eValue.els p1.items)]
abbrev qa593 (p2 : GValue) : List PV := [pi p2.kind, pi p2.n, pi p2.scale, .s (.string p2.s), .ro (eValue.els p2.items)]
abbrev qa594 (e2 : GValue) : List CV := [ci e2.kind, ci e2.n, ci e2.scale, cst e2.s, cl eValue e2.items]
abbrev qa595 (e1 : GValue) : List CV := [ci e1.kind, ci e1.n, ci e1.scale, cst e1.s, cl eValue e1.items]
abbrev qa600 (p1 : GValue) (p2 : GValue) (x2 : Int) (e1 : GValue) (e2 : GValue) : Fr := [(56, .ag (qa594 e2)), (55, .one (.pv (.rp (eValue.els p2.items) x2.toNat 0))), (54, vi x2), (53, vl eValue p2.items), (52, .one (.pv (.rp [(qa593 p2)] 0 4))), (51, .ag (qa595 e1)), (50, .one (.pv (.rp (eValue.els p1.items) x2.toNat 0))), (49, vi x2), (48, vl eValue p1.items), (47, .one (.pv (.rp [(qa592 p1)] 0 4))), (2, .one (.pv (.rp [(qa592 p1)] 0 0))), (3, .one (.pv (.rp [(qa593 p2)] 0 0))), (5, vi x2), (43, vi (p1.items.length : Int)), (44, vi x2)]
abbrev qa603 (p1 : GValue) (p2 : GValue) : Fr := [(2, .one (.pv (.rp [(qa592 p1)] 0 0))), (3, .one (.pv (.rp [(qa593 p2)] 0 0))), (40, vb true)]
abbrev qa604 (p1 : GValue) (p2 : GValue) : Fr := [(2, .one (.pv (.rp [(qa592 p1)] 0 0))), (3, .one (.pv (.rp [(qa593 p2)] 0 0))), (25, vb (p1.scale != p2.scale))]

theorem c_law1_exactly : ∀ (k0 : Nat) (p1 : GValue) (p2 : GValue) (r : Bool), law1_exactly k0 p1 p2 = some r → PC Tryd.prog 6 [.ag [ci p1.kind, ci p1.n, ci p1.scale, cst p1.s, cl eValue p1.items], .ag [ci p2.kind, ci p2.n, ci p2.scale, cst p2.s, cl eValue p2.items]] (vb r)
 | 0, _, _, r, h => by rw [law1_exactly.eq_1] at h; cases h
 | k0 + 1, p1, p2, r, h => by
  rw [law1_exactly.eq_2] at h
  refine zF 60 Tryd.f6 (zq fun K1 hK1 => zr (zg [] 3 [2,3] (zd (hK1 _ _ (zq fun K2 hK2 => zq fun K3 hK3 => ?_)))))
  have hJ1 : ∀ (x1 : Bool), law1_exactly_j1 (law1_exactly k0) p1 p2 x1 = some r → ∀ fr1 st1, Sub 60 0 [] fr1 st1 [(2, .one (.pv (.rp [(qa592 p1)] 0 0))), (3, .one (.pv (.rp [(qa593 p2)] 0 0))), (40, vb x1)] [] → K3 fr1 st1 := by
   intro x1 h fr1 st1 hS
   unfold law1_exactly_j1 at h
   refine hK3 _ _ (XW.sub hS ?_)
   refine zC h (fun b8 h => ?_) (fun b8 h => ?_)
   ·refine zq fun K9 hK9 => zr (zg [] 1 [4] (zd (hK9 _ _ (ze ?_))))
    obtain rfl := Option.some.inj h
    exact zf [vb false] (.one (.rfl _ rfl))
   ·refine zs (hK2 _ _ (zq fun K10 hK10 => ?_))
    have hJ2 : ∀ (_ : Unit), law1_exactly_j2 = some r → ∀ fr1 st1, Sub 60 0 [] fr1 st1 [] [] → K10 fr1 st1 := by
     intro _ h fr1 st1 hS
     unfold law1_exactly_j2 at h
     refine hK10 _ _ (XW.sub hS ?_)
     refine zq fun K23 hK23 => zr (zg [] 1 [4] (zd (hK23 _ _ (ze ?_))))
     obtain rfl := Option.some.inj h
     exact zf [vb true] (.one (.rfl _ rfl))
    refine zq fun K11 hK11 => zr (zv [] 3 [2,3,43] [[pi p1.kind, pi p1.n, pi p1.scale, .s (.string p1.s), .ro (eValue.els p1.items)]] [(2, .one (.pv (.rp [[pi p1.kind, pi p1.n, pi p1.scale, .s (.string p1.s), .ro (eValue.els p1.items)]] 0 0))), (3, .one (.pv (.rp [[pi p2.kind, pi p2.n, pi p2.scale, .s (.string p2.s), .ro (eValue.els p2.items)]] 0 0))), (43, vi ((eValue.els p1.items).length : Int))] [] ?_)
    rw [eValue.len p1.items]
    refine zg [] 1 [2,3,43,44] (zd (hK11 _ _ (zb 0 (XW.rounds' BIG (x := cd Tryd.f6 [1,1,0,1,0,0]) (by kernel_rfl) fun Q1 hQ1 => ?_))))
    have hL1 : ∀ (k1 : Nat) (x2 : Int), law1_exactly_l1 (law1_exactly k0) p1 p2 k1 x2 = some r → XR Tryd.prog 60 0 [] (cd Tryd.f6 [1,1,0,1,0,0]) Q1 k1 [(2, .one (.pv (.rp [(qa592 p1)] 0 0))), (3, .one (.pv (.rp [(qa593 p2)] 0 0))), (43, vi (p1.items.length : Int)), (44, vi x2)] [] := by
     intro k1
     induction k1 with
     | zero => intro x2 h; rw [law1_exactly_l1.eq_1] at h; cases h
     | succ k1 ih1 =>
      intro x2 h
      rw [law1_exactly_l1.eq_2] at h
      refine zq fun K12 hK12 => zr (zg [] 1 [2,3,43,44,45] (zd (hK12 _ _ (zq fun K13 hK13 => zC h (fun b14 h => ?_) (fun b14 h => ?_)))))
      ·refine zs (hK13 _ _ (zq fun K15 hK15 => zb 1 (zq fun K16 hK16 => zr (zg [] 2 [2,3,5,43,44] (zd ?_)))))
       refine hK16 _ _ (zq fun K17 hK17 => ?_)
       obtain ⟨e1, a18, h⟩ := zB h
       obtain ⟨e2, a19, h⟩ := zB h
       obtain ⟨r1, c20, h⟩ := zB h
       refine zw 10 (qa600 p1 p2 x2 e1 e2) ?_ ?_
       ·refine zyp 10 [(qa592 p1), [pi e1.kind, pi e1.n, pi e1.scale, .s (.string e1.s), .ro (eValue.els e1.items)], (qa593 p2), [pi e2.kind, pi e2.n, pi e2.scale, .s (.string e2.s), .ro (eValue.els e2.items)]] (qa600 p1 p2 x2 e1 e2) [([(qa592 p1)] : List (List PV))[0]? = some (qa592 p1), 0 ≤ x2 ∧ x2 < ((eValue.els p1.items).length : Int) ∧ elemsOk 5 (eValue.els p1.items), (eValue.els p1.items)[x2.toNat]? = some [pi e1.kind, pi e1.n, pi e1.scale, .s (.string e1.s), .ro (eValue.els e1.items)], ([(qa593 p2)] : List (List PV))[0]? = some (qa593 p2), 0 ≤ x2 ∧ x2 < ((eValue.els p2.items).length : Int) ∧ elemsOk 5 (eValue.els p2.items), (eValue.els p2.items)[x2.toNat]? = some [pi e2.kind, pi e2.n, pi e2.scale, .s (.string e2.s), .ro (eValue.els e2.items)]] (⟨rfl, eValue.inb a18, ((eValue.get a18).trans (by cases e1; rfl)), rfl, eValue.inb a19, ((eValue.get a19).trans (by cases e2; rfl)), trivial⟩) ?_
        exact zyd
       refine zl 6 [.ag (qa595 e1), .ag (qa594 e2)] (vb r1) [(57, vb r1), (56, .ag (qa594 e2)), (55, .one (.pv (.rp (eValue.els p2.items) x2.toNat 0))), (54, vi x2), (53, vl eValue p2.items), (52, .one (.pv (.rp [(qa593 p2)] 0 4))), (51, .ag (qa595 e1)), (50, .one (.pv (.rp (eValue.els p1.items) x2.toNat 0))), (49, vi x2), (48, vl eValue p1.items), (47, .one (.pv (.rp [(qa592 p1)] 0 4))), (2, .one (.pv (.rp [(qa592 p1)] 0 0))), (3, .one (.pv (.rp [(qa593 p2)] 0 0))), (5, vi x2), (43, vi (p1.items.length : Int)), (44, vi x2)] (c_law1_exactly k0 _ _ _ c20) ?_
       refine zg [] 1 [2,3,43,44,58] (zd (hK17 _ _ (zC h (fun b21 h => ?_) (fun b21 h => ?_))))
       ·refine zq fun K22 hK22 => zr (zg [] 1 [4] (zd (hK22 _ _ (ze (hQ1 _ _ _ ?_)))))
        obtain rfl := Option.some.inj h
        exact zf [vb false] (.one (.rfl _ rfl))
       ·exact zs (hK15 _ _ (zr (zv [] 2 [2,3,43,44] [] [(2, .one (.pv (.rp [(qa592 p1)] 0 0))), (3, .one (.pv (.rp [(qa593 p2)] 0 0))), (43, vi (p1.items.length : Int)), (44, vi (IntKind.i64.wrap (x2 + (1 : Int))))] [] (zd (XR.sub (zk [2,3,43,44]) (ih1 (IntKind.i64.wrap (x2 + (1 : Int))) h))))))
      ·exact zx 0 (hQ1 _ _ _ (hJ2 () h _ _ (zk [])))
    exact XR.sub (zk [2,3,43,44]) (hL1 BIG (0 : Int) h)
  rcases zW h with ⟨b4, h⟩ | ⟨b4, h⟩
  ·exact zr (zu [] 6 [2,3,11] [(qa592 p1), (qa593 p2)] (zt 11 b4 (zv [] 29 [2,3,40] [] (qa603 p1 p2) [] (zd (hJ1 true h _ _ (zk [2,3,40]))))))
  ·rcases zW h with ⟨b5, h⟩ | ⟨b5, h⟩
   ·refine zr (zu [] 6 [2,3,11] [(qa592 p1), (qa593 p2)] (zt 11 b4 (zu [] 7 [2,3,18] [(qa592 p1), (qa593 p2)] (zt 18 b5 ?_))))
    exact zv [] 22 [2,3,40] [] (qa603 p1 p2) [] (zd (hJ1 true h _ _ (zk [2,3,40])))
   ·rcases zW h with ⟨b6, h⟩ | ⟨b6, h⟩
    ·refine zr (zu [] 6 [2,3,11] [(qa592 p1), (qa593 p2)] (zt 11 b4 (zu [] 7 [2,3,18] [(qa592 p1), (qa593 p2)] (zt 18 b5 ?_))))
     exact zv [] 7 [2,3,25] [(qa592 p1), (qa593 p2)] (qa604 p1 p2) [] (zt 25 b6 (zg [] 15 [2,3,40] (zd (hJ1 true h _ _ (zk [2,3,40])))))
    ·rcases zW h with ⟨b7, h⟩ | ⟨b7, h⟩
     ·refine zr (zu [] 6 [2,3,11] [(qa592 p1), (qa593 p2)] (zt 11 b4 ?_))
      refine zv [] 7 [2,3,18] [(qa592 p1), (qa593 p2)] [(2, .one (.pv (.rp [(qa592 p1)] 0 0))), (3, .one (.pv (.rp [(qa593 p2)] 0 0))), (18, vb (p1.n != p2.n))] [] (zt 18 b5 ?_)
      refine zu [] 7 [2,3,25] [(qa592 p1), (qa593 p2)] (zt 25 b6 (zu [] 7 [2,3,32] [(qa592 p1), (qa593 p2)] (zt 32 b7 ?_)))
      exact zv [] 8 [2,3,40] [] (qa603 p1 p2) [] (zd (hJ1 true h _ _ (zk [2,3,40])))
     ·refine zr (zu [] 6 [2,3,11] [(qa592 p1), (qa593 p2)] (zt 11 b4 (zu [] 7 [2,3,18] [(qa592 p1), (qa593 p2)] (zt 18 b5 ?_))))
      refine zv [] 7 [2,3,25] [(qa592 p1), (qa593 p2)] (qa604 p1 p2) [] (zt 25 b6 ?_)
      refine zu [] 7 [2,3,32] [[pi p1.kind, pi p1.n, pi p1.scale, .s (.string p1.s), .ro (eValue.els p1.items)], [pi p2.kind, pi p2.n, pi p2.scale, .s (.string p2.s), .ro (eValue.els p2.items)]] (zt 32 b7 (zv [] 3 [2,3,32,35] [[pi p1.kind, pi p1.n, pi p1.scale, .s (.string p1.s), .ro (eValue.els p1.items)]] [(2, .one (.pv (.rp [[pi p1.kind, pi p1.n, pi p1.scale, .s (.string p1.s), .ro (eValue.els p1.items)]] 0 0))), (3, .one (.pv (.rp [[pi p2.kind, pi p2.n, pi p2.scale, .s (.string p2.s), .ro (eValue.els p2.items)]] 0 0))), (32, vb false), (35, vi ((eValue.els p1.items).length : Int))] [] ?_))
      rw [eValue.len p1.items]
      refine zv [] 3 [2,3,32,35,38] [[pi p2.kind, pi p2.n, pi p2.scale, .s (.string p2.s), .ro (eValue.els p2.items)]] [(2, .one (.pv (.rp [[pi p1.kind, pi p1.n, pi p1.scale, .s (.string p1.s), .ro (eValue.els p1.items)]] 0 0))), (3, .one (.pv (.rp [[pi p2.kind, pi p2.n, pi p2.scale, .s (.string p2.s), .ro (eValue.els p2.items)]] 0 0))), (32, vb false), (35, vi (p1.items.length : Int)), (38, vi ((eValue.els p2.items).length : Int))] [] ?_
      rw [eValue.len p2.items]
      exact zg [] 2 [2,3,40] (zd (hJ1 ((p1.items.length : Int) != (p2.items.length : Int)) h _ _ (zk [2,3,40])))

def ref1_within_j1 (x1 : Bool) : Option Bool :=
    some x1

def ref1_within (p1 : Int) (p2 : Int) (p3 : Int) : Option Bool :=
    ift (decide (p2 ≤ p1))
      (ref1_within_j1 (decide (p1 ≤ p3)))
      (ref1_within_j1 false)


theorem c_ref1_within (p1 : Int) (p2 : Int) (p3 : Int) (r : Bool) (h : ref1_within p1 p2 p3 = some r) : PC Tryd.prog 80 [vi p1, vi p2, vi p3] (vb r) := by
 unfold ref1_within at h
 refine zF 15 Tryd.f80 (zq fun K1 hK1 => zr (zg [] 1 [0,1,2] (zd (hK1 _ _ (zq fun K2 hK2 => ?_)))))
 have hJ1 : ∀ (x1 : Bool), ref1_within_j1 x1 = some r → ∀ fr1 st1, Sub 15 0 [] fr1 st1 [(6, vb x1)] [] → K2 fr1 st1 := by
  intro x1 h fr1 st1 hS
  unfold ref1_within_j1 at h
  refine hK2 _ _ (XW.sub hS ?_)
  refine ze ?_
  obtain rfl := Option.some.inj h
  exact zf [vb x1] (.one (.rfl _ rfl))
 rcases zW h with ⟨b3, h⟩ | ⟨b3, h⟩
 ·exact zr (zg [] 4 [0,2,10] (zt 10 b3 (zv [] 5 [6] [] [(6, vb (decide (p1 ≤ p3)))] [] (zd (hJ1 (decide (p1 ≤ p3)) h _ _ (zk [6]))))))
 ·exact zr (zg [] 4 [0,2,10] (zt 10 b3 (zg [] 5 [6] (zd (hJ1 false h _ _ (zk [6]))))))

def ref1_characters_j2 (rec1 : Int → Option Bool) (x2 : Int) (x3 : Bool) : Option Bool :=
    ift x3
      (some false)
      (rec1 (IntKind.i64.wrap (x2 + (1 : Int))))

def ref1_characters_j3 : Option Bool :=
    some true

def ref1_characters_l1 (p1 : ByteArray) : Nat → Int → Option Bool
  | 0, _ => none
  | k1 + 1, x2 =>
    ift (decide (x2 < (p1.size : Int)))
      (grd (0 ≤ x2 ∧ x2 < (p1.size : Int)) <|
       bnd (some (decide (((p1.data.toList.getD x2.toNat 0).toNat : Int) < (32 : Int)))) fun y1 =>
       ift y1
         (ref1_characters_j2 (ref1_characters_l1 p1 k1) x2 true)
         (grd (0 ≤ x2 ∧ x2 < (p1.size : Int)) <|
          ref1_characters_j2 (ref1_characters_l1 p1 k1) x2 (((p1.data.toList.getD x2.toNat 0).toNat : Int) == (127 : Int))))
      (ref1_characters_j3)

def ref1_characters_j1 (p1 : ByteArray) (x1 : Bool) : Option Bool :=
    ift x1
      (some false)
      (ref1_characters_l1 p1 BIG (0 : Int))

def ref1_characters (p1 : ByteArray) : Option Bool :=
    bnd (utf8_ValidString p1) fun r1 =>
    ift (!r1)
      (ref1_characters_j1 p1 true)
      (ref1_characters_j1 p1 (decide ((256 : Int) < (p1.size : Int))))


theorem c_ref1_characters (p1 : ByteArray) (r : Bool) (h : ref1_characters p1 = some r) : PC Tryd.prog 81 [vs p1] (vb r) := by
 unfold ref1_characters at h
 refine zF 28 Tryd.f81 (zq fun K1 hK1 => zr (zg [] 1 [0] (zd (hK1 _ _ (zq fun K2 hK2 => zq fun K3 hK3 => ?_)))))
 have hJ1 : ∀ (x1 : Bool), ref1_characters_j1 p1 x1 = some r → ∀ fr1 st1, Sub 28 0 [] fr1 st1 [(0, vs p1), (11, vb x1)] [] → K3 fr1 st1 := by
  intro x1 h fr1 st1 hS
  unfold ref1_characters_j1 at h
  refine hK3 _ _ (XW.sub hS ?_)
  refine zC h (fun b6 h => ?_) (fun b6 h => ?_)
  ·refine zq fun K7 hK7 => zr (zg [] 1 [2] (zd (hK7 _ _ (ze ?_))))
   obtain rfl := Option.some.inj h
   exact zf [vb false] (.one (.rfl _ rfl))
  ·refine zs (hK2 _ _ (zq fun K8 hK8 => ?_))
   have hJ3 : ∀ (_ : Unit), ref1_characters_j3 = some r → ∀ fr1 st1, Sub 28 0 [] fr1 st1 [] [] → K8 fr1 st1 := by
    intro _ h fr1 st1 hS
    unfold ref1_characters_j3 at h
    refine hK8 _ _ (XW.sub hS ?_)
    refine zq fun K21 hK21 => zr (zg [] 1 [2] (zd (hK21 _ _ (ze ?_))))
    obtain rfl := Option.some.inj h
    exact zf [vb true] (.one (.rfl _ rfl))
   refine zq fun K9 hK9 => zr (zg [] 1 [0,3] (zd (hK9 _ _ (zb 0 (XW.rounds' BIG (x := cd Tryd.f81 [1,1,0,1,0,0]) (by kernel_rfl) fun Q1 hQ1 => ?_)))))
   have hL1 : ∀ (k1 : Nat) (x2 : Int), ref1_characters_l1 p1 k1 x2 = some r → XR Tryd.prog 28 0 [] (cd Tryd.f81 [1,1,0,1,0,0]) Q1 k1 [(0, vs p1), (3, vi x2)] [] := by
    intro k1
    induction k1 with
    | zero => intro x2 h; rw [ref1_characters_l1.eq_1] at h; cases h
    | succ k1 ih1 =>
     intro x2 h
     rw [ref1_characters_l1.eq_2] at h
     refine zq fun K10 hK10 => zq fun K11 hK11 => zr (zg [] 4 [0,3,15] (zd (hK11 _ _ (zC h (fun b12 h => ?_) (fun b12 h => ?_)))))
     ·refine zs (hK10 _ _ (zq fun K13 hK13 => zb 1 (zq fun K14 hK14 => ?_)))
      have hJ2 : ∀ (x3 : Bool), ref1_characters_j2 (ref1_characters_l1 p1 k1) x2 x3 = some r → ∀ fr1 st1, Sub 28 0 [] fr1 st1 [(0, vs p1), (3, vi x2), (27, vb x3)] [] → K14 fr1 st1 := by
       intro x3 h fr1 st1 hS
       unfold ref1_characters_j2 at h
       refine hK14 _ _ (XW.sub hS ?_)
       refine zC h (fun b19 h => ?_) (fun b19 h => ?_)
       ·refine zq fun K20 hK20 => zr (zg [] 1 [2] (zd (hK20 _ _ (ze (hQ1 _ _ _ ?_)))))
        obtain rfl := Option.some.inj h
        exact zf [vb false] (.one (.rfl _ rfl))
       ·exact zs (hK13 _ _ (zr (zg [] 3 [0,3] (zd (XR.sub (zk [0,3]) (ih1 (IntKind.i64.wrap (x2 + (1 : Int))) h))))))
      obtain ⟨g15, h⟩ := zG h
      obtain ⟨y1, hy16, h⟩ := zB h
      rcases zW h with ⟨b17, h⟩ | ⟨b17, h⟩
      ·refine zr (zp [] 4 [0,3,21] [] [(0, vs p1), (3, vi x2), (21, vb (decide (((p1.data.toList.getD x2.toNat 0).toNat : Int) < (32 : Int))))] [] [0 ≤ x2 ∧ x2 < (p1.size : Int)] (⟨g15, trivial⟩) ?_)
       rw [show (decide (((p1.data.toList.getD x2.toNat 0).toNat : Int) < (32 : Int))) = y1 from Option.some.inj hy16]
       exact zg [] 1 [0,3,22] (zt 22 b17 (zg [] 5 [0,3,27] (zd (hJ2 true h _ _ (zk [0,3,27])))))
      ·obtain ⟨g18, h⟩ := zG h
       refine zr (zp [] 4 [0,3,21] [] [(0, vs p1), (3, vi x2), (21, vb (decide (((p1.data.toList.getD x2.toNat 0).toNat : Int) < (32 : Int))))] [] [0 ≤ x2 ∧ x2 < (p1.size : Int)] (⟨g15, trivial⟩) ?_)
       rw [show (decide (((p1.data.toList.getD x2.toNat 0).toNat : Int) < (32 : Int))) = y1 from Option.some.inj hy16]
       exact zg [] 1 [0,3,22] (zt 22 b17 (zo [] 5 [0,3,27] [] [0 ≤ x2 ∧ x2 < (p1.size : Int)] (⟨g18, trivial⟩) (zd (hJ2 (((p1.data.toList.getD x2.toNat 0).toNat : Int) == (127 : Int)) h _ _ (zk [0,3,27])))))
     ·exact zx 0 (hQ1 _ _ _ (hJ3 () h _ _ (zk [])))
   exact XR.sub (zk [0,3]) (hL1 BIG (0 : Int) h)
 obtain ⟨r1, c4, h⟩ := zB h
 rcases zW h with ⟨b5, h⟩ | ⟨b5, h⟩
 ·exact zr (zg [] 1 [0,4] (zl 87 [vs p1] (vb r1) [(5, vb r1), (0, vs p1), (4, vs p1)] (c_utf8_ValidString _ _ c4) (zg [] 2 [0,7] (zt 7 b5 (zg [] 4 [0,11] (zd (hJ1 true h _ _ (zk [0,11]))))))))
 ·exact zr (zv [] 1 [0,4] [] [(0, vs p1), (4, vs p1)] [] (za (c_utf8_ValidString _ _ c4) (zg [] 2 [0,7] (zt 7 b5 (zv [] 4 [0,11] [] [(0, vs p1), (11, vb (decide ((256 : Int) < (p1.size : Int))))] [] (zd (hJ1 (decide ((256 : Int) < (p1.size : Int))) h _ _ (zk [0,11]))))))))

def ref1_alone_j2 (x2 : Bool) : Option Bool :=
    some x2

def ref1_alone_j3 (x3 : Bool) : Option Bool :=
    some x3

def ref1_alone_j4 (x4 : Bool) : Option Bool :=
    some x4

def ref1_alone_j5 (x5 : Bool) : Option Bool :=
    some x5

def ref1_alone_j6 (x6 : Bool) : Option Bool :=
    some x6

def ref1_alone_j7 (x7 : Bool) : Option Bool :=
    some x7

def ref1_alone_j8 (x8 : Bool) : Option Bool :=
    some x8

def ref1_alone_j9 (x9 : Bool) : Option Bool :=
    some x9

def ref1_alone_j1 (p1 : GValue) (x1 : Bool) : Option Bool :=
    ift (p1.kind == (0 : Int))
      (ift x1
         (ift (p1.n == (0 : Int))
            (ref1_alone_j2 (p1.scale == (0 : Int)))
            (ref1_alone_j2 false))
         (ref1_alone_j2 false))
      (ift (p1.kind == (1 : Int))
         (ift x1
            (bnd (ref1_within p1.n (0 : Int) (1 : Int)) fun r1 =>
             ift r1
               (ref1_alone_j3 (p1.scale == (0 : Int)))
               (ref1_alone_j3 false))
            (ref1_alone_j3 false))
         (ift (p1.kind == (2 : Int))
            (ift x1
               (bnd (ref1_within p1.n (-999999999999999999 : Int) (999999999999999999 : Int)) fun r2 =>
                ift r2
                  (ref1_alone_j4 (p1.scale == (0 : Int)))
                  (ref1_alone_j4 false))
               (ref1_alone_j4 false))
            (ift (p1.kind == (3 : Int))
               (ift x1
                  (bnd (ref1_within p1.n (-999999999999999999 : Int) (999999999999999999 : Int)) fun r3 =>
                   ift r3
                     (bnd (ref1_within p1.scale (0 : Int) (12 : Int)) fun r4 =>
                      ref1_alone_j5 r4)
                     (ref1_alone_j5 false))
                  (ref1_alone_j5 false))
               (ift (p1.kind == (4 : Int))
                  (ift ((p1.items.length : Int) == (0 : Int))
                     (ift (p1.n == (0 : Int))
                        (ift (p1.scale == (0 : Int))
                           (bnd (ref1_characters p1.s) fun r5 =>
                            ref1_alone_j6 r5)
                           (ref1_alone_j6 false))
                        (ref1_alone_j6 false))
                     (ref1_alone_j6 false))
                  (ift (p1.kind == (5 : Int))
                     (ift x1
                        (bnd (ref1_within p1.n (-62135596800 : Int) (253402300799 : Int)) fun r6 =>
                         ift r6
                           (ref1_alone_j7 (p1.scale == (0 : Int)))
                           (ref1_alone_j7 false))
                        (ref1_alone_j7 false))
                     (ift (p1.kind == (6 : Int))
                        (ift (p1.s.toList == (ByteArray.mk #[]).toList)
                           (ift (p1.n == (0 : Int))
                              (ift (p1.scale == (0 : Int))
                                 (ref1_alone_j8 (decide ((p1.items.length : Int) ≤ (64 : Int))))
                                 (ref1_alone_j8 false))
                              (ref1_alone_j8 false))
                           (ref1_alone_j8 false))
                        (ift (p1.kind == (7 : Int))
                           (ift (p1.s.toList == (ByteArray.mk #[]).toList)
                              (ift (p1.n == (0 : Int))
                                 (ift (p1.scale == (0 : Int))
                                    (ref1_alone_j9 (decide ((0 : Int) < (p1.items.length : Int))))
                                    (ref1_alone_j9 false))
                                 (ref1_alone_j9 false))
                              (ref1_alone_j9 false))
                           (some false))))))))

def ref1_alone (p1 : GValue) : Option Bool :=
    ift (p1.s.toList == (ByteArray.mk #[]).toList)
      (ref1_alone_j1 p1 ((p1.items.length : Int) == (0 : Int)))
      (ref1_alone_j1 p1 false)

abbrev qa615 (p1 : GValue) : List PV := [pi p1.kind, pi p1.n, pi p1.scale, .s (.string p1.s), .ro (eValue.els p1.items)]
abbrev qa643 (p1 : GValue) : Fr := [(1, .one (.pv (.rp [(qa615 p1)] 0 0))), (106, vb (p1.s.toList == (ByteArray.mk #[]).toList))]

theorem c_ref1_alone (p1 : GValue) (r : Bool) (h : ref1_alone p1 = some r) : PC Tryd.prog 67 [.ag [ci p1.kind, ci p1.n, ci p1.scale, cst p1.s, cl eValue p1.items]] (vb r) := by
 unfold ref1_alone at h
 refine zF 143 Tryd.f67 (zq fun K1 hK1 => zr (zg [] 2 [1] (zd (hK1 _ _ (zq fun K2 hK2 => ?_)))))
 have hJ1 : ∀ (x1 : Bool), ref1_alone_j1 p1 x1 = some r → ∀ fr1 st1, Sub 143 0 [] fr1 st1 [(1, .one (.pv (.rp [(qa615 p1)] 0 0))), (3, vb x1)] [] → K2 fr1 st1 := by
  intro x1 h fr1 st1 hS
  unfold ref1_alone_j1 at h
  refine hK2 _ _ (XW.sub hS ?_)
  refine zq fun K4 hK4 => zq fun K5 hK5 => zr (zu [] 2 [1,3,14] [(qa615 p1)] (zd (hK5 _ _ (zb 0 (zq fun K6 hK6 => ?_)))))
  refine zr (zg [] 2 [1,3,14,15] (zd (hK6 _ _ (zC h (fun b7 h => ?_) (fun b7 h => ?_)))))
  ·refine zq fun K8 hK8 => ?_
   have hJ2 : ∀ (x2 : Bool), ref1_alone_j2 x2 = some r → ∀ fr1 st1, Sub 143 0 [] fr1 st1 [(2, vb x2)] [] → K8 fr1 st1 := by
    intro x2 h fr1 st1 hS
    unfold ref1_alone_j2 at h
    refine hK8 _ _ (XW.sub hS ?_)
    refine ze ?_
    obtain rfl := Option.some.inj h
    exact zf [vb x2] (.one (.rfl _ rfl))
   rcases zW h with ⟨b9, h⟩ | ⟨b9, h⟩
   ·rcases zW h with ⟨b10, h⟩ | ⟨b10, h⟩
    ·exact zr (zv [] 2 [1,18] [] [(1, .one (.pv (.rp [(qa615 p1)] 0 0))), (18, vb x1)] [] (zt 18 b9 (zu [] 5 [1,23] [(qa615 p1)] (zt 23 b10 (zu [] 5 [2] [(qa615 p1)] (zd (hJ2 (p1.scale == (0 : Int)) h _ _ (zk [2]))))))))
    ·exact zr (zv [] 2 [1,18] [] [(1, .one (.pv (.rp [(qa615 p1)] 0 0))), (18, vb x1)] [] (zt 18 b9 (zu [] 5 [1,23] [(qa615 p1)] (zt 23 b10 (zg [] 5 [2] (zd (hJ2 false h _ _ (zk [2]))))))))
   ·exact zr (zv [] 2 [1,18] [] [(1, .one (.pv (.rp [(qa615 p1)] 0 0))), (18, vb x1)] [] (zt 18 b9 (zg [] 10 [2] (zd (hJ2 false h _ _ (zk [2]))))))
  ·refine zq fun K11 hK11 => zr (zv [] 2 [1,3,14,28] [] [(1, .one (.pv (.rp [(qa615 p1)] 0 0))), (3, vb x1), (14, vi p1.kind), (28, vb (p1.kind == (1 : Int)))] [] (zd (hK11 _ _ (zC h (fun b12 h => ?_) (fun b12 h => ?_)))))
   ·refine zq fun K13 hK13 => ?_
    have hJ3 : ∀ (x3 : Bool), ref1_alone_j3 x3 = some r → ∀ fr1 st1, Sub 143 0 [] fr1 st1 [(2, vb x3)] [] → K13 fr1 st1 := by
     intro x3 h fr1 st1 hS
     unfold ref1_alone_j3 at h
     refine hK13 _ _ (XW.sub hS ?_)
     refine ze ?_
     obtain rfl := Option.some.inj h
     exact zf [vb x3] (.one (.rfl _ rfl))
    rcases zW h with ⟨b14, h⟩ | ⟨b14, h⟩
    ·obtain ⟨r1, c15, h⟩ := zB h
     rcases zW h with ⟨b16, h⟩ | ⟨b16, h⟩
     ·refine zr (zg [] 2 [1,31] (zt 31 b14 (zu [] 2 [1,31,33] [(qa615 p1)] (zl 80 [vi p1.n, vi (0 : Int), vi (1 : Int)] (vb r1) [(34, vb r1), (1, .one (.pv (.rp [(qa615 p1)] 0 0))), (31, vb true), (33, vi p1.n)] (c_ref1_within _ _ _ _ c15) (zg [] 2 [1,36] (zt 36 b16 (zu [] 5 [2] [(qa615 p1)] ?_)))))))
      exact zd (hJ3 (p1.scale == (0 : Int)) h _ _ (zk [2]))
     ·refine zr (zv [] 2 [1,31] [] [(1, .one (.pv (.rp [(qa615 p1)] 0 0))), (31, vb x1)] [] (zt 31 b14 (zu [] 2 [1,31,33] [(qa615 p1)] (za (c_ref1_within _ _ _ _ c15) (zv [] 2 [1,36] [] [(1, .one (.pv (.rp [(qa615 p1)] 0 0))), (36, vb r1)] [] (zt 36 b16 (zg [] 5 [2] ?_)))))))
      exact zd (hJ3 false h _ _ (zk [2]))
    ·exact zr (zg [] 2 [1,31] (zt 31 b14 (zg [] 10 [2] (zd (hJ3 false h _ _ (zk [2]))))))
   ·refine zq fun K17 hK17 => zr (zg [] 2 [1,3,14,41] (zd (hK17 _ _ (zC h (fun b18 h => ?_) (fun b18 h => ?_)))))
    ·refine zq fun K19 hK19 => ?_
     have hJ4 : ∀ (x4 : Bool), ref1_alone_j4 x4 = some r → ∀ fr1 st1, Sub 143 0 [] fr1 st1 [(2, vb x4)] [] → K19 fr1 st1 := by
      intro x4 h fr1 st1 hS
      unfold ref1_alone_j4 at h
      refine hK19 _ _ (XW.sub hS ?_)
      refine ze ?_
      obtain rfl := Option.some.inj h
      exact zf [vb x4] (.one (.rfl _ rfl))
     rcases zW h with ⟨b20, h⟩ | ⟨b20, h⟩
     ·obtain ⟨r2, c21, h⟩ := zB h
      rcases zW h with ⟨b22, h⟩ | ⟨b22, h⟩
      ·refine zr (zg [] 2 [1,44] (zt 44 b20 (zv [] 2 [1,44,46] [(qa615 p1)] [(1, .one (.pv (.rp [(qa615 p1)] 0 0))), (44, vb true), (46, vi p1.n)] [] (za (c_ref1_within _ _ _ _ c21) (zg [] 2 [1,49] (zt 49 b22 (zv [] 5 [2] [(qa615 p1)] [(2, vb (p1.scale == (0 : Int)))] [] ?_)))))))
       exact zd (hJ4 (p1.scale == (0 : Int)) h _ _ (zk [2]))
      ·refine zr (zg [] 2 [1,44] (zt 44 b20 (zu [] 2 [1,44,46] [(qa615 p1)] (zl 80 [vi p1.n, vi (-999999999999999999 : Int), vi (999999999999999999 : Int)] (vb r2) [(47, vb r2), (1, .one (.pv (.rp [(qa615 p1)] 0 0))), (44, vb true), (46, vi p1.n)] (c_ref1_within _ _ _ _ c21) (zg [] 2 [1,49] (zt 49 b22 (zg [] 5 [2] ?_)))))))
       exact zd (hJ4 false h _ _ (zk [2]))
     ·exact zr (zg [] 2 [1,44] (zt 44 b20 (zv [] 10 [2] [] [(2, vb false)] [] (zd (hJ4 false h _ _ (zk [2]))))))
    ·refine zq fun K23 hK23 => zr (zg [] 2 [1,3,14,54] (zd (hK23 _ _ (zC h (fun b24 h => ?_) (fun b24 h => ?_)))))
     ·refine zq fun K25 hK25 => ?_
      have hJ5 : ∀ (x5 : Bool), ref1_alone_j5 x5 = some r → ∀ fr1 st1, Sub 143 0 [] fr1 st1 [(2, vb x5)] [] → K25 fr1 st1 := by
       intro x5 h fr1 st1 hS
       unfold ref1_alone_j5 at h
       refine hK25 _ _ (XW.sub hS ?_)
       refine ze ?_
       obtain rfl := Option.some.inj h
       exact zf [vb x5] (.one (.rfl _ rfl))
      rcases zW h with ⟨b26, h⟩ | ⟨b26, h⟩
      ·obtain ⟨r3, c27, h⟩ := zB h
       rcases zW h with ⟨b28, h⟩ | ⟨b28, h⟩
       ·obtain ⟨r4, c29, h⟩ := zB h
        refine zr (zv [] 2 [1,57] [] [(1, .one (.pv (.rp [(qa615 p1)] 0 0))), (57, vb x1)] [] (zt 57 b26 (zu [] 2 [1,57,59] [(qa615 p1)] (za (c_ref1_within _ _ _ _ c27) (zv [] 2 [1,62] [] [(1, .one (.pv (.rp [(qa615 p1)] 0 0))), (62, vb r3)] [] (zt 62 b28 (zu [] 2 [62,64] [(qa615 p1)] ?_)))))))
        exact za (c_ref1_within _ _ _ _ c29) (zv [] 2 [2] [] [(2, vb r4)] [] (zd (hJ5 r4 h _ _ (zk [2]))))
       ·refine zr (zg [] 2 [1,57] (zt 57 b26 (zu [] 2 [1,57,59] [(qa615 p1)] (zl 80 [vi p1.n, vi (-999999999999999999 : Int), vi (999999999999999999 : Int)] (vb r3) [(60, vb r3), (1, .one (.pv (.rp [(qa615 p1)] 0 0))), (57, vb true), (59, vi p1.n)] (c_ref1_within _ _ _ _ c27) (zg [] 2 [1,62] (zt 62 b28 (zg [] 5 [2] ?_)))))))
        exact zd (hJ5 false h _ _ (zk [2]))
      ·exact zr (zv [] 2 [1,57] [] [(1, .one (.pv (.rp [(qa615 p1)] 0 0))), (57, vb x1)] [] (zt 57 b26 (zg [] 10 [2] (zd (hJ5 false h _ _ (zk [2]))))))
     ·refine zq fun K30 hK30 => zr (zv [] 2 [1,3,14,67] [] [(1, .one (.pv (.rp [(qa615 p1)] 0 0))), (3, vb x1), (14, vi p1.kind), (67, vb (p1.kind == (4 : Int)))] [] (zd (hK30 _ _ (zC h (fun b31 h => ?_) (fun b31 h => ?_)))))
      ·refine zq fun K32 hK32 => ?_
       have hJ6 : ∀ (x6 : Bool), ref1_alone_j6 x6 = some r → ∀ fr1 st1, Sub 143 0 [] fr1 st1 [(2, vb x6)] [] → K32 fr1 st1 := by
        intro x6 h fr1 st1 hS
        unfold ref1_alone_j6 at h
        refine hK32 _ _ (XW.sub hS ?_)
        refine ze ?_
        obtain rfl := Option.some.inj h
        exact zf [vb x6] (.one (.rfl _ rfl))
       rcases zW h with ⟨b33, h⟩ | ⟨b33, h⟩
       ·rcases zW h with ⟨b34, h⟩ | ⟨b34, h⟩
        ·rcases zW h with ⟨b35, h⟩ | ⟨b35, h⟩
         ·obtain ⟨r5, c36, h⟩ := zB h
          refine zr (zv [] 3 [1,71] [[pi p1.kind, pi p1.n, pi p1.scale, .s (.string p1.s), .ro (eValue.els p1.items)]] [(1, .one (.pv (.rp [[pi p1.kind, pi p1.n, pi p1.scale, .s (.string p1.s), .ro (eValue.els p1.items)]] 0 0))), (71, vi ((eValue.els p1.items).length : Int))] [] ?_)
          rw [eValue.len p1.items]
          refine zg [] 2 [1,73] (zt 73 b33 (zu [] 5 [1,78] [(qa615 p1)] (zt 78 b34 (zv [] 5 [1,83] [(qa615 p1)] [(1, .one (.pv (.rp [(qa615 p1)] 0 0))), (83, vb (p1.scale == (0 : Int)))] [] (zt 83 b35 (zu [] 2 [83,85] [(qa615 p1)] (za (c_ref1_characters _ _ c36) ?_)))))))
          exact zv [] 2 [2] [] [(2, vb r5)] [] (zd (hJ6 r5 h _ _ (zk [2])))
         ·refine zr (zv [] 3 [1,71] [[pi p1.kind, pi p1.n, pi p1.scale, .s (.string p1.s), .ro (eValue.els p1.items)]] [(1, .one (.pv (.rp [[pi p1.kind, pi p1.n, pi p1.scale, .s (.string p1.s), .ro (eValue.els p1.items)]] 0 0))), (71, vi ((eValue.els p1.items).length : Int))] [] ?_)
          rw [eValue.len p1.items]
          refine zg [] 2 [1,73] (zt 73 b33 (zu [] 5 [1,78] [(qa615 p1)] (zt 78 b34 (zv [] 5 [1,83] [(qa615 p1)] [(1, .one (.pv (.rp [(qa615 p1)] 0 0))), (83, vb (p1.scale == (0 : Int)))] [] (zt 83 b35 (zg [] 5 [2] (zd ?_)))))))
          exact hJ6 false h _ _ (zk [2])
        ·refine zr (zv [] 3 [1,71] [[pi p1.kind, pi p1.n, pi p1.scale, .s (.string p1.s), .ro (eValue.els p1.items)]] [(1, .one (.pv (.rp [[pi p1.kind, pi p1.n, pi p1.scale, .s (.string p1.s), .ro (eValue.els p1.items)]] 0 0))), (71, vi ((eValue.els p1.items).length : Int))] [] ?_)
         rw [eValue.len p1.items]
         exact zg [] 2 [1,73] (zt 73 b33 (zu [] 5 [1,78] [(qa615 p1)] (zt 78 b34 (zv [] 10 [2] [] [(2, vb false)] [] (zd (hJ6 false h _ _ (zk [2])))))))
       ·refine zr (zv [] 3 [1,71] [[pi p1.kind, pi p1.n, pi p1.scale, .s (.string p1.s), .ro (eValue.els p1.items)]] [(1, .one (.pv (.rp [[pi p1.kind, pi p1.n, pi p1.scale, .s (.string p1.s), .ro (eValue.els p1.items)]] 0 0))), (71, vi ((eValue.els p1.items).length : Int))] [] ?_)
        rw [eValue.len p1.items]
        exact zg [] 2 [1,73] (zt 73 b33 (zg [] 15 [2] (zd (hJ6 false h _ _ (zk [2])))))
      ·refine zq fun K37 hK37 => zr (zg [] 2 [1,3,14,88] (zd (hK37 _ _ (zC h (fun b38 h => ?_) (fun b38 h => ?_)))))
       ·refine zq fun K39 hK39 => ?_
        have hJ7 : ∀ (x7 : Bool), ref1_alone_j7 x7 = some r → ∀ fr1 st1, Sub 143 0 [] fr1 st1 [(2, vb x7)] [] → K39 fr1 st1 := by
         intro x7 h fr1 st1 hS
         unfold ref1_alone_j7 at h
         refine hK39 _ _ (XW.sub hS ?_)
         refine ze ?_
         obtain rfl := Option.some.inj h
         exact zf [vb x7] (.one (.rfl _ rfl))
        rcases zW h with ⟨b40, h⟩ | ⟨b40, h⟩
        ·obtain ⟨r6, c41, h⟩ := zB h
         rcases zW h with ⟨b42, h⟩ | ⟨b42, h⟩
         ·refine zr (zg [] 2 [1,91] (zt 91 b40 (zv [] 2 [1,91,93] [(qa615 p1)] [(1, .one (.pv (.rp [(qa615 p1)] 0 0))), (91, vb true), (93, vi p1.n)] [] (za (c_ref1_within _ _ _ _ c41) (zg [] 2 [1,96] (zt 96 b42 (zv [] 5 [2] [(qa615 p1)] [(2, vb (p1.scale == (0 : Int)))] [] ?_)))))))
          exact zd (hJ7 (p1.scale == (0 : Int)) h _ _ (zk [2]))
         ·refine zr (zg [] 2 [1,91] (zt 91 b40 (zu [] 2 [1,91,93] [(qa615 p1)] (zl 80 [vi p1.n, vi (-62135596800 : Int), vi (253402300799 : Int)] (vb r6) [(94, vb r6), (1, .one (.pv (.rp [(qa615 p1)] 0 0))), (91, vb true), (93, vi p1.n)] (c_ref1_within _ _ _ _ c41) (zg [] 2 [1,96] (zt 96 b42 (zg [] 5 [2] ?_)))))))
          exact zd (hJ7 false h _ _ (zk [2]))
        ·exact zr (zg [] 2 [1,91] (zt 91 b40 (zv [] 10 [2] [] [(2, vb false)] [] (zd (hJ7 false h _ _ (zk [2]))))))
       ·refine zq fun K43 hK43 => zr (zg [] 2 [1,14,101] (zd (hK43 _ _ (zC h (fun b44 h => ?_) (fun b44 h => ?_)))))
        ·refine zq fun K45 hK45 => ?_
         have hJ8 : ∀ (x8 : Bool), ref1_alone_j8 x8 = some r → ∀ fr1 st1, Sub 143 0 [] fr1 st1 [(2, vb x8)] [] → K45 fr1 st1 := by
          intro x8 h fr1 st1 hS
          unfold ref1_alone_j8 at h
          refine hK45 _ _ (XW.sub hS ?_)
          refine ze ?_
          obtain rfl := Option.some.inj h
          exact zf [vb x8] (.one (.rfl _ rfl))
         rcases zW h with ⟨b46, h⟩ | ⟨b46, h⟩
         ·rcases zW h with ⟨b47, h⟩ | ⟨b47, h⟩
          ·rcases zW h with ⟨b48, h⟩ | ⟨b48, h⟩
           ·refine zr (zv [] 4 [1,106] [(qa615 p1)] (qa643 p1) [] (zt 106 b46 (zu [] 5 [1,111] [(qa615 p1)] (zt 111 b47 (zu [] 5 [1,116] [(qa615 p1)] (zt 116 b48 ?_))))))
            refine zv [] 3 [116,119] [[pi p1.kind, pi p1.n, pi p1.scale, .s (.string p1.s), .ro (eValue.els p1.items)]] [(116, vb true), (119, vi ((eValue.els p1.items).length : Int))] [] ?_
            rw [eValue.len p1.items]
            exact zg [] 3 [2] (zd (hJ8 (decide ((p1.items.length : Int) ≤ (64 : Int))) h _ _ (zk [2])))
           ·refine zr (zu [] 4 [1,106] [(qa615 p1)] (zt 106 b46 (zv [] 5 [1,111] [(qa615 p1)] [(1, .one (.pv (.rp [(qa615 p1)] 0 0))), (111, vb (p1.n == (0 : Int)))] [] (zt 111 b47 (zu [] 5 [1,116] [(qa615 p1)] (zt 116 b48 (zg [] 6 [2] ?_)))))))
            exact zd (hJ8 false h _ _ (zk [2]))
          ·exact zr (zv [] 4 [1,106] [(qa615 p1)] (qa643 p1) [] (zt 106 b46 (zu [] 5 [1,111] [(qa615 p1)] (zt 111 b47 (zg [] 11 [2] (zd (hJ8 false h _ _ (zk [2]))))))))
         ·exact zr (zv [] 4 [1,106] [(qa615 p1)] (qa643 p1) [] (zt 106 b46 (zg [] 16 [2] (zd (hJ8 false h _ _ (zk [2]))))))
        ·refine zq fun K49 hK49 => zr (zv [] 2 [1,122] [] [(1, .one (.pv (.rp [(qa615 p1)] 0 0))), (122, vb (p1.kind == (7 : Int)))] [] (zd (hK49 _ _ (zC h (fun b50 h => ?_) (fun b50 h => ?_)))))
         ·refine zq fun K51 hK51 => ?_
          have hJ9 : ∀ (x9 : Bool), ref1_alone_j9 x9 = some r → ∀ fr1 st1, Sub 143 0 [] fr1 st1 [(2, vb x9)] [] → K51 fr1 st1 := by
           intro x9 h fr1 st1 hS
           unfold ref1_alone_j9 at h
           refine hK51 _ _ (XW.sub hS ?_)
           refine ze ?_
           obtain rfl := Option.some.inj h
           exact zf [vb x9] (.one (.rfl _ rfl))
          rcases zW h with ⟨b52, h⟩ | ⟨b52, h⟩
          ·rcases zW h with ⟨b53, h⟩ | ⟨b53, h⟩
           ·rcases zW h with ⟨b54, h⟩ | ⟨b54, h⟩
            ·refine zr (zu [] 4 [1,127] [(qa615 p1)] (zt 127 b52 (zu [] 5 [1,132] [(qa615 p1)] (zt 132 b53 (zv [] 5 [1,137] [(qa615 p1)] [(1, .one (.pv (.rp [(qa615 p1)] 0 0))), (137, vb (p1.scale == (0 : Int)))] [] (zt 137 b54 ?_))))))
             refine zv [] 3 [137,140] [[pi p1.kind, pi p1.n, pi p1.scale, .s (.string p1.s), .ro (eValue.els p1.items)]] [(137, vb true), (140, vi ((eValue.els p1.items).length : Int))] [] ?_
             rw [eValue.len p1.items]
             exact zg [] 3 [2] (zd (hJ9 (decide ((0 : Int) < (p1.items.length : Int))) h _ _ (zk [2])))
            ·refine zr (zu [] 4 [1,127] [(qa615 p1)] (zt 127 b52 (zv [] 5 [1,132] [(qa615 p1)] [(1, .one (.pv (.rp [(qa615 p1)] 0 0))), (132, vb (p1.n == (0 : Int)))] [] (zt 132 b53 (zu [] 5 [1,137] [(qa615 p1)] (zt 137 b54 (zg [] 6 [2] ?_)))))))
             exact zd (hJ9 false h _ _ (zk [2]))
           ·exact zr (zu [] 4 [1,127] [(qa615 p1)] (zt 127 b52 (zu [] 5 [1,132] [(qa615 p1)] (zt 132 b53 (zv [] 11 [2] [] [(2, vb false)] [] (zd (hJ9 false h _ _ (zk [2]))))))))
          ·exact zr (zu [] 4 [1,127] [(qa615 p1)] (zt 127 b52 (zg [] 16 [2] (zd (hJ9 false h _ _ (zk [2]))))))
         ·refine zs (hK4 _ _ (zq fun K55 hK55 => zr (zg [] 1 [2] (zd (hK55 _ _ (ze ?_))))))
          obtain rfl := Option.some.inj h
          exact zf [vb false] (.one (.rfl _ rfl))
 rcases zW h with ⟨b3, h⟩ | ⟨b3, h⟩
 ·refine zr (zu [] 4 [1,7] [[pi p1.kind, pi p1.n, pi p1.scale, .s (.string p1.s), .ro (eValue.els p1.items)]] (zt 7 b3 (zv [] 3 [1,7,10] [[pi p1.kind, pi p1.n, pi p1.scale, .s (.string p1.s), .ro (eValue.els p1.items)]] [(1, .one (.pv (.rp [[pi p1.kind, pi p1.n, pi p1.scale, .s (.string p1.s), .ro (eValue.els p1.items)]] 0 0))), (7, vb true), (10, vi ((eValue.els p1.items).length : Int))] [] ?_)))
  rw [eValue.len p1.items]
  exact zg [] 3 [1,3] (zd (hJ1 ((p1.items.length : Int) == (0 : Int)) h _ _ (zk [1,3])))
 ·exact zr (zu [] 4 [1,7] [(qa615 p1)] (zt 7 b3 (zv [] 6 [1,3] [] [(1, .one (.pv (.rp [(qa615 p1)] 0 0))), (3, vb false)] [] (zd (hJ1 false h _ _ (zk [1,3]))))))

def ref1_sound_j3 (z3 : Int) : Option (Bool × Int) :=
    some (true, z3)

def ref1_sound_l1 (q_ref1_sound : GValue → Int → Int → Option (Bool × Int)) (p1 : GValue) (p2 : Int) : Nat → Int → Int → Option (Bool × Int)
  | 0, _, _ => none
  | k1 + 1, z2, x2 =>
    ift (decide (x2 < (p1.items.length : Int)))
      (bnd (at? p1.items x2) fun e1 =>
       bnd (q_ref1_sound e1 (IntKind.i64.wrap (p2 + (1 : Int))) z2) fun r2 =>
       ift (!r2.1)
         (some (false, r2.2))
         ((ref1_sound_l1 q_ref1_sound p1 p2 k1) r2.2 (IntKind.i64.wrap (x2 + (1 : Int)))))
      (ref1_sound_j3 z2)

def ref1_sound_j2 (q_ref1_sound : GValue → Int → Int → Option (Bool × Int)) (p1 : GValue) (p2 : Int) (z1 : Int) (x1 : Bool) : Option (Bool × Int) :=
    ift x1
      (some (false, z1))
      (ref1_sound_l1 q_ref1_sound p1 p2 BIG z1 (0 : Int))

def ref1_sound_j1 (q_ref1_sound : GValue → Int → Int → Option (Bool × Int)) (p1 : GValue) (p2 : Int) (z1 : Int) : Option (Bool × Int) :=
    ift (decide ((4 : Int) < p2))
      (ref1_sound_j2 q_ref1_sound p1 p2 z1 true)
      (ift (decide ((256 : Int) < z1))
         (ref1_sound_j2 q_ref1_sound p1 p2 z1 true)
         (bnd (ref1_alone p1) fun r1 =>
          ref1_sound_j2 q_ref1_sound p1 p2 z1 (!r1)))

def ref1_sound : Nat → GValue → Int → Int → Option (Bool × Int)
  | 0, _, _, _ => none
  | k0 + 1, p1, p2, p3 =>
    ift (p1.kind != (0 : Int))
      (ref1_sound_j1 (ref1_sound k0) p1 p2 (IntKind.i64.wrap (p3 + (1 : Int))))
      (ref1_sound_j1 (ref1_sound k0) p1 p2 p3)

abbrev qa649 (p1 : GValue) : List CV := [ci p1.kind, ci p1.n, ci p1.scale, cst p1.s, cl eValue p1.items]
abbrev qa652 (p1 : GValue) : List PV := [pi p1.kind, pi p1.n, pi p1.scale, .s (.string p1.s), .ro (eValue.els p1.items)]
abbrev qa659 (e1 : GValue) : List CV := [ci e1.kind, ci e1.n, ci e1.scale, cst e1.s, cl eValue e1.items]
abbrev qa673 (p1 : GValue) (p2 : Int) : Fr := [(1, vi p2), (2, .one (.pt 0 0 0 0)), (3, .one (.pv (.rp [(qa652 p1)] 0 0))), (18, vb (decide ((4 : Int) < p2)))]

theorem c_ref1_sound : ∀ (k0 : Nat) (p1 : GValue) (p2 : Int) (p3 : Int) (r : (Bool × Int)), ref1_sound k0 p1 p2 p3 = some r → MC Tryd.prog 46 [.ag (qa649 p1), vi p2, .one (.pt 0 0 0 0)] [.box [ci p3]] (vb r.1) [.box [ci r.2]]
 | 0, _, _, _, r, h => by rw [ref1_sound.eq_1] at h; cases h
 | k0 + 1, p1, p2, p3, r, h => by
  rw [ref1_sound.eq_2] at h
  refine MC.of 1 (n := 46) (fn := Tryd.f46) (c := cd Tryd.f46 []) (by kernel_rfl) (by kernel_rfl) (by kernel_rfl) (Nat.le_of_ble_eq_true rfl) rfl (zq fun K1 hK1 => zr (zg [] 2 [1,2,3] (zd (hK1 _ _ (zq fun K2 hK2 => ?_)))))
  have hJ1 : ∀ (z1 : Int), ref1_sound_j1 (ref1_sound k0) p1 p2 z1 = some r → ∀ fr1 st1, Sub 46 1 [] fr1 st1 [(1, vi p2), (2, .one (.pt 0 0 0 0)), (3, .one (.pv (.rp [(qa652 p1)] 0 0)))] [.box [ci z1]] → K2 fr1 st1 := by
   intro z1 h fr1 st1 hS
   unfold ref1_sound_j1 at h
   refine hK2 _ _ (XW.sub hS ?_)
   refine zq fun K5 hK5 => zq fun K6 hK6 => ?_
   have hJ2 : ∀ (x1 : Bool), ref1_sound_j2 (ref1_sound k0) p1 p2 z1 x1 = some r → ∀ fr1 st1, Sub 46 1 [] fr1 st1 [(1, vi p2), (2, .one (.pt 0 0 0 0)), (3, .one (.pv (.rp [(qa652 p1)] 0 0))), (28, vb x1)] [.box [ci z1]] → K6 fr1 st1 := by
    intro x1 h fr1 st1 hS
    unfold ref1_sound_j2 at h
    refine hK6 _ _ (XW.sub hS ?_)
    refine zC h (fun b10 h => ?_) (fun b10 h => ?_)
    ·refine zq fun K11 hK11 => zr (zv [] 1 [6] [] [(6, vb false)] [.box [ci z1]] (zd (hK11 _ _ (ze ?_))))
     obtain rfl := Option.some.inj h
     exact FinM.fin (.inr rfl) [] [vb false] [] (by kernel_rfl) trivial (by kernel_rfl) (by kernel_rfl) (.one (.rfl _ rfl))
    ·refine zs (hK5 _ _ (zq fun K12 hK12 => ?_))
     have hJ3 : ∀ (z3 : Int), ref1_sound_j3 z3 = some r → ∀ fr1 st1, Sub 46 1 [] fr1 st1 [] [.box [ci z3]] → K12 fr1 st1 := by
      intro z3 h fr1 st1 hS
      unfold ref1_sound_j3 at h
      refine hK12 _ _ (XW.sub hS ?_)
      refine zq fun K24 hK24 => zr (zv [] 1 [6] [] [(6, vb true)] [.box [ci z3]] (zd (hK24 _ _ (ze ?_))))
      obtain rfl := Option.some.inj h
      exact FinM.fin (.inr rfl) [] [vb true] [] (by kernel_rfl) trivial (by kernel_rfl) (by kernel_rfl) (.one (.rfl _ rfl))
     refine zq fun K13 hK13 => zr (zv [] 3 [1,2,3,31] [[pi p1.kind, pi p1.n, pi p1.scale, .s (.string p1.s), .ro (eValue.els p1.items)]] [(1, vi p2), (2, .one (.pt 0 0 0 0)), (3, .one (.pv (.rp [[pi p1.kind, pi p1.n, pi p1.scale, .s (.string p1.s), .ro (eValue.els p1.items)]] 0 0))), (31, vi ((eValue.els p1.items).length : Int))] [.box [ci z1]] ?_)
     rw [eValue.len p1.items]
     refine zg [] 1 [1,2,3,31,32] (zd (hK13 _ _ (zb 0 (XW.rounds' BIG (x := cd Tryd.f46 [1,1,1,0,1,0,0]) (by kernel_rfl) fun Q1 hQ1 => ?_))))
     have hL1 : ∀ (k1 : Nat) (z2 : Int) (x2 : Int), ref1_sound_l1 (ref1_sound k0) p1 p2 k1 z2 x2 = some r → XR Tryd.prog 46 1 [] (cd Tryd.f46 [1,1,1,0,1,0,0]) Q1 k1 [(1, vi p2), (2, .one (.pt 0 0 0 0)), (3, .one (.pv (.rp [(qa652 p1)] 0 0))), (31, vi (p1.items.length : Int)), (32, vi x2)] [.box [ci z2]] := by
      intro k1
      induction k1 with
      | zero => intro z2 x2 h; rw [ref1_sound_l1.eq_1] at h; cases h
      | succ k1 ih1 =>
       intro z2 x2 h
       rw [ref1_sound_l1.eq_2] at h
       refine zq fun K14 hK14 => zr (zg [] 1 [1,2,3,31,32,33] (zd (hK14 _ _ (zq fun K15 hK15 => zC h (fun b16 h => ?_) (fun b16 h => ?_)))))
       ·refine zs (hK15 _ _ (zq fun K17 hK17 => zb 1 (zq fun K18 hK18 => zr (zg [] 2 [1,2,3,7,31,32] (zd ?_)))))
        refine hK18 _ _ (zq fun K19 hK19 => ?_)
        obtain ⟨e1, a20, h⟩ := zB h
        obtain ⟨r2, c21, h⟩ := zB h
        refine zr ?_
        refine zp [] 8 [1,2,3,31,32,39,41,42] [(qa652 p1), [pi e1.kind, pi e1.n, pi e1.scale, .s (.string e1.s), .ro (eValue.els e1.items)]] [(1, vi p2), (2, .one (.pt 0 0 0 0)), (3, .one (.pv (.rp [(qa652 p1)] 0 0))), (31, vi (p1.items.length : Int)), (32, vi x2), (39, .ag (qa659 e1)), (41, vi (IntKind.i64.wrap (p2 + (1 : Int)))), (42, .one (.pt 0 0 0 0))] [.box [ci z2]] [([(qa652 p1)] : List (List PV))[0]? = some (qa652 p1), 0 ≤ x2 ∧ x2 < ((eValue.els p1.items).length : Int) ∧ elemsOk 5 (eValue.els p1.items), (eValue.els p1.items)[x2.toNat]? = some [pi e1.kind, pi e1.n, pi e1.scale, .s (.string e1.s), .ro (eValue.els e1.items)]] (⟨rfl, eValue.inb a20, ((eValue.get a20).trans (by cases e1; rfl)), trivial⟩) ?_
        refine XO.calm 46 [.ag (qa659 e1), vi (IntKind.i64.wrap (p2 + (1 : Int))), .one (.pt 0 0 0 0)] [.box [ci z2]] [.box [ci r2.2]] (vb r2.1) [0] [(43, vb r2.1), (1, vi p2), (2, .one (.pt 0 0 0 0)), (3, .one (.pv (.rp [(qa652 p1)] 0 0))), (31, vi (p1.items.length : Int)), (32, vi x2), (39, .ag (qa659 e1)), (41, vi (IntKind.i64.wrap (p2 + (1 : Int)))), (42, .one (.pt 0 0 0 0))] [.box [ci r2.2]] (by kernel_rfl) (c_ref1_sound k0 _ _ _ _ c21) (by kernel_rfl) (by kernel_rfl) (by kernel_rfl) (by kernel_rfl) ?_
        refine zg [] 1 [1,2,3,31,32,44] (zd (hK19 _ _ (zC h (fun b22 h => ?_) (fun b22 h => ?_))))
        ·refine zq fun K23 hK23 => zr (zv [] 1 [6] [] [(6, vb false)] [.box [ci r2.2]] (zd (hK23 _ _ (ze (hQ1 _ _ _ ?_)))))
         obtain rfl := Option.some.inj h
         exact FinM.fin (.inr rfl) [] [vb false] [] (by kernel_rfl) trivial (by kernel_rfl) (by kernel_rfl) (.one (.rfl _ rfl))
        ·exact zs (hK17 _ _ (zr (zg [] 2 [1,2,3,31,32] (zd (XR.sub (zk [1,2,3,31,32]) (ih1 r2.2 (IntKind.i64.wrap (x2 + (1 : Int))) h))))))
       ·exact zx 0 (hQ1 _ _ _ (hJ3 z2 h _ _ (zk [])))
     exact XR.sub (zk [1,2,3,31,32]) (hL1 BIG z1 (0 : Int) h)
   rcases zW h with ⟨b7, h⟩ | ⟨b7, h⟩
   ·exact zr (zg [] 3 [1,2,3,18] (zt 18 b7 (zg [] 10 [1,2,3,28] (zd (hJ2 true h _ _ (zk [1,2,3,28]))))))
   ·rcases zW h with ⟨b8, h⟩ | ⟨b8, h⟩
    ·exact zr (zv [] 3 [1,2,3,18] [] (qa673 p1 p2) [.box [ci z1]] (zt 18 b7 (zg [] 6 [1,2,3,24] (zt 24 b8 (zg [] 4 [1,2,3,28] (zd (hJ2 true h _ _ (zk [1,2,3,28]))))))))
    ·obtain ⟨r1, c9, h⟩ := zB h
     refine zr (zv [] 3 [1,2,3,18] [] (qa673 p1 p2) [.box [ci z1]] (zt 18 b7 (zg [] 6 [1,2,3,24] (zt 24 b8 (zu [] 1 [1,2,3,24,25] [(qa652 p1)] ?_)))))
     exact zl 67 [.ag (qa649 p1)] (vb r1) [(26, vb r1), (1, vi p2), (2, .one (.pt 0 0 0 0)), (3, .one (.pv (.rp [(qa652 p1)] 0 0))), (24, vb false), (25, .ag (qa649 p1))] (c_ref1_alone _ _ c9) (zg [] 2 [1,2,3,28] (zd (hJ2 (!r1) h _ _ (zk [1,2,3,28]))))
  refine zq fun K3 hK3 => zr (zu [] 3 [1,2,3,10] [(qa652 p1)] (zd (hK3 _ _ (zC h (fun b4 h => ?_) (fun b4 h => ?_)))))
  ·exact zr (zv [] 6 [1,2,3] [] [(1, vi p2), (2, .one (.pt 0 0 0 0)), (3, .one (.pv (.rp [(qa652 p1)] 0 0)))] [.box [ci (IntKind.i64.wrap (p3 + (1 : Int)))]] (zd (hJ1 (IntKind.i64.wrap (p3 + (1 : Int))) h _ _ (zk [1,2,3]))))
  ·exact zs (hJ1 p3 h _ _ (zk [1,2,3]))

def ref1_Sound (p1 : GValue) : Option Bool :=
    bnd (ref1_sound BIG p1 (1 : Int) (0 : Int)) fun r1 =>
    some r1.1

abbrev qa676 (p1 : GValue) : List CV := [ci p1.kind, ci p1.n, ci p1.scale, cst p1.s, cl eValue p1.items]

theorem c_ref1_Sound (p1 : GValue) (r : Bool) (h : ref1_Sound p1 = some r) : PC Tryd.prog 24 [.ag (qa676 p1)] (vb r) := by
 unfold ref1_Sound at h
 refine zF 6 Tryd.f24 (zq fun K1 hK1 => zr (zg [3] 2 [1] (zd (hK1 _ _ (zq fun K2 hK2 => zr ?_)))))
 refine zg [3] 2 [1,3] (zd (hK2 _ _ (zq fun K3 hK3 => ?_)))
 obtain ⟨r1, c4, h⟩ := zB h
 refine zr (zv [3] 1 [3,4] [[pi p1.kind, pi p1.n, pi p1.scale, .s (.string p1.s), .ro (eValue.els p1.items)]] [(3, .one (.pt 0 0 0 0)), (4, .ag (qa676 p1))] [.box [ci (0 : Int)]] ?_)
 refine XO.calm 46 [.ag (qa676 p1), vi (1 : Int), .one (.pt 0 0 0 0)] [.box [ci (0 : Int)]] [.box [ci r1.2]] (vb r1.1) [0] [(5, vb r1.1), (3, .one (.pt 0 0 0 0)), (4, .ag (qa676 p1))] [.box [ci r1.2]] (by kernel_rfl) (c_ref1_sound BIG _ _ _ _ c4) (by kernel_rfl) (by kernel_rfl) (by kernel_rfl) (by kernel_rfl) (zg [3] 1 [2] (zd (hK3 _ _ (ze ?_))))
 obtain rfl := Option.some.inj h
 exact zf [vb r1.1] (.one (.rfl _ rfl))

def ref1_runes_j1 (l2 : List Int) : Option (List Int) :=
    some l2

def ref1_runes_l1 : Nat → List Int → ByteArray → Option (List Int)
  | 0, _, _ => none
  | k1 + 1, l1, x1 =>
    ift (decide ((0 : Int) < (x1.size : Int)))
      (bnd (utf8_DecodeRuneInString x1) fun r1 =>
       grd (l1.length + 1 ≤ 4294967296) <|
       grd (0 ≤ r1.2 ∧ r1.2 ≤ (x1.size : Int) ∧ (x1.size : Int) ≤ (x1.size : Int)) <|
       (ref1_runes_l1 k1) (l1 ++ [r1.1]) (x1.extract r1.2.toNat (x1.size : Int).toNat))
      (ref1_runes_j1 l1)

def ref1_runes (p1 : ByteArray) : Option (List Int) :=
    ref1_runes_l1 BIG [] p1


theorem c_ref1_runes (p1 : ByteArray) (r : (List Int)) (h : ref1_runes p1 = some r) : PC Tryd.prog 26 [vs p1] (vl (eK .i32) r) := by
 unfold ref1_runes at h
 refine zF 22 Tryd.f26 (zq fun K1 hK1 => zr (zg [] 1 [0] (zd (hK1 _ _ (zq fun K2 hK2 => zr ?_)))))
 refine zg [] 1 [0,3] (zd (hK2 _ _ (zq fun K3 hK3 => ?_)))
 have hJ1 : ∀ (l2 : List Int), ref1_runes_j1 l2 = some r → ∀ fr1 st1, Sub 22 0 [] fr1 st1 [(3, .one (.sl 0 1 0 l2.length))] [.arr 1 ((eK .i32).els l2)] → K3 fr1 st1 := by
  intro l2 h fr1 st1 hS
  unfold ref1_runes_j1 at h
  refine hK3 _ _ (XW.sub hS ?_)
  refine zq fun K12 hK12 => zr (zg [] 2 [2] (zd (hK12 _ _ (ze ?_))))
  obtain rfl := Option.some.inj h
  exact zf [.one (.sl 0 1 0 l2.length)] (.one (cf_sl (eK .i32) l2 rfl rfl rfl))
 refine zb 0 (XW.sub (Sub.list (t := 3) (sz := 1) rfl) (XW.rounds' BIG (x := cd Tryd.f26 [1,1,0,0,0]) (by kernel_rfl) fun Q1 hQ1 => ?_))
 have hL1 : ∀ (k1 : Nat) (l1 : List Int) (x1 : ByteArray), ref1_runes_l1 k1 l1 x1 = some r → XR Tryd.prog 22 0 [] (cd Tryd.f26 [1,1,0,0,0]) Q1 k1 [(0, vs x1), (3, .one (.sl 0 1 0 l1.length))] [.arr 1 ((eK .i32).els l1)] := by
  intro k1
  induction k1 with
  | zero => intro l1 x1 h; rw [ref1_runes_l1.eq_1] at h; cases h
  | succ k1 ih1 =>
   intro l1 x1 h
   rw [ref1_runes_l1.eq_2] at h
   refine zq fun K4 hK4 => zq fun K5 hK5 => zr (zg [] 3 [0,3,8] (zd (hK5 _ _ (zC h (fun b6 h => ?_) (fun b6 h => ?_)))))
   ·refine zs (hK4 _ _ (zb 1 (zq fun K7 hK7 => ?_)))
    obtain ⟨r1, c8, h⟩ := zB h
    refine zr (zg [] 1 [0,3,10] (zl 47 [vs x1] (.tp [vk .i32 r1.1, vi r1.2]) [(11, .tp [vk .i32 r1.1, vi r1.2]), (0, vs x1), (3, .one (.sl 0 1 0 l1.length)), (10, vs x1)] (c_utf8_DecodeRuneInString _ _ c8) (zg [] 5 [0,3,4,5] (zd (hK7 _ _ (zq fun K9 hK9 => ?_))))))
    obtain ⟨g10, h⟩ := zG h
    refine zr (zp [] 4 [0,5,17] [] [(0, vs x1), (5, vi r1.2), (17, .one (.sl 0 1 0 (l1.length + ((eK .i32).els [r1.1]).length)))] [.arr 1 ((eK .i32).els l1 ++ (eK .i32).els [r1.1])] [elemsOk 1 ((eK .i32).els [r1.1]), l1.length = ((eK .i32).els l1).length, l1.length + ((eK .i32).els [r1.1]).length ≤ 4294967296] (⟨(eK .i32).ok _, ((eK .i32).len l1).symm, g10, trivial⟩) ?_)
    rw [show l1.length + ((eK .i32).els [r1.1]).length = (l1 ++ [r1.1]).length from (eK .i32).lapp _ _]
    rw [show (eK .i32).els l1 ++ (eK .i32).els [r1.1] = (eK .i32).els (l1 ++ [r1.1]) from (eK .i32).app2 _ _]
    refine zg [] 1 [0,3,5] (zd (hK9 _ _ ?_))
    obtain ⟨g11, h⟩ := zG h
    exact zr (zo [] 4 [0,3] [] [0 ≤ r1.2 ∧ r1.2 ≤ (x1.size : Int) ∧ (x1.size : Int) ≤ (x1.size : Int)] (⟨g11, trivial⟩) (zd (XR.sub (zk [0,3]) (ih1 (l1 ++ [r1.1]) (x1.extract r1.2.toNat (x1.size : Int).toNat) h))))
   ·exact zx 0 (hQ1 _ _ _ (hJ1 l1 h _ _ (zk [3])))
 exact XR.sub (zk [0,3]) (hL1 BIG [] p1 h)

theorem at2 {α : Type} {xs : List α} {i : Int} {e : α} (h : at? xs i = some e) : xs[i.toNat]? = some e := (at?_some h).2.2

def ref1_like_j4 (rec3 : List (List Bool) → Int → Option Bool) (x3 : Int) (l5 : List (List Bool)) : Option Bool :=
    rec3 l5 (IntKind.i64.wrap (x3 - (1 : Int)))

def ref1_like_j3 (rec3 : List (List Bool) → Int → Option Bool) (p1 : (List Int)) (p2 : (List Int)) (x2 : Int) (l4 : List (List Bool)) (x3 : Int) (x7 : Int) : Option Bool :=
    ift ((x7.tmod (2 : Int)) == (1 : Int))
      (bnd (at? l4 x2) fun e5 =>
       ift (decide (x2 < (p1.length : Int)))
         (bnd (at? p1 x2) fun e6 =>
          bnd (at? p2 x3) fun e7 =>
          ift (e6 == e7)
            (bnd (at? l4 (IntKind.i64.wrap (x2 + (1 : Int)))) fun e8 =>
             bnd (at? e8 (IntKind.i64.wrap (x3 + (1 : Int)))) fun e9 =>
             bnd (at? e5 x3) fun e10 =>
             ref1_like_j4 rec3 x3 (l4.set x2.toNat (e5.set x3.toNat e9)))
            (bnd (at? e5 x3) fun e11 =>
             ref1_like_j4 rec3 x3 (l4.set x2.toNat (e5.set x3.toNat false))))
         (bnd (at? e5 x3) fun e12 =>
          ref1_like_j4 rec3 x3 (l4.set x2.toNat (e5.set x3.toNat false))))
      (bnd (at? p2 x3) fun e13 =>
       ift (e13 == (92 : Int))
         (bnd (at? l4 x2) fun e14 =>
          bnd (at? e14 (IntKind.i64.wrap (x3 + (1 : Int)))) fun e15 =>
          bnd (at? e14 x3) fun e16 =>
          ref1_like_j4 rec3 x3 (l4.set x2.toNat (e14.set x3.toNat e15)))
         (ift (e13 == (37 : Int))
            (bnd (at? l4 x2) fun e17 =>
             bnd (at? e17 (IntKind.i64.wrap (x3 + (1 : Int)))) fun e18 =>
             ift e18
               (bnd (at? e17 x3) fun e19 =>
                ref1_like_j4 rec3 x3 (l4.set x2.toNat (e17.set x3.toNat true)))
               (ift (decide (x2 < (p1.length : Int)))
                  (bnd (at? l4 (IntKind.i64.wrap (x2 + (1 : Int)))) fun e20 =>
                   bnd (at? e20 x3) fun e21 =>
                   bnd (at? e17 x3) fun e22 =>
                   ref1_like_j4 rec3 x3 (l4.set x2.toNat (e17.set x3.toNat e21)))
                  (bnd (at? e17 x3) fun e23 =>
                   ref1_like_j4 rec3 x3 (l4.set x2.toNat (e17.set x3.toNat false)))))
            (ift (e13 == (95 : Int))
               (bnd (at? l4 x2) fun e24 =>
                ift (decide (x2 < (p1.length : Int)))
                  (bnd (at? l4 (IntKind.i64.wrap (x2 + (1 : Int)))) fun e25 =>
                   bnd (at? e25 (IntKind.i64.wrap (x3 + (1 : Int)))) fun e26 =>
                   bnd (at? e24 x3) fun e27 =>
                   ref1_like_j4 rec3 x3 (l4.set x2.toNat (e24.set x3.toNat e26)))
                  (bnd (at? e24 x3) fun e28 =>
                   ref1_like_j4 rec3 x3 (l4.set x2.toNat (e24.set x3.toNat false))))
               (bnd (at? l4 x2) fun e29 =>
                ift (decide (x2 < (p1.length : Int)))
                  (bnd (at? p1 x2) fun e30 =>
                   ift (e30 == e13)
                     (bnd (at? l4 (IntKind.i64.wrap (x2 + (1 : Int)))) fun e31 =>
                      bnd (at? e31 (IntKind.i64.wrap (x3 + (1 : Int)))) fun e32 =>
                      bnd (at? e29 x3) fun e33 =>
                      ref1_like_j4 rec3 x3 (l4.set x2.toNat (e29.set x3.toNat e32)))
                     (bnd (at? e29 x3) fun e34 =>
                      ref1_like_j4 rec3 x3 (l4.set x2.toNat (e29.set x3.toNat false))))
                  (bnd (at? e29 x3) fun e35 =>
                   ref1_like_j4 rec3 x3 (l4.set x2.toNat (e29.set x3.toNat false)))))))

def ref1_like_j2 (rec3 : List (List Bool) → Int → Option Bool) (rec4 : Int → Int → Option Bool) (p1 : (List Int)) (p2 : (List Int)) (x2 : Int) (l4 : List (List Bool)) (x3 : Int) (x4 : Int) (x5 : Int) (x6 : Bool) : Option Bool :=
    ift x6
      (rec4 (IntKind.i64.wrap (x4 + (1 : Int))) (IntKind.i64.wrap (x5 - (1 : Int))))
      (ref1_like_j3 rec3 p1 p2 x2 l4 x3 x4)

def ref1_like_l4 (rec3 : List (List Bool) → Int → Option Bool) (p1 : (List Int)) (p2 : (List Int)) (x2 : Int) (l4 : List (List Bool)) (x3 : Int) : Nat → Int → Int → Option Bool
  | 0, _, _ => none
  | k4 + 1, x4, x5 =>
    ift (decide ((0 : Int) ≤ x5))
      (bnd (at? p2 x5) fun e4 =>
       ref1_like_j2 rec3 (ref1_like_l4 rec3 p1 p2 x2 l4 x3 k4) p1 p2 x2 l4 x3 x4 x5 (e4 == (92 : Int)))
      (ref1_like_j2 rec3 (ref1_like_l4 rec3 p1 p2 x2 l4 x3 k4) p1 p2 x2 l4 x3 x4 x5 false)

def ref1_like_j5 (rec2 : List (List Bool) → Int → Option Bool) (x2 : Int) (l6 : List (List Bool)) : Option Bool :=
    rec2 l6 (IntKind.i64.wrap (x2 - (1 : Int)))

def ref1_like_l3 (rec2 : List (List Bool) → Int → Option Bool) (p1 : (List Int)) (p2 : (List Int)) (x2 : Int) : Nat → List (List Bool) → Int → Option Bool
  | 0, _, _ => none
  | k3 + 1, l4, x3 =>
    ift (decide ((0 : Int) ≤ x3))
      (ref1_like_l4 (ref1_like_l3 rec2 p1 p2 x2 k3) p1 p2 x2 l4 x3 BIG (0 : Int) (IntKind.i64.wrap (x3 - (1 : Int))))
      (ref1_like_j5 rec2 x2 l4)

def ref1_like_j6 (l7 : List (List Bool)) : Option Bool :=
    bnd (at? l7 (0 : Int)) fun e36 =>
    bnd (at? e36 (0 : Int)) fun e37 =>
    some e37

def ref1_like_l2 (p1 : (List Int)) (p2 : (List Int)) : Nat → List (List Bool) → Int → Option Bool
  | 0, _, _ => none
  | k2 + 1, l3, x2 =>
    ift (decide ((0 : Int) ≤ x2))
      (bnd (at? l3 x2) fun e2 =>
       bnd (at? e2 (p2.length : Int)) fun e3 =>
       ref1_like_l3 (ref1_like_l2 p1 p2 k2) p1 p2 x2 BIG (l3.set x2.toNat (e2.set (p2.length : Int).toNat (x2 == (p1.length : Int)))) (IntKind.i64.wrap ((p2.length : Int) - (1 : Int))))
      (ref1_like_j6 l3)

def ref1_like_j1 (p1 : (List Int)) (p2 : (List Int)) (l2 : List (List Bool)) : Option Bool :=
    ref1_like_l2 p1 p2 BIG l2 (p1.length : Int)

def ref1_like_l1 (p1 : (List Int)) (p2 : (List Int)) (y1 : Int) : Nat → List (List Bool) → Int → Option Bool
  | 0, _, _ => none
  | k1 + 1, l1, x1 =>
    ift (decide (x1 < y1))
      (grd (0 ≤ (IntKind.i64.wrap ((p2.length : Int) + (1 : Int))) ∧ (IntKind.i64.wrap ((p2.length : Int) + (1 : Int))) ≤ (IntKind.i64.wrap ((p2.length : Int) + (1 : Int))) ∧ (IntKind.i64.wrap ((p2.length : Int) + (1 : Int))) ≤ 4294967296) <|
       bnd (at? l1 x1) fun e1 =>
       (ref1_like_l1 p1 p2 y1 k1) (l1.set x1.toNat (List.replicate (IntKind.i64.wrap ((p2.length : Int) + (1 : Int))).toNat false)) (IntKind.i64.wrap (x1 + (1 : Int))))
      (ref1_like_j1 p1 p2 l1)

def ref1_like (p1 : (List Int)) (p2 : (List Int)) : Option Bool :=
    grd (0 ≤ (IntKind.i64.wrap ((p1.length : Int) + (1 : Int))) ∧ (IntKind.i64.wrap ((p1.length : Int) + (1 : Int))) ≤ (IntKind.i64.wrap ((p1.length : Int) + (1 : Int))) ∧ (IntKind.i64.wrap ((p1.length : Int) + (1 : Int))) ≤ 4294967296) <|
    bnd (some (((IntKind.i64.wrap ((p1.length : Int) + (1 : Int))).toNat : Nat) : Int)) fun y1 =>
    ref1_like_l1 p1 p2 y1 BIG (List.replicate (IntKind.i64.wrap ((p1.length : Int) + (1 : Int))).toNat []) (0 : Int)

abbrev qa699 (p1 : (List Int)) (p2 : (List Int)) (x2 : Int) (l4 : List (List Bool)) (x3 : Int) : Fr := [(0, vl (eK .i32) p1), (1, vl (eK .i32) p2), (5, .one (.sl 0 1 0 l4.length)), (7, vi x2), (8, vi x3)]

theorem c_ref1_like (p1 : (List Int)) (p2 : (List Int)) (r : Bool) (h : ref1_like p1 p2 = some r) : PC Tryd.prog 25 [vl (eK .i32) p1, vl (eK .i32) p2] (vb r) := by
 unfold ref1_like at h
 refine zF 223 Tryd.f25 (zq fun K1 hK1 => zr (zg [] 1 [0,1] (zd (hK1 _ _ (zq fun K2 hK2 => ?_)))))
 obtain ⟨g4, h⟩ := zG h
 refine zr (zv [] 2 [0,1,12] [] [(0, vl (eK .i32) p1), (1, vl (eK .i32) p2), (12, vi (((eK .i32).els p1).length : Int))] [] ?_)
 rw [(eK .i32).len p1]
 refine zg [] 1 [0,1,13] (znm eB (IntKind.i64.wrap ((p1.length : Int) + (1 : Int))) (List.replicate (IntKind.i64.wrap ((p1.length : Int) + (1 : Int))).toNat []) rfl [(14, .one (.sl 0 1 0 ((IntKind.i64.wrap ((p1.length : Int) + (1 : Int))).toNat))), (0, vl (eK .i32) p1), (1, vl (eK .i32) p2), (13, vi (IntKind.i64.wrap ((p1.length : Int) + (1 : Int))))] g4.1 g4.2.2 ?_)
 refine zg [] 1 [0,1,5] (zd (hK2 _ _ (zq fun K5 hK5 => ?_)))
 have hJ1 : ∀ (l2 : List (List Bool)), ref1_like_j1 p1 p2 l2 = some r → ∀ fr1 st1, Sub 223 0 [] fr1 st1 [(0, vl (eK .i32) p1), (1, vl (eK .i32) p2), (5, .one (.sl 0 1 0 l2.length))] (nsb eB l2) → K5 fr1 st1 := by
  intro l2 h fr1 st1 hS
  unfold ref1_like_j1 at h
  refine hK5 _ _ (XW.sub hS ?_)
  refine zq fun K16 hK16 => ?_
  have hJ6 : ∀ (l7 : List (List Bool)), ref1_like_j6 l7 = some r → ∀ fr1 st1, Sub 223 0 [] fr1 st1 [(5, .one (.sl 0 1 0 l7.length))] (nsb eB l7) → K16 fr1 st1 := by
   intro l7 h fr1 st1 hS
   unfold ref1_like_j6 at h
   refine hK16 _ _ (XW.sub hS ?_)
   refine zq fun K85 hK85 => ?_
   obtain ⟨e36, a86, h⟩ := zB h
   obtain ⟨e37, a87, h⟩ := zB h
   refine zr (zp [] 2 [219] [] [(219, .one (.pt 0 1 (0 + (0 : Int).toNat) 0))] (nsb eB l7) [0 ≤ (0 : Int) ∧ (0 : Int) < ((l7.length : Nat) : Int)] (⟨Enc.inb' a86, trivial⟩) (znh eB l7 (0 : Int).toNat e36 [(220, .one (.sl ((0 : Int).toNat + 1) 1 0 e36.length)), (219, .one (.pt 0 1 (0 + (0 : Int).toNat) 0))] (at2 a86) (zp [] 1 [221] [] [(221, .one (.pt ((0 : Int).toNat + 1) 1 (0 + (0 : Int).toNat) 0))] (nsb eB l7) [0 ≤ (0 : Int) ∧ (0 : Int) < ((e36.length : Nat) : Int)] (⟨Enc.inb' a87, trivial⟩) (zne l7 (0 : Int).toNat (0 : Int).toNat e36 e37 [(222, vb e37), (221, .one (.pt ((0 : Int).toNat + 1) 1 (0 + (0 : Int).toNat) 0))] (at2 a86) (at2 a87) (zg [] 1 [4] (zd (hK85 _ _ (ze ?_))))))))
   obtain rfl := Option.some.inj h
   exact zf [vb e37] (.one (.rfl _ rfl))
  refine zq fun K17 hK17 => zr (zv [] 2 [0,1,5,29] [] [(0, vl (eK .i32) p1), (1, vl (eK .i32) p2), (5, .one (.sl 0 1 0 l2.length)), (29, vi (((eK .i32).els p1).length : Int))] (nsb eB l2) ?_)
  rw [(eK .i32).len p1]
  refine zg [] 1 [0,1,5,7] (zd (hK17 _ _ (zb 2 (XW.rounds' BIG (x := cd Tryd.f25 [1,1,1,0,1,0,0]) (by kernel_rfl) fun Q2 hQ2 => ?_))))
  have hL2 : ∀ (k2 : Nat) (l3 : List (List Bool)) (x2 : Int), ref1_like_l2 p1 p2 k2 l3 x2 = some r → XR Tryd.prog 223 0 [] (cd Tryd.f25 [1,1,1,0,1,0,0]) Q2 k2 [(0, vl (eK .i32) p1), (1, vl (eK .i32) p2), (5, .one (.sl 0 1 0 l3.length)), (7, vi x2)] (nsb eB l3) := by
   intro k2
   induction k2 with
   | zero => intro l3 x2 h; rw [ref1_like_l2.eq_1] at h; cases h
   | succ k2 ih2 =>
    intro l3 x2 h
    rw [ref1_like_l2.eq_2] at h
    refine zq fun K18 hK18 => zq fun K19 hK19 => zr (zg [] 2 [0,1,5,7,31] (zd (hK19 _ _ (zC h (fun b20 h => ?_) (fun b20 h => ?_)))))
    ·refine zs (hK18 _ _ (zq fun K21 hK21 => ?_))
     have hJ5 : ∀ (l6 : List (List Bool)), ref1_like_j5 (ref1_like_l2 p1 p2 k2) x2 l6 = some r → ∀ fr1 st1, Sub 223 0 [] fr1 st1 [(0, vl (eK .i32) p1), (1, vl (eK .i32) p2), (5, .one (.sl 0 1 0 l6.length)), (7, vi x2)] (nsb eB l6) → K21 fr1 st1 := by
      intro l6 h fr1 st1 hS
      unfold ref1_like_j5 at h
      refine hK21 _ _ (XW.sub hS ?_)
      exact zr (zg [] 3 [0,1,5,7] (zd (XR.sub (zk [0,1,5,7]) (ih2 l6 (IntKind.i64.wrap (x2 - (1 : Int))) h))))
     refine zb 3 (zq fun K22 hK22 => ?_)
     obtain ⟨e2, a23, h⟩ := zB h
     obtain ⟨e3, a24, h⟩ := zB h
     refine zr (zp [] 3 [0,1,5,7,36] [] [(0, vl (eK .i32) p1), (1, vl (eK .i32) p2), (5, .one (.sl 0 1 0 l3.length)), (7, vi x2), (36, .one (.pt 0 1 (0 + x2.toNat) 0))] (nsb eB l3) [0 ≤ x2 ∧ x2 < ((l3.length : Nat) : Int)] (⟨Enc.inb' a23, trivial⟩) (znh eB l3 x2.toNat e2 [(37, .one (.sl (x2.toNat + 1) 1 0 e2.length)), (0, vl (eK .i32) p1), (1, vl (eK .i32) p2), (5, .one (.sl 0 1 0 l3.length)), (7, vi x2), (36, .one (.pt 0 1 (0 + x2.toNat) 0))] (at2 a23) (zv [] 2 [0,1,5,7,37,39] [] [(0, vl (eK .i32) p1), (1, vl (eK .i32) p2), (5, .one (.sl 0 1 0 l3.length)), (7, vi x2), (37, .one (.sl (x2.toNat + 1) 1 0 e2.length)), (39, vi (((eK .i32).els p2).length : Int))] (nsb eB l3) ?_)))
     rw [(eK .i32).len p2]
     refine zv [] 3 [0,1,5,7,37,39,40,42] [] [(0, vl (eK .i32) p1), (1, vl (eK .i32) p2), (5, .one (.sl 0 1 0 l3.length)), (7, vi x2), (37, .one (.sl (x2.toNat + 1) 1 0 e2.length)), (39, vi (p2.length : Int)), (40, vi x2), (42, vi (((eK .i32).els p1).length : Int))] (nsb eB l3) ?_
     rw [(eK .i32).len p1]
     refine zo [] 2 [0,1,5,7,43,44] [] [0 ≤ (p2.length : Int) ∧ (p2.length : Int) < ((e2.length : Nat) : Int)] (⟨Enc.inb' a24, trivial⟩) (zns l3 x2.toNat (p2.length : Int).toNat e2 (x2 == (p1.length : Int)) e3 (at2 a23) (at2 a24) (zd (hK22 _ _ (zq fun K25 hK25 => zr (zv [] 2 [0,1,5,7,46] [] [(0, vl (eK .i32) p1), (1, vl (eK .i32) p2), (5, .one (.sl 0 1 0 l3.length)), (7, vi x2), (46, vi (((eK .i32).els p2).length : Int))] (nsb eB (l3.set x2.toNat (e2.set (p2.length : Int).toNat (x2 == (p1.length : Int))))) ?_)))))
     rw [(eK .i32).len p2]
     refine zg [] 2 [0,1,5,7,8] (zd (hK25 _ _ (zb 4 (XW.rounds' BIG (x := cd Tryd.f25 [1,1,1,0,1,0,0,1,0,0,1,1,0,0]) (by kernel_rfl) fun Q3 hQ3 => ?_))))
     have hL3 : ∀ (k3 : Nat) (l4 : List (List Bool)) (x3 : Int), ref1_like_l3 (ref1_like_l2 p1 p2 k2) p1 p2 x2 k3 l4 x3 = some r → XR Tryd.prog 223 0 [] (cd Tryd.f25 [1,1,1,0,1,0,0,1,0,0,1,1,0,0]) Q3 k3 (qa699 p1 p2 x2 l4 x3) (nsb eB l4) := by
      intro k3
      induction k3 with
      | zero => intro l4 x3 h; rw [ref1_like_l3.eq_1] at h; cases h
      | succ k3 ih3 =>
       intro l4 x3 h
       rw [ref1_like_l3.eq_2] at h
       refine zq fun K26 hK26 => zq fun K27 hK27 => zr (zg [] 2 [0,1,5,7,8,49] (zd (hK27 _ _ (zC h (fun b28 h => ?_) (fun b28 h => ?_)))))
       ·refine zs (hK26 _ _ (zq fun K29 hK29 => ?_))
        have hJ4 : ∀ (l5 : List (List Bool)), ref1_like_j4 (ref1_like_l3 (ref1_like_l2 p1 p2 k2) p1 p2 x2 k3) x3 l5 = some r → ∀ fr1 st1, Sub 223 0 [] fr1 st1 [(0, vl (eK .i32) p1), (1, vl (eK .i32) p2), (5, .one (.sl 0 1 0 l5.length)), (7, vi x2), (8, vi x3)] (nsb eB l5) → K29 fr1 st1 := by
         intro l5 h fr1 st1 hS
         unfold ref1_like_j4 at h
         refine hK29 _ _ (XW.sub hS ?_)
         exact zr (zg [] 3 [0,1,5,7,8] (zd (XR.sub (zk [0,1,5,7,8]) (ih3 l5 (IntKind.i64.wrap (x3 - (1 : Int))) h))))
        refine zb 5 (zq fun K30 hK30 => zr (zg [] 1 [0,1,5,7,8,9] (zd (hK30 _ _ (zq fun K31 hK31 => ?_)))))
        have hJ3 : ∀ (x7 : Int), ref1_like_j3 (ref1_like_l3 (ref1_like_l2 p1 p2 k2) p1 p2 x2 k3) p1 p2 x2 l4 x3 x7 = some r → ∀ fr1 st1, Sub 223 0 [] fr1 st1 [(0, vl (eK .i32) p1), (1, vl (eK .i32) p2), (5, .one (.sl 0 1 0 l4.length)), (7, vi x2), (8, vi x3), (9, vi x7)] (nsb eB l4) → K31 fr1 st1 := by
         intro x7 h fr1 st1 hS
         unfold ref1_like_j3 at h
         refine hK31 _ _ (XW.sub hS ?_)
         refine zb 8 (zq fun K39 hK39 => zr (zo [] 4 [0,1,5,7,8,99] [] [(2 : Int) ≠ 0] (⟨by decide, trivial⟩) (zd (hK39 _ _ (zC h (fun b40 h => ?_) (fun b40 h => ?_))))))
         ·obtain ⟨e5, a41, h⟩ := zB h
          rcases zW h with ⟨b42, h⟩ | ⟨b42, h⟩
          ·obtain ⟨e6, a43, h⟩ := zB h
           obtain ⟨e7, a44, h⟩ := zB h
           rcases zW h with ⟨b45, h⟩ | ⟨b45, h⟩
           ·obtain ⟨e8, a46, h⟩ := zB h
            obtain ⟨e9, a47, h⟩ := zB h
            obtain ⟨e10, a48, h⟩ := zB h
            refine zw 31 [(133, vb e9), (132, vb e9), (131, .one (.pt ((IntKind.i64.wrap (x2 + (1 : Int))).toNat + 1) 1 (0 + ((IntKind.i64.wrap (x3 + (1 : Int))).toNat)) 0)), (130, vi (IntKind.i64.wrap (x3 + (1 : Int)))), (129, vi x3), (128, .one (.sl ((IntKind.i64.wrap (x2 + (1 : Int))).toNat + 1) 1 0 e8.length)), (127, .one (.pt 0 1 (0 + (IntKind.i64.wrap (x2 + (1 : Int))).toNat) 0)), (126, vi (IntKind.i64.wrap (x2 + (1 : Int)))), (125, vi x2), (124, .one (.sl 0 1 0 l4.length)), (123, vb true), (122, vb (e6 == e7)), (121, vb (e6 == e7)), (120, vk .i32 e7), (119, .one (.pv (.rp ((eK .i32).els p2) x3.toNat 0))), (118, vi x3), (117, vl (eK .i32) p2), (116, vk .i32 e6), (115, .one (.pv (.rp ((eK .i32).els p1) x2.toNat 0))), (114, vi x2), (113, vl (eK .i32) p1), (112, vb true), (111, vb (decide (x2 < (p1.length : Int)))), (110, vi (p1.length : Int)), (109, vl (eK .i32) p1), (108, vi x2), (107, vi x3), (106, .one (.sl (x2.toNat + 1) 1 0 e5.length)), (105, .one (.pt 0 1 (0 + x2.toNat) 0)), (104, vi x2), (103, .one (.sl 0 1 0 l4.length)), (0, vl (eK .i32) p1), (1, vl (eK .i32) p2), (5, .one (.sl 0 1 0 l4.length)), (7, vi x2), (8, vi x3), (99, vb ((x7.tmod (2 : Int)) == (1 : Int)))] ?_ ?_
            ·refine zyp 3 [] [(105, .one (.pt 0 1 (0 + x2.toNat) 0)), (104, vi x2), (103, .one (.sl 0 1 0 l4.length)), (0, vl (eK .i32) p1), (1, vl (eK .i32) p2), (5, .one (.sl 0 1 0 l4.length)), (7, vi x2), (8, vi x3), (99, vb ((x7.tmod (2 : Int)) == (1 : Int)))] [0 ≤ x2 ∧ x2 < ((l4.length : Nat) : Int)] (⟨Enc.inb' a41, trivial⟩) (znhD eB l4 x2.toNat e5 (at2 a41) (zyv 4 [] [(110, vi (((eK .i32).els p1).length : Int)), (109, vl (eK .i32) p1), (108, vi x2), (107, vi x3), (106, .one (.sl (x2.toNat + 1) 1 0 e5.length)), (105, .one (.pt 0 1 (0 + x2.toNat) 0)), (104, vi x2), (103, .one (.sl 0 1 0 l4.length)), (0, vl (eK .i32) p1), (1, vl (eK .i32) p2), (5, .one (.sl 0 1 0 l4.length)), (7, vi x2), (8, vi x3), (99, vb ((x7.tmod (2 : Int)) == (1 : Int)))] (?_)))
             rw [(eK .i32).len p1]
             refine zyv 2 [] [(112, vb (decide (x2 < (p1.length : Int)))), (111, vb (decide (x2 < (p1.length : Int)))), (110, vi (p1.length : Int)), (109, vl (eK .i32) p1), (108, vi x2), (107, vi x3), (106, .one (.sl (x2.toNat + 1) 1 0 e5.length)), (105, .one (.pt 0 1 (0 + x2.toNat) 0)), (104, vi x2), (103, .one (.sl 0 1 0 l4.length)), (0, vl (eK .i32) p1), (1, vl (eK .i32) p2), (5, .one (.sl 0 1 0 l4.length)), (7, vi x2), (8, vi x3), (99, vb ((x7.tmod (2 : Int)) == (1 : Int)))] ?_
             refine DX.eq (fr1 := [(112, vb true), (111, vb (decide (x2 < (p1.length : Int)))), (110, vi (p1.length : Int)), (109, vl (eK .i32) p1), (108, vi x2), (107, vi x3), (106, .one (.sl (x2.toNat + 1) 1 0 e5.length)), (105, .one (.pt 0 1 (0 + x2.toNat) 0)), (104, vi x2), (103, .one (.sl 0 1 0 l4.length)), (0, vl (eK .i32) p1), (1, vl (eK .i32) p2), (5, .one (.sl 0 1 0 l4.length)), (7, vi x2), (8, vi x3), (99, vb ((x7.tmod (2 : Int)) == (1 : Int)))]) (by rw [b42]) ?_
             refine zyp 11 [[.s (.int .i32 e6)], [.s (.int .i32 e7)]] [(123, vb (e6 == e7)), (122, vb (e6 == e7)), (121, vb (e6 == e7)), (120, vk .i32 e7), (119, .one (.pv (.rp ((eK .i32).els p2) x3.toNat 0))), (118, vi x3), (117, vl (eK .i32) p2), (116, vk .i32 e6), (115, .one (.pv (.rp ((eK .i32).els p1) x2.toNat 0))), (114, vi x2), (113, vl (eK .i32) p1), (112, vb true), (111, vb (decide (x2 < (p1.length : Int)))), (110, vi (p1.length : Int)), (109, vl (eK .i32) p1), (108, vi x2), (107, vi x3), (106, .one (.sl (x2.toNat + 1) 1 0 e5.length)), (105, .one (.pt 0 1 (0 + x2.toNat) 0)), (104, vi x2), (103, .one (.sl 0 1 0 l4.length)), (0, vl (eK .i32) p1), (1, vl (eK .i32) p2), (5, .one (.sl 0 1 0 l4.length)), (7, vi x2), (8, vi x3), (99, vb ((x7.tmod (2 : Int)) == (1 : Int)))] [0 ≤ x2 ∧ x2 < (((eK .i32).els p1).length : Int) ∧ elemsOk 1 ((eK .i32).els p1), ((eK .i32).els p1)[x2.toNat]? = some [.s (.int .i32 e6)], 0 ≤ x3 ∧ x3 < (((eK .i32).els p2).length : Int) ∧ elemsOk 1 ((eK .i32).els p2), ((eK .i32).els p2)[x3.toNat]? = some [.s (.int .i32 e7)]] (⟨(eK .i32).inb a43, ((eK .i32).get a43), (eK .i32).inb a44, ((eK .i32).get a44), trivial⟩) (?_)
             refine DX.eq (fr1 := [(123, vb true), (122, vb (e6 == e7)), (121, vb (e6 == e7)), (120, vk .i32 e7), (119, .one (.pv (.rp ((eK .i32).els p2) x3.toNat 0))), (118, vi x3), (117, vl (eK .i32) p2), (116, vk .i32 e6), (115, .one (.pv (.rp ((eK .i32).els p1) x2.toNat 0))), (114, vi x2), (113, vl (eK .i32) p1), (112, vb true), (111, vb (decide (x2 < (p1.length : Int)))), (110, vi (p1.length : Int)), (109, vl (eK .i32) p1), (108, vi x2), (107, vi x3), (106, .one (.sl (x2.toNat + 1) 1 0 e5.length)), (105, .one (.pt 0 1 (0 + x2.toNat) 0)), (104, vi x2), (103, .one (.sl 0 1 0 l4.length)), (0, vl (eK .i32) p1), (1, vl (eK .i32) p2), (5, .one (.sl 0 1 0 l4.length)), (7, vi x2), (8, vi x3), (99, vb ((x7.tmod (2 : Int)) == (1 : Int)))]) (by rw [b45]) ?_
             exact zyp 4 [] [(127, .one (.pt 0 1 (0 + (IntKind.i64.wrap (x2 + (1 : Int))).toNat) 0)), (126, vi (IntKind.i64.wrap (x2 + (1 : Int)))), (125, vi x2), (124, .one (.sl 0 1 0 l4.length)), (123, vb true), (122, vb (e6 == e7)), (121, vb (e6 == e7)), (120, vk .i32 e7), (119, .one (.pv (.rp ((eK .i32).els p2) x3.toNat 0))), (118, vi x3), (117, vl (eK .i32) p2), (116, vk .i32 e6), (115, .one (.pv (.rp ((eK .i32).els p1) x2.toNat 0))), (114, vi x2), (113, vl (eK .i32) p1), (112, vb true), (111, vb (decide (x2 < (p1.length : Int)))), (110, vi (p1.length : Int)), (109, vl (eK .i32) p1), (108, vi x2), (107, vi x3), (106, .one (.sl (x2.toNat + 1) 1 0 e5.length)), (105, .one (.pt 0 1 (0 + x2.toNat) 0)), (104, vi x2), (103, .one (.sl 0 1 0 l4.length)), (0, vl (eK .i32) p1), (1, vl (eK .i32) p2), (5, .one (.sl 0 1 0 l4.length)), (7, vi x2), (8, vi x3), (99, vb ((x7.tmod (2 : Int)) == (1 : Int)))] [0 ≤ (IntKind.i64.wrap (x2 + (1 : Int))) ∧ (IntKind.i64.wrap (x2 + (1 : Int))) < ((l4.length : Nat) : Int)] (⟨Enc.inb' a46, trivial⟩) (znhD eB l4 (IntKind.i64.wrap (x2 + (1 : Int))).toNat e8 (at2 a46) (zyp 3 [] [(131, .one (.pt ((IntKind.i64.wrap (x2 + (1 : Int))).toNat + 1) 1 (0 + ((IntKind.i64.wrap (x3 + (1 : Int))).toNat)) 0)), (130, vi (IntKind.i64.wrap (x3 + (1 : Int)))), (129, vi x3), (128, .one (.sl ((IntKind.i64.wrap (x2 + (1 : Int))).toNat + 1) 1 0 e8.length)), (127, .one (.pt 0 1 (0 + (IntKind.i64.wrap (x2 + (1 : Int))).toNat) 0)), (126, vi (IntKind.i64.wrap (x2 + (1 : Int)))), (125, vi x2), (124, .one (.sl 0 1 0 l4.length)), (123, vb true), (122, vb (e6 == e7)), (121, vb (e6 == e7)), (120, vk .i32 e7), (119, .one (.pv (.rp ((eK .i32).els p2) x3.toNat 0))), (118, vi x3), (117, vl (eK .i32) p2), (116, vk .i32 e6), (115, .one (.pv (.rp ((eK .i32).els p1) x2.toNat 0))), (114, vi x2), (113, vl (eK .i32) p1), (112, vb true), (111, vb (decide (x2 < (p1.length : Int)))), (110, vi (p1.length : Int)), (109, vl (eK .i32) p1), (108, vi x2), (107, vi x3), (106, .one (.sl (x2.toNat + 1) 1 0 e5.length)), (105, .one (.pt 0 1 (0 + x2.toNat) 0)), (104, vi x2), (103, .one (.sl 0 1 0 l4.length)), (0, vl (eK .i32) p1), (1, vl (eK .i32) p2), (5, .one (.sl 0 1 0 l4.length)), (7, vi x2), (8, vi x3), (99, vb ((x7.tmod (2 : Int)) == (1 : Int)))] [0 ≤ (IntKind.i64.wrap (x3 + (1 : Int))) ∧ (IntKind.i64.wrap (x3 + (1 : Int))) < ((e8.length : Nat) : Int)] (⟨Enc.inb' a47, trivial⟩) (zneD l4 (IntKind.i64.wrap (x2 + (1 : Int))).toNat ((IntKind.i64.wrap (x3 + (1 : Int))).toNat) e8 e9 (at2 a46) (at2 a47) (zyv 1 [] [(133, vb e9), (132, vb e9), (131, .one (.pt ((IntKind.i64.wrap (x2 + (1 : Int))).toNat + 1) 1 (0 + ((IntKind.i64.wrap (x3 + (1 : Int))).toNat)) 0)), (130, vi (IntKind.i64.wrap (x3 + (1 : Int)))), (129, vi x3), (128, .one (.sl ((IntKind.i64.wrap (x2 + (1 : Int))).toNat + 1) 1 0 e8.length)), (127, .one (.pt 0 1 (0 + (IntKind.i64.wrap (x2 + (1 : Int))).toNat) 0)), (126, vi (IntKind.i64.wrap (x2 + (1 : Int)))), (125, vi x2), (124, .one (.sl 0 1 0 l4.length)), (123, vb true), (122, vb (e6 == e7)), (121, vb (e6 == e7)), (120, vk .i32 e7), (119, .one (.pv (.rp ((eK .i32).els p2) x3.toNat 0))), (118, vi x3), (117, vl (eK .i32) p2), (116, vk .i32 e6), (115, .one (.pv (.rp ((eK .i32).els p1) x2.toNat 0))), (114, vi x2), (113, vl (eK .i32) p1), (112, vb true), (111, vb (decide (x2 < (p1.length : Int)))), (110, vi (p1.length : Int)), (109, vl (eK .i32) p1), (108, vi x2), (107, vi x3), (106, .one (.sl (x2.toNat + 1) 1 0 e5.length)), (105, .one (.pt 0 1 (0 + x2.toNat) 0)), (104, vi x2), (103, .one (.sl 0 1 0 l4.length)), (0, vl (eK .i32) p1), (1, vl (eK .i32) p2), (5, .one (.sl 0 1 0 l4.length)), (7, vi x2), (8, vi x3), (99, vb ((x7.tmod (2 : Int)) == (1 : Int)))] (zyd)))))
            refine zo [] 1 [0,1,5,7,8,133,134] [] [0 ≤ x3 ∧ x3 < ((e5.length : Nat) : Int)] (⟨Enc.inb' a48, trivial⟩) (zns l4 x2.toNat x3.toNat e5 e9 e10 (at2 a41) (at2 a48) (zd ?_))
            exact hJ4 (l4.set x2.toNat (e5.set x3.toNat e9)) h _ _ (Sub.trans (Sub.pick (fr' := [(0, vl (eK .i32) p1), (1, vl (eK .i32) p2), (5, .one (.sl 0 1 0 l4.length)), (7, vi x2), (8, vi x3)]) [0,1,5,7,8] (by kernel_rfl)) (Sub.frame (fr' := [(0, vl (eK .i32) p1), (1, vl (eK .i32) p2), (5, .one (.sl 0 1 0 (l4.set x2.toNat (e5.set x3.toNat e9)).length)), (7, vi x2), (8, vi x3)]) ⟨.rfl _, .rfl _, ALe.of_eq (show (.one (.sl 0 1 0 l4.length) : AV) = .one (.sl 0 1 0 (l4.set x2.toNat (e5.set x3.toNat e9)).length) from by simp), .rfl _, .rfl _, trivial⟩))
           ·obtain ⟨e11, a49, h⟩ := zB h
            refine zw 31 [(133, vb false), (132, .tp []), (131, .tp []), (130, .tp []), (129, .tp []), (128, .tp []), (127, .tp []), (126, .tp []), (125, .tp []), (124, .tp []), (123, vb false), (122, vb (e6 == e7)), (121, vb (e6 == e7)), (120, vk .i32 e7), (119, .one (.pv (.rp ((eK .i32).els p2) x3.toNat 0))), (118, vi x3), (117, vl (eK .i32) p2), (116, vk .i32 e6), (115, .one (.pv (.rp ((eK .i32).els p1) x2.toNat 0))), (114, vi x2), (113, vl (eK .i32) p1), (112, vb true), (111, vb (decide (x2 < (p1.length : Int)))), (110, vi (p1.length : Int)), (109, vl (eK .i32) p1), (108, vi x2), (107, vi x3), (106, .one (.sl (x2.toNat + 1) 1 0 e5.length)), (105, .one (.pt 0 1 (0 + x2.toNat) 0)), (104, vi x2), (103, .one (.sl 0 1 0 l4.length)), (0, vl (eK .i32) p1), (1, vl (eK .i32) p2), (5, .one (.sl 0 1 0 l4.length)), (7, vi x2), (8, vi x3), (99, vb ((x7.tmod (2 : Int)) == (1 : Int)))] ?_ ?_
            ·refine zyp 3 [] [(105, .one (.pt 0 1 (0 + x2.toNat) 0)), (104, vi x2), (103, .one (.sl 0 1 0 l4.length)), (0, vl (eK .i32) p1), (1, vl (eK .i32) p2), (5, .one (.sl 0 1 0 l4.length)), (7, vi x2), (8, vi x3), (99, vb ((x7.tmod (2 : Int)) == (1 : Int)))] [0 ≤ x2 ∧ x2 < ((l4.length : Nat) : Int)] (⟨Enc.inb' a41, trivial⟩) (znhD eB l4 x2.toNat e5 (at2 a41) (zyv 4 [] [(110, vi (((eK .i32).els p1).length : Int)), (109, vl (eK .i32) p1), (108, vi x2), (107, vi x3), (106, .one (.sl (x2.toNat + 1) 1 0 e5.length)), (105, .one (.pt 0 1 (0 + x2.toNat) 0)), (104, vi x2), (103, .one (.sl 0 1 0 l4.length)), (0, vl (eK .i32) p1), (1, vl (eK .i32) p2), (5, .one (.sl 0 1 0 l4.length)), (7, vi x2), (8, vi x3), (99, vb ((x7.tmod (2 : Int)) == (1 : Int)))] (?_)))
             rw [(eK .i32).len p1]
             refine zyv 2 [] [(112, vb (decide (x2 < (p1.length : Int)))), (111, vb (decide (x2 < (p1.length : Int)))), (110, vi (p1.length : Int)), (109, vl (eK .i32) p1), (108, vi x2), (107, vi x3), (106, .one (.sl (x2.toNat + 1) 1 0 e5.length)), (105, .one (.pt 0 1 (0 + x2.toNat) 0)), (104, vi x2), (103, .one (.sl 0 1 0 l4.length)), (0, vl (eK .i32) p1), (1, vl (eK .i32) p2), (5, .one (.sl 0 1 0 l4.length)), (7, vi x2), (8, vi x3), (99, vb ((x7.tmod (2 : Int)) == (1 : Int)))] ?_
             refine DX.eq (fr1 := [(112, vb true), (111, vb (decide (x2 < (p1.length : Int)))), (110, vi (p1.length : Int)), (109, vl (eK .i32) p1), (108, vi x2), (107, vi x3), (106, .one (.sl (x2.toNat + 1) 1 0 e5.length)), (105, .one (.pt 0 1 (0 + x2.toNat) 0)), (104, vi x2), (103, .one (.sl 0 1 0 l4.length)), (0, vl (eK .i32) p1), (1, vl (eK .i32) p2), (5, .one (.sl 0 1 0 l4.length)), (7, vi x2), (8, vi x3), (99, vb ((x7.tmod (2 : Int)) == (1 : Int)))]) (by rw [b42]) ?_
             refine zyp 11 [[.s (.int .i32 e6)], [.s (.int .i32 e7)]] [(123, vb (e6 == e7)), (122, vb (e6 == e7)), (121, vb (e6 == e7)), (120, vk .i32 e7), (119, .one (.pv (.rp ((eK .i32).els p2) x3.toNat 0))), (118, vi x3), (117, vl (eK .i32) p2), (116, vk .i32 e6), (115, .one (.pv (.rp ((eK .i32).els p1) x2.toNat 0))), (114, vi x2), (113, vl (eK .i32) p1), (112, vb true), (111, vb (decide (x2 < (p1.length : Int)))), (110, vi (p1.length : Int)), (109, vl (eK .i32) p1), (108, vi x2), (107, vi x3), (106, .one (.sl (x2.toNat + 1) 1 0 e5.length)), (105, .one (.pt 0 1 (0 + x2.toNat) 0)), (104, vi x2), (103, .one (.sl 0 1 0 l4.length)), (0, vl (eK .i32) p1), (1, vl (eK .i32) p2), (5, .one (.sl 0 1 0 l4.length)), (7, vi x2), (8, vi x3), (99, vb ((x7.tmod (2 : Int)) == (1 : Int)))] [0 ≤ x2 ∧ x2 < (((eK .i32).els p1).length : Int) ∧ elemsOk 1 ((eK .i32).els p1), ((eK .i32).els p1)[x2.toNat]? = some [.s (.int .i32 e6)], 0 ≤ x3 ∧ x3 < (((eK .i32).els p2).length : Int) ∧ elemsOk 1 ((eK .i32).els p2), ((eK .i32).els p2)[x3.toNat]? = some [.s (.int .i32 e7)]] (⟨(eK .i32).inb a43, ((eK .i32).get a43), (eK .i32).inb a44, ((eK .i32).get a44), trivial⟩) (?_)
             refine DX.eq (fr1 := [(123, vb false), (122, vb (e6 == e7)), (121, vb (e6 == e7)), (120, vk .i32 e7), (119, .one (.pv (.rp ((eK .i32).els p2) x3.toNat 0))), (118, vi x3), (117, vl (eK .i32) p2), (116, vk .i32 e6), (115, .one (.pv (.rp ((eK .i32).els p1) x2.toNat 0))), (114, vi x2), (113, vl (eK .i32) p1), (112, vb true), (111, vb (decide (x2 < (p1.length : Int)))), (110, vi (p1.length : Int)), (109, vl (eK .i32) p1), (108, vi x2), (107, vi x3), (106, .one (.sl (x2.toNat + 1) 1 0 e5.length)), (105, .one (.pt 0 1 (0 + x2.toNat) 0)), (104, vi x2), (103, .one (.sl 0 1 0 l4.length)), (0, vl (eK .i32) p1), (1, vl (eK .i32) p2), (5, .one (.sl 0 1 0 l4.length)), (7, vi x2), (8, vi x3), (99, vb ((x7.tmod (2 : Int)) == (1 : Int)))]) (by rw [b45]) ?_
             exact zyg 10 zyd
            refine zo [] 1 [0,1,5,7,8,133,134] [] [0 ≤ x3 ∧ x3 < ((e5.length : Nat) : Int)] (⟨Enc.inb' a49, trivial⟩) (zns l4 x2.toNat x3.toNat e5 false e11 (at2 a41) (at2 a49) (zd ?_))
            exact hJ4 (l4.set x2.toNat (e5.set x3.toNat false)) h _ _ (Sub.trans (Sub.pick (fr' := [(0, vl (eK .i32) p1), (1, vl (eK .i32) p2), (5, .one (.sl 0 1 0 l4.length)), (7, vi x2), (8, vi x3)]) [0,1,5,7,8] (by kernel_rfl)) (Sub.frame (fr' := [(0, vl (eK .i32) p1), (1, vl (eK .i32) p2), (5, .one (.sl 0 1 0 (l4.set x2.toNat (e5.set x3.toNat false)).length)), (7, vi x2), (8, vi x3)]) ⟨.rfl _, .rfl _, ALe.of_eq (show (.one (.sl 0 1 0 l4.length) : AV) = .one (.sl 0 1 0 (l4.set x2.toNat (e5.set x3.toNat false)).length) from by simp), .rfl _, .rfl _, trivial⟩))
          ·obtain ⟨e12, a50, h⟩ := zB h
           refine zw 31 [(133, vb false), (132, .tp []), (131, .tp []), (130, .tp []), (129, .tp []), (128, .tp []), (127, .tp []), (126, .tp []), (125, .tp []), (124, .tp []), (123, vb false), (122, vb false), (121, .tp []), (120, .tp []), (119, .tp []), (118, .tp []), (117, .tp []), (116, .tp []), (115, .tp []), (114, .tp []), (113, .tp []), (112, vb false), (111, vb (decide (x2 < (p1.length : Int)))), (110, vi (p1.length : Int)), (109, vl (eK .i32) p1), (108, vi x2), (107, vi x3), (106, .one (.sl (x2.toNat + 1) 1 0 e5.length)), (105, .one (.pt 0 1 (0 + x2.toNat) 0)), (104, vi x2), (103, .one (.sl 0 1 0 l4.length)), (0, vl (eK .i32) p1), (1, vl (eK .i32) p2), (5, .one (.sl 0 1 0 l4.length)), (7, vi x2), (8, vi x3), (99, vb ((x7.tmod (2 : Int)) == (1 : Int)))] ?_ ?_
           ·refine zyp 3 [] [(105, .one (.pt 0 1 (0 + x2.toNat) 0)), (104, vi x2), (103, .one (.sl 0 1 0 l4.length)), (0, vl (eK .i32) p1), (1, vl (eK .i32) p2), (5, .one (.sl 0 1 0 l4.length)), (7, vi x2), (8, vi x3), (99, vb ((x7.tmod (2 : Int)) == (1 : Int)))] [0 ≤ x2 ∧ x2 < ((l4.length : Nat) : Int)] (⟨Enc.inb' a41, trivial⟩) (znhD eB l4 x2.toNat e5 (at2 a41) (zyv 4 [] [(110, vi (((eK .i32).els p1).length : Int)), (109, vl (eK .i32) p1), (108, vi x2), (107, vi x3), (106, .one (.sl (x2.toNat + 1) 1 0 e5.length)), (105, .one (.pt 0 1 (0 + x2.toNat) 0)), (104, vi x2), (103, .one (.sl 0 1 0 l4.length)), (0, vl (eK .i32) p1), (1, vl (eK .i32) p2), (5, .one (.sl 0 1 0 l4.length)), (7, vi x2), (8, vi x3), (99, vb ((x7.tmod (2 : Int)) == (1 : Int)))] (?_)))
            rw [(eK .i32).len p1]
            refine zyv 2 [] [(112, vb (decide (x2 < (p1.length : Int)))), (111, vb (decide (x2 < (p1.length : Int)))), (110, vi (p1.length : Int)), (109, vl (eK .i32) p1), (108, vi x2), (107, vi x3), (106, .one (.sl (x2.toNat + 1) 1 0 e5.length)), (105, .one (.pt 0 1 (0 + x2.toNat) 0)), (104, vi x2), (103, .one (.sl 0 1 0 l4.length)), (0, vl (eK .i32) p1), (1, vl (eK .i32) p2), (5, .one (.sl 0 1 0 l4.length)), (7, vi x2), (8, vi x3), (99, vb ((x7.tmod (2 : Int)) == (1 : Int)))] ?_
            exact DX.eq (fr1 := [(112, vb false), (111, vb (decide (x2 < (p1.length : Int)))), (110, vi (p1.length : Int)), (109, vl (eK .i32) p1), (108, vi x2), (107, vi x3), (106, .one (.sl (x2.toNat + 1) 1 0 e5.length)), (105, .one (.pt 0 1 (0 + x2.toNat) 0)), (104, vi x2), (103, .one (.sl 0 1 0 l4.length)), (0, vl (eK .i32) p1), (1, vl (eK .i32) p2), (5, .one (.sl 0 1 0 l4.length)), (7, vi x2), (8, vi x3), (99, vb ((x7.tmod (2 : Int)) == (1 : Int)))]) (by rw [b42]) (zyg 21 zyd)
           refine zo [] 1 [0,1,5,7,8,133,134] [] [0 ≤ x3 ∧ x3 < ((e5.length : Nat) : Int)] (⟨Enc.inb' a50, trivial⟩) (zns l4 x2.toNat x3.toNat e5 false e12 (at2 a41) (at2 a50) (zd ?_))
           exact hJ4 (l4.set x2.toNat (e5.set x3.toNat false)) h _ _ (Sub.trans (Sub.pick (fr' := [(0, vl (eK .i32) p1), (1, vl (eK .i32) p2), (5, .one (.sl 0 1 0 l4.length)), (7, vi x2), (8, vi x3)]) [0,1,5,7,8] (by kernel_rfl)) (Sub.frame (fr' := [(0, vl (eK .i32) p1), (1, vl (eK .i32) p2), (5, .one (.sl 0 1 0 (l4.set x2.toNat (e5.set x3.toNat false)).length)), (7, vi x2), (8, vi x3)]) ⟨.rfl _, .rfl _, ALe.of_eq (show (.one (.sl 0 1 0 l4.length) : AV) = .one (.sl 0 1 0 (l4.set x2.toNat (e5.set x3.toNat false)).length) from by simp), .rfl _, .rfl _, trivial⟩))
         ·refine zq fun K51 hK51 => ?_
          obtain ⟨e13, a52, h⟩ := zB h
          refine zr (zo [] 6 [0,1,5,7,8,135] [[.s (.int .i32 e13)]] [0 ≤ x3 ∧ x3 < (((eK .i32).els p2).length : Int) ∧ elemsOk 1 ((eK .i32).els p2), ((eK .i32).els p2)[x3.toNat]? = some [.s (.int .i32 e13)]] (⟨(eK .i32).inb a52, ((eK .i32).get a52), trivial⟩) (zd (hK51 _ _ (zC h (fun b53 h => ?_) (fun b53 h => ?_)))))
          ·obtain ⟨e14, a54, h⟩ := zB h
           obtain ⟨e15, a55, h⟩ := zB h
           obtain ⟨e16, a56, h⟩ := zB h
           refine zw 13 [(153, vb e15), (152, .one (.pt (x2.toNat + 1) 1 (0 + ((IntKind.i64.wrap (x3 + (1 : Int))).toNat)) 0)), (151, vi (IntKind.i64.wrap (x3 + (1 : Int)))), (150, vi x3), (149, .one (.sl (x2.toNat + 1) 1 0 e14.length)), (148, .one (.pt 0 1 (0 + x2.toNat) 0)), (147, vi x2), (146, .one (.sl 0 1 0 l4.length)), (145, vi x3), (144, .one (.sl (x2.toNat + 1) 1 0 e14.length)), (143, .one (.pt 0 1 (0 + x2.toNat) 0)), (142, vi x2), (141, .one (.sl 0 1 0 l4.length)), (0, vl (eK .i32) p1), (1, vl (eK .i32) p2), (5, .one (.sl 0 1 0 l4.length)), (7, vi x2), (8, vi x3), (135, vb (e13 == (92 : Int)))] ?_ ?_
           ·refine zyp 3 [] [(143, .one (.pt 0 1 (0 + x2.toNat) 0)), (142, vi x2), (141, .one (.sl 0 1 0 l4.length)), (0, vl (eK .i32) p1), (1, vl (eK .i32) p2), (5, .one (.sl 0 1 0 l4.length)), (7, vi x2), (8, vi x3), (135, vb (e13 == (92 : Int)))] [0 ≤ x2 ∧ x2 < ((l4.length : Nat) : Int)] (⟨Enc.inb' a54, trivial⟩) (znhD eB l4 x2.toNat e14 (at2 a54) (zyp 4 [] [(148, .one (.pt 0 1 (0 + x2.toNat) 0)), (147, vi x2), (146, .one (.sl 0 1 0 l4.length)), (145, vi x3), (144, .one (.sl (x2.toNat + 1) 1 0 e14.length)), (143, .one (.pt 0 1 (0 + x2.toNat) 0)), (142, vi x2), (141, .one (.sl 0 1 0 l4.length)), (0, vl (eK .i32) p1), (1, vl (eK .i32) p2), (5, .one (.sl 0 1 0 l4.length)), (7, vi x2), (8, vi x3), (135, vb (e13 == (92 : Int)))] [0 ≤ x2 ∧ x2 < ((l4.length : Nat) : Int)] (⟨Enc.inb' a54, trivial⟩) (znhD eB l4 x2.toNat e14 (at2 a54) (zyp 3 [] [(152, .one (.pt (x2.toNat + 1) 1 (0 + ((IntKind.i64.wrap (x3 + (1 : Int))).toNat)) 0)), (151, vi (IntKind.i64.wrap (x3 + (1 : Int)))), (150, vi x3), (149, .one (.sl (x2.toNat + 1) 1 0 e14.length)), (148, .one (.pt 0 1 (0 + x2.toNat) 0)), (147, vi x2), (146, .one (.sl 0 1 0 l4.length)), (145, vi x3), (144, .one (.sl (x2.toNat + 1) 1 0 e14.length)), (143, .one (.pt 0 1 (0 + x2.toNat) 0)), (142, vi x2), (141, .one (.sl 0 1 0 l4.length)), (0, vl (eK .i32) p1), (1, vl (eK .i32) p2), (5, .one (.sl 0 1 0 l4.length)), (7, vi x2), (8, vi x3), (135, vb (e13 == (92 : Int)))] [0 ≤ (IntKind.i64.wrap (x3 + (1 : Int))) ∧ (IntKind.i64.wrap (x3 + (1 : Int))) < ((e14.length : Nat) : Int)] (⟨Enc.inb' a55, trivial⟩) (zneD l4 x2.toNat ((IntKind.i64.wrap (x3 + (1 : Int))).toNat) e14 e15 (at2 a54) (at2 a55) (?_))))))
            exact zyd
           refine zo [] 1 [0,1,5,7,8,153,154] [] [0 ≤ x3 ∧ x3 < ((e14.length : Nat) : Int)] (⟨Enc.inb' a56, trivial⟩) (zns l4 x2.toNat x3.toNat e14 e15 e16 (at2 a54) (at2 a56) (zd ?_))
           exact hJ4 (l4.set x2.toNat (e14.set x3.toNat e15)) h _ _ (Sub.trans (Sub.pick (fr' := [(0, vl (eK .i32) p1), (1, vl (eK .i32) p2), (5, .one (.sl 0 1 0 l4.length)), (7, vi x2), (8, vi x3)]) [0,1,5,7,8] (by kernel_rfl)) (Sub.frame (fr' := [(0, vl (eK .i32) p1), (1, vl (eK .i32) p2), (5, .one (.sl 0 1 0 (l4.set x2.toNat (e14.set x3.toNat e15)).length)), (7, vi x2), (8, vi x3)]) ⟨.rfl _, .rfl _, ALe.of_eq (show (.one (.sl 0 1 0 l4.length) : AV) = .one (.sl 0 1 0 (l4.set x2.toNat (e14.set x3.toNat e15)).length) from by simp), .rfl _, .rfl _, trivial⟩))
          ·refine zq fun K57 hK57 => zr (zo [] 6 [0,1,5,7,8,155] [[.s (.int .i32 e13)]] [0 ≤ x3 ∧ x3 < (((eK .i32).els p2).length : Int) ∧ elemsOk 1 ((eK .i32).els p2), ((eK .i32).els p2)[x3.toNat]? = some [.s (.int .i32 e13)]] (⟨(eK .i32).inb a52, ((eK .i32).get a52), trivial⟩) (zd (hK57 _ _ (zC h (fun b58 h => ?_) (fun b58 h => ?_)))))
           ·obtain ⟨e17, a59, h⟩ := zB h
            obtain ⟨e18, a60, h⟩ := zB h
            rcases zW h with ⟨b61, h⟩ | ⟨b61, h⟩
            ·obtain ⟨e19, a62, h⟩ := zB h
             refine zw 29 [(189, vb true), (188, .tp []), (187, .tp []), (186, .tp []), (185, .tp []), (184, .tp []), (183, .tp []), (182, .tp []), (181, .tp []), (180, .tp []), (179, .tp []), (178, .tp []), (177, .tp []), (176, .tp []), (175, .tp []), (174, vb true), (173, vb e18), (172, .one (.pt (x2.toNat + 1) 1 (0 + ((IntKind.i64.wrap (x3 + (1 : Int))).toNat)) 0)), (171, vi (IntKind.i64.wrap (x3 + (1 : Int)))), (170, vi x3), (169, .one (.sl (x2.toNat + 1) 1 0 e17.length)), (168, .one (.pt 0 1 (0 + x2.toNat) 0)), (167, vi x2), (166, .one (.sl 0 1 0 l4.length)), (165, vi x3), (164, .one (.sl (x2.toNat + 1) 1 0 e17.length)), (163, .one (.pt 0 1 (0 + x2.toNat) 0)), (162, vi x2), (161, .one (.sl 0 1 0 l4.length)), (0, vl (eK .i32) p1), (1, vl (eK .i32) p2), (5, .one (.sl 0 1 0 l4.length)), (7, vi x2), (8, vi x3), (155, vb (e13 == (37 : Int)))] ?_ ?_
             ·refine zyp 3 [] [(163, .one (.pt 0 1 (0 + x2.toNat) 0)), (162, vi x2), (161, .one (.sl 0 1 0 l4.length)), (0, vl (eK .i32) p1), (1, vl (eK .i32) p2), (5, .one (.sl 0 1 0 l4.length)), (7, vi x2), (8, vi x3), (155, vb (e13 == (37 : Int)))] [0 ≤ x2 ∧ x2 < ((l4.length : Nat) : Int)] (⟨Enc.inb' a59, trivial⟩) (znhD eB l4 x2.toNat e17 (at2 a59) (zyp 4 [] [(168, .one (.pt 0 1 (0 + x2.toNat) 0)), (167, vi x2), (166, .one (.sl 0 1 0 l4.length)), (165, vi x3), (164, .one (.sl (x2.toNat + 1) 1 0 e17.length)), (163, .one (.pt 0 1 (0 + x2.toNat) 0)), (162, vi x2), (161, .one (.sl 0 1 0 l4.length)), (0, vl (eK .i32) p1), (1, vl (eK .i32) p2), (5, .one (.sl 0 1 0 l4.length)), (7, vi x2), (8, vi x3), (155, vb (e13 == (37 : Int)))] [0 ≤ x2 ∧ x2 < ((l4.length : Nat) : Int)] (⟨Enc.inb' a59, trivial⟩) (znhD eB l4 x2.toNat e17 (at2 a59) (zyp 3 [] [(172, .one (.pt (x2.toNat + 1) 1 (0 + ((IntKind.i64.wrap (x3 + (1 : Int))).toNat)) 0)), (171, vi (IntKind.i64.wrap (x3 + (1 : Int)))), (170, vi x3), (169, .one (.sl (x2.toNat + 1) 1 0 e17.length)), (168, .one (.pt 0 1 (0 + x2.toNat) 0)), (167, vi x2), (166, .one (.sl 0 1 0 l4.length)), (165, vi x3), (164, .one (.sl (x2.toNat + 1) 1 0 e17.length)), (163, .one (.pt 0 1 (0 + x2.toNat) 0)), (162, vi x2), (161, .one (.sl 0 1 0 l4.length)), (0, vl (eK .i32) p1), (1, vl (eK .i32) p2), (5, .one (.sl 0 1 0 l4.length)), (7, vi x2), (8, vi x3), (155, vb (e13 == (37 : Int)))] [0 ≤ (IntKind.i64.wrap (x3 + (1 : Int))) ∧ (IntKind.i64.wrap (x3 + (1 : Int))) < ((e17.length : Nat) : Int)] (⟨Enc.inb' a60, trivial⟩) (zneD l4 x2.toNat ((IntKind.i64.wrap (x3 + (1 : Int))).toNat) e17 e18 (at2 a59) (at2 a60) (zyv 1 [] [(174, vb e18), (173, vb e18), (172, .one (.pt (x2.toNat + 1) 1 (0 + ((IntKind.i64.wrap (x3 + (1 : Int))).toNat)) 0)), (171, vi (IntKind.i64.wrap (x3 + (1 : Int)))), (170, vi x3), (169, .one (.sl (x2.toNat + 1) 1 0 e17.length)), (168, .one (.pt 0 1 (0 + x2.toNat) 0)), (167, vi x2), (166, .one (.sl 0 1 0 l4.length)), (165, vi x3), (164, .one (.sl (x2.toNat + 1) 1 0 e17.length)), (163, .one (.pt 0 1 (0 + x2.toNat) 0)), (162, vi x2), (161, .one (.sl 0 1 0 l4.length)), (0, vl (eK .i32) p1), (1, vl (eK .i32) p2), (5, .one (.sl 0 1 0 l4.length)), (7, vi x2), (8, vi x3), (155, vb (e13 == (37 : Int)))] (?_)))))))
              exact DX.eq (fr1 := [(174, vb true), (173, vb e18), (172, .one (.pt (x2.toNat + 1) 1 (0 + ((IntKind.i64.wrap (x3 + (1 : Int))).toNat)) 0)), (171, vi (IntKind.i64.wrap (x3 + (1 : Int)))), (170, vi x3), (169, .one (.sl (x2.toNat + 1) 1 0 e17.length)), (168, .one (.pt 0 1 (0 + x2.toNat) 0)), (167, vi x2), (166, .one (.sl 0 1 0 l4.length)), (165, vi x3), (164, .one (.sl (x2.toNat + 1) 1 0 e17.length)), (163, .one (.pt 0 1 (0 + x2.toNat) 0)), (162, vi x2), (161, .one (.sl 0 1 0 l4.length)), (0, vl (eK .i32) p1), (1, vl (eK .i32) p2), (5, .one (.sl 0 1 0 l4.length)), (7, vi x2), (8, vi x3), (155, vb (e13 == (37 : Int)))]) (by rw [b61]) (zyg 15 zyd)
             refine zo [] 1 [0,1,5,7,8,189,190] [] [0 ≤ x3 ∧ x3 < ((e17.length : Nat) : Int)] (⟨Enc.inb' a62, trivial⟩) (zns l4 x2.toNat x3.toNat e17 true e19 (at2 a59) (at2 a62) (zd ?_))
             exact hJ4 (l4.set x2.toNat (e17.set x3.toNat true)) h _ _ (Sub.trans (Sub.pick (fr' := [(0, vl (eK .i32) p1), (1, vl (eK .i32) p2), (5, .one (.sl 0 1 0 l4.length)), (7, vi x2), (8, vi x3)]) [0,1,5,7,8] (by kernel_rfl)) (Sub.frame (fr' := [(0, vl (eK .i32) p1), (1, vl (eK .i32) p2), (5, .one (.sl 0 1 0 (l4.set x2.toNat (e17.set x3.toNat true)).length)), (7, vi x2), (8, vi x3)]) ⟨.rfl _, .rfl _, ALe.of_eq (show (.one (.sl 0 1 0 l4.length) : AV) = .one (.sl 0 1 0 (l4.set x2.toNat (e17.set x3.toNat true)).length) from by simp), .rfl _, .rfl _, trivial⟩))
            ·rcases zW h with ⟨b63, h⟩ | ⟨b63, h⟩
             ·obtain ⟨e20, a64, h⟩ := zB h
              obtain ⟨e21, a65, h⟩ := zB h
              obtain ⟨e22, a66, h⟩ := zB h
              refine zw 29 [(189, vb e21), (188, vb e21), (187, vb e21), (186, .one (.pt ((IntKind.i64.wrap (x2 + (1 : Int))).toNat + 1) 1 (0 + x3.toNat) 0)), (185, vi x3), (184, .one (.sl ((IntKind.i64.wrap (x2 + (1 : Int))).toNat + 1) 1 0 e20.length)), (183, .one (.pt 0 1 (0 + (IntKind.i64.wrap (x2 + (1 : Int))).toNat) 0)), (182, vi (IntKind.i64.wrap (x2 + (1 : Int)))), (181, vi x2), (180, .one (.sl 0 1 0 l4.length)), (179, vb true), (178, vb (decide (x2 < (p1.length : Int)))), (177, vi (p1.length : Int)), (176, vl (eK .i32) p1), (175, vi x2), (174, vb false), (173, vb e18), (172, .one (.pt (x2.toNat + 1) 1 (0 + ((IntKind.i64.wrap (x3 + (1 : Int))).toNat)) 0)), (171, vi (IntKind.i64.wrap (x3 + (1 : Int)))), (170, vi x3), (169, .one (.sl (x2.toNat + 1) 1 0 e17.length)), (168, .one (.pt 0 1 (0 + x2.toNat) 0)), (167, vi x2), (166, .one (.sl 0 1 0 l4.length)), (165, vi x3), (164, .one (.sl (x2.toNat + 1) 1 0 e17.length)), (163, .one (.pt 0 1 (0 + x2.toNat) 0)), (162, vi x2), (161, .one (.sl 0 1 0 l4.length)), (0, vl (eK .i32) p1), (1, vl (eK .i32) p2), (5, .one (.sl 0 1 0 l4.length)), (7, vi x2), (8, vi x3), (155, vb (e13 == (37 : Int)))] ?_ ?_
              ·refine zyp 3 [] [(163, .one (.pt 0 1 (0 + x2.toNat) 0)), (162, vi x2), (161, .one (.sl 0 1 0 l4.length)), (0, vl (eK .i32) p1), (1, vl (eK .i32) p2), (5, .one (.sl 0 1 0 l4.length)), (7, vi x2), (8, vi x3), (155, vb (e13 == (37 : Int)))] [0 ≤ x2 ∧ x2 < ((l4.length : Nat) : Int)] (⟨Enc.inb' a59, trivial⟩) (znhD eB l4 x2.toNat e17 (at2 a59) (zyp 4 [] [(168, .one (.pt 0 1 (0 + x2.toNat) 0)), (167, vi x2), (166, .one (.sl 0 1 0 l4.length)), (165, vi x3), (164, .one (.sl (x2.toNat + 1) 1 0 e17.length)), (163, .one (.pt 0 1 (0 + x2.toNat) 0)), (162, vi x2), (161, .one (.sl 0 1 0 l4.length)), (0, vl (eK .i32) p1), (1, vl (eK .i32) p2), (5, .one (.sl 0 1 0 l4.length)), (7, vi x2), (8, vi x3), (155, vb (e13 == (37 : Int)))] [0 ≤ x2 ∧ x2 < ((l4.length : Nat) : Int)] (⟨Enc.inb' a59, trivial⟩) (znhD eB l4 x2.toNat e17 (at2 a59) (zyp 3 [] [(172, .one (.pt (x2.toNat + 1) 1 (0 + ((IntKind.i64.wrap (x3 + (1 : Int))).toNat)) 0)), (171, vi (IntKind.i64.wrap (x3 + (1 : Int)))), (170, vi x3), (169, .one (.sl (x2.toNat + 1) 1 0 e17.length)), (168, .one (.pt 0 1 (0 + x2.toNat) 0)), (167, vi x2), (166, .one (.sl 0 1 0 l4.length)), (165, vi x3), (164, .one (.sl (x2.toNat + 1) 1 0 e17.length)), (163, .one (.pt 0 1 (0 + x2.toNat) 0)), (162, vi x2), (161, .one (.sl 0 1 0 l4.length)), (0, vl (eK .i32) p1), (1, vl (eK .i32) p2), (5, .one (.sl 0 1 0 l4.length)), (7, vi x2), (8, vi x3), (155, vb (e13 == (37 : Int)))] [0 ≤ (IntKind.i64.wrap (x3 + (1 : Int))) ∧ (IntKind.i64.wrap (x3 + (1 : Int))) < ((e17.length : Nat) : Int)] (⟨Enc.inb' a60, trivial⟩) (zneD l4 x2.toNat ((IntKind.i64.wrap (x3 + (1 : Int))).toNat) e17 e18 (at2 a59) (at2 a60) (zyv 1 [] [(174, vb e18), (173, vb e18), (172, .one (.pt (x2.toNat + 1) 1 (0 + ((IntKind.i64.wrap (x3 + (1 : Int))).toNat)) 0)), (171, vi (IntKind.i64.wrap (x3 + (1 : Int)))), (170, vi x3), (169, .one (.sl (x2.toNat + 1) 1 0 e17.length)), (168, .one (.pt 0 1 (0 + x2.toNat) 0)), (167, vi x2), (166, .one (.sl 0 1 0 l4.length)), (165, vi x3), (164, .one (.sl (x2.toNat + 1) 1 0 e17.length)), (163, .one (.pt 0 1 (0 + x2.toNat) 0)), (162, vi x2), (161, .one (.sl 0 1 0 l4.length)), (0, vl (eK .i32) p1), (1, vl (eK .i32) p2), (5, .one (.sl 0 1 0 l4.length)), (7, vi x2), (8, vi x3), (155, vb (e13 == (37 : Int)))] (?_)))))))
               refine DX.eq (fr1 := [(174, vb false), (173, vb e18), (172, .one (.pt (x2.toNat + 1) 1 (0 + ((IntKind.i64.wrap (x3 + (1 : Int))).toNat)) 0)), (171, vi (IntKind.i64.wrap (x3 + (1 : Int)))), (170, vi x3), (169, .one (.sl (x2.toNat + 1) 1 0 e17.length)), (168, .one (.pt 0 1 (0 + x2.toNat) 0)), (167, vi x2), (166, .one (.sl 0 1 0 l4.length)), (165, vi x3), (164, .one (.sl (x2.toNat + 1) 1 0 e17.length)), (163, .one (.pt 0 1 (0 + x2.toNat) 0)), (162, vi x2), (161, .one (.sl 0 1 0 l4.length)), (0, vl (eK .i32) p1), (1, vl (eK .i32) p2), (5, .one (.sl 0 1 0 l4.length)), (7, vi x2), (8, vi x3), (155, vb (e13 == (37 : Int)))]) (by rw [b61]) ?_
               refine zyv 3 [] [(177, vi (((eK .i32).els p1).length : Int)), (176, vl (eK .i32) p1), (175, vi x2), (174, vb false), (173, vb e18), (172, .one (.pt (x2.toNat + 1) 1 (0 + ((IntKind.i64.wrap (x3 + (1 : Int))).toNat)) 0)), (171, vi (IntKind.i64.wrap (x3 + (1 : Int)))), (170, vi x3), (169, .one (.sl (x2.toNat + 1) 1 0 e17.length)), (168, .one (.pt 0 1 (0 + x2.toNat) 0)), (167, vi x2), (166, .one (.sl 0 1 0 l4.length)), (165, vi x3), (164, .one (.sl (x2.toNat + 1) 1 0 e17.length)), (163, .one (.pt 0 1 (0 + x2.toNat) 0)), (162, vi x2), (161, .one (.sl 0 1 0 l4.length)), (0, vl (eK .i32) p1), (1, vl (eK .i32) p2), (5, .one (.sl 0 1 0 l4.length)), (7, vi x2), (8, vi x3), (155, vb (e13 == (37 : Int)))] ?_
               rw [(eK .i32).len p1]
               refine zyv 2 [] [(179, vb (decide (x2 < (p1.length : Int)))), (178, vb (decide (x2 < (p1.length : Int)))), (177, vi (p1.length : Int)), (176, vl (eK .i32) p1), (175, vi x2), (174, vb false), (173, vb e18), (172, .one (.pt (x2.toNat + 1) 1 (0 + ((IntKind.i64.wrap (x3 + (1 : Int))).toNat)) 0)), (171, vi (IntKind.i64.wrap (x3 + (1 : Int)))), (170, vi x3), (169, .one (.sl (x2.toNat + 1) 1 0 e17.length)), (168, .one (.pt 0 1 (0 + x2.toNat) 0)), (167, vi x2), (166, .one (.sl 0 1 0 l4.length)), (165, vi x3), (164, .one (.sl (x2.toNat + 1) 1 0 e17.length)), (163, .one (.pt 0 1 (0 + x2.toNat) 0)), (162, vi x2), (161, .one (.sl 0 1 0 l4.length)), (0, vl (eK .i32) p1), (1, vl (eK .i32) p2), (5, .one (.sl 0 1 0 l4.length)), (7, vi x2), (8, vi x3), (155, vb (e13 == (37 : Int)))] ?_
               refine DX.eq (fr1 := [(179, vb true), (178, vb (decide (x2 < (p1.length : Int)))), (177, vi (p1.length : Int)), (176, vl (eK .i32) p1), (175, vi x2), (174, vb false), (173, vb e18), (172, .one (.pt (x2.toNat + 1) 1 (0 + ((IntKind.i64.wrap (x3 + (1 : Int))).toNat)) 0)), (171, vi (IntKind.i64.wrap (x3 + (1 : Int)))), (170, vi x3), (169, .one (.sl (x2.toNat + 1) 1 0 e17.length)), (168, .one (.pt 0 1 (0 + x2.toNat) 0)), (167, vi x2), (166, .one (.sl 0 1 0 l4.length)), (165, vi x3), (164, .one (.sl (x2.toNat + 1) 1 0 e17.length)), (163, .one (.pt 0 1 (0 + x2.toNat) 0)), (162, vi x2), (161, .one (.sl 0 1 0 l4.length)), (0, vl (eK .i32) p1), (1, vl (eK .i32) p2), (5, .one (.sl 0 1 0 l4.length)), (7, vi x2), (8, vi x3), (155, vb (e13 == (37 : Int)))]) (by rw [b63]) ?_
               exact zyp 4 [] [(183, .one (.pt 0 1 (0 + (IntKind.i64.wrap (x2 + (1 : Int))).toNat) 0)), (182, vi (IntKind.i64.wrap (x2 + (1 : Int)))), (181, vi x2), (180, .one (.sl 0 1 0 l4.length)), (179, vb true), (178, vb (decide (x2 < (p1.length : Int)))), (177, vi (p1.length : Int)), (176, vl (eK .i32) p1), (175, vi x2), (174, vb false), (173, vb e18), (172, .one (.pt (x2.toNat + 1) 1 (0 + ((IntKind.i64.wrap (x3 + (1 : Int))).toNat)) 0)), (171, vi (IntKind.i64.wrap (x3 + (1 : Int)))), (170, vi x3), (169, .one (.sl (x2.toNat + 1) 1 0 e17.length)), (168, .one (.pt 0 1 (0 + x2.toNat) 0)), (167, vi x2), (166, .one (.sl 0 1 0 l4.length)), (165, vi x3), (164, .one (.sl (x2.toNat + 1) 1 0 e17.length)), (163, .one (.pt 0 1 (0 + x2.toNat) 0)), (162, vi x2), (161, .one (.sl 0 1 0 l4.length)), (0, vl (eK .i32) p1), (1, vl (eK .i32) p2), (5, .one (.sl 0 1 0 l4.length)), (7, vi x2), (8, vi x3), (155, vb (e13 == (37 : Int)))] [0 ≤ (IntKind.i64.wrap (x2 + (1 : Int))) ∧ (IntKind.i64.wrap (x2 + (1 : Int))) < ((l4.length : Nat) : Int)] (⟨Enc.inb' a64, trivial⟩) (znhD eB l4 (IntKind.i64.wrap (x2 + (1 : Int))).toNat e20 (at2 a64) (zyp 2 [] [(186, .one (.pt ((IntKind.i64.wrap (x2 + (1 : Int))).toNat + 1) 1 (0 + x3.toNat) 0)), (185, vi x3), (184, .one (.sl ((IntKind.i64.wrap (x2 + (1 : Int))).toNat + 1) 1 0 e20.length)), (183, .one (.pt 0 1 (0 + (IntKind.i64.wrap (x2 + (1 : Int))).toNat) 0)), (182, vi (IntKind.i64.wrap (x2 + (1 : Int)))), (181, vi x2), (180, .one (.sl 0 1 0 l4.length)), (179, vb true), (178, vb (decide (x2 < (p1.length : Int)))), (177, vi (p1.length : Int)), (176, vl (eK .i32) p1), (175, vi x2), (174, vb false), (173, vb e18), (172, .one (.pt (x2.toNat + 1) 1 (0 + ((IntKind.i64.wrap (x3 + (1 : Int))).toNat)) 0)), (171, vi (IntKind.i64.wrap (x3 + (1 : Int)))), (170, vi x3), (169, .one (.sl (x2.toNat + 1) 1 0 e17.length)), (168, .one (.pt 0 1 (0 + x2.toNat) 0)), (167, vi x2), (166, .one (.sl 0 1 0 l4.length)), (165, vi x3), (164, .one (.sl (x2.toNat + 1) 1 0 e17.length)), (163, .one (.pt 0 1 (0 + x2.toNat) 0)), (162, vi x2), (161, .one (.sl 0 1 0 l4.length)), (0, vl (eK .i32) p1), (1, vl (eK .i32) p2), (5, .one (.sl 0 1 0 l4.length)), (7, vi x2), (8, vi x3), (155, vb (e13 == (37 : Int)))] [0 ≤ x3 ∧ x3 < ((e20.length : Nat) : Int)] (⟨Enc.inb' a65, trivial⟩) (zneD l4 (IntKind.i64.wrap (x2 + (1 : Int))).toNat x3.toNat e20 e21 (at2 a64) (at2 a65) (zyv 2 [] [(189, vb e21), (188, vb e21), (187, vb e21), (186, .one (.pt ((IntKind.i64.wrap (x2 + (1 : Int))).toNat + 1) 1 (0 + x3.toNat) 0)), (185, vi x3), (184, .one (.sl ((IntKind.i64.wrap (x2 + (1 : Int))).toNat + 1) 1 0 e20.length)), (183, .one (.pt 0 1 (0 + (IntKind.i64.wrap (x2 + (1 : Int))).toNat) 0)), (182, vi (IntKind.i64.wrap (x2 + (1 : Int)))), (181, vi x2), (180, .one (.sl 0 1 0 l4.length)), (179, vb true), (178, vb (decide (x2 < (p1.length : Int)))), (177, vi (p1.length : Int)), (176, vl (eK .i32) p1), (175, vi x2), (174, vb false), (173, vb e18), (172, .one (.pt (x2.toNat + 1) 1 (0 + ((IntKind.i64.wrap (x3 + (1 : Int))).toNat)) 0)), (171, vi (IntKind.i64.wrap (x3 + (1 : Int)))), (170, vi x3), (169, .one (.sl (x2.toNat + 1) 1 0 e17.length)), (168, .one (.pt 0 1 (0 + x2.toNat) 0)), (167, vi x2), (166, .one (.sl 0 1 0 l4.length)), (165, vi x3), (164, .one (.sl (x2.toNat + 1) 1 0 e17.length)), (163, .one (.pt 0 1 (0 + x2.toNat) 0)), (162, vi x2), (161, .one (.sl 0 1 0 l4.length)), (0, vl (eK .i32) p1), (1, vl (eK .i32) p2), (5, .one (.sl 0 1 0 l4.length)), (7, vi x2), (8, vi x3), (155, vb (e13 == (37 : Int)))] (zyd)))))
              refine zo [] 1 [0,1,5,7,8,189,190] [] [0 ≤ x3 ∧ x3 < ((e17.length : Nat) : Int)] (⟨Enc.inb' a66, trivial⟩) (zns l4 x2.toNat x3.toNat e17 e21 e22 (at2 a59) (at2 a66) (zd ?_))
              exact hJ4 (l4.set x2.toNat (e17.set x3.toNat e21)) h _ _ (Sub.trans (Sub.pick (fr' := [(0, vl (eK .i32) p1), (1, vl (eK .i32) p2), (5, .one (.sl 0 1 0 l4.length)), (7, vi x2), (8, vi x3)]) [0,1,5,7,8] (by kernel_rfl)) (Sub.frame (fr' := [(0, vl (eK .i32) p1), (1, vl (eK .i32) p2), (5, .one (.sl 0 1 0 (l4.set x2.toNat (e17.set x3.toNat e21)).length)), (7, vi x2), (8, vi x3)]) ⟨.rfl _, .rfl _, ALe.of_eq (show (.one (.sl 0 1 0 l4.length) : AV) = .one (.sl 0 1 0 (l4.set x2.toNat (e17.set x3.toNat e21)).length) from by simp), .rfl _, .rfl _, trivial⟩))
             ·obtain ⟨e23, a67, h⟩ := zB h
              refine zw 29 [(189, vb false), (188, vb false), (187, .tp []), (186, .tp []), (185, .tp []), (184, .tp []), (183, .tp []), (182, .tp []), (181, .tp []), (180, .tp []), (179, vb false), (178, vb (decide (x2 < (p1.length : Int)))), (177, vi (p1.length : Int)), (176, vl (eK .i32) p1), (175, vi x2), (174, vb false), (173, vb e18), (172, .one (.pt (x2.toNat + 1) 1 (0 + ((IntKind.i64.wrap (x3 + (1 : Int))).toNat)) 0)), (171, vi (IntKind.i64.wrap (x3 + (1 : Int)))), (170, vi x3), (169, .one (.sl (x2.toNat + 1) 1 0 e17.length)), (168, .one (.pt 0 1 (0 + x2.toNat) 0)), (167, vi x2), (166, .one (.sl 0 1 0 l4.length)), (165, vi x3), (164, .one (.sl (x2.toNat + 1) 1 0 e17.length)), (163, .one (.pt 0 1 (0 + x2.toNat) 0)), (162, vi x2), (161, .one (.sl 0 1 0 l4.length)), (0, vl (eK .i32) p1), (1, vl (eK .i32) p2), (5, .one (.sl 0 1 0 l4.length)), (7, vi x2), (8, vi x3), (155, vb (e13 == (37 : Int)))] ?_ ?_
              ·refine zyp 3 [] [(163, .one (.pt 0 1 (0 + x2.toNat) 0)), (162, vi x2), (161, .one (.sl 0 1 0 l4.length)), (0, vl (eK .i32) p1), (1, vl (eK .i32) p2), (5, .one (.sl 0 1 0 l4.length)), (7, vi x2), (8, vi x3), (155, vb (e13 == (37 : Int)))] [0 ≤ x2 ∧ x2 < ((l4.length : Nat) : Int)] (⟨Enc.inb' a59, trivial⟩) (znhD eB l4 x2.toNat e17 (at2 a59) (zyp 4 [] [(168, .one (.pt 0 1 (0 + x2.toNat) 0)), (167, vi x2), (166, .one (.sl 0 1 0 l4.length)), (165, vi x3), (164, .one (.sl (x2.toNat + 1) 1 0 e17.length)), (163, .one (.pt 0 1 (0 + x2.toNat) 0)), (162, vi x2), (161, .one (.sl 0 1 0 l4.length)), (0, vl (eK .i32) p1), (1, vl (eK .i32) p2), (5, .one (.sl 0 1 0 l4.length)), (7, vi x2), (8, vi x3), (155, vb (e13 == (37 : Int)))] [0 ≤ x2 ∧ x2 < ((l4.length : Nat) : Int)] (⟨Enc.inb' a59, trivial⟩) (znhD eB l4 x2.toNat e17 (at2 a59) (zyp 3 [] [(172, .one (.pt (x2.toNat + 1) 1 (0 + ((IntKind.i64.wrap (x3 + (1 : Int))).toNat)) 0)), (171, vi (IntKind.i64.wrap (x3 + (1 : Int)))), (170, vi x3), (169, .one (.sl (x2.toNat + 1) 1 0 e17.length)), (168, .one (.pt 0 1 (0 + x2.toNat) 0)), (167, vi x2), (166, .one (.sl 0 1 0 l4.length)), (165, vi x3), (164, .one (.sl (x2.toNat + 1) 1 0 e17.length)), (163, .one (.pt 0 1 (0 + x2.toNat) 0)), (162, vi x2), (161, .one (.sl 0 1 0 l4.length)), (0, vl (eK .i32) p1), (1, vl (eK .i32) p2), (5, .one (.sl 0 1 0 l4.length)), (7, vi x2), (8, vi x3), (155, vb (e13 == (37 : Int)))] [0 ≤ (IntKind.i64.wrap (x3 + (1 : Int))) ∧ (IntKind.i64.wrap (x3 + (1 : Int))) < ((e17.length : Nat) : Int)] (⟨Enc.inb' a60, trivial⟩) (zneD l4 x2.toNat ((IntKind.i64.wrap (x3 + (1 : Int))).toNat) e17 e18 (at2 a59) (at2 a60) (zyv 1 [] [(174, vb e18), (173, vb e18), (172, .one (.pt (x2.toNat + 1) 1 (0 + ((IntKind.i64.wrap (x3 + (1 : Int))).toNat)) 0)), (171, vi (IntKind.i64.wrap (x3 + (1 : Int)))), (170, vi x3), (169, .one (.sl (x2.toNat + 1) 1 0 e17.length)), (168, .one (.pt 0 1 (0 + x2.toNat) 0)), (167, vi x2), (166, .one (.sl 0 1 0 l4.length)), (165, vi x3), (164, .one (.sl (x2.toNat + 1) 1 0 e17.length)), (163, .one (.pt 0 1 (0 + x2.toNat) 0)), (162, vi x2), (161, .one (.sl 0 1 0 l4.length)), (0, vl (eK .i32) p1), (1, vl (eK .i32) p2), (5, .one (.sl 0 1 0 l4.length)), (7, vi x2), (8, vi x3), (155, vb (e13 == (37 : Int)))] (?_)))))))
               refine DX.eq (fr1 := [(174, vb false), (173, vb e18), (172, .one (.pt (x2.toNat + 1) 1 (0 + ((IntKind.i64.wrap (x3 + (1 : Int))).toNat)) 0)), (171, vi (IntKind.i64.wrap (x3 + (1 : Int)))), (170, vi x3), (169, .one (.sl (x2.toNat + 1) 1 0 e17.length)), (168, .one (.pt 0 1 (0 + x2.toNat) 0)), (167, vi x2), (166, .one (.sl 0 1 0 l4.length)), (165, vi x3), (164, .one (.sl (x2.toNat + 1) 1 0 e17.length)), (163, .one (.pt 0 1 (0 + x2.toNat) 0)), (162, vi x2), (161, .one (.sl 0 1 0 l4.length)), (0, vl (eK .i32) p1), (1, vl (eK .i32) p2), (5, .one (.sl 0 1 0 l4.length)), (7, vi x2), (8, vi x3), (155, vb (e13 == (37 : Int)))]) (by rw [b61]) ?_
               refine zyv 3 [] [(177, vi (((eK .i32).els p1).length : Int)), (176, vl (eK .i32) p1), (175, vi x2), (174, vb false), (173, vb e18), (172, .one (.pt (x2.toNat + 1) 1 (0 + ((IntKind.i64.wrap (x3 + (1 : Int))).toNat)) 0)), (171, vi (IntKind.i64.wrap (x3 + (1 : Int)))), (170, vi x3), (169, .one (.sl (x2.toNat + 1) 1 0 e17.length)), (168, .one (.pt 0 1 (0 + x2.toNat) 0)), (167, vi x2), (166, .one (.sl 0 1 0 l4.length)), (165, vi x3), (164, .one (.sl (x2.toNat + 1) 1 0 e17.length)), (163, .one (.pt 0 1 (0 + x2.toNat) 0)), (162, vi x2), (161, .one (.sl 0 1 0 l4.length)), (0, vl (eK .i32) p1), (1, vl (eK .i32) p2), (5, .one (.sl 0 1 0 l4.length)), (7, vi x2), (8, vi x3), (155, vb (e13 == (37 : Int)))] ?_
               rw [(eK .i32).len p1]
               refine zyv 2 [] [(179, vb (decide (x2 < (p1.length : Int)))), (178, vb (decide (x2 < (p1.length : Int)))), (177, vi (p1.length : Int)), (176, vl (eK .i32) p1), (175, vi x2), (174, vb false), (173, vb e18), (172, .one (.pt (x2.toNat + 1) 1 (0 + ((IntKind.i64.wrap (x3 + (1 : Int))).toNat)) 0)), (171, vi (IntKind.i64.wrap (x3 + (1 : Int)))), (170, vi x3), (169, .one (.sl (x2.toNat + 1) 1 0 e17.length)), (168, .one (.pt 0 1 (0 + x2.toNat) 0)), (167, vi x2), (166, .one (.sl 0 1 0 l4.length)), (165, vi x3), (164, .one (.sl (x2.toNat + 1) 1 0 e17.length)), (163, .one (.pt 0 1 (0 + x2.toNat) 0)), (162, vi x2), (161, .one (.sl 0 1 0 l4.length)), (0, vl (eK .i32) p1), (1, vl (eK .i32) p2), (5, .one (.sl 0 1 0 l4.length)), (7, vi x2), (8, vi x3), (155, vb (e13 == (37 : Int)))] ?_
               refine DX.eq (fr1 := [(179, vb false), (178, vb (decide (x2 < (p1.length : Int)))), (177, vi (p1.length : Int)), (176, vl (eK .i32) p1), (175, vi x2), (174, vb false), (173, vb e18), (172, .one (.pt (x2.toNat + 1) 1 (0 + ((IntKind.i64.wrap (x3 + (1 : Int))).toNat)) 0)), (171, vi (IntKind.i64.wrap (x3 + (1 : Int)))), (170, vi x3), (169, .one (.sl (x2.toNat + 1) 1 0 e17.length)), (168, .one (.pt 0 1 (0 + x2.toNat) 0)), (167, vi x2), (166, .one (.sl 0 1 0 l4.length)), (165, vi x3), (164, .one (.sl (x2.toNat + 1) 1 0 e17.length)), (163, .one (.pt 0 1 (0 + x2.toNat) 0)), (162, vi x2), (161, .one (.sl 0 1 0 l4.length)), (0, vl (eK .i32) p1), (1, vl (eK .i32) p2), (5, .one (.sl 0 1 0 l4.length)), (7, vi x2), (8, vi x3), (155, vb (e13 == (37 : Int)))]) (by rw [b63]) ?_
               exact zyg 10 zyd
              refine zo [] 1 [0,1,5,7,8,189,190] [] [0 ≤ x3 ∧ x3 < ((e17.length : Nat) : Int)] (⟨Enc.inb' a67, trivial⟩) (zns l4 x2.toNat x3.toNat e17 false e23 (at2 a59) (at2 a67) (zd ?_))
              exact hJ4 (l4.set x2.toNat (e17.set x3.toNat false)) h _ _ (Sub.trans (Sub.pick (fr' := [(0, vl (eK .i32) p1), (1, vl (eK .i32) p2), (5, .one (.sl 0 1 0 l4.length)), (7, vi x2), (8, vi x3)]) [0,1,5,7,8] (by kernel_rfl)) (Sub.frame (fr' := [(0, vl (eK .i32) p1), (1, vl (eK .i32) p2), (5, .one (.sl 0 1 0 (l4.set x2.toNat (e17.set x3.toNat false)).length)), (7, vi x2), (8, vi x3)]) ⟨.rfl _, .rfl _, ALe.of_eq (show (.one (.sl 0 1 0 l4.length) : AV) = .one (.sl 0 1 0 (l4.set x2.toNat (e17.set x3.toNat false)).length) from by simp), .rfl _, .rfl _, trivial⟩))
           ·refine zq fun K68 hK68 => zr (zo [] 6 [0,1,5,7,8,191] [[.s (.int .i32 e13)]] [0 ≤ x3 ∧ x3 < (((eK .i32).els p2).length : Int) ∧ elemsOk 1 ((eK .i32).els p2), ((eK .i32).els p2)[x3.toNat]? = some [.s (.int .i32 e13)]] (⟨(eK .i32).inb a52, ((eK .i32).get a52), trivial⟩) (zd (hK68 _ _ (zC h (fun b69 h => ?_) (fun b69 h => ?_)))))
            ·obtain ⟨e24, a70, h⟩ := zB h
             rcases zW h with ⟨b71, h⟩ | ⟨b71, h⟩
             ·obtain ⟨e25, a72, h⟩ := zB h
              obtain ⟨e26, a73, h⟩ := zB h
              obtain ⟨e27, a74, h⟩ := zB h
              refine zw 20 [(216, vb e26), (215, vb e26), (214, .one (.pt ((IntKind.i64.wrap (x2 + (1 : Int))).toNat + 1) 1 (0 + ((IntKind.i64.wrap (x3 + (1 : Int))).toNat)) 0)), (213, vi (IntKind.i64.wrap (x3 + (1 : Int)))), (212, vi x3), (211, .one (.sl ((IntKind.i64.wrap (x2 + (1 : Int))).toNat + 1) 1 0 e25.length)), (210, .one (.pt 0 1 (0 + (IntKind.i64.wrap (x2 + (1 : Int))).toNat) 0)), (209, vi (IntKind.i64.wrap (x2 + (1 : Int)))), (208, vi x2), (207, .one (.sl 0 1 0 l4.length)), (206, vb true), (205, vb (decide (x2 < (p1.length : Int)))), (204, vi (p1.length : Int)), (203, vl (eK .i32) p1), (202, vi x2), (201, vi x3), (200, .one (.sl (x2.toNat + 1) 1 0 e24.length)), (199, .one (.pt 0 1 (0 + x2.toNat) 0)), (198, vi x2), (197, .one (.sl 0 1 0 l4.length)), (0, vl (eK .i32) p1), (1, vl (eK .i32) p2), (5, .one (.sl 0 1 0 l4.length)), (7, vi x2), (8, vi x3), (191, vb (e13 == (95 : Int)))] ?_ ?_
              ·refine zyp 3 [] [(199, .one (.pt 0 1 (0 + x2.toNat) 0)), (198, vi x2), (197, .one (.sl 0 1 0 l4.length)), (0, vl (eK .i32) p1), (1, vl (eK .i32) p2), (5, .one (.sl 0 1 0 l4.length)), (7, vi x2), (8, vi x3), (191, vb (e13 == (95 : Int)))] [0 ≤ x2 ∧ x2 < ((l4.length : Nat) : Int)] (⟨Enc.inb' a70, trivial⟩) (znhD eB l4 x2.toNat e24 (at2 a70) (zyv 4 [] [(204, vi (((eK .i32).els p1).length : Int)), (203, vl (eK .i32) p1), (202, vi x2), (201, vi x3), (200, .one (.sl (x2.toNat + 1) 1 0 e24.length)), (199, .one (.pt 0 1 (0 + x2.toNat) 0)), (198, vi x2), (197, .one (.sl 0 1 0 l4.length)), (0, vl (eK .i32) p1), (1, vl (eK .i32) p2), (5, .one (.sl 0 1 0 l4.length)), (7, vi x2), (8, vi x3), (191, vb (e13 == (95 : Int)))] (?_)))
               rw [(eK .i32).len p1]
               refine zyv 2 [] [(206, vb (decide (x2 < (p1.length : Int)))), (205, vb (decide (x2 < (p1.length : Int)))), (204, vi (p1.length : Int)), (203, vl (eK .i32) p1), (202, vi x2), (201, vi x3), (200, .one (.sl (x2.toNat + 1) 1 0 e24.length)), (199, .one (.pt 0 1 (0 + x2.toNat) 0)), (198, vi x2), (197, .one (.sl 0 1 0 l4.length)), (0, vl (eK .i32) p1), (1, vl (eK .i32) p2), (5, .one (.sl 0 1 0 l4.length)), (7, vi x2), (8, vi x3), (191, vb (e13 == (95 : Int)))] ?_
               refine DX.eq (fr1 := [(206, vb true), (205, vb (decide (x2 < (p1.length : Int)))), (204, vi (p1.length : Int)), (203, vl (eK .i32) p1), (202, vi x2), (201, vi x3), (200, .one (.sl (x2.toNat + 1) 1 0 e24.length)), (199, .one (.pt 0 1 (0 + x2.toNat) 0)), (198, vi x2), (197, .one (.sl 0 1 0 l4.length)), (0, vl (eK .i32) p1), (1, vl (eK .i32) p2), (5, .one (.sl 0 1 0 l4.length)), (7, vi x2), (8, vi x3), (191, vb (e13 == (95 : Int)))]) (by rw [b71]) ?_
               exact zyp 4 [] [(210, .one (.pt 0 1 (0 + (IntKind.i64.wrap (x2 + (1 : Int))).toNat) 0)), (209, vi (IntKind.i64.wrap (x2 + (1 : Int)))), (208, vi x2), (207, .one (.sl 0 1 0 l4.length)), (206, vb true), (205, vb (decide (x2 < (p1.length : Int)))), (204, vi (p1.length : Int)), (203, vl (eK .i32) p1), (202, vi x2), (201, vi x3), (200, .one (.sl (x2.toNat + 1) 1 0 e24.length)), (199, .one (.pt 0 1 (0 + x2.toNat) 0)), (198, vi x2), (197, .one (.sl 0 1 0 l4.length)), (0, vl (eK .i32) p1), (1, vl (eK .i32) p2), (5, .one (.sl 0 1 0 l4.length)), (7, vi x2), (8, vi x3), (191, vb (e13 == (95 : Int)))] [0 ≤ (IntKind.i64.wrap (x2 + (1 : Int))) ∧ (IntKind.i64.wrap (x2 + (1 : Int))) < ((l4.length : Nat) : Int)] (⟨Enc.inb' a72, trivial⟩) (znhD eB l4 (IntKind.i64.wrap (x2 + (1 : Int))).toNat e25 (at2 a72) (zyp 3 [] [(214, .one (.pt ((IntKind.i64.wrap (x2 + (1 : Int))).toNat + 1) 1 (0 + ((IntKind.i64.wrap (x3 + (1 : Int))).toNat)) 0)), (213, vi (IntKind.i64.wrap (x3 + (1 : Int)))), (212, vi x3), (211, .one (.sl ((IntKind.i64.wrap (x2 + (1 : Int))).toNat + 1) 1 0 e25.length)), (210, .one (.pt 0 1 (0 + (IntKind.i64.wrap (x2 + (1 : Int))).toNat) 0)), (209, vi (IntKind.i64.wrap (x2 + (1 : Int)))), (208, vi x2), (207, .one (.sl 0 1 0 l4.length)), (206, vb true), (205, vb (decide (x2 < (p1.length : Int)))), (204, vi (p1.length : Int)), (203, vl (eK .i32) p1), (202, vi x2), (201, vi x3), (200, .one (.sl (x2.toNat + 1) 1 0 e24.length)), (199, .one (.pt 0 1 (0 + x2.toNat) 0)), (198, vi x2), (197, .one (.sl 0 1 0 l4.length)), (0, vl (eK .i32) p1), (1, vl (eK .i32) p2), (5, .one (.sl 0 1 0 l4.length)), (7, vi x2), (8, vi x3), (191, vb (e13 == (95 : Int)))] [0 ≤ (IntKind.i64.wrap (x3 + (1 : Int))) ∧ (IntKind.i64.wrap (x3 + (1 : Int))) < ((e25.length : Nat) : Int)] (⟨Enc.inb' a73, trivial⟩) (zneD l4 (IntKind.i64.wrap (x2 + (1 : Int))).toNat ((IntKind.i64.wrap (x3 + (1 : Int))).toNat) e25 e26 (at2 a72) (at2 a73) (zyv 1 [] [(216, vb e26), (215, vb e26), (214, .one (.pt ((IntKind.i64.wrap (x2 + (1 : Int))).toNat + 1) 1 (0 + ((IntKind.i64.wrap (x3 + (1 : Int))).toNat)) 0)), (213, vi (IntKind.i64.wrap (x3 + (1 : Int)))), (212, vi x3), (211, .one (.sl ((IntKind.i64.wrap (x2 + (1 : Int))).toNat + 1) 1 0 e25.length)), (210, .one (.pt 0 1 (0 + (IntKind.i64.wrap (x2 + (1 : Int))).toNat) 0)), (209, vi (IntKind.i64.wrap (x2 + (1 : Int)))), (208, vi x2), (207, .one (.sl 0 1 0 l4.length)), (206, vb true), (205, vb (decide (x2 < (p1.length : Int)))), (204, vi (p1.length : Int)), (203, vl (eK .i32) p1), (202, vi x2), (201, vi x3), (200, .one (.sl (x2.toNat + 1) 1 0 e24.length)), (199, .one (.pt 0 1 (0 + x2.toNat) 0)), (198, vi x2), (197, .one (.sl 0 1 0 l4.length)), (0, vl (eK .i32) p1), (1, vl (eK .i32) p2), (5, .one (.sl 0 1 0 l4.length)), (7, vi x2), (8, vi x3), (191, vb (e13 == (95 : Int)))] (zyd)))))
              refine zo [] 1 [0,1,5,7,8,216,217] [] [0 ≤ x3 ∧ x3 < ((e24.length : Nat) : Int)] (⟨Enc.inb' a74, trivial⟩) (zns l4 x2.toNat x3.toNat e24 e26 e27 (at2 a70) (at2 a74) (zd ?_))
              exact hJ4 (l4.set x2.toNat (e24.set x3.toNat e26)) h _ _ (Sub.trans (Sub.pick (fr' := [(0, vl (eK .i32) p1), (1, vl (eK .i32) p2), (5, .one (.sl 0 1 0 l4.length)), (7, vi x2), (8, vi x3)]) [0,1,5,7,8] (by kernel_rfl)) (Sub.frame (fr' := [(0, vl (eK .i32) p1), (1, vl (eK .i32) p2), (5, .one (.sl 0 1 0 (l4.set x2.toNat (e24.set x3.toNat e26)).length)), (7, vi x2), (8, vi x3)]) ⟨.rfl _, .rfl _, ALe.of_eq (show (.one (.sl 0 1 0 l4.length) : AV) = .one (.sl 0 1 0 (l4.set x2.toNat (e24.set x3.toNat e26)).length) from by simp), .rfl _, .rfl _, trivial⟩))
             ·obtain ⟨e28, a75, h⟩ := zB h
              refine zw 20 [(216, vb false), (215, .tp []), (214, .tp []), (213, .tp []), (212, .tp []), (211, .tp []), (210, .tp []), (209, .tp []), (208, .tp []), (207, .tp []), (206, vb false), (205, vb (decide (x2 < (p1.length : Int)))), (204, vi (p1.length : Int)), (203, vl (eK .i32) p1), (202, vi x2), (201, vi x3), (200, .one (.sl (x2.toNat + 1) 1 0 e24.length)), (199, .one (.pt 0 1 (0 + x2.toNat) 0)), (198, vi x2), (197, .one (.sl 0 1 0 l4.length)), (0, vl (eK .i32) p1), (1, vl (eK .i32) p2), (5, .one (.sl 0 1 0 l4.length)), (7, vi x2), (8, vi x3), (191, vb (e13 == (95 : Int)))] ?_ ?_
              ·refine zyp 3 [] [(199, .one (.pt 0 1 (0 + x2.toNat) 0)), (198, vi x2), (197, .one (.sl 0 1 0 l4.length)), (0, vl (eK .i32) p1), (1, vl (eK .i32) p2), (5, .one (.sl 0 1 0 l4.length)), (7, vi x2), (8, vi x3), (191, vb (e13 == (95 : Int)))] [0 ≤ x2 ∧ x2 < ((l4.length : Nat) : Int)] (⟨Enc.inb' a70, trivial⟩) (znhD eB l4 x2.toNat e24 (at2 a70) (zyv 4 [] [(204, vi (((eK .i32).els p1).length : Int)), (203, vl (eK .i32) p1), (202, vi x2), (201, vi x3), (200, .one (.sl (x2.toNat + 1) 1 0 e24.length)), (199, .one (.pt 0 1 (0 + x2.toNat) 0)), (198, vi x2), (197, .one (.sl 0 1 0 l4.length)), (0, vl (eK .i32) p1), (1, vl (eK .i32) p2), (5, .one (.sl 0 1 0 l4.length)), (7, vi x2), (8, vi x3), (191, vb (e13 == (95 : Int)))] (?_)))
               rw [(eK .i32).len p1]
               refine zyv 2 [] [(206, vb (decide (x2 < (p1.length : Int)))), (205, vb (decide (x2 < (p1.length : Int)))), (204, vi (p1.length : Int)), (203, vl (eK .i32) p1), (202, vi x2), (201, vi x3), (200, .one (.sl (x2.toNat + 1) 1 0 e24.length)), (199, .one (.pt 0 1 (0 + x2.toNat) 0)), (198, vi x2), (197, .one (.sl 0 1 0 l4.length)), (0, vl (eK .i32) p1), (1, vl (eK .i32) p2), (5, .one (.sl 0 1 0 l4.length)), (7, vi x2), (8, vi x3), (191, vb (e13 == (95 : Int)))] ?_
               exact DX.eq (fr1 := [(206, vb false), (205, vb (decide (x2 < (p1.length : Int)))), (204, vi (p1.length : Int)), (203, vl (eK .i32) p1), (202, vi x2), (201, vi x3), (200, .one (.sl (x2.toNat + 1) 1 0 e24.length)), (199, .one (.pt 0 1 (0 + x2.toNat) 0)), (198, vi x2), (197, .one (.sl 0 1 0 l4.length)), (0, vl (eK .i32) p1), (1, vl (eK .i32) p2), (5, .one (.sl 0 1 0 l4.length)), (7, vi x2), (8, vi x3), (191, vb (e13 == (95 : Int)))]) (by rw [b71]) (zyg 10 zyd)
              refine zo [] 1 [0,1,5,7,8,216,217] [] [0 ≤ x3 ∧ x3 < ((e24.length : Nat) : Int)] (⟨Enc.inb' a75, trivial⟩) (zns l4 x2.toNat x3.toNat e24 false e28 (at2 a70) (at2 a75) (zd ?_))
              exact hJ4 (l4.set x2.toNat (e24.set x3.toNat false)) h _ _ (Sub.trans (Sub.pick (fr' := [(0, vl (eK .i32) p1), (1, vl (eK .i32) p2), (5, .one (.sl 0 1 0 l4.length)), (7, vi x2), (8, vi x3)]) [0,1,5,7,8] (by kernel_rfl)) (Sub.frame (fr' := [(0, vl (eK .i32) p1), (1, vl (eK .i32) p2), (5, .one (.sl 0 1 0 (l4.set x2.toNat (e24.set x3.toNat false)).length)), (7, vi x2), (8, vi x3)]) ⟨.rfl _, .rfl _, ALe.of_eq (show (.one (.sl 0 1 0 l4.length) : AV) = .one (.sl 0 1 0 (l4.set x2.toNat (e24.set x3.toNat false)).length) from by simp), .rfl _, .rfl _, trivial⟩))
            ·obtain ⟨e29, a76, h⟩ := zB h
             rcases zW h with ⟨b77, h⟩ | ⟨b77, h⟩
             ·obtain ⟨e30, a78, h⟩ := zB h
              rcases zW h with ⟨b79, h⟩ | ⟨b79, h⟩
              ·obtain ⟨e31, a80, h⟩ := zB h
               obtain ⟨e32, a81, h⟩ := zB h
               obtain ⟨e33, a82, h⟩ := zB h
               refine zw 31 [(97, vb e32), (96, vb e32), (95, .one (.pt ((IntKind.i64.wrap (x2 + (1 : Int))).toNat + 1) 1 (0 + ((IntKind.i64.wrap (x3 + (1 : Int))).toNat)) 0)), (94, vi (IntKind.i64.wrap (x3 + (1 : Int)))), (93, vi x3), (92, .one (.sl ((IntKind.i64.wrap (x2 + (1 : Int))).toNat + 1) 1 0 e31.length)), (91, .one (.pt 0 1 (0 + (IntKind.i64.wrap (x2 + (1 : Int))).toNat) 0)), (90, vi (IntKind.i64.wrap (x2 + (1 : Int)))), (89, vi x2), (88, .one (.sl 0 1 0 l4.length)), (87, vb true), (86, vb (e30 == e13)), (85, vb (e30 == e13)), (84, vk .i32 e13), (83, .one (.pv (.rp ((eK .i32).els p2) x3.toNat 0))), (82, vi x3), (81, vl (eK .i32) p2), (80, vk .i32 e30), (79, .one (.pv (.rp ((eK .i32).els p1) x2.toNat 0))), (78, vi x2), (77, vl (eK .i32) p1), (76, vb true), (75, vb (decide (x2 < (p1.length : Int)))), (74, vi (p1.length : Int)), (73, vl (eK .i32) p1), (72, vi x2), (71, vi x3), (70, .one (.sl (x2.toNat + 1) 1 0 e29.length)), (69, .one (.pt 0 1 (0 + x2.toNat) 0)), (68, vi x2), (67, .one (.sl 0 1 0 l4.length)), (0, vl (eK .i32) p1), (1, vl (eK .i32) p2), (5, .one (.sl 0 1 0 l4.length)), (7, vi x2), (8, vi x3), (191, vb (e13 == (95 : Int)))] ?_ ?_
               ·refine zyp 3 [] [(69, .one (.pt 0 1 (0 + x2.toNat) 0)), (68, vi x2), (67, .one (.sl 0 1 0 l4.length)), (0, vl (eK .i32) p1), (1, vl (eK .i32) p2), (5, .one (.sl 0 1 0 l4.length)), (7, vi x2), (8, vi x3), (191, vb (e13 == (95 : Int)))] [0 ≤ x2 ∧ x2 < ((l4.length : Nat) : Int)] (⟨Enc.inb' a76, trivial⟩) (znhD eB l4 x2.toNat e29 (at2 a76) (zyv 4 [] [(74, vi (((eK .i32).els p1).length : Int)), (73, vl (eK .i32) p1), (72, vi x2), (71, vi x3), (70, .one (.sl (x2.toNat + 1) 1 0 e29.length)), (69, .one (.pt 0 1 (0 + x2.toNat) 0)), (68, vi x2), (67, .one (.sl 0 1 0 l4.length)), (0, vl (eK .i32) p1), (1, vl (eK .i32) p2), (5, .one (.sl 0 1 0 l4.length)), (7, vi x2), (8, vi x3), (191, vb (e13 == (95 : Int)))] (?_)))
                rw [(eK .i32).len p1]
                refine zyv 2 [] [(76, vb (decide (x2 < (p1.length : Int)))), (75, vb (decide (x2 < (p1.length : Int)))), (74, vi (p1.length : Int)), (73, vl (eK .i32) p1), (72, vi x2), (71, vi x3), (70, .one (.sl (x2.toNat + 1) 1 0 e29.length)), (69, .one (.pt 0 1 (0 + x2.toNat) 0)), (68, vi x2), (67, .one (.sl 0 1 0 l4.length)), (0, vl (eK .i32) p1), (1, vl (eK .i32) p2), (5, .one (.sl 0 1 0 l4.length)), (7, vi x2), (8, vi x3), (191, vb (e13 == (95 : Int)))] ?_
                refine DX.eq (fr1 := [(76, vb true), (75, vb (decide (x2 < (p1.length : Int)))), (74, vi (p1.length : Int)), (73, vl (eK .i32) p1), (72, vi x2), (71, vi x3), (70, .one (.sl (x2.toNat + 1) 1 0 e29.length)), (69, .one (.pt 0 1 (0 + x2.toNat) 0)), (68, vi x2), (67, .one (.sl 0 1 0 l4.length)), (0, vl (eK .i32) p1), (1, vl (eK .i32) p2), (5, .one (.sl 0 1 0 l4.length)), (7, vi x2), (8, vi x3), (191, vb (e13 == (95 : Int)))]) (by rw [b77]) ?_
                refine zyp 11 [[.s (.int .i32 e30)], [.s (.int .i32 e13)]] [(87, vb (e30 == e13)), (86, vb (e30 == e13)), (85, vb (e30 == e13)), (84, vk .i32 e13), (83, .one (.pv (.rp ((eK .i32).els p2) x3.toNat 0))), (82, vi x3), (81, vl (eK .i32) p2), (80, vk .i32 e30), (79, .one (.pv (.rp ((eK .i32).els p1) x2.toNat 0))), (78, vi x2), (77, vl (eK .i32) p1), (76, vb true), (75, vb (decide (x2 < (p1.length : Int)))), (74, vi (p1.length : Int)), (73, vl (eK .i32) p1), (72, vi x2), (71, vi x3), (70, .one (.sl (x2.toNat + 1) 1 0 e29.length)), (69, .one (.pt 0 1 (0 + x2.toNat) 0)), (68, vi x2), (67, .one (.sl 0 1 0 l4.length)), (0, vl (eK .i32) p1), (1, vl (eK .i32) p2), (5, .one (.sl 0 1 0 l4.length)), (7, vi x2), (8, vi x3), (191, vb (e13 == (95 : Int)))] [0 ≤ x2 ∧ x2 < (((eK .i32).els p1).length : Int) ∧ elemsOk 1 ((eK .i32).els p1), ((eK .i32).els p1)[x2.toNat]? = some [.s (.int .i32 e30)], 0 ≤ x3 ∧ x3 < (((eK .i32).els p2).length : Int) ∧ elemsOk 1 ((eK .i32).els p2), ((eK .i32).els p2)[x3.toNat]? = some [.s (.int .i32 e13)]] (⟨(eK .i32).inb a78, ((eK .i32).get a78), (eK .i32).inb a52, ((eK .i32).get a52), trivial⟩) (?_)
                refine DX.eq (fr1 := [(87, vb true), (86, vb (e30 == e13)), (85, vb (e30 == e13)), (84, vk .i32 e13), (83, .one (.pv (.rp ((eK .i32).els p2) x3.toNat 0))), (82, vi x3), (81, vl (eK .i32) p2), (80, vk .i32 e30), (79, .one (.pv (.rp ((eK .i32).els p1) x2.toNat 0))), (78, vi x2), (77, vl (eK .i32) p1), (76, vb true), (75, vb (decide (x2 < (p1.length : Int)))), (74, vi (p1.length : Int)), (73, vl (eK .i32) p1), (72, vi x2), (71, vi x3), (70, .one (.sl (x2.toNat + 1) 1 0 e29.length)), (69, .one (.pt 0 1 (0 + x2.toNat) 0)), (68, vi x2), (67, .one (.sl 0 1 0 l4.length)), (0, vl (eK .i32) p1), (1, vl (eK .i32) p2), (5, .one (.sl 0 1 0 l4.length)), (7, vi x2), (8, vi x3), (191, vb (e13 == (95 : Int)))]) (by rw [b79]) ?_
                exact zyp 4 [] [(91, .one (.pt 0 1 (0 + (IntKind.i64.wrap (x2 + (1 : Int))).toNat) 0)), (90, vi (IntKind.i64.wrap (x2 + (1 : Int)))), (89, vi x2), (88, .one (.sl 0 1 0 l4.length)), (87, vb true), (86, vb (e30 == e13)), (85, vb (e30 == e13)), (84, vk .i32 e13), (83, .one (.pv (.rp ((eK .i32).els p2) x3.toNat 0))), (82, vi x3), (81, vl (eK .i32) p2), (80, vk .i32 e30), (79, .one (.pv (.rp ((eK .i32).els p1) x2.toNat 0))), (78, vi x2), (77, vl (eK .i32) p1), (76, vb true), (75, vb (decide (x2 < (p1.length : Int)))), (74, vi (p1.length : Int)), (73, vl (eK .i32) p1), (72, vi x2), (71, vi x3), (70, .one (.sl (x2.toNat + 1) 1 0 e29.length)), (69, .one (.pt 0 1 (0 + x2.toNat) 0)), (68, vi x2), (67, .one (.sl 0 1 0 l4.length)), (0, vl (eK .i32) p1), (1, vl (eK .i32) p2), (5, .one (.sl 0 1 0 l4.length)), (7, vi x2), (8, vi x3), (191, vb (e13 == (95 : Int)))] [0 ≤ (IntKind.i64.wrap (x2 + (1 : Int))) ∧ (IntKind.i64.wrap (x2 + (1 : Int))) < ((l4.length : Nat) : Int)] (⟨Enc.inb' a80, trivial⟩) (znhD eB l4 (IntKind.i64.wrap (x2 + (1 : Int))).toNat e31 (at2 a80) (zyp 3 [] [(95, .one (.pt ((IntKind.i64.wrap (x2 + (1 : Int))).toNat + 1) 1 (0 + ((IntKind.i64.wrap (x3 + (1 : Int))).toNat)) 0)), (94, vi (IntKind.i64.wrap (x3 + (1 : Int)))), (93, vi x3), (92, .one (.sl ((IntKind.i64.wrap (x2 + (1 : Int))).toNat + 1) 1 0 e31.length)), (91, .one (.pt 0 1 (0 + (IntKind.i64.wrap (x2 + (1 : Int))).toNat) 0)), (90, vi (IntKind.i64.wrap (x2 + (1 : Int)))), (89, vi x2), (88, .one (.sl 0 1 0 l4.length)), (87, vb true), (86, vb (e30 == e13)), (85, vb (e30 == e13)), (84, vk .i32 e13), (83, .one (.pv (.rp ((eK .i32).els p2) x3.toNat 0))), (82, vi x3), (81, vl (eK .i32) p2), (80, vk .i32 e30), (79, .one (.pv (.rp ((eK .i32).els p1) x2.toNat 0))), (78, vi x2), (77, vl (eK .i32) p1), (76, vb true), (75, vb (decide (x2 < (p1.length : Int)))), (74, vi (p1.length : Int)), (73, vl (eK .i32) p1), (72, vi x2), (71, vi x3), (70, .one (.sl (x2.toNat + 1) 1 0 e29.length)), (69, .one (.pt 0 1 (0 + x2.toNat) 0)), (68, vi x2), (67, .one (.sl 0 1 0 l4.length)), (0, vl (eK .i32) p1), (1, vl (eK .i32) p2), (5, .one (.sl 0 1 0 l4.length)), (7, vi x2), (8, vi x3), (191, vb (e13 == (95 : Int)))] [0 ≤ (IntKind.i64.wrap (x3 + (1 : Int))) ∧ (IntKind.i64.wrap (x3 + (1 : Int))) < ((e31.length : Nat) : Int)] (⟨Enc.inb' a81, trivial⟩) (zneD l4 (IntKind.i64.wrap (x2 + (1 : Int))).toNat ((IntKind.i64.wrap (x3 + (1 : Int))).toNat) e31 e32 (at2 a80) (at2 a81) (zyv 1 [] [(97, vb e32), (96, vb e32), (95, .one (.pt ((IntKind.i64.wrap (x2 + (1 : Int))).toNat + 1) 1 (0 + ((IntKind.i64.wrap (x3 + (1 : Int))).toNat)) 0)), (94, vi (IntKind.i64.wrap (x3 + (1 : Int)))), (93, vi x3), (92, .one (.sl ((IntKind.i64.wrap (x2 + (1 : Int))).toNat + 1) 1 0 e31.length)), (91, .one (.pt 0 1 (0 + (IntKind.i64.wrap (x2 + (1 : Int))).toNat) 0)), (90, vi (IntKind.i64.wrap (x2 + (1 : Int)))), (89, vi x2), (88, .one (.sl 0 1 0 l4.length)), (87, vb true), (86, vb (e30 == e13)), (85, vb (e30 == e13)), (84, vk .i32 e13), (83, .one (.pv (.rp ((eK .i32).els p2) x3.toNat 0))), (82, vi x3), (81, vl (eK .i32) p2), (80, vk .i32 e30), (79, .one (.pv (.rp ((eK .i32).els p1) x2.toNat 0))), (78, vi x2), (77, vl (eK .i32) p1), (76, vb true), (75, vb (decide (x2 < (p1.length : Int)))), (74, vi (p1.length : Int)), (73, vl (eK .i32) p1), (72, vi x2), (71, vi x3), (70, .one (.sl (x2.toNat + 1) 1 0 e29.length)), (69, .one (.pt 0 1 (0 + x2.toNat) 0)), (68, vi x2), (67, .one (.sl 0 1 0 l4.length)), (0, vl (eK .i32) p1), (1, vl (eK .i32) p2), (5, .one (.sl 0 1 0 l4.length)), (7, vi x2), (8, vi x3), (191, vb (e13 == (95 : Int)))] (zyd)))))
               refine zo [] 1 [0,1,5,7,8,97,98] [] [0 ≤ x3 ∧ x3 < ((e29.length : Nat) : Int)] (⟨Enc.inb' a82, trivial⟩) (zns l4 x2.toNat x3.toNat e29 e32 e33 (at2 a76) (at2 a82) (zd ?_))
               exact hJ4 (l4.set x2.toNat (e29.set x3.toNat e32)) h _ _ (Sub.trans (Sub.pick (fr' := [(0, vl (eK .i32) p1), (1, vl (eK .i32) p2), (5, .one (.sl 0 1 0 l4.length)), (7, vi x2), (8, vi x3)]) [0,1,5,7,8] (by kernel_rfl)) (Sub.frame (fr' := [(0, vl (eK .i32) p1), (1, vl (eK .i32) p2), (5, .one (.sl 0 1 0 (l4.set x2.toNat (e29.set x3.toNat e32)).length)), (7, vi x2), (8, vi x3)]) ⟨.rfl _, .rfl _, ALe.of_eq (show (.one (.sl 0 1 0 l4.length) : AV) = .one (.sl 0 1 0 (l4.set x2.toNat (e29.set x3.toNat e32)).length) from by simp), .rfl _, .rfl _, trivial⟩))
              ·obtain ⟨e34, a83, h⟩ := zB h
               refine zw 31 [(97, vb false), (96, .tp []), (95, .tp []), (94, .tp []), (93, .tp []), (92, .tp []), (91, .tp []), (90, .tp []), (89, .tp []), (88, .tp []), (87, vb false), (86, vb (e30 == e13)), (85, vb (e30 == e13)), (84, vk .i32 e13), (83, .one (.pv (.rp ((eK .i32).els p2) x3.toNat 0))), (82, vi x3), (81, vl (eK .i32) p2), (80, vk .i32 e30), (79, .one (.pv (.rp ((eK .i32).els p1) x2.toNat 0))), (78, vi x2), (77, vl (eK .i32) p1), (76, vb true), (75, vb (decide (x2 < (p1.length : Int)))), (74, vi (p1.length : Int)), (73, vl (eK .i32) p1), (72, vi x2), (71, vi x3), (70, .one (.sl (x2.toNat + 1) 1 0 e29.length)), (69, .one (.pt 0 1 (0 + x2.toNat) 0)), (68, vi x2), (67, .one (.sl 0 1 0 l4.length)), (0, vl (eK .i32) p1), (1, vl (eK .i32) p2), (5, .one (.sl 0 1 0 l4.length)), (7, vi x2), (8, vi x3), (191, vb (e13 == (95 : Int)))] ?_ ?_
               ·refine zyp 3 [] [(69, .one (.pt 0 1 (0 + x2.toNat) 0)), (68, vi x2), (67, .one (.sl 0 1 0 l4.length)), (0, vl (eK .i32) p1), (1, vl (eK .i32) p2), (5, .one (.sl 0 1 0 l4.length)), (7, vi x2), (8, vi x3), (191, vb (e13 == (95 : Int)))] [0 ≤ x2 ∧ x2 < ((l4.length : Nat) : Int)] (⟨Enc.inb' a76, trivial⟩) (znhD eB l4 x2.toNat e29 (at2 a76) (zyv 4 [] [(74, vi (((eK .i32).els p1).length : Int)), (73, vl (eK .i32) p1), (72, vi x2), (71, vi x3), (70, .one (.sl (x2.toNat + 1) 1 0 e29.length)), (69, .one (.pt 0 1 (0 + x2.toNat) 0)), (68, vi x2), (67, .one (.sl 0 1 0 l4.length)), (0, vl (eK .i32) p1), (1, vl (eK .i32) p2), (5, .one (.sl 0 1 0 l4.length)), (7, vi x2), (8, vi x3), (191, vb (e13 == (95 : Int)))] (?_)))
                rw [(eK .i32).len p1]
                refine zyv 2 [] [(76, vb (decide (x2 < (p1.length : Int)))), (75, vb (decide (x2 < (p1.length : Int)))), (74, vi (p1.length : Int)), (73, vl (eK .i32) p1), (72, vi x2), (71, vi x3), (70, .one (.sl (x2.toNat + 1) 1 0 e29.length)), (69, .one (.pt 0 1 (0 + x2.toNat) 0)), (68, vi x2), (67, .one (.sl 0 1 0 l4.length)), (0, vl (eK .i32) p1), (1, vl (eK .i32) p2), (5, .one (.sl 0 1 0 l4.length)), (7, vi x2), (8, vi x3), (191, vb (e13 == (95 : Int)))] ?_
                refine DX.eq (fr1 := [(76, vb true), (75, vb (decide (x2 < (p1.length : Int)))), (74, vi (p1.length : Int)), (73, vl (eK .i32) p1), (72, vi x2), (71, vi x3), (70, .one (.sl (x2.toNat + 1) 1 0 e29.length)), (69, .one (.pt 0 1 (0 + x2.toNat) 0)), (68, vi x2), (67, .one (.sl 0 1 0 l4.length)), (0, vl (eK .i32) p1), (1, vl (eK .i32) p2), (5, .one (.sl 0 1 0 l4.length)), (7, vi x2), (8, vi x3), (191, vb (e13 == (95 : Int)))]) (by rw [b77]) ?_
                refine zyp 11 [[.s (.int .i32 e30)], [.s (.int .i32 e13)]] [(87, vb (e30 == e13)), (86, vb (e30 == e13)), (85, vb (e30 == e13)), (84, vk .i32 e13), (83, .one (.pv (.rp ((eK .i32).els p2) x3.toNat 0))), (82, vi x3), (81, vl (eK .i32) p2), (80, vk .i32 e30), (79, .one (.pv (.rp ((eK .i32).els p1) x2.toNat 0))), (78, vi x2), (77, vl (eK .i32) p1), (76, vb true), (75, vb (decide (x2 < (p1.length : Int)))), (74, vi (p1.length : Int)), (73, vl (eK .i32) p1), (72, vi x2), (71, vi x3), (70, .one (.sl (x2.toNat + 1) 1 0 e29.length)), (69, .one (.pt 0 1 (0 + x2.toNat) 0)), (68, vi x2), (67, .one (.sl 0 1 0 l4.length)), (0, vl (eK .i32) p1), (1, vl (eK .i32) p2), (5, .one (.sl 0 1 0 l4.length)), (7, vi x2), (8, vi x3), (191, vb (e13 == (95 : Int)))] [0 ≤ x2 ∧ x2 < (((eK .i32).els p1).length : Int) ∧ elemsOk 1 ((eK .i32).els p1), ((eK .i32).els p1)[x2.toNat]? = some [.s (.int .i32 e30)], 0 ≤ x3 ∧ x3 < (((eK .i32).els p2).length : Int) ∧ elemsOk 1 ((eK .i32).els p2), ((eK .i32).els p2)[x3.toNat]? = some [.s (.int .i32 e13)]] (⟨(eK .i32).inb a78, ((eK .i32).get a78), (eK .i32).inb a52, ((eK .i32).get a52), trivial⟩) (?_)
                refine DX.eq (fr1 := [(87, vb false), (86, vb (e30 == e13)), (85, vb (e30 == e13)), (84, vk .i32 e13), (83, .one (.pv (.rp ((eK .i32).els p2) x3.toNat 0))), (82, vi x3), (81, vl (eK .i32) p2), (80, vk .i32 e30), (79, .one (.pv (.rp ((eK .i32).els p1) x2.toNat 0))), (78, vi x2), (77, vl (eK .i32) p1), (76, vb true), (75, vb (decide (x2 < (p1.length : Int)))), (74, vi (p1.length : Int)), (73, vl (eK .i32) p1), (72, vi x2), (71, vi x3), (70, .one (.sl (x2.toNat + 1) 1 0 e29.length)), (69, .one (.pt 0 1 (0 + x2.toNat) 0)), (68, vi x2), (67, .one (.sl 0 1 0 l4.length)), (0, vl (eK .i32) p1), (1, vl (eK .i32) p2), (5, .one (.sl 0 1 0 l4.length)), (7, vi x2), (8, vi x3), (191, vb (e13 == (95 : Int)))]) (by rw [b79]) ?_
                exact zyg 10 zyd
               refine zo [] 1 [0,1,5,7,8,97,98] [] [0 ≤ x3 ∧ x3 < ((e29.length : Nat) : Int)] (⟨Enc.inb' a83, trivial⟩) (zns l4 x2.toNat x3.toNat e29 false e34 (at2 a76) (at2 a83) (zd ?_))
               exact hJ4 (l4.set x2.toNat (e29.set x3.toNat false)) h _ _ (Sub.trans (Sub.pick (fr' := [(0, vl (eK .i32) p1), (1, vl (eK .i32) p2), (5, .one (.sl 0 1 0 l4.length)), (7, vi x2), (8, vi x3)]) [0,1,5,7,8] (by kernel_rfl)) (Sub.frame (fr' := [(0, vl (eK .i32) p1), (1, vl (eK .i32) p2), (5, .one (.sl 0 1 0 (l4.set x2.toNat (e29.set x3.toNat false)).length)), (7, vi x2), (8, vi x3)]) ⟨.rfl _, .rfl _, ALe.of_eq (show (.one (.sl 0 1 0 l4.length) : AV) = .one (.sl 0 1 0 (l4.set x2.toNat (e29.set x3.toNat false)).length) from by simp), .rfl _, .rfl _, trivial⟩))
             ·obtain ⟨e35, a84, h⟩ := zB h
              refine zw 31 [(97, vb false), (96, .tp []), (95, .tp []), (94, .tp []), (93, .tp []), (92, .tp []), (91, .tp []), (90, .tp []), (89, .tp []), (88, .tp []), (87, vb false), (86, vb false), (85, .tp []), (84, .tp []), (83, .tp []), (82, .tp []), (81, .tp []), (80, .tp []), (79, .tp []), (78, .tp []), (77, .tp []), (76, vb false), (75, vb (decide (x2 < (p1.length : Int)))), (74, vi (p1.length : Int)), (73, vl (eK .i32) p1), (72, vi x2), (71, vi x3), (70, .one (.sl (x2.toNat + 1) 1 0 e29.length)), (69, .one (.pt 0 1 (0 + x2.toNat) 0)), (68, vi x2), (67, .one (.sl 0 1 0 l4.length)), (0, vl (eK .i32) p1), (1, vl (eK .i32) p2), (5, .one (.sl 0 1 0 l4.length)), (7, vi x2), (8, vi x3), (191, vb (e13 == (95 : Int)))] ?_ ?_
              ·refine zyp 3 [] [(69, .one (.pt 0 1 (0 + x2.toNat) 0)), (68, vi x2), (67, .one (.sl 0 1 0 l4.length)), (0, vl (eK .i32) p1), (1, vl (eK .i32) p2), (5, .one (.sl 0 1 0 l4.length)), (7, vi x2), (8, vi x3), (191, vb (e13 == (95 : Int)))] [0 ≤ x2 ∧ x2 < ((l4.length : Nat) : Int)] (⟨Enc.inb' a76, trivial⟩) (znhD eB l4 x2.toNat e29 (at2 a76) (zyv 4 [] [(74, vi (((eK .i32).els p1).length : Int)), (73, vl (eK .i32) p1), (72, vi x2), (71, vi x3), (70, .one (.sl (x2.toNat + 1) 1 0 e29.length)), (69, .one (.pt 0 1 (0 + x2.toNat) 0)), (68, vi x2), (67, .one (.sl 0 1 0 l4.length)), (0, vl (eK .i32) p1), (1, vl (eK .i32) p2), (5, .one (.sl 0 1 0 l4.length)), (7, vi x2), (8, vi x3), (191, vb (e13 == (95 : Int)))] (?_)))
               rw [(eK .i32).len p1]
               refine zyv 2 [] [(76, vb (decide (x2 < (p1.length : Int)))), (75, vb (decide (x2 < (p1.length : Int)))), (74, vi (p1.length : Int)), (73, vl (eK .i32) p1), (72, vi x2), (71, vi x3), (70, .one (.sl (x2.toNat + 1) 1 0 e29.length)), (69, .one (.pt 0 1 (0 + x2.toNat) 0)), (68, vi x2), (67, .one (.sl 0 1 0 l4.length)), (0, vl (eK .i32) p1), (1, vl (eK .i32) p2), (5, .one (.sl 0 1 0 l4.length)), (7, vi x2), (8, vi x3), (191, vb (e13 == (95 : Int)))] ?_
               exact DX.eq (fr1 := [(76, vb false), (75, vb (decide (x2 < (p1.length : Int)))), (74, vi (p1.length : Int)), (73, vl (eK .i32) p1), (72, vi x2), (71, vi x3), (70, .one (.sl (x2.toNat + 1) 1 0 e29.length)), (69, .one (.pt 0 1 (0 + x2.toNat) 0)), (68, vi x2), (67, .one (.sl 0 1 0 l4.length)), (0, vl (eK .i32) p1), (1, vl (eK .i32) p2), (5, .one (.sl 0 1 0 l4.length)), (7, vi x2), (8, vi x3), (191, vb (e13 == (95 : Int)))]) (by rw [b77]) (zyg 21 zyd)
              refine zo [] 1 [0,1,5,7,8,97,98] [] [0 ≤ x3 ∧ x3 < ((e29.length : Nat) : Int)] (⟨Enc.inb' a84, trivial⟩) (zns l4 x2.toNat x3.toNat e29 false e35 (at2 a76) (at2 a84) (zd ?_))
              exact hJ4 (l4.set x2.toNat (e29.set x3.toNat false)) h _ _ (Sub.trans (Sub.pick (fr' := [(0, vl (eK .i32) p1), (1, vl (eK .i32) p2), (5, .one (.sl 0 1 0 l4.length)), (7, vi x2), (8, vi x3)]) [0,1,5,7,8] (by kernel_rfl)) (Sub.frame (fr' := [(0, vl (eK .i32) p1), (1, vl (eK .i32) p2), (5, .one (.sl 0 1 0 (l4.set x2.toNat (e29.set x3.toNat false)).length)), (7, vi x2), (8, vi x3)]) ⟨.rfl _, .rfl _, ALe.of_eq (show (.one (.sl 0 1 0 l4.length) : AV) = .one (.sl 0 1 0 (l4.set x2.toNat (e29.set x3.toNat false)).length) from by simp), .rfl _, .rfl _, trivial⟩))
        refine zq fun K32 hK32 => zr (zv [] 3 [0,1,5,7,8,9,10] [] [(0, vl (eK .i32) p1), (1, vl (eK .i32) p2), (5, .one (.sl 0 1 0 l4.length)), (7, vi x2), (8, vi x3), (9, vi (0 : Int)), (10, vi (IntKind.i64.wrap (x3 - (1 : Int))))] (nsb eB l4) (zd (hK32 _ _ (zb 6 (XW.rounds' BIG (x := cd Tryd.f25 [1,1,1,0,1,0,0,1,0,0,1,1,0,0,1,0,0,1,0,1,0,0]) (by kernel_rfl) fun Q4 hQ4 => ?_)))))
        have hL4 : ∀ (k4 : Nat) (x4 : Int) (x5 : Int), ref1_like_l4 (ref1_like_l3 (ref1_like_l2 p1 p2 k2) p1 p2 x2 k3) p1 p2 x2 l4 x3 k4 x4 x5 = some r → XR Tryd.prog 223 0 [] (cd Tryd.f25 [1,1,1,0,1,0,0,1,0,0,1,1,0,0,1,0,0,1,0,1,0,0]) Q4 k4 [(0, vl (eK .i32) p1), (1, vl (eK .i32) p2), (5, .one (.sl 0 1 0 l4.length)), (7, vi x2), (8, vi x3), (9, vi x4), (10, vi x5)] (nsb eB l4) := by
         intro k4
         induction k4 with
         | zero => intro x4 x5 h; rw [ref1_like_l4.eq_1] at h; cases h
         | succ k4 ih4 =>
          intro x4 x5 h
          rw [ref1_like_l4.eq_2] at h
          refine zq fun K33 hK33 => zq fun K34 hK34 => ?_
          have hJ2 : ∀ (x6 : Bool), ref1_like_j2 (ref1_like_l3 (ref1_like_l2 p1 p2 k2) p1 p2 x2 k3) (ref1_like_l4 (ref1_like_l3 (ref1_like_l2 p1 p2 k2) p1 p2 x2 k3) p1 p2 x2 l4 x3 k4) p1 p2 x2 l4 x3 x4 x5 x6 = some r → ∀ fr1 st1, Sub 223 0 [] fr1 st1 [(0, vl (eK .i32) p1), (1, vl (eK .i32) p2), (5, .one (.sl 0 1 0 l4.length)), (7, vi x2), (8, vi x3), (9, vi x4), (10, vi x5), (62, vb x6)] (nsb eB l4) → K34 fr1 st1 := by
           intro x6 h fr1 st1 hS
           unfold ref1_like_j2 at h
           refine hK34 _ _ (XW.sub hS ?_)
           refine zC h (fun b37 h => ?_) (fun b37 h => ?_)
           ·refine zs (hK33 _ _ (zq fun K38 hK38 => zb 7 (zr (zg [] 3 [0,1,5,7,8,9,10] (zd (hK38 _ _ ?_))))))
            exact zr (zg [] 3 [0,1,5,7,8,9,10] (zd (XR.sub (zk [0,1,5,7,8,9,10]) (ih4 (IntKind.i64.wrap (x4 + (1 : Int))) (IntKind.i64.wrap (x5 - (1 : Int))) h))))
           ·exact zx 6 (hQ4 _ _ _ (hJ3 x4 h _ _ (zk [0,1,5,7,8,9])))
          rcases zW h with ⟨b35, h⟩ | ⟨b35, h⟩
          ·obtain ⟨e4, a36, h⟩ := zB h
           exact zr (zg [] 3 [0,1,5,7,8,9,10,56] (zt 56 b35 (zo [] 6 [0,1,5,7,8,9,10,62] [[.s (.int .i32 e4)]] [0 ≤ x5 ∧ x5 < (((eK .i32).els p2).length : Int) ∧ elemsOk 1 ((eK .i32).els p2), ((eK .i32).els p2)[x5.toNat]? = some [.s (.int .i32 e4)]] (⟨(eK .i32).inb a36, ((eK .i32).get a36), trivial⟩) (zd (hJ2 (e4 == (92 : Int)) h _ _ (zk [0,1,5,7,8,9,10,62]))))))
          ·exact zr (zv [] 3 [0,1,5,7,8,9,10,56] [] [(0, vl (eK .i32) p1), (1, vl (eK .i32) p2), (5, .one (.sl 0 1 0 l4.length)), (7, vi x2), (8, vi x3), (9, vi x4), (10, vi x5), (56, vb (decide ((0 : Int) ≤ x5)))] (nsb eB l4) (zt 56 b35 (zg [] 6 [0,1,5,7,8,9,10,62] (zd (hJ2 false h _ _ (zk [0,1,5,7,8,9,10,62]))))))
        exact XR.sub (zk [0,1,5,7,8,9,10]) (hL4 BIG (0 : Int) (IntKind.i64.wrap (x3 - (1 : Int))) h)
       ·exact zx 4 (hQ3 _ _ _ (hJ5 l4 h _ _ (zk [0,1,5,7])))
     exact XR.sub (Sub.trans (Sub.pick (fr' := [(0, vl (eK .i32) p1), (1, vl (eK .i32) p2), (5, .one (.sl 0 1 0 l3.length)), (7, vi x2), (8, vi (IntKind.i64.wrap ((p2.length : Int) - (1 : Int))))]) [0,1,5,7,8] (by kernel_rfl)) (Sub.frame (fr' := [(0, vl (eK .i32) p1), (1, vl (eK .i32) p2), (5, .one (.sl 0 1 0 (l3.set x2.toNat (e2.set (p2.length : Int).toNat (x2 == (p1.length : Int)))).length)), (7, vi x2), (8, vi (IntKind.i64.wrap ((p2.length : Int) - (1 : Int))))]) ⟨.rfl _, .rfl _, ALe.of_eq (show (.one (.sl 0 1 0 l3.length) : AV) = .one (.sl 0 1 0 (l3.set x2.toNat (e2.set (p2.length : Int).toNat (x2 == (p1.length : Int)))).length) from by simp), .rfl _, .rfl _, trivial⟩)) (hL3 BIG (l3.set x2.toNat (e2.set (p2.length : Int).toNat (x2 == (p1.length : Int)))) (IntKind.i64.wrap ((p2.length : Int) - (1 : Int))) h)
    ·exact zx 2 (hQ2 _ _ _ (hJ6 l3 h _ _ (zk [5])))
  exact XR.sub (zk [0,1,5,7]) (hL2 BIG l2 (p1.length : Int) h)
 refine zq fun K6 hK6 => ?_
 obtain ⟨y1, hy7, h⟩ := zB h
 refine zr (zv [] 2 [0,1,5,16] [] [(0, vl (eK .i32) p1), (1, vl (eK .i32) p2), (5, .one (.sl 0 1 0 ((IntKind.i64.wrap ((p1.length : Int) + (1 : Int))).toNat))), (16, vi (((IntKind.i64.wrap ((p1.length : Int) + (1 : Int))).toNat : Nat) : Int))] (nsb eB (List.replicate (IntKind.i64.wrap ((p1.length : Int) + (1 : Int))).toNat [])) ?_)
 rw [show (((IntKind.i64.wrap ((p1.length : Int) + (1 : Int))).toNat : Nat) : Int) = y1 from Option.some.inj hy7]
 refine zg [] 1 [0,1,5,16,17] (zd (hK6 _ _ (zb 0 (XW.rounds' BIG (x := cd Tryd.f25 [1,1,0,1,0,0]) (by kernel_rfl) fun Q1 hQ1 => ?_))))
 have hL1 : ∀ (k1 : Nat) (l1 : List (List Bool)) (x1 : Int), ref1_like_l1 p1 p2 y1 k1 l1 x1 = some r → XR Tryd.prog 223 0 [] (cd Tryd.f25 [1,1,0,1,0,0]) Q1 k1 [(0, vl (eK .i32) p1), (1, vl (eK .i32) p2), (5, .one (.sl 0 1 0 l1.length)), (16, vi y1), (17, vi x1)] (nsb eB l1) := by
  intro k1
  induction k1 with
  | zero => intro l1 x1 h; rw [ref1_like_l1.eq_1] at h; cases h
  | succ k1 ih1 =>
   intro l1 x1 h
   rw [ref1_like_l1.eq_2] at h
   refine zq fun K8 hK8 => zr (zg [] 1 [0,1,5,16,17,18] (zd (hK8 _ _ (zq fun K9 hK9 => zC h (fun b10 h => ?_) (fun b10 h => ?_)))))
   ·refine zs (hK9 _ _ (zq fun K11 hK11 => zb 1 (zq fun K12 hK12 => zr (zg [] 2 [0,1,5,6,16,17] (zd ?_)))))
    refine hK12 _ _ ?_
    obtain ⟨g14, h⟩ := zG h
    obtain ⟨e1, a15, h⟩ := zB h
    refine zr (zv [] 4 [0,1,5,16,17,20,21,23] [] [(0, vl (eK .i32) p1), (1, vl (eK .i32) p2), (5, .one (.sl 0 1 0 l1.length)), (16, vi y1), (17, vi x1), (20, .one (.sl 0 1 0 l1.length)), (21, vi x1), (23, vi (((eK .i32).els p2).length : Int))] (nsb eB l1) ?_)
    rw [(eK .i32).len p2]
    refine zg [] 1 [0,1,5,16,17,20,21,24] (znk l1 x1.toNat e1 (IntKind.i64.wrap ((p2.length : Int) + (1 : Int))) [(25, .one (.sl (x1.toNat + 1) 1 0 ((IntKind.i64.wrap ((p2.length : Int) + (1 : Int))).toNat))), (0, vl (eK .i32) p1), (1, vl (eK .i32) p2), (5, .one (.sl 0 1 0 l1.length)), (16, vi y1), (17, vi x1), (20, .one (.sl 0 1 0 l1.length)), (21, vi x1), (24, vi (IntKind.i64.wrap ((p2.length : Int) + (1 : Int))))] [(0, vl (eK .i32) p1), (1, vl (eK .i32) p2), (5, .one (.sl 0 1 0 l1.length)), (16, vi y1), (17, vi x1), (25, .one (.sl (x1.toNat + 1) 1 0 ((IntKind.i64.wrap ((p2.length : Int) + (1 : Int))).toNat))), (26, .one (.pt 0 1 (0 + x1.toNat) 0))] [(0, vl (eK .i32) p1), (1, vl (eK .i32) p2), (5, .one (.sl 0 1 0 l1.length)), (16, vi y1), (17, vi x1), (25, .j), (26, .one (.pt 0 1 (0 + x1.toNat) 0))] g14.1 g14.2.2 (at2 a15) (fun st' h => zp [] 1 [0,1,5,16,17,25,26] [] [(0, vl (eK .i32) p1), (1, vl (eK .i32) p2), (5, .one (.sl 0 1 0 l1.length)), (16, vi y1), (17, vi x1), (25, .one (.sl (x1.toNat + 1) 1 0 ((IntKind.i64.wrap ((p2.length : Int) + (1 : Int))).toNat))), (26, .one (.pt 0 1 (0 + x1.toNat) 0))] st' [0 ≤ x1 ∧ x1 < ((l1.length : Nat) : Int)] (⟨Enc.inb' a15, trivial⟩) h) ?_)
    refine zd (hK11 _ _ (zr (zg [] 2 [0,1,5,16,17] (zd ?_))))
    exact XR.sub (Sub.trans (Sub.pick (fr' := [(0, vl (eK .i32) p1), (1, vl (eK .i32) p2), (5, .one (.sl 0 1 0 l1.length)), (16, vi y1), (17, vi (IntKind.i64.wrap (x1 + (1 : Int))))]) [0,1,5,16,17] (by kernel_rfl)) (Sub.frame (fr' := [(0, vl (eK .i32) p1), (1, vl (eK .i32) p2), (5, .one (.sl 0 1 0 (l1.set x1.toNat (List.replicate (IntKind.i64.wrap ((p2.length : Int) + (1 : Int))).toNat false)).length)), (16, vi y1), (17, vi (IntKind.i64.wrap (x1 + (1 : Int))))]) ⟨.rfl _, .rfl _, ALe.of_eq (show (.one (.sl 0 1 0 l1.length) : AV) = .one (.sl 0 1 0 (l1.set x1.toNat (List.replicate (IntKind.i64.wrap ((p2.length : Int) + (1 : Int))).toNat false)).length) from by simp), .rfl _, .rfl _, trivial⟩)) (ih1 (l1.set x1.toNat (List.replicate (IntKind.i64.wrap ((p2.length : Int) + (1 : Int))).toNat false)) (IntKind.i64.wrap (x1 + (1 : Int))) h)
   ·exact zx 0 (hQ1 _ _ _ (hJ1 l1 h _ _ (zk [0,1,5])))
 exact XR.sub (Sub.trans (Sub.pick (fr' := [(0, vl (eK .i32) p1), (1, vl (eK .i32) p2), (5, .one (.sl 0 1 0 ((IntKind.i64.wrap ((p1.length : Int) + (1 : Int))).toNat))), (16, vi y1), (17, vi (0 : Int))]) [0,1,5,16,17] (by kernel_rfl)) (Sub.frame (fr' := [(0, vl (eK .i32) p1), (1, vl (eK .i32) p2), (5, .one (.sl 0 1 0 (List.replicate (IntKind.i64.wrap ((p1.length : Int) + (1 : Int))).toNat []).length)), (16, vi y1), (17, vi (0 : Int))]) ⟨.rfl _, .rfl _, ALe.of_eq (show (.one (.sl 0 1 0 ((IntKind.i64.wrap ((p1.length : Int) + (1 : Int))).toNat)) : AV) = .one (.sl 0 1 0 (List.replicate (IntKind.i64.wrap ((p1.length : Int) + (1 : Int))).toNat []).length) from by simp), .rfl _, .rfl _, trivial⟩)) (hL1 BIG (List.replicate (IntKind.i64.wrap ((p1.length : Int) + (1 : Int))).toNat []) (0 : Int) h)



def ref1_Like_j4 (z1 : Int) : Option GValue :=
    some (GValue.mk (1 : Int) z1 (0 : Int) ByteArray.empty [])

def ref1_Like_j3 (p1 : GValue) (p2 : GValue) (x4 : Int) : Option GValue :=
    ift ((x4.tmod (2 : Int)) == (1 : Int))
      (some (GValue.mk (0 : Int) (0 : Int) (0 : Int) ByteArray.empty []))
      (bnd (ref1_runes p1.s) fun r3 =>
       bnd (ref1_runes p2.s) fun r4 =>
       bnd (ref1_like r3 r4) fun r5 =>
       ift r5
         (ref1_Like_j4 (1 : Int))
         (ref1_Like_j4 (0 : Int)))

def ref1_Like_j2 (rec1 : Int → Option GValue) (p1 : GValue) (p2 : GValue) (x2 : Int) (x3 : Bool) : Option GValue :=
    ift x3
      (rec1 (IntKind.i64.wrap (x2 + (1 : Int))))
      (ref1_Like_j3 p1 p2 x2)

def ref1_Like_l1 (p1 : GValue) (p2 : GValue) : Nat → Int → Option GValue
  | 0, _ => none
  | k1 + 1, x2 =>
    ift (decide (x2 < (p2.s.size : Int)))
      (bnd (some (IntKind.i64.wrap ((IntKind.i64.wrap ((p2.s.size : Int) - (1 : Int))) - x2))) fun y1 =>
       grd (0 ≤ y1 ∧ y1 < (p2.s.size : Int)) <|
       ref1_Like_j2 (ref1_Like_l1 p1 p2 k1) p1 p2 x2 (((p2.s.data.toList.getD y1.toNat 0).toNat : Int) == (92 : Int)))
      (ref1_Like_j2 (ref1_Like_l1 p1 p2 k1) p1 p2 x2 false)

def ref1_Like_j1 (p1 : GValue) (p2 : GValue) (x1 : Bool) : Option GValue :=
    ift x1
      (some (GValue.mk (0 : Int) (0 : Int) (0 : Int) ByteArray.empty []))
      (ref1_Like_l1 p1 p2 BIG (0 : Int))

def ref1_Like (p1 : GValue) (p2 : GValue) : Option GValue :=
    ift (p1.kind != (4 : Int))
      (ref1_Like_j1 p1 p2 true)
      (ift (p2.kind != (4 : Int))
         (ref1_Like_j1 p1 p2 true)
         (bnd (ref1_Sound p1) fun r1 =>
          ift (!r1)
            (ref1_Like_j1 p1 p2 true)
            (bnd (ref1_Sound p2) fun r2 =>
             ref1_Like_j1 p1 p2 (!r2))))

abbrev qa741 (p1 : GValue) : List CV := [ci p1.kind, ci p1.n, ci p1.scale, cst p1.s, cl eValue p1.items]
abbrev qa744 (p1 : GValue) : List PV := [pi p1.kind, pi p1.n, pi p1.scale, .s (.string p1.s), .ro (eValue.els p1.items)]
abbrev qa745 (p2 : GValue) : List PV := [pi p2.kind, pi p2.n, pi p2.scale, .s (.string p2.s), .ro (eValue.els p2.items)]
abbrev qa746 : List CV := [ci (0 : Int), ci (0 : Int), ci (0 : Int), cst ByteArray.empty, .pv (.s (.slice none 0 0))]
abbrev qa749 (z1 : Int) : List CV := [ci (1 : Int), ci z1, ci (0 : Int), cst ByteArray.empty, .pv (.s (.slice none 0 0))]
abbrev qa752 : St := [.box qa746]
abbrev qa757 (p1 : GValue) (p2 : GValue) (r3 : (List Int)) : Fr := [(54, vs p2.s), (53, .one (.pv (.rp [(qa745 p2)] 0 3))), (52, vl (eK .i32) r3), (51, vs p1.s), (50, .one (.pv (.rp [(qa744 p1)] 0 3))), (2, .one (.pv (.rp [(qa744 p1)] 0 0))), (3, .one (.pv (.rp [(qa745 p2)] 0 0))), (4, .one (.pt 0 0 0 0)), (6, .one (.pt 1 0 0 0))]
abbrev qa762 (p1 : GValue) (p2 : GValue) : Fr := [(2, .one (.pv (.rp [(qa744 p1)] 0 0))), (3, .one (.pv (.rp [(qa745 p2)] 0 0))), (4, .one (.pt 0 0 0 0)), (24, vb true)]
abbrev qa763 (p1 : GValue) (p2 : GValue) : Fr := [(2, .one (.pv (.rp [(qa744 p1)] 0 0))), (3, .one (.pv (.rp [(qa745 p2)] 0 0))), (4, .one (.pt 0 0 0 0)), (15, vb false), (16, .ag (qa741 p1))]

theorem c_ref1_Like (p1 : GValue) (p2 : GValue) (r : GValue) (h : ref1_Like p1 p2 = some r) : PC Tryd.prog 8 [.ag (qa741 p1), .ag [ci p2.kind, ci p2.n, ci p2.scale, cst p2.s, cl eValue p2.items]] (.ag [ci r.kind, ci r.n, ci r.scale, cst r.s, cl eValue r.items]) := by
 unfold ref1_Like at h
 refine zF 59 Tryd.f8 (zq fun K1 hK1 => zr (zg [4, 6] 3 [2,3,4] (zd (hK1 _ _ (zq fun K2 hK2 => zq fun K3 hK3 => ?_)))))
 have hJ1 : ∀ (x1 : Bool), ref1_Like_j1 p1 p2 x1 = some r → ∀ fr1 st1, Sub 59 0 [] fr1 st1 [(2, .one (.pv (.rp [(qa744 p1)] 0 0))), (3, .one (.pv (.rp [(qa745 p2)] 0 0))), (4, .one (.pt 0 0 0 0)), (24, vb x1)] qa752 → K3 fr1 st1 := by
  intro x1 h fr1 st1 hS
  unfold ref1_Like_j1 at h
  refine hK3 _ _ (XW.sub hS ?_)
  refine zC h (fun b9 h => ?_) (fun b9 h => ?_)
  ·refine zq fun K10 hK10 => zr (zg [4, 6] 2 [4] (zd (hK10 _ _ (ze ?_))))
   obtain rfl := Option.some.inj h
   exact zf [.ag qa746] (.ag (.cons (.rfl _ rfl) (.cons (.rfl _ rfl) (.cons (.rfl _ rfl) (.cons (.rfl _ rfl) (.cons (.nl) .nil))))))
  ·refine zs (hK2 _ _ (zq fun K11 hK11 => zr (zg [4, 6] 1 [2,3,4,5] (zd (hK11 _ _ (zq fun K12 hK12 => ?_))))))
   have hJ3 : ∀ (x4 : Int), ref1_Like_j3 p1 p2 x4 = some r → ∀ fr1 st1, Sub 59 0 [] fr1 st1 [(2, .one (.pv (.rp [(qa744 p1)] 0 0))), (3, .one (.pv (.rp [(qa745 p2)] 0 0))), (4, .one (.pt 0 0 0 0)), (5, vi x4)] qa752 → K12 fr1 st1 := by
    intro x4 h fr1 st1 hS
    unfold ref1_Like_j3 at h
    refine hK12 _ _ (XW.sub hS ?_)
    refine zq fun K19 hK19 => zq fun K20 hK20 => zr (zo [4, 6] 3 [2,3,4,47] [] [(2 : Int) ≠ 0] (⟨by decide, trivial⟩) (zd (hK20 _ _ (zC h (fun b21 h => ?_) (fun b21 h => ?_)))))
    ·refine zq fun K22 hK22 => zr (zg [4, 6] 2 [4] (zd (hK22 _ _ (ze ?_))))
     obtain rfl := Option.some.inj h
     exact zf [.ag qa746] (.ag (.cons (.rfl _ rfl) (.cons (.rfl _ rfl) (.cons (.rfl _ rfl) (.cons (.rfl _ rfl) (.cons (.nl) .nil))))))
    ·refine zs (hK19 _ _ (zq fun K23 hK23 => zr (zv [4, 6] 3 [2,3,4,6] [] [(2, .one (.pv (.rp [(qa744 p1)] 0 0))), (3, .one (.pv (.rp [(qa745 p2)] 0 0))), (4, .one (.pt 0 0 0 0)), (6, .one (.pt 1 0 0 0))] [.box qa746, .box [ci (1 : Int), ci (0 : Int), ci (0 : Int), cst ByteArray.empty, .pv (.s (.slice none 0 0))]] (zd (hK23 _ _ (zq fun K24 hK24 => ?_))))))
     have hJ4 : ∀ (z1 : Int), ref1_Like_j4 z1 = some r → ∀ fr1 st1, Sub 59 0 [] fr1 st1 [(4, .one (.pt 0 0 0 0)), (6, .one (.pt 1 0 0 0))] [.box qa746, .box (qa749 z1)] → K24 fr1 st1 := by
      intro z1 h fr1 st1 hS
      unfold ref1_Like_j4 at h
      refine hK24 _ _ (XW.sub hS ?_)
      refine zq fun K30 hK30 => zr (zg [4, 6] 2 [4] (zd (hK30 _ _ (ze ?_))))
      obtain rfl := Option.some.inj h
      exact zf [.ag (qa749 z1)] (.ag (.cons (.rfl _ rfl) (.cons (.rfl _ rfl) (.cons (.rfl _ rfl) (.cons (.rfl _ rfl) (.cons (.nl) .nil))))))
     refine zq fun K25 hK25 => ?_
     obtain ⟨r3, c26, h⟩ := zB h
     obtain ⟨r4, c27, h⟩ := zB h
     obtain ⟨r5, c28, h⟩ := zB h
     refine zw 5 (qa757 p1 p2 r3) ?_ ?_
     ·refine zyu 2 [(qa744 p1)] (zya (c_ref1_runes _ _ c26) ?_)
      refine zyv 2 [(qa745 p2)] (qa757 p1 p2 r3) ?_
      exact zyd
     refine za (c_ref1_runes _ _ c27) (za (c_ref1_like _ _ _ c28) (zd (hK25 _ _ (zC h (fun b29 h => ?_) (fun b29 h => ?_)))))
     ·exact zr (zv [4, 6] 2 [4,6] [] [(4, .one (.pt 0 0 0 0)), (6, .one (.pt 1 0 0 0))] [.box qa746, .box [ci (1 : Int), ci (1 : Int), ci (0 : Int), cst ByteArray.empty, .pv (.s (.slice none 0 0))]] (zd (hJ4 (1 : Int) h _ _ (zk [4,6]))))
     ·exact zs (hJ4 (0 : Int) h _ _ (zk [4,6]))
   refine zb 0 (XW.rounds' BIG (x := cd Tryd.f8 [1,1,1,0,0,0]) (by kernel_rfl) fun Q1 hQ1 => ?_)
   have hL1 : ∀ (k1 : Nat) (x2 : Int), ref1_Like_l1 p1 p2 k1 x2 = some r → XR Tryd.prog 59 0 [] (cd Tryd.f8 [1,1,1,0,0,0]) Q1 k1 [(2, .one (.pv (.rp [(qa744 p1)] 0 0))), (3, .one (.pv (.rp [(qa745 p2)] 0 0))), (4, .one (.pt 0 0 0 0)), (5, vi x2)] qa752 := by
    intro k1
    induction k1 with
    | zero => intro x2 h; rw [ref1_Like_l1.eq_1] at h; cases h
    | succ k1 ih1 =>
     intro x2 h
     rw [ref1_Like_l1.eq_2] at h
     refine zq fun K13 hK13 => zq fun K14 hK14 => ?_
     have hJ2 : ∀ (x3 : Bool), ref1_Like_j2 (ref1_Like_l1 p1 p2 k1) p1 p2 x2 x3 = some r → ∀ fr1 st1, Sub 59 0 [] fr1 st1 [(2, .one (.pv (.rp [(qa744 p1)] 0 0))), (3, .one (.pv (.rp [(qa745 p2)] 0 0))), (4, .one (.pt 0 0 0 0)), (5, vi x2), (42, vb x3)] qa752 → K14 fr1 st1 := by
      intro x3 h fr1 st1 hS
      unfold ref1_Like_j2 at h
      refine hK14 _ _ (XW.sub hS ?_)
      refine zC h (fun b18 h => ?_) (fun b18 h => ?_)
      ·exact zs (hK13 _ _ (zb 1 (zr (zg [4, 6] 3 [2,3,4,5] (zd (XR.sub (zk [2,3,4,5]) (ih1 (IntKind.i64.wrap (x2 + (1 : Int))) h)))))))
      ·exact zx 0 (hQ1 _ _ _ (hJ3 x2 h _ _ (zk [2,3,4,5])))
     rcases zW h with ⟨b15, h⟩ | ⟨b15, h⟩
     ·obtain ⟨y1, hy16, h⟩ := zB h
      obtain ⟨g17, h⟩ := zG h
      refine zr (zu [4, 6] 6 [2,3,4,5,31] [(qa745 p2)] (zt 31 b15 ?_))
      refine zv [4, 6] 8 [2,3,4,5,31,33,39] [[pi p2.kind, pi p2.n, pi p2.scale, .s (.string p2.s), .ro (eValue.els p2.items)], [pi p2.kind, pi p2.n, pi p2.scale, .s (.string p2.s), .ro (eValue.els p2.items)]] [(2, .one (.pv (.rp [[pi p1.kind, pi p1.n, pi p1.scale, .s (.string p1.s), .ro (eValue.els p1.items)]] 0 0))), (3, .one (.pv (.rp [[pi p2.kind, pi p2.n, pi p2.scale, .s (.string p2.s), .ro (eValue.els p2.items)]] 0 0))), (4, .one (.pt 0 0 0 0)), (5, vi x2), (31, vb true), (33, vs p2.s), (39, vi (IntKind.i64.wrap ((IntKind.i64.wrap ((p2.s.size : Int) - (1 : Int))) - x2)))] [.box [ci (0 : Int), ci (0 : Int), ci (0 : Int), cst ByteArray.empty, .pv (.s (.slice none 0 0))]] ?_
      rw [show (IntKind.i64.wrap ((IntKind.i64.wrap ((p2.s.size : Int) - (1 : Int))) - x2)) = y1 from Option.some.inj hy16]
      exact zo [4, 6] 3 [2,3,4,5,42] [] [0 ≤ y1 ∧ y1 < (p2.s.size : Int)] (⟨g17, trivial⟩) (zd (hJ2 (((p2.s.data.toList.getD y1.toNat 0).toNat : Int) == (92 : Int)) h _ _ (zk [2,3,4,5,42])))
     ·exact zr (zu [4, 6] 6 [2,3,4,5,31] [(qa745 p2)] (zt 31 b15 (zv [4, 6] 11 [2,3,4,5,42] [] [(2, .one (.pv (.rp [(qa744 p1)] 0 0))), (3, .one (.pv (.rp [(qa745 p2)] 0 0))), (4, .one (.pt 0 0 0 0)), (5, vi x2), (42, vb false)] qa752 (zd (hJ2 false h _ _ (zk [2,3,4,5,42]))))))
   exact XR.sub (zk [2,3,4,5]) (hL1 BIG (0 : Int) h)
 rcases zW h with ⟨b4, h⟩ | ⟨b4, h⟩
 ·exact zr (zu [4, 6] 4 [2,3,4,10] [(qa744 p1)] (zt 10 b4 (zv [4, 6] 14 [2,3,4,24] [] (qa762 p1 p2) qa752 (zd (hJ1 true h _ _ (zk [2,3,4,24]))))))
 ·rcases zW h with ⟨b5, h⟩ | ⟨b5, h⟩
  ·refine zr (zu [4, 6] 4 [2,3,4,10] [(qa744 p1)] (zt 10 b4 (zu [4, 6] 5 [2,3,4,15] [(qa745 p2)] (zt 15 b5 ?_))))
   exact zv [4, 6] 9 [2,3,4,24] [] (qa762 p1 p2) qa752 (zd (hJ1 true h _ _ (zk [2,3,4,24])))
  ·obtain ⟨r1, c6, h⟩ := zB h
   rcases zW h with ⟨b7, h⟩ | ⟨b7, h⟩
   ·refine zr (zu [4, 6] 4 [2,3,4,10] [(qa744 p1)] (zt 10 b4 (zu [4, 6] 5 [2,3,4,15] [(qa745 p2)] (zt 15 b5 ?_))))
    refine zv [4, 6] 1 [2,3,4,15,16] [(qa744 p1)] (qa763 p1 p2) qa752 (za (c_ref1_Sound _ _ c6) ?_)
    exact zg [4, 6] 3 [2,3,4,20] (zt 20 b7 (zv [4, 6] 4 [2,3,4,24] [] (qa762 p1 p2) qa752 (zd (hJ1 true h _ _ (zk [2,3,4,24])))))
   ·obtain ⟨r2, c8, h⟩ := zB h
    refine zr (zu [4, 6] 4 [2,3,4,10] [(qa744 p1)] (zt 10 b4 (zu [4, 6] 5 [2,3,4,15] [(qa745 p2)] (zt 15 b5 ?_))))
    refine zv [4, 6] 1 [2,3,4,15,16] [(qa744 p1)] (qa763 p1 p2) qa752 (za (c_ref1_Sound _ _ c6) ?_)
    refine zg [4, 6] 3 [2,3,4,20] (zt 20 b7 (zv [4, 6] 1 [2,3,4,20,21] [(qa745 p2)] [(2, .one (.pv (.rp [(qa744 p1)] 0 0))), (3, .one (.pv (.rp [(qa745 p2)] 0 0))), (4, .one (.pt 0 0 0 0)), (20, vb false), (21, .ag [ci p2.kind, ci p2.n, ci p2.scale, cst p2.s, cl eValue p2.items])] qa752 ?_))
    exact za (c_ref1_Sound _ _ c8) (zg [4, 6] 2 [2,3,4,24] (zd (hJ1 (!r2) h _ _ (zk [2,3,4,24]))))


end Go.Proofs.YtdbfodeghijdlaaDoor
namespace Go.Proofs.YtdbfodeghijdlaaDoor
open Go.SX Go
set_option linter.unusedVariables false
set_option linter.unusedSimpArgs false
set_option maxRecDepth 100000
set_option maxHeartbeats 8000000

def law1_ValueLikesMatchSpec_j1 (x1 : Bool) : Option Bool :=
    some x1

def law1_ValueLikesMatchSpec (p1 : GValue) (p2 : GValue) : Option Bool :=
    bnd (value_Like (GValue.mk (4 : Int) (0 : Int) (0 : Int) (ByteArray.mk #[97]) []) (GValue.mk (4 : Int) (0 : Int) (0 : Int) (ByteArray.mk #[97]) [])) fun r1 =>
    bnd (law1_exactly BIG r1 (GValue.mk (1 : Int) (1 : Int) (0 : Int) ByteArray.empty [])) fun r2 =>
    ift r2
      (bnd (value_Like p1 p2) fun r3 =>
       bnd (ref1_Like p1 p2) fun r4 =>
       bnd (law1_exactly BIG r3 r4) fun r5 =>
       law1_ValueLikesMatchSpec_j1 r5)
      (law1_ValueLikesMatchSpec_j1 false)

abbrev qa765 (p1 : GValue) : List CV := [ci p1.kind, ci p1.n, ci p1.scale, cst p1.s, cl eValue p1.items]
abbrev qa766 (p2 : GValue) : List CV := [ci p2.kind, ci p2.n, ci p2.scale, cst p2.s, cl eValue p2.items]
abbrev qa769 (r3 : GValue) : List CV := [ci r3.kind, ci r3.n, ci r3.scale, cst r3.s, cl eValue r3.items]
abbrev qa770 : List CV := [ci (1 : Int), ci (1 : Int), ci (0 : Int), cst ByteArray.empty, .pv (.s (.slice none 0 0))]
abbrev qa771 (r1 : GValue) : List CV := [ci r1.kind, ci r1.n, ci r1.scale, cst r1.s, cl eValue r1.items]
abbrev qa772 : List CV := [ci (4 : Int), ci (0 : Int), ci (0 : Int), cst (ByteArray.mk #[97]), .pv (.s (.slice none 0 0))]
abbrev qa773 (p1 : GValue) : List PV := [pi p1.kind, pi p1.n, pi p1.scale, .s (.string p1.s), .ro (eValue.els p1.items)]
abbrev qa774 (p2 : GValue) : List PV := [pi p2.kind, pi p2.n, pi p2.scale, .s (.string p2.s), .ro (eValue.els p2.items)]
abbrev qa778 (p1 : GValue) (p2 : GValue) (r1 : GValue) (r2 : Bool) (r3 : GValue) : Fr := [(17, .ag (qa766 p2)), (16, .ag (qa765 p1)), (15, .ag (qa769 r3)), (14, .ag (qa766 p2)), (13, .ag (qa765 p1)), (12, vb true), (11, vb r2), (10, .ag qa770), (9, .ag (qa771 r1)), (8, .ag qa772), (7, .ag qa772), (2, .one (.pv (.rp [(qa773 p1)] 0 0))), (3, .one (.pv (.rp [(qa774 p2)] 0 0))), (5, .one (.pt 0 0 0 0))]
abbrev qa779 (p1 : GValue) (p2 : GValue) : Fr := [(8, .ag qa772), (7, .ag qa772), (2, .one (.pv (.rp [(qa773 p1)] 0 0))), (3, .one (.pv (.rp [(qa774 p2)] 0 0))), (5, .one (.pt 0 0 0 0))]
abbrev qa780 (p1 : GValue) (p2 : GValue) (r1 : GValue) : Fr := [(9, .ag (qa771 r1)), (8, .ag qa772), (7, .ag qa772), (2, .one (.pv (.rp [(qa773 p1)] 0 0))), (3, .one (.pv (.rp [(qa774 p2)] 0 0))), (5, .one (.pt 0 0 0 0))]
abbrev qa781 (p1 : GValue) (p2 : GValue) (r1 : GValue) (r2 : Bool) : Fr := [(11, vb r2), (10, .ag qa770), (9, .ag (qa771 r1)), (8, .ag qa772), (7, .ag qa772), (2, .one (.pv (.rp [(qa773 p1)] 0 0))), (3, .one (.pv (.rp [(qa774 p2)] 0 0))), (5, .one (.pt 0 0 0 0))]

theorem c_law1_ValueLikesMatchSpec (p1 : GValue) (p2 : GValue) (r : Bool) (h : law1_ValueLikesMatchSpec p1 p2 = some r) : PC Tryd.prog 3 [.ag (qa765 p1), .ag (qa766 p2)] (vb r) := by
 unfold law1_ValueLikesMatchSpec at h
 refine zF 21 Tryd.f3 (zq fun K1 hK1 => zr (zg [5] 3 [2,3] (zd (hK1 _ _ (zq fun K2 hK2 => zr ?_)))))
 refine zg [5] 3 [2,3,5] (zd (hK2 _ _ (zq fun K3 hK3 => ?_)))
 have hJ1 : ∀ (x1 : Bool), law1_ValueLikesMatchSpec_j1 x1 = some r → ∀ fr1 st1, Sub 21 0 [] fr1 st1 [(4, vb x1)] [.dead] → K3 fr1 st1 := by
  intro x1 h fr1 st1 hS
  unfold law1_ValueLikesMatchSpec_j1 at h
  refine hK3 _ _ (XW.sub hS ?_)
  refine ze ?_
  obtain rfl := Option.some.inj h
  exact zf [vb x1] (.one (.rfl _ rfl))
 obtain ⟨r1, c4, h⟩ := zB h
 obtain ⟨r2, c5, h⟩ := zB h
 rcases zW h with ⟨b6, h⟩ | ⟨b6, h⟩
 ·obtain ⟨r3, c7, h⟩ := zB h
  obtain ⟨r4, c8, h⟩ := zB h
  obtain ⟨r5, c9, h⟩ := zB h
  refine zw 11 (qa778 p1 p2 r1 r2 r3) ?_ ?_
  ·refine zyv 2 [] (qa779 p1 p2) ?_
   refine DX.cal 7 [.ag qa772, .ag qa772] (.ag (qa771 r1)) (qa780 p1 p2 r1) (by kernel_rfl) (PC.le (c_value_Like _ _ _ c4) ⟨ALe.agc ⟨.rfl _, .rfl _, .rfl _, .rfl _, .nl, trivial⟩, ALe.agc ⟨.rfl _, .rfl _, .rfl _, .rfl _, .nl, trivial⟩, trivial⟩) rfl rfl (by kernel_rfl) ?_
   refine zyg 1 ?_
   refine DX.cal 6 [.ag (qa771 r1), .ag qa770] (vb r2) (qa781 p1 p2 r1 r2) (by kernel_rfl) (PC.le (c_law1_exactly BIG _ _ _ c5) ⟨.rfl _, ALe.agc ⟨.rfl _, .rfl _, .rfl _, .rfl _, .nl, trivial⟩, trivial⟩) rfl rfl (by kernel_rfl) ?_
   refine zyv 1 [] [(12, vb r2), (11, vb r2), (10, .ag [ci (1 : Int), ci (1 : Int), ci (0 : Int), cst ByteArray.empty, .pv (.s (.slice none 0 0))]), (9, .ag [ci r1.kind, ci r1.n, ci r1.scale, cst r1.s, cl eValue r1.items]), (8, .ag [ci (4 : Int), ci (0 : Int), ci (0 : Int), cst (ByteArray.mk #[97]), .pv (.s (.slice none 0 0))]), (7, .ag [ci (4 : Int), ci (0 : Int), ci (0 : Int), cst (ByteArray.mk #[97]), .pv (.s (.slice none 0 0))]), (2, .one (.pv (.rp [[pi p1.kind, pi p1.n, pi p1.scale, .s (.string p1.s), .ro (eValue.els p1.items)]] 0 0))), (3, .one (.pv (.rp [[pi p2.kind, pi p2.n, pi p2.scale, .s (.string p2.s), .ro (eValue.els p2.items)]] 0 0))), (5, .one (.pt 0 0 0 0))] ?_
   refine DX.eq (fr1 := [(12, vb true), (11, vb r2), (10, .ag [ci (1 : Int), ci (1 : Int), ci (0 : Int), cst ByteArray.empty, .pv (.s (.slice none 0 0))]), (9, .ag [ci r1.kind, ci r1.n, ci r1.scale, cst r1.s, cl eValue r1.items]), (8, .ag [ci (4 : Int), ci (0 : Int), ci (0 : Int), cst (ByteArray.mk #[97]), .pv (.s (.slice none 0 0))]), (7, .ag [ci (4 : Int), ci (0 : Int), ci (0 : Int), cst (ByteArray.mk #[97]), .pv (.s (.slice none 0 0))]), (2, .one (.pv (.rp [[pi p1.kind, pi p1.n, pi p1.scale, .s (.string p1.s), .ro (eValue.els p1.items)]] 0 0))), (3, .one (.pv (.rp [[pi p2.kind, pi p2.n, pi p2.scale, .s (.string p2.s), .ro (eValue.els p2.items)]] 0 0))), (5, .one (.pt 0 0 0 0))]) (by rw [b6]) ?_
   refine zyu 2 [(qa773 p1), (qa774 p2)] (zya (c_value_Like _ _ _ c7) ?_)
   refine zyv 2 [(qa773 p1), (qa774 p2)] (qa778 p1 p2 r1 r2 r3) ?_
   exact zyd
  refine zl 8 [.ag (qa765 p1), .ag (qa766 p2)] (.ag [ci r4.kind, ci r4.n, ci r4.scale, cst r4.s, cl eValue r4.items]) [(18, .ag [ci r4.kind, ci r4.n, ci r4.scale, cst r4.s, cl eValue r4.items]), (17, .ag (qa766 p2)), (16, .ag (qa765 p1)), (15, .ag (qa769 r3)), (14, .ag (qa766 p2)), (13, .ag (qa765 p1)), (12, vb true), (11, vb r2), (10, .ag qa770), (9, .ag (qa771 r1)), (8, .ag qa772), (7, .ag qa772), (2, .one (.pv (.rp [(qa773 p1)] 0 0))), (3, .one (.pv (.rp [(qa774 p2)] 0 0))), (5, .one (.pt 0 0 0 0))] (c_ref1_Like _ _ _ c8) ?_
  exact za (c_law1_exactly BIG _ _ _ c9) (zg [5] 2 [4] (zd (hJ1 r5 h _ _ (Sub.trans (Sub.pick (fr' := [(4, vb r5)]) [4] (by kernel_rfl)) (Sub.only (fr' := [(4, vb r5)]) (st' := [.dead]) [] 1 (by kernel_rfl) (by kernel_rfl) (by kernel_rfl) (by kernel_rfl))))))
 ·refine zw 11 [(17, .tp []), (16, .tp []), (15, .tp []), (14, .tp []), (13, .tp []), (12, vb false), (11, vb r2), (10, .ag qa770), (9, .ag (qa771 r1)), (8, .ag qa772), (7, .ag qa772), (2, .one (.pv (.rp [(qa773 p1)] 0 0))), (3, .one (.pv (.rp [(qa774 p2)] 0 0))), (5, .one (.pt 0 0 0 0))] ?_ ?_
  ·refine zyv 2 [] (qa779 p1 p2) ?_
   refine DX.cal 7 [.ag qa772, .ag qa772] (.ag (qa771 r1)) (qa780 p1 p2 r1) (by kernel_rfl) (PC.le (c_value_Like _ _ _ c4) ⟨ALe.agc ⟨.rfl _, .rfl _, .rfl _, .rfl _, .nl, trivial⟩, ALe.agc ⟨.rfl _, .rfl _, .rfl _, .rfl _, .nl, trivial⟩, trivial⟩) rfl rfl (by kernel_rfl) ?_
   refine zyg 1 ?_
   refine DX.cal 6 [.ag (qa771 r1), .ag qa770] (vb r2) (qa781 p1 p2 r1 r2) (by kernel_rfl) (PC.le (c_law1_exactly BIG _ _ _ c5) ⟨.rfl _, ALe.agc ⟨.rfl _, .rfl _, .rfl _, .rfl _, .nl, trivial⟩, trivial⟩) rfl rfl (by kernel_rfl) ?_
   refine zyv 1 [] [(12, vb r2), (11, vb r2), (10, .ag [ci (1 : Int), ci (1 : Int), ci (0 : Int), cst ByteArray.empty, .pv (.s (.slice none 0 0))]), (9, .ag [ci r1.kind, ci r1.n, ci r1.scale, cst r1.s, cl eValue r1.items]), (8, .ag [ci (4 : Int), ci (0 : Int), ci (0 : Int), cst (ByteArray.mk #[97]), .pv (.s (.slice none 0 0))]), (7, .ag [ci (4 : Int), ci (0 : Int), ci (0 : Int), cst (ByteArray.mk #[97]), .pv (.s (.slice none 0 0))]), (2, .one (.pv (.rp [[pi p1.kind, pi p1.n, pi p1.scale, .s (.string p1.s), .ro (eValue.els p1.items)]] 0 0))), (3, .one (.pv (.rp [[pi p2.kind, pi p2.n, pi p2.scale, .s (.string p2.s), .ro (eValue.els p2.items)]] 0 0))), (5, .one (.pt 0 0 0 0))] ?_
   refine DX.eq (fr1 := [(12, vb false), (11, vb r2), (10, .ag [ci (1 : Int), ci (1 : Int), ci (0 : Int), cst ByteArray.empty, .pv (.s (.slice none 0 0))]), (9, .ag [ci r1.kind, ci r1.n, ci r1.scale, cst r1.s, cl eValue r1.items]), (8, .ag [ci (4 : Int), ci (0 : Int), ci (0 : Int), cst (ByteArray.mk #[97]), .pv (.s (.slice none 0 0))]), (7, .ag [ci (4 : Int), ci (0 : Int), ci (0 : Int), cst (ByteArray.mk #[97]), .pv (.s (.slice none 0 0))]), (2, .one (.pv (.rp [[pi p1.kind, pi p1.n, pi p1.scale, .s (.string p1.s), .ro (eValue.els p1.items)]] 0 0))), (3, .one (.pv (.rp [[pi p2.kind, pi p2.n, pi p2.scale, .s (.string p2.s), .ro (eValue.els p2.items)]] 0 0))), (5, .one (.pt 0 0 0 0))]) (by rw [b6]) ?_
   exact zyg 5 zyd
  exact zv [5] 4 [4] [] [(4, vb false)] [.box qa772] (zd (hJ1 false h _ _ (Sub.trans (Sub.pick (fr' := [(4, vb false)]) [4] (by kernel_rfl)) (Sub.only (fr' := [(4, vb false)]) (st' := [.dead]) [] 1 (by kernel_rfl) (by kernel_rfl) (by kernel_rfl) (by kernel_rfl)))))


end Go.Proofs.YtdbfodeghijdlaaDoor
