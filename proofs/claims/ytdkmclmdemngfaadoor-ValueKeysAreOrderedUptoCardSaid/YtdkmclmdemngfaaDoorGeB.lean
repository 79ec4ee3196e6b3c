/- Printed by a program: what the functions compute, and the proofs of their contracts. -/
import Derived.Test.YtdkmclmdemngfaaDoorGeA
namespace Go.Proofs.YtdkmclmdemngfaaDoor
open Go.SX Go
set_option linter.unusedVariables false
set_option linter.unusedSimpArgs false
set_option maxRecDepth 100000
set_option maxHeartbeats 8000000

def ref1_alone_j2 (x2 : Bool) : Option Bool :=
    some x2

def ref1_alone_j3 (x3 : Bool) : Option Bool :=
    some x3

def ref1_alone_j4 (x4 : Bool) : Option Bool :=
    some x4

def ref1_alone_j5 (x5 : Bool) : Option Bool :=
    some x5

def ref1_alone_j6 (x6 : Bool) : Option Bool :=
    some x6

def ref1_alone_j7 (x7 : Bool) : Option Bool :=
    some x7

def ref1_alone_j8 (x8 : Bool) : Option Bool :=
    some x8

def ref1_alone_j9 (x9 : Bool) : Option Bool :=
    some x9

def ref1_alone_j1 (p1 : GValue) (x1 : Bool) : Option Bool :=
    ift (p1.kind == (0 : Int))
      (ift x1
         (ift (p1.n == (0 : Int))
            (ref1_alone_j2 (p1.scale == (0 : Int)))
            (ref1_alone_j2 false))
         (ref1_alone_j2 false))
      (ift (p1.kind == (1 : Int))
         (ift x1
            (bnd (ref1_within p1.n (0 : Int) (1 : Int)) fun r1 =>
             ift r1
               (ref1_alone_j3 (p1.scale == (0 : Int)))
               (ref1_alone_j3 false))
            (ref1_alone_j3 false))
         (ift (p1.kind == (2 : Int))
            (ift x1
               (bnd (ref1_within p1.n (-999999999999999999 : Int) (999999999999999999 : Int)) fun r2 =>
                ift r2
                  (ref1_alone_j4 (p1.scale == (0 : Int)))
                  (ref1_alone_j4 false))
               (ref1_alone_j4 false))
            (ift (p1.kind == (3 : Int))
               (ift x1
                  (bnd (ref1_within p1.n (-999999999999999999 : Int) (999999999999999999 : Int)) fun r3 =>
                   ift r3
                     (bnd (ref1_within p1.scale (0 : Int) (12 : Int)) fun r4 =>
                      ref1_alone_j5 r4)
                     (ref1_alone_j5 false))
                  (ref1_alone_j5 false))
               (ift (p1.kind == (4 : Int))
                  (ift ((p1.items.length : Int) == (0 : Int))
                     (ift (p1.n == (0 : Int))
                        (ift (p1.scale == (0 : Int))
                           (bnd (ref1_characters p1.s) fun r5 =>
                            ref1_alone_j6 r5)
                           (ref1_alone_j6 false))
                        (ref1_alone_j6 false))
                     (ref1_alone_j6 false))
                  (ift (p1.kind == (5 : Int))
                     (ift x1
                        (bnd (ref1_within p1.n (-62135596800 : Int) (253402300799 : Int)) fun r6 =>
                         ift r6
                           (ref1_alone_j7 (p1.scale == (0 : Int)))
                           (ref1_alone_j7 false))
                        (ref1_alone_j7 false))
                     (ift (p1.kind == (6 : Int))
                        (ift (p1.s.toList == (ByteArray.mk #[]).toList)
                           (ift (p1.n == (0 : Int))
                              (ift (p1.scale == (0 : Int))
                                 (ref1_alone_j8 (decide ((p1.items.length : Int) ≤ (64 : Int))))
                                 (ref1_alone_j8 false))
                              (ref1_alone_j8 false))
                           (ref1_alone_j8 false))
                        (ift (p1.kind == (7 : Int))
                           (ift (p1.s.toList == (ByteArray.mk #[]).toList)
                              (ift (p1.n == (0 : Int))
                                 (ift (p1.scale == (0 : Int))
                                    (ref1_alone_j9 (decide ((0 : Int) < (p1.items.length : Int))))
                                    (ref1_alone_j9 false))
                                 (ref1_alone_j9 false))
                              (ref1_alone_j9 false))
                           (some false))))))))

def ref1_alone (p1 : GValue) : Option Bool :=
    ift (p1.s.toList == (ByteArray.mk #[]).toList)
      (ref1_alone_j1 p1 ((p1.items.length : Int) == (0 : Int)))
      (ref1_alone_j1 p1 false)

abbrev qa1021 (p1 : GValue) : List PV := [pi p1.kind, pi p1.n, pi p1.scale, .s (.string p1.s), .ro (eValue.els p1.items)]
abbrev qa1049 (p1 : GValue) : Fr := [(1, .one (.pv (.rp [(qa1021 p1)] 0 0))), (106, vb (p1.s.toList == (ByteArray.mk #[]).toList))]

theorem c_ref1_alone (p1 : GValue) (r : Bool) (h : ref1_alone p1 = some r) : PC Tryd.prog 79 [.ag [ci p1.kind, ci p1.n, ci p1.scale, cst p1.s, cl eValue p1.items]] (vb r) := by
 unfold ref1_alone at h
 refine zF 143 Tryd.f79 (zq fun K1 hK1 => zr (zg [] 2 [1] (zd (hK1 _ _ (zq fun K2 hK2 => ?_)))))
 have hJ1 : ∀ (x1 : Bool), ref1_alone_j1 p1 x1 = some r → ∀ fr1 st1, Sub 143 0 [] fr1 st1 [(1, .one (.pv (.rp [(qa1021 p1)] 0 0))), (3, vb x1)] [] → K2 fr1 st1 := by
  intro x1 h fr1 st1 hS
  unfold ref1_alone_j1 at h
  refine hK2 _ _ (XW.sub hS ?_)
  refine zq fun K4 hK4 => zq fun K5 hK5 => zr (zu [] 2 [1,3,14] [(qa1021 p1)] (zd (hK5 _ _ (zb 0 (zq fun K6 hK6 => ?_)))))
  refine zr (zg [] 2 [1,3,14,15] (zd (hK6 _ _ (zC h (fun b7 h => ?_) (fun b7 h => ?_)))))
  ·refine zq fun K8 hK8 => ?_
   have hJ2 : ∀ (x2 : Bool), ref1_alone_j2 x2 = some r → ∀ fr1 st1, Sub 143 0 [] fr1 st1 [(2, vb x2)] [] → K8 fr1 st1 := by
    intro x2 h fr1 st1 hS
    unfold ref1_alone_j2 at h
    refine hK8 _ _ (XW.sub hS ?_)
    refine ze ?_
    obtain rfl := Option.some.inj h
    exact zf [vb x2] (.one (.rfl _ rfl))
   rcases zW h with ⟨b9, h⟩ | ⟨b9, h⟩
   ·rcases zW h with ⟨b10, h⟩ | ⟨b10, h⟩
    ·exact zr (zv [] 2 [1,18] [] [(1, .one (.pv (.rp [(qa1021 p1)] 0 0))), (18, vb x1)] [] (zt 18 b9 (zu [] 5 [1,23] [(qa1021 p1)] (zt 23 b10 (zu [] 5 [2] [(qa1021 p1)] (zd (hJ2 (p1.scale == (0 : Int)) h _ _ (zk [2]))))))))
    ·exact zr (zv [] 2 [1,18] [] [(1, .one (.pv (.rp [(qa1021 p1)] 0 0))), (18, vb x1)] [] (zt 18 b9 (zu [] 5 [1,23] [(qa1021 p1)] (zt 23 b10 (zg [] 5 [2] (zd (hJ2 false h _ _ (zk [2]))))))))
   ·exact zr (zv [] 2 [1,18] [] [(1, .one (.pv (.rp [(qa1021 p1)] 0 0))), (18, vb x1)] [] (zt 18 b9 (zg [] 10 [2] (zd (hJ2 false h _ _ (zk [2]))))))
  ·refine zq fun K11 hK11 => zr (zv [] 2 [1,3,14,28] [] [(1, .one (.pv (.rp [(qa1021 p1)] 0 0))), (3, vb x1), (14, vi p1.kind), (28, vb (p1.kind == (1 : Int)))] [] (zd (hK11 _ _ (zC h (fun b12 h => ?_) (fun b12 h => ?_)))))
   ·refine zq fun K13 hK13 => ?_
    have hJ3 : ∀ (x3 : Bool), ref1_alone_j3 x3 = some r → ∀ fr1 st1, Sub 143 0 [] fr1 st1 [(2, vb x3)] [] → K13 fr1 st1 := by
     intro x3 h fr1 st1 hS
     unfold ref1_alone_j3 at h
     refine hK13 _ _ (XW.sub hS ?_)
     refine ze ?_
     obtain rfl := Option.some.inj h
     exact zf [vb x3] (.one (.rfl _ rfl))
    rcases zW h with ⟨b14, h⟩ | ⟨b14, h⟩
    ·obtain ⟨r1, c15, h⟩ := zB h
     rcases zW h with ⟨b16, h⟩ | ⟨b16, h⟩
     ·refine zr (zg [] 2 [1,31] (zt 31 b14 (zu [] 2 [1,31,33] [(qa1021 p1)] (zl 68 [vi p1.n, vi (0 : Int), vi (1 : Int)] (vb r1) [(34, vb r1), (1, .one (.pv (.rp [(qa1021 p1)] 0 0))), (31, vb true), (33, vi p1.n)] (c_ref1_within _ _ _ _ c15) (zg [] 2 [1,36] (zt 36 b16 (zu [] 5 [2] [(qa1021 p1)] ?_)))))))
      exact zd (hJ3 (p1.scale == (0 : Int)) h _ _ (zk [2]))
     ·refine zr (zv [] 2 [1,31] [] [(1, .one (.pv (.rp [(qa1021 p1)] 0 0))), (31, vb x1)] [] (zt 31 b14 (zu [] 2 [1,31,33] [(qa1021 p1)] (za (c_ref1_within _ _ _ _ c15) (zv [] 2 [1,36] [] [(1, .one (.pv (.rp [(qa1021 p1)] 0 0))), (36, vb r1)] [] (zt 36 b16 (zg [] 5 [2] ?_)))))))
      exact zd (hJ3 false h _ _ (zk [2]))
    ·exact zr (zg [] 2 [1,31] (zt 31 b14 (zg [] 10 [2] (zd (hJ3 false h _ _ (zk [2]))))))
   ·refine zq fun K17 hK17 => zr (zg [] 2 [1,3,14,41] (zd (hK17 _ _ (zC h (fun b18 h => ?_) (fun b18 h => ?_)))))
    ·refine zq fun K19 hK19 => ?_
     have hJ4 : ∀ (x4 : Bool), ref1_alone_j4 x4 = some r → ∀ fr1 st1, Sub 143 0 [] fr1 st1 [(2, vb x4)] [] → K19 fr1 st1 := by
      intro x4 h fr1 st1 hS
      unfold ref1_alone_j4 at h
      refine hK19 _ _ (XW.sub hS ?_)
      refine ze ?_
      obtain rfl := Option.some.inj h
      exact zf [vb x4] (.one (.rfl _ rfl))
     rcases zW h with ⟨b20, h⟩ | ⟨b20, h⟩
     ·obtain ⟨r2, c21, h⟩ := zB h
      rcases zW h with ⟨b22, h⟩ | ⟨b22, h⟩
      ·refine zr (zg [] 2 [1,44] (zt 44 b20 (zv [] 2 [1,44,46] [(qa1021 p1)] [(1, .one (.pv (.rp [(qa1021 p1)] 0 0))), (44, vb true), (46, vi p1.n)] [] (za (c_ref1_within _ _ _ _ c21) (zg [] 2 [1,49] (zt 49 b22 (zv [] 5 [2] [(qa1021 p1)] [(2, vb (p1.scale == (0 : Int)))] [] ?_)))))))
       exact zd (hJ4 (p1.scale == (0 : Int)) h _ _ (zk [2]))
      ·refine zr (zg [] 2 [1,44] (zt 44 b20 (zu [] 2 [1,44,46] [(qa1021 p1)] (zl 68 [vi p1.n, vi (-999999999999999999 : Int), vi (999999999999999999 : Int)] (vb r2) [(47, vb r2), (1, .one (.pv (.rp [(qa1021 p1)] 0 0))), (44, vb true), (46, vi p1.n)] (c_ref1_within _ _ _ _ c21) (zg [] 2 [1,49] (zt 49 b22 (zg [] 5 [2] ?_)))))))
       exact zd (hJ4 false h _ _ (zk [2]))
     ·exact zr (zg [] 2 [1,44] (zt 44 b20 (zv [] 10 [2] [] [(2, vb false)] [] (zd (hJ4 false h _ _ (zk [2]))))))
    ·refine zq fun K23 hK23 => zr (zg [] 2 [1,3,14,54] (zd (hK23 _ _ (zC h (fun b24 h => ?_) (fun b24 h => ?_)))))
     ·refine zq fun K25 hK25 => ?_
      have hJ5 : ∀ (x5 : Bool), ref1_alone_j5 x5 = some r → ∀ fr1 st1, Sub 143 0 [] fr1 st1 [(2, vb x5)] [] → K25 fr1 st1 := by
       intro x5 h fr1 st1 hS
       unfold ref1_alone_j5 at h
       refine hK25 _ _ (XW.sub hS ?_)
       refine ze ?_
       obtain rfl := Option.some.inj h
       exact zf [vb x5] (.one (.rfl _ rfl))
      rcases zW h with ⟨b26, h⟩ | ⟨b26, h⟩
      ·obtain ⟨r3, c27, h⟩ := zB h
       rcases zW h with ⟨b28, h⟩ | ⟨b28, h⟩
       ·obtain ⟨r4, c29, h⟩ := zB h
        refine zr (zv [] 2 [1,57] [] [(1, .one (.pv (.rp [(qa1021 p1)] 0 0))), (57, vb x1)] [] (zt 57 b26 (zu [] 2 [1,57,59] [(qa1021 p1)] (za (c_ref1_within _ _ _ _ c27) (zv [] 2 [1,62] [] [(1, .one (.pv (.rp [(qa1021 p1)] 0 0))), (62, vb r3)] [] (zt 62 b28 (zu [] 2 [62,64] [(qa1021 p1)] ?_)))))))
        exact za (c_ref1_within _ _ _ _ c29) (zv [] 2 [2] [] [(2, vb r4)] [] (zd (hJ5 r4 h _ _ (zk [2]))))
       ·refine zr (zg [] 2 [1,57] (zt 57 b26 (zu [] 2 [1,57,59] [(qa1021 p1)] (zl 68 [vi p1.n, vi (-999999999999999999 : Int), vi (999999999999999999 : Int)] (vb r3) [(60, vb r3), (1, .one (.pv (.rp [(qa1021 p1)] 0 0))), (57, vb true), (59, vi p1.n)] (c_ref1_within _ _ _ _ c27) (zg [] 2 [1,62] (zt 62 b28 (zg [] 5 [2] ?_)))))))
        exact zd (hJ5 false h _ _ (zk [2]))
      ·exact zr (zv [] 2 [1,57] [] [(1, .one (.pv (.rp [(qa1021 p1)] 0 0))), (57, vb x1)] [] (zt 57 b26 (zg [] 10 [2] (zd (hJ5 false h _ _ (zk [2]))))))
     ·refine zq fun K30 hK30 => zr (zv [] 2 [1,3,14,67] [] [(1, .one (.pv (.rp [(qa1021 p1)] 0 0))), (3, vb x1), (14, vi p1.kind), (67, vb (p1.kind == (4 : Int)))] [] (zd (hK30 _ _ (zC h (fun b31 h => ?_) (fun b31 h => ?_)))))
      ·refine zq fun K32 hK32 => ?_
       have hJ6 : ∀ (x6 : Bool), ref1_alone_j6 x6 = some r → ∀ fr1 st1, Sub 143 0 [] fr1 st1 [(2, vb x6)] [] → K32 fr1 st1 := by
        intro x6 h fr1 st1 hS
        unfold ref1_alone_j6 at h
        refine hK32 _ _ (XW.sub hS ?_)
        refine ze ?_
        obtain rfl := Option.some.inj h
        exact zf [vb x6] (.one (.rfl _ rfl))
       rcases zW h with ⟨b33, h⟩ | ⟨b33, h⟩
       ·rcases zW h with ⟨b34, h⟩ | ⟨b34, h⟩
        ·rcases zW h with ⟨b35, h⟩ | ⟨b35, h⟩
         ·obtain ⟨r5, c36, h⟩ := zB h
          refine zr (zv [] 3 [1,71] [[pi p1.kind, pi p1.n, pi p1.scale, .s (.string p1.s), .ro (eValue.els p1.items)]] [(1, .one (.pv (.rp [[pi p1.kind, pi p1.n, pi p1.scale, .s (.string p1.s), .ro (eValue.els p1.items)]] 0 0))), (71, vi ((eValue.els p1.items).length : Int))] [] ?_)
          rw [eValue.len p1.items]
          refine zg [] 2 [1,73] (zt 73 b33 (zu [] 5 [1,78] [(qa1021 p1)] (zt 78 b34 (zv [] 5 [1,83] [(qa1021 p1)] [(1, .one (.pv (.rp [(qa1021 p1)] 0 0))), (83, vb (p1.scale == (0 : Int)))] [] (zt 83 b35 (zu [] 2 [83,85] [(qa1021 p1)] (za (c_ref1_characters _ _ c36) ?_)))))))
          exact zv [] 2 [2] [] [(2, vb r5)] [] (zd (hJ6 r5 h _ _ (zk [2])))
         ·refine zr (zv [] 3 [1,71] [[pi p1.kind, pi p1.n, pi p1.scale, .s (.string p1.s), .ro (eValue.els p1.items)]] [(1, .one (.pv (.rp [[pi p1.kind, pi p1.n, pi p1.scale, .s (.string p1.s), .ro (eValue.els p1.items)]] 0 0))), (71, vi ((eValue.els p1.items).length : Int))] [] ?_)
          rw [eValue.len p1.items]
          refine zg [] 2 [1,73] (zt 73 b33 (zu [] 5 [1,78] [(qa1021 p1)] (zt 78 b34 (zv [] 5 [1,83] [(qa1021 p1)] [(1, .one (.pv (.rp [(qa1021 p1)] 0 0))), (83, vb (p1.scale == (0 : Int)))] [] (zt 83 b35 (zg [] 5 [2] (zd ?_)))))))
          exact hJ6 false h _ _ (zk [2])
        ·refine zr (zv [] 3 [1,71] [[pi p1.kind, pi p1.n, pi p1.scale, .s (.string p1.s), .ro (eValue.els p1.items)]] [(1, .one (.pv (.rp [[pi p1.kind, pi p1.n, pi p1.scale, .s (.string p1.s), .ro (eValue.els p1.items)]] 0 0))), (71, vi ((eValue.els p1.items).length : Int))] [] ?_)
         rw [eValue.len p1.items]
         exact zg [] 2 [1,73] (zt 73 b33 (zu [] 5 [1,78] [(qa1021 p1)] (zt 78 b34 (zv [] 10 [2] [] [(2, vb false)] [] (zd (hJ6 false h _ _ (zk [2])))))))
       ·refine zr (zv [] 3 [1,71] [[pi p1.kind, pi p1.n, pi p1.scale, .s (.string p1.s), .ro (eValue.els p1.items)]] [(1, .one (.pv (.rp [[pi p1.kind, pi p1.n, pi p1.scale, .s (.string p1.s), .ro (eValue.els p1.items)]] 0 0))), (71, vi ((eValue.els p1.items).length : Int))] [] ?_)
        rw [eValue.len p1.items]
        exact zg [] 2 [1,73] (zt 73 b33 (zg [] 15 [2] (zd (hJ6 false h _ _ (zk [2])))))
      ·refine zq fun K37 hK37 => zr (zg [] 2 [1,3,14,88] (zd (hK37 _ _ (zC h (fun b38 h => ?_) (fun b38 h => ?_)))))
       ·refine zq fun K39 hK39 => ?_
        have hJ7 : ∀ (x7 : Bool), ref1_alone_j7 x7 = some r → ∀ fr1 st1, Sub 143 0 [] fr1 st1 [(2, vb x7)] [] → K39 fr1 st1 := by
         intro x7 h fr1 st1 hS
         unfold ref1_alone_j7 at h
         refine hK39 _ _ (XW.sub hS ?_)
         refine ze ?_
         obtain rfl := Option.some.inj h
         exact zf [vb x7] (.one (.rfl _ rfl))
        rcases zW h with ⟨b40, h⟩ | ⟨b40, h⟩
        ·obtain ⟨r6, c41, h⟩ := zB h
         rcases zW h with ⟨b42, h⟩ | ⟨b42, h⟩
         ·refine zr (zg [] 2 [1,91] (zt 91 b40 (zv [] 2 [1,91,93] [(qa1021 p1)] [(1, .one (.pv (.rp [(qa1021 p1)] 0 0))), (91, vb true), (93, vi p1.n)] [] (za (c_ref1_within _ _ _ _ c41) (zg [] 2 [1,96] (zt 96 b42 (zv [] 5 [2] [(qa1021 p1)] [(2, vb (p1.scale == (0 : Int)))] [] ?_)))))))
          exact zd (hJ7 (p1.scale == (0 : Int)) h _ _ (zk [2]))
         ·refine zr (zg [] 2 [1,91] (zt 91 b40 (zu [] 2 [1,91,93] [(qa1021 p1)] (zl 68 [vi p1.n, vi (-62135596800 : Int), vi (253402300799 : Int)] (vb r6) [(94, vb r6), (1, .one (.pv (.rp [(qa1021 p1)] 0 0))), (91, vb true), (93, vi p1.n)] (c_ref1_within _ _ _ _ c41) (zg [] 2 [1,96] (zt 96 b42 (zg [] 5 [2] ?_)))))))
          exact zd (hJ7 false h _ _ (zk [2]))
        ·exact zr (zg [] 2 [1,91] (zt 91 b40 (zv [] 10 [2] [] [(2, vb false)] [] (zd (hJ7 false h _ _ (zk [2]))))))
       ·refine zq fun K43 hK43 => zr (zg [] 2 [1,14,101] (zd (hK43 _ _ (zC h (fun b44 h => ?_) (fun b44 h => ?_)))))
        ·refine zq fun K45 hK45 => ?_
         have hJ8 : ∀ (x8 : Bool), ref1_alone_j8 x8 = some r → ∀ fr1 st1, Sub 143 0 [] fr1 st1 [(2, vb x8)] [] → K45 fr1 st1 := by
          intro x8 h fr1 st1 hS
          unfold ref1_alone_j8 at h
          refine hK45 _ _ (XW.sub hS ?_)
          refine ze ?_
          obtain rfl := Option.some.inj h
          exact zf [vb x8] (.one (.rfl _ rfl))
         rcases zW h with ⟨b46, h⟩ | ⟨b46, h⟩
         ·rcases zW h with ⟨b47, h⟩ | ⟨b47, h⟩
          ·rcases zW h with ⟨b48, h⟩ | ⟨b48, h⟩
           ·refine zr (zv [] 4 [1,106] [(qa1021 p1)] (qa1049 p1) [] (zt 106 b46 (zu [] 5 [1,111] [(qa1021 p1)] (zt 111 b47 (zu [] 5 [1,116] [(qa1021 p1)] (zt 116 b48 ?_))))))
            refine zv [] 3 [116,119] [[pi p1.kind, pi p1.n, pi p1.scale, .s (.string p1.s), .ro (eValue.els p1.items)]] [(116, vb true), (119, vi ((eValue.els p1.items).length : Int))] [] ?_
            rw [eValue.len p1.items]
            exact zg [] 3 [2] (zd (hJ8 (decide ((p1.items.length : Int) ≤ (64 : Int))) h _ _ (zk [2])))
           ·refine zr (zu [] 4 [1,106] [(qa1021 p1)] (zt 106 b46 (zv [] 5 [1,111] [(qa1021 p1)] [(1, .one (.pv (.rp [(qa1021 p1)] 0 0))), (111, vb (p1.n == (0 : Int)))] [] (zt 111 b47 (zu [] 5 [1,116] [(qa1021 p1)] (zt 116 b48 (zg [] 6 [2] ?_)))))))
            exact zd (hJ8 false h _ _ (zk [2]))
          ·exact zr (zv [] 4 [1,106] [(qa1021 p1)] (qa1049 p1) [] (zt 106 b46 (zu [] 5 [1,111] [(qa1021 p1)] (zt 111 b47 (zg [] 11 [2] (zd (hJ8 false h _ _ (zk [2]))))))))
         ·exact zr (zv [] 4 [1,106] [(qa1021 p1)] (qa1049 p1) [] (zt 106 b46 (zg [] 16 [2] (zd (hJ8 false h _ _ (zk [2]))))))
        ·refine zq fun K49 hK49 => zr (zv [] 2 [1,122] [] [(1, .one (.pv (.rp [(qa1021 p1)] 0 0))), (122, vb (p1.kind == (7 : Int)))] [] (zd (hK49 _ _ (zC h (fun b50 h => ?_) (fun b50 h => ?_)))))
         ·refine zq fun K51 hK51 => ?_
          have hJ9 : ∀ (x9 : Bool), ref1_alone_j9 x9 = some r → ∀ fr1 st1, Sub 143 0 [] fr1 st1 [(2, vb x9)] [] → K51 fr1 st1 := by
           intro x9 h fr1 st1 hS
           unfold ref1_alone_j9 at h
           refine hK51 _ _ (XW.sub hS ?_)
           refine ze ?_
           obtain rfl := Option.some.inj h
           exact zf [vb x9] (.one (.rfl _ rfl))
          rcases zW h with ⟨b52, h⟩ | ⟨b52, h⟩
          ·rcases zW h with ⟨b53, h⟩ | ⟨b53, h⟩
           ·rcases zW h with ⟨b54, h⟩ | ⟨b54, h⟩
            ·refine zr (zu [] 4 [1,127] [(qa1021 p1)] (zt 127 b52 (zu [] 5 [1,132] [(qa1021 p1)] (zt 132 b53 (zv [] 5 [1,137] [(qa1021 p1)] [(1, .one (.pv (.rp [(qa1021 p1)] 0 0))), (137, vb (p1.scale == (0 : Int)))] [] (zt 137 b54 ?_))))))
             refine zv [] 3 [137,140] [[pi p1.kind, pi p1.n, pi p1.scale, .s (.string p1.s), .ro (eValue.els p1.items)]] [(137, vb true), (140, vi ((eValue.els p1.items).length : Int))] [] ?_
             rw [eValue.len p1.items]
             exact zg [] 3 [2] (zd (hJ9 (decide ((0 : Int) < (p1.items.length : Int))) h _ _ (zk [2])))
            ·refine zr (zu [] 4 [1,127] [(qa1021 p1)] (zt 127 b52 (zv [] 5 [1,132] [(qa1021 p1)] [(1, .one (.pv (.rp [(qa1021 p1)] 0 0))), (132, vb (p1.n == (0 : Int)))] [] (zt 132 b53 (zu [] 5 [1,137] [(qa1021 p1)] (zt 137 b54 (zg [] 6 [2] ?_)))))))
             exact zd (hJ9 false h _ _ (zk [2]))
           ·exact zr (zu [] 4 [1,127] [(qa1021 p1)] (zt 127 b52 (zu [] 5 [1,132] [(qa1021 p1)] (zt 132 b53 (zv [] 11 [2] [] [(2, vb false)] [] (zd (hJ9 false h _ _ (zk [2]))))))))
          ·exact zr (zu [] 4 [1,127] [(qa1021 p1)] (zt 127 b52 (zg [] 16 [2] (zd (hJ9 false h _ _ (zk [2]))))))
         ·refine zs (hK4 _ _ (zq fun K55 hK55 => zr (zg [] 1 [2] (zd (hK55 _ _ (ze ?_))))))
          obtain rfl := Option.some.inj h
          exact zf [vb false] (.one (.rfl _ rfl))
 rcases zW h with ⟨b3, h⟩ | ⟨b3, h⟩
 ·refine zr (zu [] 4 [1,7] [[pi p1.kind, pi p1.n, pi p1.scale, .s (.string p1.s), .ro (eValue.els p1.items)]] (zt 7 b3 (zv [] 3 [1,7,10] [[pi p1.kind, pi p1.n, pi p1.scale, .s (.string p1.s), .ro (eValue.els p1.items)]] [(1, .one (.pv (.rp [[pi p1.kind, pi p1.n, pi p1.scale, .s (.string p1.s), .ro (eValue.els p1.items)]] 0 0))), (7, vb true), (10, vi ((eValue.els p1.items).length : Int))] [] ?_)))
  rw [eValue.len p1.items]
  exact zg [] 3 [1,3] (zd (hJ1 ((p1.items.length : Int) == (0 : Int)) h _ _ (zk [1,3])))
 ·exact zr (zu [] 4 [1,7] [(qa1021 p1)] (zt 7 b3 (zv [] 6 [1,3] [] [(1, .one (.pv (.rp [(qa1021 p1)] 0 0))), (3, vb false)] [] (zd (hJ1 false h _ _ (zk [1,3]))))))

def ref1_sound_j3 (z3 : Int) : Option (Bool × Int) :=
    some (true, z3)

def ref1_sound_l1 (q_ref1_sound : GValue → Int → Int → Option (Bool × Int)) (p1 : GValue) (p2 : Int) : Nat → Int → Int → Option (Bool × Int)
  | 0, _, _ => none
  | k1 + 1, z2, x2 =>
    ift (decide (x2 < (p1.items.length : Int)))
      (bnd (at? p1.items x2) fun e1 =>
       bnd (q_ref1_sound e1 (IntKind.i64.wrap (p2 + (1 : Int))) z2) fun r2 =>
       ift (!r2.1)
         (some (false, r2.2))
         ((ref1_sound_l1 q_ref1_sound p1 p2 k1) r2.2 (IntKind.i64.wrap (x2 + (1 : Int)))))
      (ref1_sound_j3 z2)

def ref1_sound_j2 (q_ref1_sound : GValue → Int → Int → Option (Bool × Int)) (p1 : GValue) (p2 : Int) (z1 : Int) (x1 : Bool) : Option (Bool × Int) :=
    ift x1
      (some (false, z1))
      (ref1_sound_l1 q_ref1_sound p1 p2 BIG z1 (0 : Int))

def ref1_sound_j1 (q_ref1_sound : GValue → Int → Int → Option (Bool × Int)) (p1 : GValue) (p2 : Int) (z1 : Int) : Option (Bool × Int) :=
    ift (decide ((4 : Int) < p2))
      (ref1_sound_j2 q_ref1_sound p1 p2 z1 true)
      (ift (decide ((256 : Int) < z1))
         (ref1_sound_j2 q_ref1_sound p1 p2 z1 true)
         (bnd (ref1_alone p1) fun r1 =>
          ref1_sound_j2 q_ref1_sound p1 p2 z1 (!r1)))

def ref1_sound : Nat → GValue → Int → Int → Option (Bool × Int)
  | 0, _, _, _ => none
  | k0 + 1, p1, p2, p3 =>
    ift (p1.kind != (0 : Int))
      (ref1_sound_j1 (ref1_sound k0) p1 p2 (IntKind.i64.wrap (p3 + (1 : Int))))
      (ref1_sound_j1 (ref1_sound k0) p1 p2 p3)

abbrev qa1055 (p1 : GValue) : List CV := [ci p1.kind, ci p1.n, ci p1.scale, cst p1.s, cl eValue p1.items]
abbrev qa1058 (p1 : GValue) : List PV := [pi p1.kind, pi p1.n, pi p1.scale, .s (.string p1.s), .ro (eValue.els p1.items)]
abbrev qa1065 (e1 : GValue) : List CV := [ci e1.kind, ci e1.n, ci e1.scale, cst e1.s, cl eValue e1.items]
abbrev qa1079 (p1 : GValue) (p2 : Int) : Fr := [(1, vi p2), (2, .one (.pt 0 0 0 0)), (3, .one (.pv (.rp [(qa1058 p1)] 0 0))), (18, vb (decide ((4 : Int) < p2)))]

theorem c_ref1_sound : ∀ (k0 : Nat) (p1 : GValue) (p2 : Int) (p3 : Int) (r : (Bool × Int)), ref1_sound k0 p1 p2 p3 = some r → MC Tryd.prog 32 [.ag (qa1055 p1), vi p2, .one (.pt 0 0 0 0)] [.box [ci p3]] (vb r.1) [.box [ci r.2]]
 | 0, _, _, _, r, h => by rw [ref1_sound.eq_1] at h; cases h
 | k0 + 1, p1, p2, p3, r, h => by
  rw [ref1_sound.eq_2] at h
  refine MC.of 1 (n := 46) (fn := Tryd.f32) (c := cd Tryd.f32 []) (by kernel_rfl) (by kernel_rfl) (by kernel_rfl) (Nat.le_of_ble_eq_true rfl) rfl (zq fun K1 hK1 => zr (zg [] 2 [1,2,3] (zd (hK1 _ _ (zq fun K2 hK2 => ?_)))))
  have hJ1 : ∀ (z1 : Int), ref1_sound_j1 (ref1_sound k0) p1 p2 z1 = some r → ∀ fr1 st1, Sub 46 1 [] fr1 st1 [(1, vi p2), (2, .one (.pt 0 0 0 0)), (3, .one (.pv (.rp [(qa1058 p1)] 0 0)))] [.box [ci z1]] → K2 fr1 st1 := by
   intro z1 h fr1 st1 hS
   unfold ref1_sound_j1 at h
   refine hK2 _ _ (XW.sub hS ?_)
   refine zq fun K5 hK5 => zq fun K6 hK6 => ?_
   have hJ2 : ∀ (x1 : Bool), ref1_sound_j2 (ref1_sound k0) p1 p2 z1 x1 = some r → ∀ fr1 st1, Sub 46 1 [] fr1 st1 [(1, vi p2), (2, .one (.pt 0 0 0 0)), (3, .one (.pv (.rp [(qa1058 p1)] 0 0))), (28, vb x1)] [.box [ci z1]] → K6 fr1 st1 := by
    intro x1 h fr1 st1 hS
    unfold ref1_sound_j2 at h
    refine hK6 _ _ (XW.sub hS ?_)
    refine zC h (fun b10 h => ?_) (fun b10 h => ?_)
    ·refine zq fun K11 hK11 => zr (zv [] 1 [6] [] [(6, vb false)] [.box [ci z1]] (zd (hK11 _ _ (ze ?_))))
     obtain rfl := Option.some.inj h
     exact FinM.fin (.inr rfl) [] [vb false] [] (by kernel_rfl) trivial (by kernel_rfl) (by kernel_rfl) (.one (.rfl _ rfl))
    ·refine zs (hK5 _ _ (zq fun K12 hK12 => ?_))
     have hJ3 : ∀ (z3 : Int), ref1_sound_j3 z3 = some r → ∀ fr1 st1, Sub 46 1 [] fr1 st1 [] [.box [ci z3]] → K12 fr1 st1 := by
      intro z3 h fr1 st1 hS
      unfold ref1_sound_j3 at h
      refine hK12 _ _ (XW.sub hS ?_)
      refine zq fun K24 hK24 => zr (zv [] 1 [6] [] [(6, vb true)] [.box [ci z3]] (zd (hK24 _ _ (ze ?_))))
      obtain rfl := Option.some.inj h
      exact FinM.fin (.inr rfl) [] [vb true] [] (by kernel_rfl) trivial (by kernel_rfl) (by kernel_rfl) (.one (.rfl _ rfl))
     refine zq fun K13 hK13 => zr (zv [] 3 [1,2,3,31] [[pi p1.kind, pi p1.n, pi p1.scale, .s (.string p1.s), .ro (eValue.els p1.items)]] [(1, vi p2), (2, .one (.pt 0 0 0 0)), (3, .one (.pv (.rp [[pi p1.kind, pi p1.n, pi p1.scale, .s (.string p1.s), .ro (eValue.els p1.items)]] 0 0))), (31, vi ((eValue.els p1.items).length : Int))] [.box [ci z1]] ?_)
     rw [eValue.len p1.items]
     refine zg [] 1 [1,2,3,31,32] (zd (hK13 _ _ (zb 0 (XW.rounds' BIG (x := cd Tryd.f32 [1,1,1,0,1,0,0]) (by kernel_rfl) fun Q1 hQ1 => ?_))))
     have hL1 : ∀ (k1 : Nat) (z2 : Int) (x2 : Int), ref1_sound_l1 (ref1_sound k0) p1 p2 k1 z2 x2 = some r → XR Tryd.prog 46 1 [] (cd Tryd.f32 [1,1,1,0,1,0,0]) Q1 k1 [(1, vi p2), (2, .one (.pt 0 0 0 0)), (3, .one (.pv (.rp [(qa1058 p1)] 0 0))), (31, vi (p1.items.length : Int)), (32, vi x2)] [.box [ci z2]] := by
      intro k1
      induction k1 with
      | zero => intro z2 x2 h; rw [ref1_sound_l1.eq_1] at h; cases h
      | succ k1 ih1 =>
       intro z2 x2 h
       rw [ref1_sound_l1.eq_2] at h
       refine zq fun K14 hK14 => zr (zg [] 1 [1,2,3,31,32,33] (zd (hK14 _ _ (zq fun K15 hK15 => zC h (fun b16 h => ?_) (fun b16 h => ?_)))))
       ·refine zs (hK15 _ _ (zq fun K17 hK17 => zb 1 (zq fun K18 hK18 => zr (zg [] 2 [1,2,3,7,31,32] (zd ?_)))))
        refine hK18 _ _ (zq fun K19 hK19 => ?_)
        obtain ⟨e1, a20, h⟩ := zB h
        obtain ⟨r2, c21, h⟩ := zB h
        refine zr ?_
        refine zp [] 8 [1,2,3,31,32,39,41,42] [(qa1058 p1), [pi e1.kind, pi e1.n, pi e1.scale, .s (.string e1.s), .ro (eValue.els e1.items)]] [(1, vi p2), (2, .one (.pt 0 0 0 0)), (3, .one (.pv (.rp [(qa1058 p1)] 0 0))), (31, vi (p1.items.length : Int)), (32, vi x2), (39, .ag (qa1065 e1)), (41, vi (IntKind.i64.wrap (p2 + (1 : Int)))), (42, .one (.pt 0 0 0 0))] [.box [ci z2]] [([(qa1058 p1)] : List (List PV))[0]? = some (qa1058 p1), 0 ≤ x2 ∧ x2 < ((eValue.els p1.items).length : Int) ∧ elemsOk 5 (eValue.els p1.items), (eValue.els p1.items)[x2.toNat]? = some [pi e1.kind, pi e1.n, pi e1.scale, .s (.string e1.s), .ro (eValue.els e1.items)]] (⟨rfl, eValue.inb a20, ((eValue.get a20).trans (by cases e1; rfl)), trivial⟩) ?_
        refine XO.calm 32 [.ag (qa1065 e1), vi (IntKind.i64.wrap (p2 + (1 : Int))), .one (.pt 0 0 0 0)] [.box [ci z2]] [.box [ci r2.2]] (vb r2.1) [0] [(43, vb r2.1), (1, vi p2), (2, .one (.pt 0 0 0 0)), (3, .one (.pv (.rp [(qa1058 p1)] 0 0))), (31, vi (p1.items.length : Int)), (32, vi x2), (39, .ag (qa1065 e1)), (41, vi (IntKind.i64.wrap (p2 + (1 : Int)))), (42, .one (.pt 0 0 0 0))] [.box [ci r2.2]] (by kernel_rfl) (c_ref1_sound k0 _ _ _ _ c21) (by kernel_rfl) (by kernel_rfl) (by kernel_rfl) (by kernel_rfl) ?_
        refine zg [] 1 [1,2,3,31,32,44] (zd (hK19 _ _ (zC h (fun b22 h => ?_) (fun b22 h => ?_))))
        ·refine zq fun K23 hK23 => zr (zv [] 1 [6] [] [(6, vb false)] [.box [ci r2.2]] (zd (hK23 _ _ (ze (hQ1 _ _ _ ?_)))))
         obtain rfl := Option.some.inj h
         exact FinM.fin (.inr rfl) [] [vb false] [] (by kernel_rfl) trivial (by kernel_rfl) (by kernel_rfl) (.one (.rfl _ rfl))
        ·exact zs (hK17 _ _ (zr (zg [] 2 [1,2,3,31,32] (zd (XR.sub (zk [1,2,3,31,32]) (ih1 r2.2 (IntKind.i64.wrap (x2 + (1 : Int))) h))))))
       ·exact zx 0 (hQ1 _ _ _ (hJ3 z2 h _ _ (zk [])))
     exact XR.sub (zk [1,2,3,31,32]) (hL1 BIG z1 (0 : Int) h)
   rcases zW h with ⟨b7, h⟩ | ⟨b7, h⟩
   ·exact zr (zg [] 3 [1,2,3,18] (zt 18 b7 (zg [] 10 [1,2,3,28] (zd (hJ2 true h _ _ (zk [1,2,3,28]))))))
   ·rcases zW h with ⟨b8, h⟩ | ⟨b8, h⟩
    ·exact zr (zv [] 3 [1,2,3,18] [] (qa1079 p1 p2) [.box [ci z1]] (zt 18 b7 (zg [] 6 [1,2,3,24] (zt 24 b8 (zg [] 4 [1,2,3,28] (zd (hJ2 true h _ _ (zk [1,2,3,28]))))))))
    ·obtain ⟨r1, c9, h⟩ := zB h
     refine zr (zv [] 3 [1,2,3,18] [] (qa1079 p1 p2) [.box [ci z1]] (zt 18 b7 (zg [] 6 [1,2,3,24] (zt 24 b8 (zu [] 1 [1,2,3,24,25] [(qa1058 p1)] ?_)))))
     exact zl 79 [.ag (qa1055 p1)] (vb r1) [(26, vb r1), (1, vi p2), (2, .one (.pt 0 0 0 0)), (3, .one (.pv (.rp [(qa1058 p1)] 0 0))), (24, vb false), (25, .ag (qa1055 p1))] (c_ref1_alone _ _ c9) (zg [] 2 [1,2,3,28] (zd (hJ2 (!r1) h _ _ (zk [1,2,3,28]))))
  refine zq fun K3 hK3 => zr (zu [] 3 [1,2,3,10] [(qa1058 p1)] (zd (hK3 _ _ (zC h (fun b4 h => ?_) (fun b4 h => ?_)))))
  ·exact zr (zv [] 6 [1,2,3] [] [(1, vi p2), (2, .one (.pt 0 0 0 0)), (3, .one (.pv (.rp [(qa1058 p1)] 0 0)))] [.box [ci (IntKind.i64.wrap (p3 + (1 : Int)))]] (zd (hJ1 (IntKind.i64.wrap (p3 + (1 : Int))) h _ _ (zk [1,2,3]))))
  ·exact zs (hJ1 p3 h _ _ (zk [1,2,3]))

def ref1_Sound (p1 : GValue) : Option Bool :=
    bnd (ref1_sound BIG p1 (1 : Int) (0 : Int)) fun r1 =>
    some r1.1

abbrev qa1082 (p1 : GValue) : List CV := [ci p1.kind, ci p1.n, ci p1.scale, cst p1.s, cl eValue p1.items]

theorem c_ref1_Sound (p1 : GValue) (r : Bool) (h : ref1_Sound p1 = some r) : PC Tryd.prog 11 [.ag (qa1082 p1)] (vb r) := by
 unfold ref1_Sound at h
 refine zF 6 Tryd.f11 (zq fun K1 hK1 => zr (zg [3] 2 [1] (zd (hK1 _ _ (zq fun K2 hK2 => zr ?_)))))
 refine zg [3] 2 [1,3] (zd (hK2 _ _ (zq fun K3 hK3 => ?_)))
 obtain ⟨r1, c4, h⟩ := zB h
 refine zr (zv [3] 1 [3,4] [[pi p1.kind, pi p1.n, pi p1.scale, .s (.string p1.s), .ro (eValue.els p1.items)]] [(3, .one (.pt 0 0 0 0)), (4, .ag (qa1082 p1))] [.box [ci (0 : Int)]] ?_)
 refine XO.calm 32 [.ag (qa1082 p1), vi (1 : Int), .one (.pt 0 0 0 0)] [.box [ci (0 : Int)]] [.box [ci r1.2]] (vb r1.1) [0] [(5, vb r1.1), (3, .one (.pt 0 0 0 0)), (4, .ag (qa1082 p1))] [.box [ci r1.2]] (by kernel_rfl) (c_ref1_sound BIG _ _ _ _ c4) (by kernel_rfl) (by kernel_rfl) (by kernel_rfl) (by kernel_rfl) (zg [3] 1 [2] (zd (hK3 _ _ (ze ?_))))
 obtain rfl := Option.some.inj h
 exact zf [vb r1.1] (.one (.rfl _ rfl))

def cmp_isNaN_int (p1 : Int) : Option Bool :=
    some (p1 != p1)


theorem c_cmp_isNaN_int (p1 : Int) (r : Bool) (h : cmp_isNaN_int p1 = some r) : PC Tryd.prog 110 [vi p1] (vb r) := by
 unfold cmp_isNaN_int at h
 refine zF 6 Tryd.f110 (zq fun K1 hK1 => zr (zg [] 1 [0] (zd (hK1 _ _ (zq fun K2 hK2 => zr ?_)))))
 refine zg [] 4 [2] (zd (hK2 _ _ (ze ?_)))
 obtain rfl := Option.some.inj h
 exact zf [vb (p1 != p1)] (.one (.rfl _ rfl))

def cmp_Compare_int (p1 : Int) (p2 : Int) : Option Int :=
    bnd (cmp_isNaN_int p1) fun r1 =>
    bnd (cmp_isNaN_int p2) fun r2 =>
    ift r1
      (ift r2
         (some (0 : Int))
         (some (-1 : Int)))
      (ift r2
         (some (1 : Int))
         (ift (decide (p1 < p2))
            (some (-1 : Int))
            (ift (decide (p2 < p1))
               (some (1 : Int))
               (some (0 : Int)))))


theorem c_cmp_Compare_int (p1 : Int) (p2 : Int) (r : Int) (h : cmp_Compare_int p1 p2 = some r) : PC Tryd.prog 62 [vi p1, vi p2] (vi r) := by
 unfold cmp_Compare_int at h
 refine zF 20 Tryd.f62 (zq fun K1 hK1 => zr (zg [] 1 [0,1] (zd (hK1 _ _ (zq fun K2 hK2 => ?_)))))
 obtain ⟨r1, c3, h⟩ := zB h
 refine zr (zg [] 1 [0,1,7] (zl 110 [vi p1] (vb r1) [(8, vb r1), (0, vi p1), (1, vi p2), (7, vi p1)] (c_cmp_isNaN_int _ _ c3) (zg [] 1 [0,1,5] (zd (hK2 _ _ (zq fun K4 hK4 => ?_))))))
 obtain ⟨r2, c5, h⟩ := zB h
 refine zr (zg [] 1 [0,1,5,9] (zl 110 [vi p2] (vb r2) [(10, vb r2), (0, vi p1), (1, vi p2), (5, vb r1), (9, vi p2)] (c_cmp_isNaN_int _ _ c5) (zg [] 1 [0,1,5,6] (zd (hK4 _ _ (zq fun K6 hK6 => zq fun K7 hK7 => ?_))))))
 refine zr (zg [] 1 [0,1,6,11] (zd (hK7 _ _ (zC h (fun b8 h => ?_) (fun b8 h => ?_)))))
 ·refine zq fun K9 hK9 => zq fun K10 hK10 => zr (zv [] 1 [12] [] [(12, vb r2)] [] (zd (hK10 _ _ (zC h (fun b11 h => ?_) (fun b11 h => ?_)))))
  ·refine zq fun K12 hK12 => zr (zg [] 1 [4] (zd (hK12 _ _ (ze ?_))))
   obtain rfl := Option.some.inj h
   exact zf [vi (0 : Int)] (.one (.rfl _ rfl))
  ·refine zs (hK9 _ _ (zq fun K13 hK13 => zr (zg [] 1 [4] (zd (hK13 _ _ (ze ?_))))))
   obtain rfl := Option.some.inj h
   exact zf [vi (-1 : Int)] (.one (.rfl _ rfl))
 ·refine zs (hK6 _ _ (zq fun K14 hK14 => zq fun K15 hK15 => zr (zg [] 1 [0,1,13] (zd (hK15 _ _ ?_)))))
  refine zC h (fun b16 h => ?_) (fun b16 h => ?_)
  ·refine zq fun K17 hK17 => zr (zg [] 1 [4] (zd (hK17 _ _ (ze ?_))))
   obtain rfl := Option.some.inj h
   exact zf [vi (1 : Int)] (.one (.rfl _ rfl))
  ·refine zs (hK14 _ _ (zq fun K18 hK18 => zq fun K19 hK19 => zr (zv [] 3 [0,1,16] [] [(0, vi p1), (1, vi p2), (16, vb (decide (p1 < p2)))] [] (zd (hK19 _ _ ?_)))))
   refine zC h (fun b20 h => ?_) (fun b20 h => ?_)
   ·refine zq fun K21 hK21 => zr (zg [] 1 [4] (zd (hK21 _ _ (ze ?_))))
    obtain rfl := Option.some.inj h
    exact zf [vi (-1 : Int)] (.one (.rfl _ rfl))
   ·refine zs (hK18 _ _ (zq fun K22 hK22 => zq fun K23 hK23 => zr (zg [] 3 [19] (zd (hK23 _ _ ?_)))))
    refine zC h (fun b24 h => ?_) (fun b24 h => ?_)
    ·refine zq fun K25 hK25 => zr (zv [] 1 [4] [] [(4, vi (1 : Int))] [] (zd (hK25 _ _ (ze ?_))))
     obtain rfl := Option.some.inj h
     exact zf [vi (1 : Int)] (.one (.rfl _ rfl))
    ·refine zs (hK22 _ _ (zq fun K26 hK26 => zr (zg [] 1 [4] (zd (hK26 _ _ (ze ?_))))))
     obtain rfl := Option.some.inj h
     exact zf [vi (0 : Int)] (.one (.rfl _ rfl))

def value_wide_zero (p1 : GWide) : Option Bool :=
    bnd (some ((p1.size.1 == (0 : Int)) && ((p1.size.2.1 == (0 : Int)) && ((p1.size.2.2.1 == (0 : Int)) && ((p1.size.2.2.2 == (0 : Int)) && true))))) fun y1 =>
    some y1


theorem c_value_wide_zero (p1 : GWide) (r : Bool) (h : value_wide_zero p1 = some r) : PC Tryd.prog 109 [.ag [cb p1.neg, ck .u64 p1.size.1, ck .u64 p1.size.2.1, ck .u64 p1.size.2.2.1, ck .u64 p1.size.2.2.2]] (vb r) := by
 unfold value_wide_zero at h
 refine zF 7 Tryd.f109 (zq fun K1 hK1 => zr (zg [] 2 [1] (zd (hK1 _ _ (zq fun K2 hK2 => ?_)))))
 obtain ⟨y1, hy3, h⟩ := zB h
 refine zr (zv [] 4 [6] [[.s (.bool p1.neg), .s (.int .u64 p1.size.1), .s (.int .u64 p1.size.2.1), .s (.int .u64 p1.size.2.2.1), .s (.int .u64 p1.size.2.2.2)]] [(6, vb ((p1.size.1 == (0 : Int)) && ((p1.size.2.1 == (0 : Int)) && ((p1.size.2.2.1 == (0 : Int)) && ((p1.size.2.2.2 == (0 : Int)) && true)))))] [] ?_)
 rw [show ((p1.size.1 == (0 : Int)) && ((p1.size.2.1 == (0 : Int)) && ((p1.size.2.2.1 == (0 : Int)) && ((p1.size.2.2.2 == (0 : Int)) && true)))) = y1 from Option.some.inj hy3]
 refine zg [] 1 [2] (zd (hK2 _ _ (ze ?_)))
 obtain rfl := Option.some.inj h
 exact zf [vb y1] (.one (.rfl _ rfl))

def value_wide_compare (p1 : GWide) (p2 : GWide) : Option Int :=
    bnd (value_wide_minus BIG (GWide.mk p1.neg (p1.size.1, p1.size.2.1, p1.size.2.2.1, p1.size.2.2.2)) (GWide.mk p2.neg (p2.size.1, p2.size.2.1, p2.size.2.2.1, p2.size.2.2.2))) fun r1 =>
    bnd (value_wide_zero (GWide.mk r1.neg (r1.size.1, r1.size.2.1, r1.size.2.2.1, r1.size.2.2.2))) fun r2 =>
    ift r2
      (some (0 : Int))
      (ift r1.neg
         (some (-1 : Int))
         (some (1 : Int)))

abbrev qa1096 (p1 : GWide) : List CV := [cb p1.neg, ck .u64 p1.size.1, ck .u64 p1.size.2.1, ck .u64 p1.size.2.2.1, ck .u64 p1.size.2.2.2]
abbrev qa1097 (p2 : GWide) : List CV := [cb p2.neg, ck .u64 p2.size.1, ck .u64 p2.size.2.1, ck .u64 p2.size.2.2.1, ck .u64 p2.size.2.2.2]
abbrev qa1100 (r1 : GWide) : List CV := [cb r1.neg, ck .u64 r1.size.1, ck .u64 r1.size.2.1, ck .u64 r1.size.2.2.1, ck .u64 r1.size.2.2.2]

theorem c_value_wide_compare (p1 : GWide) (p2 : GWide) (r : Int) (h : value_wide_compare p1 p2 = some r) : PC Tryd.prog 65 [.ag (qa1096 p1), .ag (qa1097 p2)] (vi r) := by
 unfold value_wide_compare at h
 refine zF 15 Tryd.f65 (zq fun K1 hK1 => zr (zg [5] 3 [2,3] (zd (hK1 _ _ (zq fun K2 hK2 => zq fun K3 hK3 => ?_)))))
 obtain ⟨r1, c4, h⟩ := zB h
 refine zr (zu [5] 2 [6,7] [[.s (.bool p1.neg), .s (.int .u64 p1.size.1), .s (.int .u64 p1.size.2.1), .s (.int .u64 p1.size.2.2.1), .s (.int .u64 p1.size.2.2.2)], [.s (.bool p2.neg), .s (.int .u64 p2.size.1), .s (.int .u64 p2.size.2.1), .s (.int .u64 p2.size.2.2.1), .s (.int .u64 p2.size.2.2.2)]] ?_)
 refine zl 107 [.ag (qa1096 p1), .ag (qa1097 p2)] (.ag (qa1100 r1)) [(8, .ag (qa1100 r1)), (6, .ag (qa1096 p1)), (7, .ag (qa1097 p2))] (c_value_wide_minus BIG _ _ _ c4) ?_
 refine zg [5] 2 [5] (zd (hK3 _ _ (zb 0 (zq fun K5 hK5 => ?_))))
 obtain ⟨r2, c6, h⟩ := zB h
 refine zr (zg [5] 1 [5,10] (zl 109 [.ag (qa1100 r1)] (vb r2) [(11, vb r2), (5, .one (.pt 0 0 0 0)), (10, .ag (qa1100 r1))] (c_value_wide_zero _ _ c6) (zg [5] 1 [5,9] (zd (hK5 _ _ (zC h (fun b7 h => ?_) (fun b7 h => ?_)))))))
 ·refine zq fun K8 hK8 => zr (zg [5] 1 [4] (zd (hK8 _ _ (ze ?_))))
  obtain rfl := Option.some.inj h
  exact zf [vi (0 : Int)] (.one (.rfl _ rfl))
 ·refine zq fun K9 hK9 => zr (zv [5] 3 [12] [] [(12, vb r1.neg)] [.box (qa1100 r1)] (zd (hK9 _ _ (zC h (fun b10 h => ?_) (fun b10 h => ?_)))))
  ·refine zq fun K11 hK11 => zr (zg [5] 1 [4] (zd (hK11 _ _ (ze ?_))))
   obtain rfl := Option.some.inj h
   exact zf [vi (-1 : Int)] (.one (.rfl _ rfl))
  ·refine zs (hK2 _ _ (zq fun K12 hK12 => zr (zg [5] 1 [4] (zd (hK12 _ _ (ze ?_))))))
   obtain rfl := Option.some.inj h
   exact zf [vi (1 : Int)] (.one (.rfl _ rfl))

def cmp_isNaN_string (p1 : ByteArray) : Option Bool :=
    some (!(p1.toList == p1.toList))


theorem c_cmp_isNaN_string (p1 : ByteArray) (r : Bool) (h : cmp_isNaN_string p1 = some r) : PC Tryd.prog 125 [vs p1] (vb r) := by
 unfold cmp_isNaN_string at h
 refine zF 6 Tryd.f125 (zq fun K1 hK1 => zr (zg [] 1 [0] (zd (hK1 _ _ (zq fun K2 hK2 => zr ?_)))))
 refine zg [] 4 [2] (zd (hK2 _ _ (ze ?_)))
 obtain rfl := Option.some.inj h
 exact zf [vb (!(p1.toList == p1.toList))] (.one (.rfl _ rfl))

def cmp_Compare_string (p1 : ByteArray) (p2 : ByteArray) : Option Int :=
    bnd (cmp_isNaN_string p1) fun r1 =>
    bnd (cmp_isNaN_string p2) fun r2 =>
    ift r1
      (ift r2
         (some (0 : Int))
         (some (-1 : Int)))
      (ift r2
         (some (1 : Int))
         (ift (Op.bytesLess p1.toList p2.toList)
            (some (-1 : Int))
            (ift (!(Op.bytesLess p1.toList p2.toList || p1.toList == p2.toList))
               (some (1 : Int))
               (some (0 : Int)))))


theorem c_cmp_Compare_string (p1 : ByteArray) (p2 : ByteArray) (r : Int) (h : cmp_Compare_string p1 p2 = some r) : PC Tryd.prog 111 [vs p1, vs p2] (vi r) := by
 unfold cmp_Compare_string at h
 refine zF 20 Tryd.f111 (zq fun K1 hK1 => zr (zg [] 1 [0,1] (zd (hK1 _ _ (zq fun K2 hK2 => ?_)))))
 obtain ⟨r1, c3, h⟩ := zB h
 refine zr (zg [] 1 [0,1,7] (zl 125 [vs p1] (vb r1) [(8, vb r1), (0, vs p1), (1, vs p2), (7, vs p1)] (c_cmp_isNaN_string _ _ c3) (zg [] 1 [0,1,5] (zd (hK2 _ _ (zq fun K4 hK4 => ?_))))))
 obtain ⟨r2, c5, h⟩ := zB h
 refine zr (zg [] 1 [0,1,5,9] (zl 125 [vs p2] (vb r2) [(10, vb r2), (0, vs p1), (1, vs p2), (5, vb r1), (9, vs p2)] (c_cmp_isNaN_string _ _ c5) (zg [] 1 [0,1,5,6] (zd (hK4 _ _ (zq fun K6 hK6 => zq fun K7 hK7 => ?_))))))
 refine zr (zg [] 1 [0,1,6,11] (zd (hK7 _ _ (zC h (fun b8 h => ?_) (fun b8 h => ?_)))))
 ·refine zq fun K9 hK9 => zq fun K10 hK10 => zr (zv [] 1 [12] [] [(12, vb r2)] [] (zd (hK10 _ _ (zC h (fun b11 h => ?_) (fun b11 h => ?_)))))
  ·refine zq fun K12 hK12 => zr (zg [] 1 [4] (zd (hK12 _ _ (ze ?_))))
   obtain rfl := Option.some.inj h
   exact zf [vi (0 : Int)] (.one (.rfl _ rfl))
  ·refine zs (hK9 _ _ (zq fun K13 hK13 => zr (zg [] 1 [4] (zd (hK13 _ _ (ze ?_))))))
   obtain rfl := Option.some.inj h
   exact zf [vi (-1 : Int)] (.one (.rfl _ rfl))
 ·refine zs (hK6 _ _ (zq fun K14 hK14 => zq fun K15 hK15 => zr (zg [] 1 [0,1,13] (zd (hK15 _ _ ?_)))))
  refine zC h (fun b16 h => ?_) (fun b16 h => ?_)
  ·refine zq fun K17 hK17 => zr (zg [] 1 [4] (zd (hK17 _ _ (ze ?_))))
   obtain rfl := Option.some.inj h
   exact zf [vi (1 : Int)] (.one (.rfl _ rfl))
  ·refine zs (hK14 _ _ (zq fun K18 hK18 => zq fun K19 hK19 => zr (zv [] 3 [0,1,16] [] [(0, vs p1), (1, vs p2), (16, vb (Op.bytesLess p1.toList p2.toList))] [] (zd (hK19 _ _ ?_)))))
   refine zC h (fun b20 h => ?_) (fun b20 h => ?_)
   ·refine zq fun K21 hK21 => zr (zg [] 1 [4] (zd (hK21 _ _ (ze ?_))))
    obtain rfl := Option.some.inj h
    exact zf [vi (-1 : Int)] (.one (.rfl _ rfl))
   ·refine zs (hK18 _ _ (zq fun K22 hK22 => zq fun K23 hK23 => zr (zg [] 3 [19] (zd (hK23 _ _ ?_)))))
    refine zC h (fun b24 h => ?_) (fun b24 h => ?_)
    ·refine zq fun K25 hK25 => zr (zv [] 1 [4] [] [(4, vi (1 : Int))] [] (zd (hK25 _ _ (ze ?_))))
     obtain rfl := Option.some.inj h
     exact zf [vi (1 : Int)] (.one (.rfl _ rfl))
    ·refine zs (hK22 _ _ (zq fun K26 hK26 => zr (zg [] 1 [4] (zd (hK26 _ _ (ze ?_))))))
     obtain rfl := Option.some.inj h
     exact zf [vi (0 : Int)] (.one (.rfl _ rfl))

def cmp_Or_int_j1 : Option Int :=
    some (0 : Int)

def cmp_Or_int_l1 (p1 : (List Int)) : Nat → Int → Option Int
  | 0, _ => none
  | k1 + 1, x1 =>
    ift (decide (x1 < (p1.length : Int)))
      (bnd (at? p1 x1) fun e1 =>
       ift (e1 != (0 : Int))
         (some e1)
         ((cmp_Or_int_l1 p1 k1) (IntKind.i64.wrap (x1 + (1 : Int)))))
      (cmp_Or_int_j1)

def cmp_Or_int (p1 : (List Int)) : Option Int :=
    cmp_Or_int_l1 p1 BIG (0 : Int)


theorem c_cmp_Or_int (p1 : (List Int)) (r : Int) (h : cmp_Or_int p1 = some r) : PC Tryd.prog 64 [vl eI p1] (vi r) := by
 unfold cmp_Or_int at h
 refine zF 18 Tryd.f64 (zq fun K1 hK1 => zr (zg [] 1 [0] (zd (hK1 _ _ (zq fun K2 hK2 => zr ?_)))))
 refine zg [] 1 [0,3] (zd (hK2 _ _ (zq fun K3 hK3 => ?_)))
 have hJ1 : ∀ (_ : Unit), cmp_Or_int_j1 = some r → ∀ fr1 st1, Sub 18 0 [] fr1 st1 [(3, vi (0 : Int))] [] → K3 fr1 st1 := by
  intro _ h fr1 st1 hS
  unfold cmp_Or_int_j1 at h
  refine hK3 _ _ (XW.sub hS ?_)
  refine zq fun K14 hK14 => zr (zg [] 2 [2] (zd (hK14 _ _ (ze ?_))))
  obtain rfl := Option.some.inj h
  exact zf [vi (0 : Int)] (.one (.rfl _ rfl))
 refine zq fun K4 hK4 => zr (zv [] 2 [3,6,7] [] [(3, vi (0 : Int)), (6, vl eI p1), (7, vi ((eI.els p1).length : Int))] [] ?_)
 rw [eI.len p1]
 refine zg [] 1 [3,6,7,8] (zd (hK4 _ _ (zb 0 (XW.rounds' BIG (x := cd Tryd.f64 [1,1,0,1,0,0]) (by kernel_rfl) fun Q1 hQ1 => ?_))))
 have hL1 : ∀ (k1 : Nat) (x1 : Int), cmp_Or_int_l1 p1 k1 x1 = some r → XR Tryd.prog 18 0 [] (cd Tryd.f64 [1,1,0,1,0,0]) Q1 k1 [(3, vi (0 : Int)), (6, vl eI p1), (7, vi (p1.length : Int)), (8, vi x1)] [] := by
  intro k1
  induction k1 with
  | zero => intro x1 h; rw [cmp_Or_int_l1.eq_1] at h; cases h
  | succ k1 ih1 =>
   intro x1 h
   rw [cmp_Or_int_l1.eq_2] at h
   refine zq fun K5 hK5 => zr (zg [] 1 [3,6,7,8,9] (zd (hK5 _ _ (zq fun K6 hK6 => zC h (fun b7 h => ?_) (fun b7 h => ?_)))))
   ·refine zs (hK6 _ _ (zq fun K8 hK8 => zb 1 (zq fun K9 hK9 => ?_)))
    obtain ⟨e1, a10, h⟩ := zB h
    refine zr (zo [] 3 [3,5,6,7,8] [[pi e1]] [0 ≤ x1 ∧ x1 < ((eI.els p1).length : Int) ∧ elemsOk 1 (eI.els p1), (eI.els p1)[x1.toNat]? = some [pi e1]] (⟨eI.inb a10, (eI.get a10), trivial⟩) (zd (hK9 _ _ (zq fun K11 hK11 => zr (zv [] 3 [3,5,6,7,8,14] [] [(3, vi (0 : Int)), (5, vi e1), (6, vl eI p1), (7, vi (p1.length : Int)), (8, vi x1), (14, vb (e1 != (0 : Int)))] [] (zd ?_))))))
    refine hK11 _ _ (zC h (fun b12 h => ?_) (fun b12 h => ?_))
    ·refine zq fun K13 hK13 => zr (zg [] 2 [2] (zd (hK13 _ _ (ze (hQ1 _ _ _ ?_)))))
     obtain rfl := Option.some.inj h
     exact zf [vi e1] (.one (.rfl _ rfl))
    ·exact zs (hK8 _ _ (zr (zg [] 2 [3,6,7,8] (zd (XR.sub (zk [3,6,7,8]) (ih1 (IntKind.i64.wrap (x1 + (1 : Int))) h))))))
   ·exact zx 0 (hQ1 _ _ _ (hJ1 () h _ _ (zk [3])))
 exact XR.sub (zk [3,6,7,8]) (hL1 BIG (0 : Int) h)

def slices_CompareFunc_api_Value_api_Value_api_Value_api_Value_of_value_Compare_j1 (p1 : (List GValue)) (p2 : (List GValue)) : Option Int :=
    ift (decide ((p1.length : Int) < (p2.length : Int)))
      (some (-1 : Int))
      (some (0 : Int))

def slices_CompareFunc_api_Value_api_Value_api_Value_api_Value_of_value_Compare_l1 (q_value_Compare : GValue → GValue → Option Int) (p1 : (List GValue)) (p2 : (List GValue)) : Nat → Int → Option Int
  | 0, _ => none
  | k1 + 1, x1 =>
    ift (decide (x1 < (p1.length : Int)))
      (bnd (at? p1 x1) fun e1 =>
       ift (decide ((p2.length : Int) ≤ x1))
         (some (1 : Int))
         (bnd (at? p2 x1) fun e2 =>
          bnd (q_value_Compare e1 e2) fun r1 =>
          ift (r1 != (0 : Int))
            (some r1)
            ((slices_CompareFunc_api_Value_api_Value_api_Value_api_Value_of_value_Compare_l1 q_value_Compare p1 p2 k1) (IntKind.i64.wrap (x1 + (1 : Int))))))
      (slices_CompareFunc_api_Value_api_Value_api_Value_api_Value_of_value_Compare_j1 p1 p2)

def value_Compare_j2 (q_value_rest : GValue → GValue → Option Int) (p1 : GValue) (p2 : GValue) : Option Int :=
    bnd (cmp_Compare_int p1.n p2.n) fun r9 =>
    bnd (q_value_rest p1 p2) fun r10 =>
    bnd (cmp_Or_int [r9, r10]) fun r11 =>
    some r11

def value_Compare_j1 (q_value_rest : GValue → GValue → Option Int) (p1 : GValue) (p2 : GValue) (r2 : Bool) (r3 : Bool) (x1 : Bool) : Option Int :=
    ift x1
      (bnd (value_scaled p1.n (IntKind.i64.wrap ((12 : Int) - p1.scale))) fun r4 =>
       bnd (value_scaled p2.n (IntKind.i64.wrap ((12 : Int) - p2.scale))) fun r5 =>
       bnd (value_wide_compare (GWide.mk r4.neg (r4.size.1, r4.size.2.1, r4.size.2.2.1, r4.size.2.2.2)) (GWide.mk r5.neg (r5.size.1, r5.size.2.1, r5.size.2.2.1, r5.size.2.2.2))) fun r6 =>
       bnd (q_value_rest p1 p2) fun r7 =>
       bnd (cmp_Or_int [r6, r7]) fun r8 =>
       some r8)
      (ift r2
         (some (-1 : Int))
         (ift r3
            (some (1 : Int))
            (value_Compare_j2 q_value_rest p1 p2)))

mutual

def slices_CompareFunc_api_Value_api_Value_api_Value_api_Value_of_value_Compare : Nat → (List GValue) → (List GValue) → Option Int
  | 0, _, _ => none
  | k0 + 1, p1, p2 =>
    slices_CompareFunc_api_Value_api_Value_api_Value_api_Value_of_value_Compare_l1 (value_Compare k0) p1 p2 BIG (0 : Int)

def value_Compare : Nat → GValue → GValue → Option Int
  | 0, _, _ => none
  | k0 + 1, p1, p2 =>
    ift (p1.kind != p2.kind)
      (ift (p1.kind == (0 : Int))
         (some (1 : Int))
         (ift (p2.kind == (0 : Int))
            (some (-1 : Int))
            (bnd (cmp_Compare_int p1.kind p2.kind) fun r1 =>
             some r1)))
      (ift (p1.kind == (0 : Int))
         (some (0 : Int))
         (ift (p1.kind == (3 : Int))
            (bnd (value_within p1.scale (0 : Int) (12 : Int)) fun r2 =>
             bnd (value_within p2.scale (0 : Int) (12 : Int)) fun r3 =>
             ift r2
               (value_Compare_j1 (value_rest k0) p1 p2 r2 r3 r3)
               (value_Compare_j1 (value_rest k0) p1 p2 r2 r3 false))
            (value_Compare_j2 (value_rest k0) p1 p2)))

def value_rest : Nat → GValue → GValue → Option Int
  | 0, _, _ => none
  | k0 + 1, p1, p2 =>
    bnd (cmp_Compare_int p1.scale p2.scale) fun r1 =>
    bnd (cmp_Compare_string p1.s p2.s) fun r2 =>
    bnd ((slices_CompareFunc_api_Value_api_Value_api_Value_api_Value_of_value_Compare k0) p1.items p2.items) fun r3 =>
    bnd (cmp_Or_int [r1, r2, r3]) fun r4 =>
    some r4

end

abbrev qa1120 (e1 : GValue) : List CV := [ci e1.kind, ci e1.n, ci e1.scale, cst e1.s, cl eValue e1.items]
abbrev qa1121 (e2 : GValue) : List CV := [ci e2.kind, ci e2.n, ci e2.scale, cst e2.s, cl eValue e2.items]
abbrev qa1123 (p1 : (List GValue)) (p2 : (List GValue)) (x1 : Int) : Fr := [(0, vl eValue p1), (1, vl eValue p2), (2, .one (.pv (.fn 23 []))), (11, vl eValue p1), (12, vi (p1.length : Int)), (13, vi (IntKind.i64.wrap (x1 + (1 : Int))))]
abbrev qa1125 (p1 : GValue) : List CV := [ci p1.kind, ci p1.n, ci p1.scale, cst p1.s, cl eValue p1.items]
abbrev qa1126 (p2 : GValue) : List CV := [ci p2.kind, ci p2.n, ci p2.scale, cst p2.s, cl eValue p2.items]
abbrev qa1127 (p1 : GValue) : List PV := [pi p1.kind, pi p1.n, pi p1.scale, .s (.string p1.s), .ro (eValue.els p1.items)]
abbrev qa1128 (p2 : GValue) : List PV := [pi p2.kind, pi p2.n, pi p2.scale, .s (.string p2.s), .ro (eValue.els p2.items)]
abbrev qa1133 (r5 : GWide) : List CV := [cb r5.neg, ck .u64 r5.size.1, ck .u64 r5.size.2.1, ck .u64 r5.size.2.2.1, ck .u64 r5.size.2.2.2]
abbrev qa1134 (r4 : GWide) : List CV := [cb r4.neg, ck .u64 r4.size.1, ck .u64 r4.size.2.1, ck .u64 r4.size.2.2.1, ck .u64 r4.size.2.2.2]
abbrev qa1138 (p1 : GValue) (p2 : GValue) (r9 : Int) : Fr := [(68, .ag (qa1126 p2)), (67, .ag (qa1125 p1)), (66, vi r9), (65, vi p2.n), (64, .one (.pv (.rp [(qa1128 p2)] 0 1))), (63, vi p1.n), (62, .one (.pv (.rp [(qa1127 p1)] 0 1))), (2, .one (.pv (.rp [(qa1127 p1)] 0 0))), (3, .one (.pv (.rp [(qa1128 p2)] 0 0)))]
abbrev qa1143 (p1 : GValue) (p2 : GValue) (r2 : Bool) (r3 : Bool) (x1 : Bool) (r4 : GWide) (r5 : GWide) (r6 : Int) : Fr := [(54, .ag (qa1126 p2)), (53, .ag (qa1125 p1)), (52, vi r6), (51, .ag (qa1133 r5)), (50, vi (IntKind.i64.wrap ((12 : Int) - p2.scale))), (49, vi p2.scale), (48, .one (.pv (.rp [(qa1128 p2)] 0 2))), (47, vi p2.n), (46, .one (.pv (.rp [(qa1128 p2)] 0 1))), (45, .ag (qa1134 r4)), (44, vi (IntKind.i64.wrap ((12 : Int) - p1.scale))), (43, vi p1.scale), (42, .one (.pv (.rp [(qa1127 p1)] 0 2))), (41, vi p1.n), (40, .one (.pv (.rp [(qa1127 p1)] 0 1))), (2, .one (.pv (.rp [(qa1127 p1)] 0 0))), (3, .one (.pv (.rp [(qa1128 p2)] 0 0))), (5, vb r2), (6, vb r3), (35, vb x1)]
abbrev qa1148 (p2 : GValue) : List PV := [pi p2.kind, pi p2.n, pi p2.scale, .s (.string p2.s), .ro (eValue.els p2.items)]
abbrev qa1149 (p1 : GValue) : List PV := [pi p1.kind, pi p1.n, pi p1.scale, .s (.string p1.s), .ro (eValue.els p1.items)]
abbrev qa1151 (p1 : GValue) (p2 : GValue) (r1 : Int) (r2 : Int) : Fr := [(18, vl eValue p2.items), (17, .one (.pv (.rp [(qa1148 p2)] 0 4))), (16, vl eValue p1.items), (15, .one (.pv (.rp [(qa1149 p1)] 0 4))), (14, vi r2), (13, vs p2.s), (12, .one (.pv (.rp [(qa1148 p2)] 0 3))), (11, vs p1.s), (10, .one (.pv (.rp [(qa1149 p1)] 0 3))), (9, vi r1), (8, vi p2.scale), (7, .one (.pv (.rp [(qa1148 p2)] 0 2))), (6, vi p1.scale), (5, .one (.pv (.rp [(qa1149 p1)] 0 2))), (2, .one (.pv (.rp [(qa1149 p1)] 0 0))), (3, .one (.pv (.rp [(qa1148 p2)] 0 0)))]

mutual

theorem c_slices_CompareFunc_api_Value_api_Value_api_Value_api_Value_of_value_Compare : ∀ (k0 : Nat) (p1 : (List GValue)) (p2 : (List GValue)) (r : Int), slices_CompareFunc_api_Value_api_Value_api_Value_api_Value_of_value_Compare k0 p1 p2 = some r → PC Tryd.prog 112 [vl eValue p1, vl eValue p2, .one (.pv (.fn 23 []))] (vi r)
 | 0, _, _, r, h => by rw [slices_CompareFunc_api_Value_api_Value_api_Value_api_Value_of_value_Compare.eq_1] at h; cases h
 | k0 + 1, p1, p2, r, h => by
  rw [slices_CompareFunc_api_Value_api_Value_api_Value_api_Value_of_value_Compare.eq_2] at h
  refine zF 39 Tryd.f112 (zq fun K1 hK1 => zr (zg [8, 9] 1 [0,1,2] (zd (hK1 _ _ (zq fun K2 hK2 => ?_)))))
  have hJ1 : ∀ (_ : Unit), slices_CompareFunc_api_Value_api_Value_api_Value_api_Value_of_value_Compare_j1 p1 p2 = some r → ∀ fr1 st1, Sub 39 0 [] fr1 st1 [(0, vl eValue p1), (1, vl eValue p2)] [] → K2 fr1 st1 := by
   intro _ h fr1 st1 hS
   unfold slices_CompareFunc_api_Value_api_Value_api_Value_api_Value_of_value_Compare_j1 at h
   refine hK2 _ _ (XW.sub hS ?_)
   refine zq fun K21 hK21 => zq fun K22 hK22 => zr (zv [8, 9] 2 [1,35] [] [(1, vl eValue p2), (35, vi ((eValue.els p1).length : Int))] [] ?_)
   rw [eValue.len p1]
   refine zv [8, 9] 2 [35,37] [] [(35, vi (p1.length : Int)), (37, vi ((eValue.els p2).length : Int))] [] ?_
   rw [eValue.len p2]
   refine zg [8, 9] 1 [38] (zd (hK22 _ _ (zC h (fun b23 h => ?_) (fun b23 h => ?_))))
   ·refine zq fun K24 hK24 => zr (zg [8, 9] 1 [6] (zd (hK24 _ _ (ze ?_))))
    obtain rfl := Option.some.inj h
    exact zf [vi (-1 : Int)] (.one (.rfl _ rfl))
   ·refine zs (hK21 _ _ (zq fun K25 hK25 => zr (zv [8, 9] 1 [6] [] [(6, vi (0 : Int))] [] (zd (hK25 _ _ (ze ?_))))))
    obtain rfl := Option.some.inj h
    exact zf [vi (0 : Int)] (.one (.rfl _ rfl))
  refine zq fun K3 hK3 => zr (zv [8, 9] 2 [0,1,2,11,12] [] [(0, vl eValue p1), (1, vl eValue p2), (2, .one (.pv (.fn 23 []))), (11, vl eValue p1), (12, vi ((eValue.els p1).length : Int))] [] ?_)
  rw [eValue.len p1]
  refine zg [8, 9] 1 [0,1,2,11,12,13] (zd (hK3 _ _ (zb 0 (XW.rounds' BIG (x := cd Tryd.f112 [1,0,1,0,0]) (by kernel_rfl) fun Q1 hQ1 => ?_))))
  have hL1 : ∀ (k1 : Nat) (x1 : Int), slices_CompareFunc_api_Value_api_Value_api_Value_api_Value_of_value_Compare_l1 (value_Compare k0) p1 p2 k1 x1 = some r → XR Tryd.prog 39 0 [] (cd Tryd.f112 [1,0,1,0,0]) Q1 k1 [(0, vl eValue p1), (1, vl eValue p2), (2, .one (.pv (.fn 23 []))), (11, vl eValue p1), (12, vi (p1.length : Int)), (13, vi x1)] [] := by
   intro k1
   induction k1 with
   | zero => intro x1 h; rw [slices_CompareFunc_api_Value_api_Value_api_Value_api_Value_of_value_Compare_l1.eq_1] at h; cases h
   | succ k1 ih1 =>
    intro x1 h
    rw [slices_CompareFunc_api_Value_api_Value_api_Value_api_Value_of_value_Compare_l1.eq_2] at h
    refine zq fun K4 hK4 => zr (zg [8, 9] 1 [0,1,2,11,12,13,14] (zd (hK4 _ _ (zq fun K5 hK5 => zC h (fun b6 h => ?_) (fun b6 h => ?_)))))
    ·refine zs (hK5 _ _ (zq fun K7 hK7 => zb 1 (zq fun K8 hK8 => ?_)))
     obtain ⟨e1, a9, h⟩ := zB h
     refine zr (zo [8, 9] 6 [0,1,2,7,8,11,12,13] [[pi e1.kind, pi e1.n, pi e1.scale, .s (.string e1.s), .ro (eValue.els e1.items)]] [0 ≤ x1 ∧ x1 < ((eValue.els p1).length : Int) ∧ elemsOk 5 (eValue.els p1), (eValue.els p1)[x1.toNat]? = some [pi e1.kind, pi e1.n, pi e1.scale, .s (.string e1.s), .ro (eValue.els e1.items)]] (⟨eValue.inb a9, ((eValue.get a9).trans (by cases e1; rfl)), trivial⟩) (zd (hK8 _ _ (zq fun K10 hK10 => zq fun K11 hK11 => zr ?_))))
     refine zv [8, 9] 3 [0,1,2,7,8,11,12,13,18,20] [] [(0, vl eValue p1), (1, vl eValue p2), (2, .one (.pv (.fn 23 []))), (7, vi x1), (8, .one (.pt 0 0 0 0)), (11, vl eValue p1), (12, vi (p1.length : Int)), (13, vi x1), (18, vi x1), (20, vi ((eValue.els p2).length : Int))] [.box [ci e1.kind, ci e1.n, ci e1.scale, cst e1.s, cl eValue e1.items]] ?_
     rw [eValue.len p2]
     refine zg [8, 9] 1 [0,1,2,7,8,11,12,13,21] (zd (hK11 _ _ (zC h (fun b12 h => ?_) (fun b12 h => ?_))))
     ·refine zq fun K13 hK13 => zr (zg [8, 9] 1 [6] (zd (hK13 _ _ (ze (hQ1 _ _ _ ?_)))))
      obtain rfl := Option.some.inj h
      exact zf [vi (1 : Int)] (.one (.rfl _ rfl))
     ·refine zs (hK10 _ _ (zq fun K14 hK14 => ?_))
      obtain ⟨e2, a15, h⟩ := zB h
      refine zr ?_
      refine zp [8, 9] 6 [0,1,2,8,9,11,12,13] [[pi e2.kind, pi e2.n, pi e2.scale, .s (.string e2.s), .ro (eValue.els e2.items)]] [(0, vl eValue p1), (1, vl eValue p2), (2, .one (.pv (.fn 23 []))), (8, .one (.pt 0 0 0 0)), (9, .one (.pt 1 0 0 0)), (11, vl eValue p1), (12, vi (p1.length : Int)), (13, vi x1)] [.box (qa1120 e1), .box (qa1121 e2)] [0 ≤ x1 ∧ x1 < ((eValue.els p2).length : Int) ∧ elemsOk 5 (eValue.els p2), (eValue.els p2)[x1.toNat]? = some [pi e2.kind, pi e2.n, pi e2.scale, .s (.string e2.s), .ro (eValue.els e2.items)]] (⟨eValue.inb a15, ((eValue.get a15).trans (by cases e2; rfl)), trivial⟩) ?_
      refine zd (hK14 _ _ (zq fun K16 hK16 => ?_))
      obtain ⟨r1, c17, h⟩ := zB h
      refine zr (zg [8, 9] 3 [0,1,2,11,12,13,26,27,28] (za (c_value_Compare k0 _ _ _ c17) (zv [8, 9] 1 [0,1,2,10,11,12,13] [] [(0, vl eValue p1), (1, vl eValue p2), (2, .one (.pv (.fn 23 []))), (10, vi r1), (11, vl eValue p1), (12, vi (p1.length : Int)), (13, vi x1)] [.box (qa1120 e1), .box (qa1121 e2)] (zd (hK16 _ _ (zq fun K18 hK18 => zr ?_))))))
      refine zg [8, 9] 2 [0,1,2,10,11,12,13,31] (zd (hK18 _ _ (zC h (fun b19 h => ?_) (fun b19 h => ?_))))
      ·refine zq fun K20 hK20 => zr (zg [8, 9] 2 [6] (zd (hK20 _ _ (ze (hQ1 _ _ _ ?_)))))
       obtain rfl := Option.some.inj h
       exact zf [vi r1] (.one (.rfl _ rfl))
      ·refine zs (hK7 _ _ (zr (zv [8, 9] 2 [0,1,2,11,12,13] [] (qa1123 p1 p2 x1) [.box (qa1120 e1), .box (qa1121 e2)] (zd ?_))))
       exact XR.sub (Sub.trans (Sub.pick (fr' := (qa1123 p1 p2 x1)) [0,1,2,11,12,13] (by kernel_rfl)) (Sub.take (fr' := (qa1123 p1 p2 x1)) 0 (Nat.zero_le _) (by kernel_rfl) (by kernel_rfl))) (ih1 (IntKind.i64.wrap (x1 + (1 : Int))) h)
    ·exact zx 0 (hQ1 _ _ _ (hJ1 () h _ _ (zk [0,1])))
  exact XR.sub (zk [0,1,2,11,12,13]) (hL1 BIG (0 : Int) h)

theorem c_value_Compare : ∀ (k0 : Nat) (p1 : GValue) (p2 : GValue) (r : Int), value_Compare k0 p1 p2 = some r → PC Tryd.prog 23 [.ag (qa1125 p1), .ag (qa1126 p2)] (vi r)
 | 0, _, _, r, h => by rw [value_Compare.eq_1] at h; cases h
 | k0 + 1, p1, p2, r, h => by
  rw [value_Compare.eq_2] at h
  refine zF 72 Tryd.f23 (zq fun K1 hK1 => zr (zg [] 3 [2,3] (zd (hK1 _ _ (zq fun K2 hK2 => zq fun K3 hK3 => ?_)))))
  refine zr (zu [] 5 [2,3,11] [(qa1127 p1), (qa1128 p2)] (zd (hK3 _ _ (zC h (fun b4 h => ?_) (fun b4 h => ?_)))))
  ·refine zq fun K5 hK5 => zq fun K6 hK6 => zr (zv [] 3 [2,3,14] [(qa1127 p1)] [(2, .one (.pv (.rp [(qa1127 p1)] 0 0))), (3, .one (.pv (.rp [(qa1128 p2)] 0 0))), (14, vb (p1.kind == (0 : Int)))] [] (zd (hK6 _ _ (zC h (fun b7 h => ?_) (fun b7 h => ?_)))))
   ·refine zq fun K8 hK8 => zr (zg [] 1 [4] (zd (hK8 _ _ (ze ?_))))
    obtain rfl := Option.some.inj h
    exact zf [vi (1 : Int)] (.one (.rfl _ rfl))
   ·refine zs (hK5 _ _ (zq fun K9 hK9 => zq fun K10 hK10 => zr (zu [] 3 [2,3,17] [(qa1128 p2)] (zd (hK10 _ _ ?_)))))
    refine zC h (fun b11 h => ?_) (fun b11 h => ?_)
    ·refine zq fun K12 hK12 => zr (zv [] 1 [4] [] [(4, vi (-1 : Int))] [] (zd (hK12 _ _ (ze ?_))))
     obtain rfl := Option.some.inj h
     exact zf [vi (-1 : Int)] (.one (.rfl _ rfl))
    ·refine zs (hK9 _ _ (zq fun K13 hK13 => ?_))
     obtain ⟨r1, c14, h⟩ := zB h
     refine zr (zu [] 4 [19,21] [(qa1127 p1), (qa1128 p2)] (za (c_cmp_Compare_int _ _ _ c14) (zv [] 1 [4] [] [(4, vi r1)] [] (zd (hK13 _ _ (ze ?_))))))
     obtain rfl := Option.some.inj h
     exact zf [vi r1] (.one (.rfl _ rfl))
  ·refine zs (hK2 _ _ (zq fun K15 hK15 => ?_))
   have hJ2 : ∀ (_ : Unit), value_Compare_j2 (value_rest k0) p1 p2 = some r → ∀ fr1 st1, Sub 72 0 [] fr1 st1 [(2, .one (.pv (.rp [(qa1127 p1)] 0 0))), (3, .one (.pv (.rp [(qa1128 p2)] 0 0)))] [] → K15 fr1 st1 := by
    intro _ h fr1 st1 hS
    unfold value_Compare_j2 at h
    refine hK15 _ _ (XW.sub hS ?_)
    refine zq fun K40 hK40 => ?_
    obtain ⟨r9, c41, h⟩ := zB h
    obtain ⟨r10, c42, h⟩ := zB h
    obtain ⟨r11, c43, h⟩ := zB h
    refine zw 7 (qa1138 p1 p2 r9) ?_ ?_
    ·refine zyu 4 [(qa1127 p1), (qa1128 p2)] (zya (c_cmp_Compare_int _ _ _ c41) ?_)
     refine zyv 2 [(qa1127 p1), (qa1128 p2)] (qa1138 p1 p2 r9) ?_
     exact zyd
    refine za (c_value_rest k0 _ _ _ c42) (zg [] 1 [70] (zl 64 [vl eI [r9, r10]] (vi r11) [(71, vi r11), (70, vl eI [r9, r10])] (c_cmp_Or_int _ _ c43) (zg [] 1 [4] (zd (hK40 _ _ (ze ?_))))))
    obtain rfl := Option.some.inj h
    exact zf [vi r11] (.one (.rfl _ rfl))
   refine zq fun K16 hK16 => zr (zu [] 2 [2,3,24] [(qa1127 p1)] (zd (hK16 _ _ (zb 0 (zq fun K17 hK17 => zr ?_)))))
   refine zg [] 2 [2,3,24,25] (zd (hK17 _ _ (zC h (fun b18 h => ?_) (fun b18 h => ?_))))
   ·refine zq fun K19 hK19 => zr (zv [] 1 [4] [] [(4, vi (0 : Int))] [] (zd (hK19 _ _ (ze ?_))))
    obtain rfl := Option.some.inj h
    exact zf [vi (0 : Int)] (.one (.rfl _ rfl))
   ·refine zq fun K20 hK20 => zr (zg [] 2 [2,3,27] (zd (hK20 _ _ (zC h (fun b21 h => ?_) (fun b21 h => ?_)))))
    ·refine zq fun K22 hK22 => ?_
     obtain ⟨r2, c23, h⟩ := zB h
     obtain ⟨r3, c24, h⟩ := zB h
     refine zw 5 [(33, vi p2.scale), (32, .one (.pv (.rp [(qa1128 p2)] 0 2))), (31, vb r2), (30, vi p1.scale), (29, .one (.pv (.rp [(qa1127 p1)] 0 2))), (2, .one (.pv (.rp [(qa1127 p1)] 0 0))), (3, .one (.pv (.rp [(qa1128 p2)] 0 0))), (27, vb (p1.kind == (3 : Int)))] ?_ ?_
     ·refine zyu 2 [(qa1127 p1)] ?_
      refine DX.cal 63 [vi p1.scale, vi (0 : Int), vi (12 : Int)] (vb r2) [(31, vb r2), (30, vi p1.scale), (29, .one (.pv (.rp [(qa1127 p1)] 0 2))), (2, .one (.pv (.rp [(qa1127 p1)] 0 0))), (3, .one (.pv (.rp [(qa1128 p2)] 0 0))), (27, vb (p1.kind == (3 : Int)))] (by kernel_rfl) (c_value_within _ _ _ _ c23) rfl rfl (by kernel_rfl) ?_
      exact zyu 2 [(qa1128 p2)] zyd
     refine za (c_value_within _ _ _ _ c24) (zv [] 2 [2,3,5,6] [] [(2, .one (.pv (.rp [(qa1127 p1)] 0 0))), (3, .one (.pv (.rp [(qa1128 p2)] 0 0))), (5, vb r2), (6, vb r3)] [] (zd (hK22 _ _ (zb 1 (zq fun K25 hK25 => ?_)))))
     have hJ1 : ∀ (x1 : Bool), value_Compare_j1 (value_rest k0) p1 p2 r2 r3 x1 = some r → ∀ fr1 st1, Sub 72 0 [] fr1 st1 [(2, .one (.pv (.rp [(qa1127 p1)] 0 0))), (3, .one (.pv (.rp [(qa1128 p2)] 0 0))), (5, vb r2), (6, vb r3), (35, vb x1)] [] → K25 fr1 st1 := by
      intro x1 h fr1 st1 hS
      unfold value_Compare_j1 at h
      refine hK25 _ _ (XW.sub hS ?_)
      refine zC h (fun b27 h => ?_) (fun b27 h => ?_)
      ·refine zq fun K28 hK28 => ?_
       obtain ⟨r4, c29, h⟩ := zB h
       obtain ⟨r5, c30, h⟩ := zB h
       obtain ⟨r6, c31, h⟩ := zB h
       obtain ⟨r7, c32, h⟩ := zB h
       obtain ⟨r8, c33, h⟩ := zB h
       refine zw 15 (qa1143 p1 p2 r2 r3 x1 r4 r5 r6) ?_ ?_
       ·refine zyu 5 [(qa1127 p1), (qa1127 p1)] (zya (c_value_scaled _ _ _ c29) ?_)
        refine zyv 5 [(qa1128 p2), (qa1128 p2)] [(50, vi (IntKind.i64.wrap ((12 : Int) - p2.scale))), (49, vi p2.scale), (48, .one (.pv (.rp [(qa1128 p2)] 0 2))), (47, vi p2.n), (46, .one (.pv (.rp [(qa1128 p2)] 0 1))), (45, .ag (qa1134 r4)), (44, vi (IntKind.i64.wrap ((12 : Int) - p1.scale))), (43, vi p1.scale), (42, .one (.pv (.rp [(qa1127 p1)] 0 2))), (41, vi p1.n), (40, .one (.pv (.rp [(qa1127 p1)] 0 1))), (2, .one (.pv (.rp [(qa1127 p1)] 0 0))), (3, .one (.pv (.rp [(qa1128 p2)] 0 0))), (5, vb r2), (6, vb r3), (35, vb x1)] ?_
        refine zya (c_value_scaled _ _ _ c30) (zya (c_value_wide_compare _ _ _ c31) ?_)
        refine zyv 2 [(qa1127 p1), (qa1128 p2)] (qa1143 p1 p2 r2 r3 x1 r4 r5 r6) ?_
        exact zyd
       refine za (c_value_rest k0 _ _ _ c32) (zg [] 1 [56] (zl 64 [vl eI [r6, r7]] (vi r8) [(57, vi r8), (56, vl eI [r6, r7])] (c_cmp_Or_int _ _ c33) (zg [] 1 [4] (zd (hK28 _ _ (ze ?_))))))
       obtain rfl := Option.some.inj h
       exact zf [vi r8] (.one (.rfl _ rfl))
      ·refine zq fun K34 hK34 => zr (zg [] 2 [2,3,6,58] (zd (hK34 _ _ (zC h (fun b35 h => ?_) (fun b35 h => ?_)))))
       ·refine zq fun K36 hK36 => zr (zv [] 1 [4] [] [(4, vi (-1 : Int))] [] (zd (hK36 _ _ (ze ?_))))
        obtain rfl := Option.some.inj h
        exact zf [vi (-1 : Int)] (.one (.rfl _ rfl))
       ·refine zq fun K37 hK37 => zr (zg [] 2 [2,3,60] (zd (hK37 _ _ (zC h (fun b38 h => ?_) (fun b38 h => ?_)))))
        ·refine zq fun K39 hK39 => zr (zg [] 1 [4] (zd (hK39 _ _ (ze ?_))))
         obtain rfl := Option.some.inj h
         exact zf [vi (1 : Int)] (.one (.rfl _ rfl))
        ·exact zs (hJ2 () h _ _ (zk [2,3]))
     rcases zW h with ⟨b26, h⟩ | ⟨b26, h⟩
     ·exact zr (zg [] 2 [2,3,5,6,37] (zt 37 b26 (zg [] 3 [2,3,5,6,35] (zd (hJ1 r3 h _ _ (zk [2,3,5,6,35]))))))
     ·exact zr (zv [] 2 [2,3,5,6,37] [] [(2, .one (.pv (.rp [(qa1127 p1)] 0 0))), (3, .one (.pv (.rp [(qa1128 p2)] 0 0))), (5, vb r2), (6, vb r3), (37, vb r2)] [] (zt 37 b26 (zg [] 3 [2,3,5,6,35] (zd (hJ1 false h _ _ (zk [2,3,5,6,35]))))))
    ·exact zs (hJ2 () h _ _ (zk [2,3]))

theorem c_value_rest : ∀ (k0 : Nat) (p1 : GValue) (p2 : GValue) (r : Int), value_rest k0 p1 p2 = some r → PC Tryd.prog 66 [.ag [ci p1.kind, ci p1.n, ci p1.scale, cst p1.s, cl eValue p1.items], .ag [ci p2.kind, ci p2.n, ci p2.scale, cst p2.s, cl eValue p2.items]] (vi r)
 | 0, _, _, r, h => by rw [value_rest.eq_1] at h; cases h
 | k0 + 1, p1, p2, r, h => by
  rw [value_rest.eq_2] at h
  refine zF 22 Tryd.f66 (zq fun K1 hK1 => zr (zg [] 3 [2,3] (zd (hK1 _ _ (zq fun K2 hK2 => ?_)))))
  obtain ⟨r1, c3, h⟩ := zB h
  obtain ⟨r2, c4, h⟩ := zB h
  obtain ⟨r3, c5, h⟩ := zB h
  obtain ⟨r4, c6, h⟩ := zB h
  refine zw 14 (qa1151 p1 p2 r1 r2) ?_ ?_
  ·refine zyu 4 [(qa1149 p1), (qa1148 p2)] ?_
   refine DX.cal 62 [vi p1.scale, vi p2.scale] (vi r1) [(9, vi r1), (8, vi p2.scale), (7, .one (.pv (.rp [(qa1148 p2)] 0 2))), (6, vi p1.scale), (5, .one (.pv (.rp [(qa1149 p1)] 0 2))), (2, .one (.pv (.rp [(qa1149 p1)] 0 0))), (3, .one (.pv (.rp [(qa1148 p2)] 0 0)))] (by kernel_rfl) (c_cmp_Compare_int _ _ _ c3) rfl rfl (by kernel_rfl) ?_
   refine zyu 4 [(qa1149 p1), (qa1148 p2)] (zya (c_cmp_Compare_string _ _ _ c4) ?_)
   refine zyv 4 [(qa1149 p1), (qa1148 p2)] (qa1151 p1 p2 r1 r2) ?_
   exact zyd
  refine za (c_slices_CompareFunc_api_Value_api_Value_api_Value_api_Value_of_value_Compare k0 _ _ _ c5) (zv [] 1 [20] [] [(20, vl eI [r1, r2, r3])] [] (za (c_cmp_Or_int _ _ c6) (zg [] 1 [4] (zd (hK2 _ _ (ze ?_))))))
  obtain rfl := Option.some.inj h
  exact zf [vi r4] (.one (.rfl _ rfl))

end

def bytes_Compare (p1 : (List Int)) (p2 : (List Int)) : Option Int :=
    some (cmpB p1 p2)


theorem c_bytes_Compare (p1 : (List Int)) (p2 : (List Int)) (r : Int) (h : bytes_Compare p1 p2 = some r) : PC Tryd.prog 24 [vl (eK .u8) p1, vl (eK .u8) p2] (vi r) := by
 unfold bytes_Compare at h
 refine zF 8 Tryd.f24 (zq fun K1 hK1 => zr (zg [] 1 [0,1] (zd (hK1 _ _ (zq fun K2 hK2 => zr ?_)))))
 refine zv [] 2 [5,6] [] [(5, vl (eK .u8) p1), (6, vl (eK .u8) p2)] [] (XO.exa 67 [vl (eK .u8) p1, vl (eK .u8) p2] (vi (cmpB p1 p2)) [(7, vi (cmpB p1 p2)), (5, vl (eK .u8) p1), (6, vl (eK .u8) p2)] (by kernel_rfl) (ext_bytesCompare (fn := Tryd.f67) (by kernel_rfl) (by kernel_rfl) (by kernel_rfl) (by kernel_rfl) (by kernel_rfl) _ _) (by kernel_rfl) (zg [] 1 [4] (zd (hK2 _ _ (ze ?_)))))
 obtain rfl := Option.some.inj h
 exact zf [vi (cmpB p1 p2)] (.one (.rfl _ rfl))

def law1_ValueKeysAreOrdered_j3 (rec2 : Int → Int → Option Bool) (x3 : Int) (r4 : Int) (x5 : Bool) : Option Bool :=
    ift x5
      (some false)
      (rec2 r4 (IntKind.i64.wrap (x3 + (1 : Int))))

def law1_ValueKeysAreOrdered_j7 (x9 : Bool) : Option Bool :=
    some x9

def law1_ValueKeysAreOrdered_j6 (p1 : (List GValue)) (p2 : (List GValue)) (x8 : Int) : Option Bool :=
    bnd (value_Key p1) fun r7 =>
    bnd (value_Key p2) fun r8 =>
    ift ((p1.length : Int) == (0 : Int))
      (bnd (bytes_Compare r7 r8) fun r9 =>
       law1_ValueKeysAreOrdered_j7 (r9 == x8))
      (ift (decide ((0 : Int) < (r7.length : Int)))
         (bnd (bytes_Compare r7 r8) fun r10 =>
          law1_ValueKeysAreOrdered_j7 (r10 == x8))
         (law1_ValueKeysAreOrdered_j7 false))

def law1_ValueKeysAreOrdered_j5 (p1 : (List GValue)) (p2 : (List GValue)) (x6 : Int) (x7 : Bool) : Option Bool :=
    ift x7
      (ift (decide ((p1.length : Int) < (p2.length : Int)))
         (law1_ValueKeysAreOrdered_j6 p1 p2 (-1 : Int))
         (law1_ValueKeysAreOrdered_j6 p1 p2 (1 : Int)))
      (law1_ValueKeysAreOrdered_j6 p1 p2 x6)

def law1_ValueKeysAreOrdered_j4 (p1 : (List GValue)) (p2 : (List GValue)) (x6 : Int) : Option Bool :=
    ift (x6 == (0 : Int))
      (law1_ValueKeysAreOrdered_j5 p1 p2 x6 ((p1.length : Int) != (p2.length : Int)))
      (law1_ValueKeysAreOrdered_j5 p1 p2 x6 false)

def law1_ValueKeysAreOrdered_j2 (rec2 : Int → Int → Option Bool) (p1 : (List GValue)) (p2 : (List GValue)) (x2 : Int) (x3 : Int) (x4 : Bool) : Option Bool :=
    ift x4
      (bnd (at? p1 x3) fun e2 =>
       bnd (at? p2 x3) fun e3 =>
       bnd (value_Compare BIG e2 e3) fun r4 =>
       bnd (value_Hash e2) fun r5 =>
       bnd (value_Hash e3) fun r6 =>
       ift (!((r4 == (0 : Int)) == (r5 == r6)))
         (law1_ValueKeysAreOrdered_j3 rec2 x3 r4 (r4 == (0 : Int)))
         (law1_ValueKeysAreOrdered_j3 rec2 x3 r4 false))
      (law1_ValueKeysAreOrdered_j4 p1 p2 x2)

def law1_ValueKeysAreOrdered_l2 (p1 : (List GValue)) (p2 : (List GValue)) : Nat → Int → Int → Option Bool
  | 0, _, _ => none
  | k2 + 1, x2, x3 =>
    ift (decide (x3 < (p1.length : Int)))
      (ift (decide (x3 < (p2.length : Int)))
         (law1_ValueKeysAreOrdered_j2 (law1_ValueKeysAreOrdered_l2 p1 p2 k2) p1 p2 x2 x3 (x2 == (0 : Int)))
         (law1_ValueKeysAreOrdered_j2 (law1_ValueKeysAreOrdered_l2 p1 p2 k2) p1 p2 x2 x3 false))
      (law1_ValueKeysAreOrdered_j2 (law1_ValueKeysAreOrdered_l2 p1 p2 k2) p1 p2 x2 x3 false)

def law1_ValueKeysAreOrdered_j1 (p1 : (List GValue)) (p2 : (List GValue)) : Option Bool :=
    law1_ValueKeysAreOrdered_l2 p1 p2 BIG (0 : Int) (0 : Int)

def law1_ValueKeysAreOrdered_l1 (p1 : (List GValue)) (p2 : (List GValue)) : Nat → Int → Option Bool
  | 0, _ => none
  | k1 + 1, x1 =>
    bnd (some (decide (x1 < ((((([] : List GValue) ++ p1) ++ p2).length : Nat) : Int)))) fun y1 =>
    ift y1
      (bnd (at? ((([] : List GValue) ++ p1) ++ p2) x1) fun e1 =>
       bnd (ref1_Sound e1) fun r3 =>
       ift (!r3)
         (some true)
         ((law1_ValueKeysAreOrdered_l1 p1 p2 k1) (IntKind.i64.wrap (x1 + (1 : Int)))))
      (law1_ValueKeysAreOrdered_j1 p1 p2)

def law1_ValueKeysAreOrdered (p1 : (List GValue)) (p2 : (List GValue)) : Option Bool :=
    bnd (law1_number (1 : Int)) fun r1 =>
    bnd (value_Hash r1) fun r2 =>
    ift (r2 == (0 : Int))
      (some false)
      (grd (([] : List GValue).length + p1.length ≤ 4294967296) <|
       grd ((([] : List GValue) ++ p1).length + p2.length ≤ 4294967296) <|
       law1_ValueKeysAreOrdered_l1 p1 p2 BIG (0 : Int))

abbrev qa1167 (e3 : GValue) : List CV := [ci e3.kind, ci e3.n, ci e3.scale, cst e3.s, cl eValue e3.items]
abbrev qa1168 (e2 : GValue) : List CV := [ci e2.kind, ci e2.n, ci e2.scale, cst e2.s, cl eValue e2.items]
abbrev qa1169 (e2 : GValue) : List PV := [pi e2.kind, pi e2.n, pi e2.scale, .s (.string e2.s), .ro (eValue.els e2.items)]
abbrev qa1170 (e3 : GValue) : List PV := [pi e3.kind, pi e3.n, pi e3.scale, .s (.string e3.s), .ro (eValue.els e3.items)]
abbrev qa1177 (e1 : GValue) : List CV := [ci e1.kind, ci e1.n, ci e1.scale, cst e1.s, cl eValue e1.items]
abbrev qa1178 (p1 : (List GValue)) (p2 : (List GValue)) (x1 : Int) : Fr := [(0, vl eValue p1), (1, vl eValue p2), (18, .one (.sl 0 5 0 (((([] : List GValue) ++ p1) ++ p2).length))), (19, vi ((((([] : List GValue) ++ p1) ++ p2).length : Nat) : Int)), (20, vi (IntKind.i64.wrap (x1 + (1 : Int))))]
abbrev qa1181 (p1 : (List GValue)) (p2 : (List GValue)) (x3 : Int) (e2 : GValue) (e3 : GValue) (r4 : Int) (r5 : Int) (r6 : Int) : Fr := [(65, vb (r5 == r6)), (64, vk .u64 r6), (63, .ag (qa1167 e3)), (62, .one (.pv (.rp (eValue.els p2) x3.toNat 0))), (61, vi x3), (60, vl eValue p2), (59, vk .u64 r5), (58, .ag (qa1168 e2)), (57, .one (.pv (.rp (eValue.els p1) x3.toNat 0))), (56, vi x3), (55, vl eValue p1), (54, vb (r4 == (0 : Int))), (53, vi r4), (0, vl eValue p1), (1, vl eValue p2), (7, vi r4), (8, vi x3)]

theorem c_law1_ValueKeysAreOrdered (p1 : (List GValue)) (p2 : (List GValue)) (r : Bool) (h : law1_ValueKeysAreOrdered p1 p2 = some r) : PC Tryd.prog 7 [vl eValue p1, vl eValue p2] (vb r) := by
 unfold law1_ValueKeysAreOrdered at h
 refine zF 104 Tryd.f7 (zq fun K1 hK1 => zr (zg [6, 14] 1 [0,1] (zd (hK1 _ _ (zq fun K2 hK2 => zq fun K3 hK3 => ?_)))))
 obtain ⟨r1, c4, h⟩ := zB h
 obtain ⟨r2, c5, h⟩ := zB h
 refine zr (za (c_law1_number _ _ c4) (zl 17 [.ag [ci r1.kind, ci r1.n, ci r1.scale, cst r1.s, cl eValue r1.items]] (vk .u64 r2) [(12, vk .u64 r2), (11, .ag [ci r1.kind, ci r1.n, ci r1.scale, cst r1.s, cl eValue r1.items]), (0, vl eValue p1), (1, vl eValue p2)] (c_value_Hash _ _ c5) (zg [6, 14] 1 [0,1,13] (zd (hK3 _ _ (zC h (fun b6 h => ?_) (fun b6 h => ?_)))))))
 ·refine zq fun K7 hK7 => zr (zg [6, 14] 1 [4] (zd (hK7 _ _ (ze ?_))))
  obtain rfl := Option.some.inj h
  exact zf [vb false] (.one (.rfl _ rfl))
 ·refine zs (hK2 _ _ (zq fun K8 hK8 => ?_))
  have hJ1 : ∀ (_ : Unit), law1_ValueKeysAreOrdered_j1 p1 p2 = some r → ∀ fr1 st1, Sub 104 0 [] fr1 st1 [(0, vl eValue p1), (1, vl eValue p2)] [] → K8 fr1 st1 := by
   intro _ h fr1 st1 hS
   unfold law1_ValueKeysAreOrdered_j1 at h
   refine hK8 _ _ (XW.sub hS ?_)
   refine zq fun K23 hK23 => zr (zg [6, 14] 1 [0,1,7] (zd (hK23 _ _ (zq fun K24 hK24 => ?_))))
   have hJ4 : ∀ (x6 : Int), law1_ValueKeysAreOrdered_j4 p1 p2 x6 = some r → ∀ fr1 st1, Sub 104 0 [] fr1 st1 [(0, vl eValue p1), (1, vl eValue p2), (7, vi x6)] [] → K24 fr1 st1 := by
    intro x6 h fr1 st1 hS
    unfold law1_ValueKeysAreOrdered_j4 at h
    refine hK24 _ _ (XW.sub hS ?_)
    refine zq fun K42 hK42 => ?_
    have hJ6 : ∀ (x8 : Int), law1_ValueKeysAreOrdered_j6 p1 p2 x8 = some r → ∀ fr1 st1, Sub 104 0 [] fr1 st1 [(0, vl eValue p1), (1, vl eValue p2), (7, vi x8)] [] → K42 fr1 st1 := by
     intro x8 h fr1 st1 hS
     unfold law1_ValueKeysAreOrdered_j6 at h
     refine hK42 _ _ (XW.sub hS ?_)
     refine zq fun K49 hK49 => ?_
     obtain ⟨r7, c50, h⟩ := zB h
     obtain ⟨r8, c51, h⟩ := zB h
     refine zr (zg [6, 14] 1 [0,1,7,85] (za (c_value_Key _ _ c50) (zv [6, 14] 1 [0,7,86,87] [] [(0, vl eValue p1), (7, vi x8), (86, vl (eK .u8) r7), (87, vl eValue p2)] [] (za (c_value_Key _ _ c51) (zg [6, 14] 2 [0,7,9,10] (zd (hK49 _ _ ?_)))))))
     refine zq fun K52 hK52 => ?_
     have hJ7 : ∀ (x9 : Bool), law1_ValueKeysAreOrdered_j7 x9 = some r → ∀ fr1 st1, Sub 104 0 [] fr1 st1 [(4, vb x9)] [] → K52 fr1 st1 := by
      intro x9 h fr1 st1 hS
      unfold law1_ValueKeysAreOrdered_j7 at h
      refine hK52 _ _ (XW.sub hS ?_)
      refine ze ?_
      obtain rfl := Option.some.inj h
      exact zf [vb x9] (.one (.rfl _ rfl))
     rcases zW h with ⟨b53, h⟩ | ⟨b53, h⟩
     ·obtain ⟨r9, c54, h⟩ := zB h
      refine zr (zv [6, 14] 2 [7,9,10,90] [] [(7, vi x8), (9, vl (eK .u8) r7), (10, vl (eK .u8) r8), (90, vi ((eValue.els p1).length : Int))] [] ?_)
      rw [eValue.len p1]
      exact zg [6, 14] 2 [7,9,10,92] (zt 92 b53 (zg [6, 14] 7 [7,97,98,99] (zl 24 [vl (eK .u8) r7, vl (eK .u8) r8] (vi r9) [(100, vi r9), (7, vi x8), (97, vb true), (98, vl (eK .u8) r7), (99, vl (eK .u8) r8)] (c_bytes_Compare _ _ _ c54) (zg [6, 14] 4 [4] (zd (hJ7 (r9 == x8) h _ _ (zk [4])))))))
     ·rcases zW h with ⟨b55, h⟩ | ⟨b55, h⟩
      ·obtain ⟨r10, c56, h⟩ := zB h
       refine zr (zv [6, 14] 2 [7,9,10,90] [] [(7, vi x8), (9, vl (eK .u8) r7), (10, vl (eK .u8) r8), (90, vi ((eValue.els p1).length : Int))] [] ?_)
       rw [eValue.len p1]
       refine zg [6, 14] 2 [7,9,10,92] (zt 92 b53 (zv [6, 14] 2 [7,9,10,92,94] [] [(7, vi x8), (9, vl (eK .u8) r7), (10, vl (eK .u8) r8), (92, vb false), (94, vi (((eK .u8).els r7).length : Int))] [] ?_))
       rw [(eK .u8).len r7]
       exact zg [6, 14] 3 [7,9,10,97] (zt 97 b55 (zg [6, 14] 2 [7,97,98,99] (zl 24 [vl (eK .u8) r7, vl (eK .u8) r8] (vi r10) [(100, vi r10), (7, vi x8), (97, vb true), (98, vl (eK .u8) r7), (99, vl (eK .u8) r8)] (c_bytes_Compare _ _ _ c56) (zg [6, 14] 4 [4] (zd (hJ7 (r10 == x8) h _ _ (zk [4])))))))
      ·refine zr (zv [6, 14] 2 [7,9,10,90] [] [(7, vi x8), (9, vl (eK .u8) r7), (10, vl (eK .u8) r8), (90, vi ((eValue.els p1).length : Int))] [] ?_)
       rw [eValue.len p1]
       refine zg [6, 14] 2 [7,9,10,92] (zt 92 b53 (zv [6, 14] 2 [7,9,10,92,94] [] [(7, vi x8), (9, vl (eK .u8) r7), (10, vl (eK .u8) r8), (92, vb false), (94, vi (((eK .u8).els r7).length : Int))] [] ?_))
       rw [(eK .u8).len r7]
       exact zg [6, 14] 3 [7,9,10,97] (zt 97 b55 (zg [6, 14] 7 [4] (zd (hJ7 false h _ _ (zk [4])))))
    refine zq fun K43 hK43 => ?_
    have hJ5 : ∀ (x7 : Bool), law1_ValueKeysAreOrdered_j5 p1 p2 x6 x7 = some r → ∀ fr1 st1, Sub 104 0 [] fr1 st1 [(0, vl eValue p1), (1, vl eValue p2), (7, vi x6), (79, vb x7)] [] → K43 fr1 st1 := by
     intro x7 h fr1 st1 hS
     unfold law1_ValueKeysAreOrdered_j5 at h
     refine hK43 _ _ (XW.sub hS ?_)
     refine zC h (fun b45 h => ?_) (fun b45 h => ?_)
     ·refine zq fun K46 hK46 => zr (zg [6, 14] 1 [0,1,7] (zd (hK46 _ _ (zq fun K47 hK47 => zr (zv [6, 14] 2 [0,1,7,81] [] [(0, vl eValue p1), (1, vl eValue p2), (7, vi (1 : Int)), (81, vi ((eValue.els p1).length : Int))] [] ?_)))))
      rw [eValue.len p1]
      refine zv [6, 14] 2 [0,1,7,81,83] [] [(0, vl eValue p1), (1, vl eValue p2), (7, vi (1 : Int)), (81, vi (p1.length : Int)), (83, vi ((eValue.els p2).length : Int))] [] ?_
      rw [eValue.len p2]
      refine zg [6, 14] 1 [0,1,7,84] (zd (hK47 _ _ (zC h (fun b48 h => ?_) (fun b48 h => ?_))))
      ·exact zr (zg [6, 14] 1 [0,1,7] (zd (hJ6 (-1 : Int) h _ _ (zk [0,1,7]))))
      ·exact zs (hJ6 (1 : Int) h _ _ (zk [0,1,7]))
     ·exact zs (hJ6 x6 h _ _ (zk [0,1,7]))
    rcases zW h with ⟨b44, h⟩ | ⟨b44, h⟩
    ·refine zr (zg [6, 14] 3 [0,1,7,73] (zt 73 b44 (zv [6, 14] 2 [0,1,7,73,75] [] [(0, vl eValue p1), (1, vl eValue p2), (7, vi x6), (73, vb true), (75, vi ((eValue.els p1).length : Int))] [] ?_)))
     rw [eValue.len p1]
     refine zv [6, 14] 2 [0,1,7,73,75,77] [] [(0, vl eValue p1), (1, vl eValue p2), (7, vi x6), (73, vb true), (75, vi (p1.length : Int)), (77, vi ((eValue.els p2).length : Int))] [] ?_
     rw [eValue.len p2]
     exact zg [6, 14] 2 [0,1,7,79] (zd (hJ5 ((p1.length : Int) != (p2.length : Int)) h _ _ (zk [0,1,7,79])))
    ·exact zr (zg [6, 14] 3 [0,1,7,73] (zt 73 b44 (zv [6, 14] 6 [0,1,7,79] [] [(0, vl eValue p1), (1, vl eValue p2), (7, vi x6), (79, vb false)] [] (zd (hJ5 false h _ _ (zk [0,1,7,79]))))))
   refine zq fun K25 hK25 => zr (zg [6, 14] 1 [0,1,7,8] (zd (hK25 _ _ (zb 2 (XW.rounds' BIG (x := cd Tryd.f7 [1,1,1,1,0,1,0,0]) (by kernel_rfl) fun Q2 hQ2 => ?_)))))
   have hL2 : ∀ (k2 : Nat) (x2 : Int) (x3 : Int), law1_ValueKeysAreOrdered_l2 p1 p2 k2 x2 x3 = some r → XR Tryd.prog 104 0 [] (cd Tryd.f7 [1,1,1,1,0,1,0,0]) Q2 k2 [(0, vl eValue p1), (1, vl eValue p2), (7, vi x2), (8, vi x3)] [] := by
    intro k2
    induction k2 with
    | zero => intro x2 x3 h; rw [law1_ValueKeysAreOrdered_l2.eq_1] at h; cases h
    | succ k2 ih2 =>
     intro x2 x3 h
     rw [law1_ValueKeysAreOrdered_l2.eq_2] at h
     refine zq fun K26 hK26 => zq fun K27 hK27 => ?_
     have hJ2 : ∀ (x4 : Bool), law1_ValueKeysAreOrdered_j2 (law1_ValueKeysAreOrdered_l2 p1 p2 k2) p1 p2 x2 x3 x4 = some r → ∀ fr1 st1, Sub 104 0 [] fr1 st1 [(0, vl eValue p1), (1, vl eValue p2), (7, vi x2), (8, vi x3), (41, vb x4)] [] → K27 fr1 st1 := by
      intro x4 h fr1 st1 hS
      unfold law1_ValueKeysAreOrdered_j2 at h
      refine hK27 _ _ (XW.sub hS ?_)
      refine zC h (fun b30 h => ?_) (fun b30 h => ?_)
      ·refine zs (hK26 _ _ (zq fun K31 hK31 => zb 3 (zq fun K32 hK32 => ?_)))
       obtain ⟨e2, a33, h⟩ := zB h
       obtain ⟨e3, a34, h⟩ := zB h
       obtain ⟨r4, c35, h⟩ := zB h
       refine zw 8 [(51, .ag (qa1167 e3)), (50, .one (.pv (.rp (eValue.els p2) x3.toNat 0))), (49, vi x3), (48, vl eValue p2), (47, .ag (qa1168 e2)), (46, .one (.pv (.rp (eValue.els p1) x3.toNat 0))), (45, vi x3), (44, vl eValue p1), (0, vl eValue p1), (1, vl eValue p2), (7, vi x2), (8, vi x3), (41, vb x4)] ?_ ?_
       ·refine zyo 8 [(qa1169 e2), (qa1170 e3)] [0 ≤ x3 ∧ x3 < ((eValue.els p1).length : Int) ∧ elemsOk 5 (eValue.els p1), (eValue.els p1)[x3.toNat]? = some (qa1169 e2), 0 ≤ x3 ∧ x3 < ((eValue.els p2).length : Int) ∧ elemsOk 5 (eValue.els p2), (eValue.els p2)[x3.toNat]? = some (qa1170 e3)] (⟨eValue.inb a33, ((eValue.get a33).trans (by cases e2; rfl)), eValue.inb a34, ((eValue.get a34).trans (by cases e3; rfl)), trivial⟩) ?_
        exact zyd
       refine za (c_value_Compare BIG _ _ _ c35) (zg [6, 14] 1 [0,1,7,8] (zd (hK32 _ _ (zq fun K36 hK36 => ?_))))
       have hJ3 : ∀ (x5 : Bool), law1_ValueKeysAreOrdered_j3 (law1_ValueKeysAreOrdered_l2 p1 p2 k2) x3 r4 x5 = some r → ∀ fr1 st1, Sub 104 0 [] fr1 st1 [(0, vl eValue p1), (1, vl eValue p2), (7, vi r4), (8, vi x3), (70, vb x5)] [] → K36 fr1 st1 := by
        intro x5 h fr1 st1 hS
        unfold law1_ValueKeysAreOrdered_j3 at h
        refine hK36 _ _ (XW.sub hS ?_)
        refine zC h (fun b40 h => ?_) (fun b40 h => ?_)
        ·refine zq fun K41 hK41 => zr (zg [6, 14] 1 [4] (zd (hK41 _ _ (ze (hQ2 _ _ _ ?_)))))
         obtain rfl := Option.some.inj h
         exact zf [vb false] (.one (.rfl _ rfl))
        ·exact zs (hK31 _ _ (zr (zg [6, 14] 3 [0,1,7,8] (zd (XR.sub (zk [0,1,7,8]) (ih2 r4 (IntKind.i64.wrap (x3 + (1 : Int))) h))))))
       obtain ⟨r5, c37, h⟩ := zB h
       obtain ⟨r6, c38, h⟩ := zB h
       rcases zW h with ⟨b39, h⟩ | ⟨b39, h⟩
       ·refine zw 13 (qa1181 p1 p2 x3 e2 e3 r4 r5 r6) ?_ ?_
        ·refine zyp 6 [(qa1169 e2)] [(58, .ag (qa1168 e2)), (57, .one (.pv (.rp (eValue.els p1) x3.toNat 0))), (56, vi x3), (55, vl eValue p1), (54, vb (r4 == (0 : Int))), (53, vi r4), (0, vl eValue p1), (1, vl eValue p2), (7, vi r4), (8, vi x3)] [0 ≤ x3 ∧ x3 < ((eValue.els p1).length : Int) ∧ elemsOk 5 (eValue.els p1), (eValue.els p1)[x3.toNat]? = some (qa1169 e2)] (⟨eValue.inb a33, ((eValue.get a33).trans (by cases e2; rfl)), trivial⟩) ?_
         refine zya (c_value_Hash _ _ c37) (zyo 4 [(qa1170 e3)] [0 ≤ x3 ∧ x3 < ((eValue.els p2).length : Int) ∧ elemsOk 5 (eValue.els p2), (eValue.els p2)[x3.toNat]? = some (qa1170 e3)] (⟨eValue.inb a34, ((eValue.get a34).trans (by cases e3; rfl)), trivial⟩) ?_)
         refine DX.cal 17 [.ag (qa1167 e3)] (vk .u64 r6) [(64, vk .u64 r6), (63, .ag (qa1167 e3)), (62, .one (.pv (.rp (eValue.els p2) x3.toNat 0))), (61, vi x3), (60, vl eValue p2), (59, vk .u64 r5), (58, .ag (qa1168 e2)), (57, .one (.pv (.rp (eValue.els p1) x3.toNat 0))), (56, vi x3), (55, vl eValue p1), (54, vb (r4 == (0 : Int))), (53, vi r4), (0, vl eValue p1), (1, vl eValue p2), (7, vi r4), (8, vi x3)] (by kernel_rfl) (c_value_Hash _ _ c38) rfl rfl (by kernel_rfl) ?_
         exact zyg 1 zyd
        exact zv [6, 14] 2 [0,1,7,8,67] [] [(0, vl eValue p1), (1, vl eValue p2), (7, vi r4), (8, vi x3), (67, vb (!((r4 == (0 : Int)) == (r5 == r6))))] [] (zt 67 b39 (zg [6, 14] 3 [0,1,7,8,70] (zd (hJ3 (r4 == (0 : Int)) h _ _ (zk [0,1,7,8,70])))))
       ·refine zw 13 (qa1181 p1 p2 x3 e2 e3 r4 r5 r6) ?_ ?_
        ·refine zyo 6 [(qa1169 e2)] [0 ≤ x3 ∧ x3 < ((eValue.els p1).length : Int) ∧ elemsOk 5 (eValue.els p1), (eValue.els p1)[x3.toNat]? = some (qa1169 e2)] (⟨eValue.inb a33, ((eValue.get a33).trans (by cases e2; rfl)), trivial⟩) ?_
         refine DX.cal 17 [.ag (qa1168 e2)] (vk .u64 r5) [(59, vk .u64 r5), (58, .ag (qa1168 e2)), (57, .one (.pv (.rp (eValue.els p1) x3.toNat 0))), (56, vi x3), (55, vl eValue p1), (54, vb (r4 == (0 : Int))), (53, vi r4), (0, vl eValue p1), (1, vl eValue p2), (7, vi r4), (8, vi x3)] (by kernel_rfl) (c_value_Hash _ _ c37) rfl rfl (by kernel_rfl) ?_
         refine zyo 4 [(qa1170 e3)] [0 ≤ x3 ∧ x3 < ((eValue.els p2).length : Int) ∧ elemsOk 5 (eValue.els p2), (eValue.els p2)[x3.toNat]? = some (qa1170 e3)] (⟨eValue.inb a34, ((eValue.get a34).trans (by cases e3; rfl)), trivial⟩) (zya (c_value_Hash _ _ c38) ?_)
         exact zyv 1 [] (qa1181 p1 p2 x3 e2 e3 r4 r5 r6) zyd
        exact zg [6, 14] 2 [0,1,7,8,67] (zt 67 b39 (zv [6, 14] 3 [0,1,7,8,70] [] [(0, vl eValue p1), (1, vl eValue p2), (7, vi r4), (8, vi x3), (70, vb false)] [] (zd (hJ3 false h _ _ (zk [0,1,7,8,70])))))
      ·exact zx 2 (hQ2 _ _ _ (hJ4 x2 h _ _ (zk [0,1,7])))
     rcases zW h with ⟨b28, h⟩ | ⟨b28, h⟩
     ·rcases zW h with ⟨b29, h⟩ | ⟨b29, h⟩
      ·refine zr (zv [6, 14] 3 [0,1,7,8,28,30] [] [(0, vl eValue p1), (1, vl eValue p2), (7, vi x2), (8, vi x3), (28, vi x3), (30, vi ((eValue.els p1).length : Int))] [] ?_)
       rw [eValue.len p1]
       refine zg [6, 14] 2 [0,1,7,8,32] (zt 32 b28 (zv [6, 14] 3 [0,1,7,8,32,33,35] [] [(0, vl eValue p1), (1, vl eValue p2), (7, vi x2), (8, vi x3), (32, vb true), (33, vi x3), (35, vi ((eValue.els p2).length : Int))] [] ?_))
       rw [eValue.len p2]
       exact zg [6, 14] 3 [0,1,7,8,38] (zt 38 b29 (zg [6, 14] 3 [0,1,7,8,41] (zd (hJ2 (x2 == (0 : Int)) h _ _ (zk [0,1,7,8,41])))))
      ·refine zr (zv [6, 14] 3 [0,1,7,8,28,30] [] [(0, vl eValue p1), (1, vl eValue p2), (7, vi x2), (8, vi x3), (28, vi x3), (30, vi ((eValue.els p1).length : Int))] [] ?_)
       rw [eValue.len p1]
       refine zg [6, 14] 2 [0,1,7,8,32] (zt 32 b28 (zv [6, 14] 3 [0,1,7,8,32,33,35] [] [(0, vl eValue p1), (1, vl eValue p2), (7, vi x2), (8, vi x3), (32, vb true), (33, vi x3), (35, vi ((eValue.els p2).length : Int))] [] ?_))
       rw [eValue.len p2]
       exact zg [6, 14] 3 [0,1,7,8,38] (zt 38 b29 (zg [6, 14] 3 [0,1,7,8,41] (zd (hJ2 false h _ _ (zk [0,1,7,8,41])))))
     ·refine zr (zv [6, 14] 3 [0,1,7,8,28,30] [] [(0, vl eValue p1), (1, vl eValue p2), (7, vi x2), (8, vi x3), (28, vi x3), (30, vi ((eValue.els p1).length : Int))] [] ?_)
      rw [eValue.len p1]
      exact zg [6, 14] 2 [0,1,7,8,32] (zt 32 b28 (zg [6, 14] 9 [0,1,7,8,41] (zd (hJ2 false h _ _ (zk [0,1,7,8,41])))))
   exact XR.sub (zk [0,1,7,8]) (hL2 BIG (0 : Int) (0 : Int) h)
  refine zq fun K9 hK9 => ?_
  obtain ⟨g10, h⟩ := zG h
  obtain ⟨g11, h⟩ := zG h
  refine zr (zp [6, 14] 3 [0,1,16] [] [(0, vl eValue p1), (1, vl eValue p2), (16, .one (.sl 0 5 0 (0 + (eValue.els p1).length)))] [.arr 5 (eValue.els [] ++ eValue.els p1)] [elemsOk 5 (eValue.els p1), 0 = (eValue.els []).length, 0 + (eValue.els p1).length ≤ 4294967296] (⟨eValue.ok _, (by simp [Enc.len]), (by simp [Enc.len] at * <;> omega), trivial⟩) ?_)
  rw [show 0 + (eValue.els p1).length = (([] : List GValue) ++ p1).length from (by simp [Enc.len] <;> omega)]
  rw [show eValue.els [] ++ eValue.els p1 = eValue.els (([] : List GValue) ++ p1) from eValue.app2 _ _]
  refine zp [6, 14] 2 [0,1,18] [] [(0, vl eValue p1), (1, vl eValue p2), (18, .one (.sl 0 5 0 ((([] : List GValue) ++ p1).length + (eValue.els p2).length)))] [.arr 5 (eValue.els (([] : List GValue) ++ p1) ++ eValue.els p2)] [elemsOk 5 (eValue.els p2), (([] : List GValue) ++ p1).length = (eValue.els (([] : List GValue) ++ p1)).length, (([] : List GValue) ++ p1).length + (eValue.els p2).length ≤ 4294967296] (⟨eValue.ok _, (eValue.len (([] : List GValue) ++ p1)).symm, (by rw [eValue.len]; exact g11), trivial⟩) ?_
  rw [show (([] : List GValue) ++ p1).length + (eValue.els p2).length = ((([] : List GValue) ++ p1) ++ p2).length from eValue.lapp _ _]
  rw [show eValue.els (([] : List GValue) ++ p1) ++ eValue.els p2 = eValue.els ((([] : List GValue) ++ p1) ++ p2) from eValue.app2 _ _]
  refine zg [6, 14] 2 [0,1,18,19,20] (zd (hK9 _ _ (zb 0 (XW.rounds' BIG (x := cd Tryd.f7 [1,1,0,1,0,0]) (by kernel_rfl) fun Q1 hQ1 => ?_))))
  have hL1 : ∀ (k1 : Nat) (x1 : Int), law1_ValueKeysAreOrdered_l1 p1 p2 k1 x1 = some r → XR Tryd.prog 104 0 [] (cd Tryd.f7 [1,1,0,1,0,0]) Q1 k1 [(0, vl eValue p1), (1, vl eValue p2), (18, .one (.sl 0 5 0 (((([] : List GValue) ++ p1) ++ p2).length))), (19, vi ((((([] : List GValue) ++ p1) ++ p2).length : Nat) : Int)), (20, vi x1)] [.arr 5 (eValue.els ((([] : List GValue) ++ p1) ++ p2))] := by
   intro k1
   induction k1 with
   | zero => intro x1 h; rw [law1_ValueKeysAreOrdered_l1.eq_1] at h; cases h
   | succ k1 ih1 =>
    intro x1 h
    rw [law1_ValueKeysAreOrdered_l1.eq_2] at h
    refine zq fun K12 hK12 => ?_
    obtain ⟨y1, hy13, h⟩ := zB h
    refine zr (zv [6, 14] 1 [0,1,18,19,20,21] [] [(0, vl eValue p1), (1, vl eValue p2), (18, .one (.sl 0 5 0 (((([] : List GValue) ++ p1) ++ p2).length))), (19, vi ((((([] : List GValue) ++ p1) ++ p2).length : Nat) : Int)), (20, vi x1), (21, vb (decide (x1 < ((((([] : List GValue) ++ p1) ++ p2).length : Nat) : Int))))] [.arr 5 (eValue.els ((([] : List GValue) ++ p1) ++ p2))] ?_)
    rw [show (decide (x1 < ((((([] : List GValue) ++ p1) ++ p2).length : Nat) : Int))) = y1 from Option.some.inj hy13]
    refine zd (hK12 _ _ (zq fun K14 hK14 => zC h (fun b15 h => ?_) (fun b15 h => ?_)))
    ·refine zs (hK14 _ _ (zq fun K16 hK16 => zb 1 (zq fun K17 hK17 => ?_)))
     obtain ⟨e1, a18, h⟩ := zB h
     refine zr (zo [6, 14] 4 [0,1,6,18,19,20] [[pi e1.kind, pi e1.n, pi e1.scale, .s (.string e1.s), .ro (eValue.els e1.items)]] [0 ≤ x1 ∧ x1 < ((((([] : List GValue) ++ p1) ++ p2).length : Nat) : Int), (eValue.els ((([] : List GValue) ++ p1) ++ p2))[(0 + x1.toNat)]? = some [pi e1.kind, pi e1.n, pi e1.scale, .s (.string e1.s), .ro (eValue.els e1.items)]] (⟨Enc.inb' a18, ((eValue.get0 a18).trans (by cases e1; rfl)), trivial⟩) (zd (hK17 _ _ (zq fun K19 hK19 => ?_))))
     obtain ⟨r3, c20, h⟩ := zB h
     refine zr (zg [6, 14] 1 [0,1,18,19,20,24] (zl 11 [.ag (qa1177 e1)] (vb r3) [(25, vb r3), (0, vl eValue p1), (1, vl eValue p2), (18, .one (.sl 0 5 0 (((([] : List GValue) ++ p1) ++ p2).length))), (19, vi ((((([] : List GValue) ++ p1) ++ p2).length : Nat) : Int)), (20, vi x1), (24, .ag (qa1177 e1))] (c_ref1_Sound _ _ c20) (zg [6, 14] 1 [0,1,18,19,20,26] (zd (hK19 _ _ (zC h (fun b21 h => ?_) (fun b21 h => ?_)))))))
     ·refine zq fun K22 hK22 => zr (zg [6, 14] 1 [4] (zd (hK22 _ _ (ze (hQ1 _ _ _ ?_)))))
      obtain rfl := Option.some.inj h
      exact zf [vb true] (.one (.rfl _ rfl))
     ·refine zs (hK16 _ _ (zr (zv [6, 14] 2 [0,1,18,19,20] [] (qa1178 p1 p2 x1) [.arr 5 (eValue.els ((([] : List GValue) ++ p1) ++ p2)), .box (qa1177 e1)] (zd ?_))))
      exact XR.sub (Sub.trans (Sub.pick (fr' := (qa1178 p1 p2 x1)) [0,1,18,19,20] (by kernel_rfl)) (Sub.take (fr' := (qa1178 p1 p2 x1)) 1 (Nat.zero_le _) (by kernel_rfl) (by kernel_rfl))) (ih1 (IntKind.i64.wrap (x1 + (1 : Int))) h)
    ·exact zx 0 (hQ1 _ _ _ (hJ1 () h _ _ (Sub.trans (Sub.pick (fr' := [(0, vl eValue p1), (1, vl eValue p2)]) [0,1] (by kernel_rfl)) (Sub.take (fr' := [(0, vl eValue p1), (1, vl eValue p2)]) 0 (Nat.zero_le _) (by kernel_rfl) (by kernel_rfl)))))
  exact XR.sub (zk [0,1,18,19,20]) (hL1 BIG (0 : Int) h)


end Go.Proofs.YtdkmclmdemngfaaDoor
