/- Printed by a program: what the functions compute, and the proofs of their contracts. Printed by a program: what the functions compute, and the proofs of their contracts. -/
import Derived.Test.YtmaemlebpjnmoaaGreatDoorGeB
namespace Go.Proofs.YtmaemlebpjnmoaaGreatDoor
open Go.SX Go
open Go.IntKind (i64 u64 u8 i32 u32)
set_option linter.unusedVariables false
set_option linter.unusedSimpArgs false
set_option maxRecDepth 100000
set_option maxHeartbeats 8000000
def ref1_sound_j3 (z3 : Int) : Option (Bool × Int) :=
    some (true, z3)
def ref1_sound_l1 (q_ref1_sound : GValue → Int → Int → Option (Bool × Int)) (p1 : GValue) (p2 : Int) : Nat → Int → Int → Option (Bool × Int)
  | 0, _, _ => none
  | k1 + 1, z2, x2 =>
    ift (decide (x2 < (p1.items.length : Int)))
      (bnd (at? p1.items x2) fun e1 =>
       bnd (q_ref1_sound e1 (i64.wrap (p2 + (1 : Int))) z2) fun r2 =>
       ift (!r2.1)
         (some (false, r2.2))
         ((ref1_sound_l1 q_ref1_sound p1 p2 k1) r2.2 (i64.wrap (x2 + (1 : Int)))))
      (ref1_sound_j3 z2)
def ref1_sound_j2 (q_ref1_sound : GValue → Int → Int → Option (Bool × Int)) (p1 : GValue) (p2 : Int) (z1 : Int) (x1 : Bool) : Option (Bool × Int) :=
    ift x1
      (some (false, z1))
      (ref1_sound_l1 q_ref1_sound p1 p2 BIG z1 (0 : Int))
def ref1_sound_j1 (q_ref1_sound : GValue → Int → Int → Option (Bool × Int)) (p1 : GValue) (p2 : Int) (z1 : Int) : Option (Bool × Int) :=
    ift (decide ((4 : Int) < p2))
      (ref1_sound_j2 q_ref1_sound p1 p2 z1 true)
      (ift (decide ((256 : Int) < z1))
         (ref1_sound_j2 q_ref1_sound p1 p2 z1 true)
         (bnd (ref1_alone p1) fun r1 =>
          ref1_sound_j2 q_ref1_sound p1 p2 z1 (!r1)))
def ref1_sound : Nat → GValue → Int → Int → Option (Bool × Int)
  | 0, _, _, _ => none
  | k0 + 1, p1, p2, p3 =>
    ift (p1.kind != (0 : Int))
      (ref1_sound_j1 (ref1_sound k0) p1 p2 (i64.wrap (p3 + (1 : Int))))
      (ref1_sound_j1 (ref1_sound k0) p1 p2 p3)
abbrev qa2201 (p1 : GValue) : List CV := [ci p1.kind, ci p1.n, ci p1.scale, cst p1.s, cl eValue p1.items]
abbrev qa2204 (p1 : GValue) : List PV := [pi p1.kind, pi p1.n, pi p1.scale, .s (.string p1.s), .ro (eValue.els p1.items)]
abbrev qa2211 (e1 : GValue) : List CV := [ci e1.kind, ci e1.n, ci e1.scale, cst e1.s, cl eValue e1.items]
abbrev qa2225 (p1 : GValue) (p2 : Int) : Fr := [(1, vi p2), (2, vq 0), (3, vR (qa2204 p1)), (18, vb (decide ((4 : Int) < p2)))]
theorem c_ref1_sound : ∀ (k0 : Nat) (p1 : GValue) (p2 : Int) (p3 : Int) (r : (Bool × Int)), ref1_sound k0 p1 p2 p3 = some r → MC Tryz.prog 76 [.ag (qa2201 p1), vi p2, vq 0] [.box [ci p3]] (vb r.1) [.box [ci r.2]]
 | 0, _, _, _, r, h => by rw [ref1_sound.eq_1] at h; cases h
 | k0 + 1, p1, p2, p3, r, h => by
  rw [ref1_sound.eq_2] at h
  refine MC.of 1 (n := 46) (fn := Tryz.f76) (c := cd Tryz.f76 []) (by kernel_rfl) (by kernel_rfl) (by kernel_rfl) (Nat.le_of_ble_eq_true rfl) rfl (zq fun K1 m1 => zr (zg [] 2 [1,2,3] (zd (m1 _ _ (zq fun K2 m2 => ?_)))))
  have j1 : ∀ (z1 : Int), ref1_sound_j1 (ref1_sound k0) p1 p2 z1 = some r → ∀ w0 w1, Sub 46 1 [] w0 w1 [(1, vi p2), (2, vq 0), (3, vR (qa2204 p1))] [.box [ci z1]] → K2 w0 w1 := by
   intro z1 h w0 w1 hS
   unfold ref1_sound_j1 at h
   refine m2 _ _ (XW.sub hS ?_)
   refine zq fun K5 m5 => zq fun K6 m6 => ?_
   have j2 : ∀ (x1 : Bool), ref1_sound_j2 (ref1_sound k0) p1 p2 z1 x1 = some r → ∀ w0 w1, Sub 46 1 [] w0 w1 [(1, vi p2), (2, vq 0), (3, vR (qa2204 p1)), (28, vb x1)] [.box [ci z1]] → K6 w0 w1 := by
    intro x1 h w0 w1 hS
    unfold ref1_sound_j2 at h
    refine m6 _ _ (XW.sub hS ?_)
    refine zC h (fun b10 h => ?_) (fun b10 h => ?_)
    ·refine zq fun K11 m11 => zr (zv [] 1 [6] [] [(6, vb false)] [.box [ci z1]] (zd (m11 _ _ (ze ?_))))
     obtain rfl := zj h
     exact FinM.fin (.inr rfl) [] [vb false] [] (by kernel_rfl) trivial (by kernel_rfl) (by kernel_rfl) (.one (.rfl _ rfl))
    ·refine zs (m5 _ _ (zq fun K12 m12 => ?_))
     have j3 : ∀ (z3 : Int), ref1_sound_j3 z3 = some r → ∀ w0 w1, Sub 46 1 [] w0 w1 [] [.box [ci z3]] → K12 w0 w1 := by
      intro z3 h w0 w1 hS
      unfold ref1_sound_j3 at h
      refine m12 _ _ (XW.sub hS ?_)
      refine zq fun K24 m24 => zr (zv [] 1 [6] [] [(6, vb true)] [.box [ci z3]] (zd (m24 _ _ (ze ?_))))
      obtain rfl := zj h
      exact FinM.fin (.inr rfl) [] [vb true] [] (by kernel_rfl) trivial (by kernel_rfl) (by kernel_rfl) (.one (.rfl _ rfl))
     refine zq fun K13 m13 => zr (zv [] 3 [1,2,3,31] [[pi p1.kind, pi p1.n, pi p1.scale, .s (.string p1.s), .ro (eValue.els p1.items)]] [(1, vi p2), (2, vq 0), (3, vR [pi p1.kind, pi p1.n, pi p1.scale, .s (.string p1.s), .ro (eValue.els p1.items)]), (31, vi ((eValue.els p1.items).length : Int))] [.box [ci z1]] ?_)
     rw [eValue.len p1.items]
     refine zg [] 1 [1,2,3,31,32] (zd (m13 _ _ (zb 0 (XW.rounds' BIG (x := cd Tryz.f76 [1,1,1,0,1,0,0]) (by kernel_rfl) fun Q1 hQ1 => ?_))))
     have hL1 : ∀ (k1 : Nat) (z2 : Int) (x2 : Int), ref1_sound_l1 (ref1_sound k0) p1 p2 k1 z2 x2 = some r → XR Tryz.prog 46 1 [] (cd Tryz.f76 [1,1,1,0,1,0,0]) Q1 k1 [(1, vi p2), (2, vq 0), (3, vR (qa2204 p1)), (31, vi (p1.items.length : Int)), (32, vi x2)] [.box [ci z2]] := by
      intro k1
      induction k1 with
      | zero => intro z2 x2 h; rw [ref1_sound_l1.eq_1] at h; cases h
      | succ k1 ih1 =>
       intro z2 x2 h
       rw [ref1_sound_l1.eq_2] at h
       refine zq fun K14 m14 => zr (zg [] 1 [1,2,3,31,32,33] (zd (m14 _ _ (zq fun K15 m15 => zC h (fun b16 h => ?_) (fun b16 h => ?_)))))
       ·refine zs (m15 _ _ (zq fun K17 m17 => zb 1 (zq fun K18 m18 => zr (zg [] 2 [1,2,3,7,31,32] (zd ?_)))))
        refine m18 _ _ (zq fun K19 m19 => ?_)
        obtain ⟨e1, a20, h⟩ := zB h
        obtain ⟨r2, c21, h⟩ := zB h
        refine zr ?_
        refine zp [] 8 [1,2,3,31,32,39,41,42] [(qa2204 p1), [pi e1.kind, pi e1.n, pi e1.scale, .s (.string e1.s), .ro (eValue.els e1.items)]] [(1, vi p2), (2, vq 0), (3, vR (qa2204 p1)), (31, vi (p1.items.length : Int)), (32, vi x2), (39, .ag (qa2211 e1)), (41, vi (i64.wrap (p2 + (1 : Int)))), (42, vq 0)] [.box [ci z2]] [([(qa2204 p1)] : List (List PV))[0]? = some (qa2204 p1), 0 ≤ x2 ∧ x2 < ((eValue.els p1.items).length : Int) ∧ elemsOk 5 (eValue.els p1.items), (eValue.els p1.items)[x2.toNat]? = some [pi e1.kind, pi e1.n, pi e1.scale, .s (.string e1.s), .ro (eValue.els e1.items)]] (⟨rfl, eValue.inb a20, ((eValue.get a20).trans (by cases e1; rfl)), trivial⟩) ?_
        refine XO.calm 76 [.ag (qa2211 e1), vi (i64.wrap (p2 + (1 : Int))), vq 0] [.box [ci z2]] [.box [ci r2.2]] (vb r2.1) [0] [(43, vb r2.1), (1, vi p2), (2, vq 0), (3, vR (qa2204 p1)), (31, vi (p1.items.length : Int)), (32, vi x2), (39, .ag (qa2211 e1)), (41, vi (i64.wrap (p2 + (1 : Int)))), (42, vq 0)] [.box [ci r2.2]] (by kernel_rfl) (c_ref1_sound k0 _ _ _ _ c21) (by kernel_rfl) (by kernel_rfl) (by kernel_rfl) (by kernel_rfl) ?_
        refine zg [] 1 [1,2,3,31,32,44] (zd (m19 _ _ (zC h (fun b22 h => ?_) (fun b22 h => ?_))))
        ·refine zq fun K23 m23 => zr (zv [] 1 [6] [] [(6, vb false)] [.box [ci r2.2]] (zd (m23 _ _ (ze (hQ1 _ _ _ ?_)))))
         obtain rfl := zj h
         exact FinM.fin (.inr rfl) [] [vb false] [] (by kernel_rfl) trivial (by kernel_rfl) (by kernel_rfl) (.one (.rfl _ rfl))
        ·exact zs (m17 _ _ (zr (zg [] 2 [1,2,3,31,32] (zd (XR.sub (zk [1,2,3,31,32]) (ih1 r2.2 (i64.wrap (x2 + (1 : Int))) h))))))
       ·exact zx 0 (hQ1 _ _ _ (j3 z2 h _ _ (zk [])))
     exact XR.sub (zk [1,2,3,31,32]) (hL1 BIG z1 (0 : Int) h)
   rcases zW h with ⟨b7, h⟩ | ⟨b7, h⟩
   ·exact zr (zg [] 3 [1,2,3,18] (zt 18 b7 (zg [] 10 [1,2,3,28] (zd (j2 true h _ _ (zk [1,2,3,28]))))))
   ·rcases zW h with ⟨b8, h⟩ | ⟨b8, h⟩
    ·exact zr (zv [] 3 [1,2,3,18] [] (qa2225 p1 p2) [.box [ci z1]] (zt 18 b7 (zg [] 6 [1,2,3,24] (zt 24 b8 (zg [] 4 [1,2,3,28] (zd (j2 true h _ _ (zk [1,2,3,28]))))))))
    ·obtain ⟨r1, c9, h⟩ := zB h
     refine zr (zv [] 3 [1,2,3,18] [] (qa2225 p1 p2) [.box [ci z1]] (zt 18 b7 (zg [] 6 [1,2,3,24] (zt 24 b8 (zu [] 1 [1,2,3,24,25] [(qa2204 p1)] ?_)))))
     exact zl 124 [.ag (qa2201 p1)] (vb r1) [(26, vb r1), (1, vi p2), (2, vq 0), (3, vR (qa2204 p1)), (24, vb false), (25, .ag (qa2201 p1))] (c_ref1_alone _ _ c9) (zg [] 2 [1,2,3,28] (zd (j2 (!r1) h _ _ (zk [1,2,3,28]))))
  refine zq fun K3 m3 => zr (zu [] 3 [1,2,3,10] [(qa2204 p1)] (zd (m3 _ _ (zC h (fun b4 h => ?_) (fun b4 h => ?_)))))
  ·exact zr (zv [] 6 [1,2,3] [] [(1, vi p2), (2, vq 0), (3, vR (qa2204 p1))] [.box [ci (i64.wrap (p3 + (1 : Int)))]] (zd (j1 (i64.wrap (p3 + (1 : Int))) h _ _ (zk [1,2,3]))))
  ·exact zs (j1 p3 h _ _ (zk [1,2,3]))
def ref1_Sound (p1 : GValue) : Option Bool :=
    bnd (ref1_sound BIG p1 (1 : Int) (0 : Int)) fun r1 =>
    some r1.1
abbrev qa2228 (p1 : GValue) : List CV := [ci p1.kind, ci p1.n, ci p1.scale, cst p1.s, cl eValue p1.items]
theorem c_ref1_Sound (p1 : GValue) (r : Bool) (h : ref1_Sound p1 = some r) : PC Tryz.prog 37 [.ag (qa2228 p1)] (vb r) := by
 unfold ref1_Sound at h
 refine zF 6 Tryz.f37 (zq fun K1 m1 => zr (zg [3] 2 [1] (zd (m1 _ _ (zq fun K2 m2 => zr ?_)))))
 refine zg [3] 2 [1,3] (zd (m2 _ _ (zq fun K3 m3 => ?_)))
 obtain ⟨r1, c4, h⟩ := zB h
 refine zr (zv [3] 1 [3,4] [[pi p1.kind, pi p1.n, pi p1.scale, .s (.string p1.s), .ro (eValue.els p1.items)]] [(3, vq 0), (4, .ag (qa2228 p1))] [.box [ci 0]] ?_)
 refine XO.calm 76 [.ag (qa2228 p1), vi 1, vq 0] [.box [ci 0]] [.box [ci r1.2]] (vb r1.1) [0] [(5, vb r1.1), (3, vq 0), (4, .ag (qa2228 p1))] [.box [ci r1.2]] (by kernel_rfl) (c_ref1_sound BIG _ _ _ _ c4) (by kernel_rfl) (by kernel_rfl) (by kernel_rfl) (by kernel_rfl) (zg [3] 1 [2] (zd (m3 _ _ (ze ?_))))
 obtain rfl := zj h
 exact zf [vb r1.1] (.one (.rfl _ rfl))
def ref1_wideOf_j1 (rec1 : List Int → Int → Option RWide) (l1 : List Int) (x1 : Int) (x2 : Int) : Option RWide :=
    grd (l1.length + 1 ≤ 4294967296) <|
    rec1 (l1 ++ [x2]) (i64.wrap (x1.tdiv (10 : Int)))
def ref1_wideOf_j2 (p1 : Int) (l2 : List Int) : Option RWide :=
    some (RWide.mk (decide (p1 < (0 : Int))) l2)
def ref1_wideOf_l1 (p1 : Int) : Nat → List Int → Int → Option RWide
  | 0, _, _ => none
  | k1 + 1, l1, x1 =>
    ift (x1 != (0 : Int))
      (ift (decide ((x1.tmod (10 : Int)) < (0 : Int)))
         (ref1_wideOf_j1 (ref1_wideOf_l1 p1 k1) l1 x1 (i64.wrap (0 - (x1.tmod (10 : Int)))))
         (ref1_wideOf_j1 (ref1_wideOf_l1 p1 k1) l1 x1 (x1.tmod (10 : Int))))
      (ref1_wideOf_j2 p1 l1)
def ref1_wideOf (p1 : Int) : Option RWide :=
    ref1_wideOf_l1 p1 BIG [] p1
abbrev qa2238 : List CV := [cb false, .pv (.s (.slice none 0 0))]
theorem c_ref1_wideOf (p1 : Int) (r : RWide) (h : ref1_wideOf p1 = some r) : PC Tryz.prog 123 [vi p1] (.ag [cb r.below, cl eI r.d]) := by
 unfold ref1_wideOf at h
 refine zF 25 Tryz.f123 (zq fun K1 m1 => zr (zg [2] 1 [0,2] (zd (m1 _ _ (zq fun K2 m2 => zr ?_)))))
 refine zg [2] 1 [0,2,3] (zd (m2 _ _ (zq fun K3 m3 => ?_)))
 have j2 : ∀ (l2 : List Int), ref1_wideOf_j2 p1 l2 = some r → ∀ w0 w1, Sub 25 0 [] w0 w1 [(0, vi p1), (2, vq 0), (3, .one (.sl 1 1 0 l2.length))] [.box qa2238, .arr 1 (eI.els l2)] → K3 w0 w1 := by
  intro l2 h w0 w1 hS
  unfold ref1_wideOf_j2 at h
  refine m3 _ _ (XW.sub hS ?_)
  refine zq fun K14 m14 => zr (zg [2] 5 [2] (zd (m14 _ _ (ze ?_))))
  obtain rfl := zj h
  exact zf [.ag [cb (decide (p1 < (0 : Int))), .sl 1 1 0 l2.length]] (.ag (.cons (.rfl _ rfl) (.cons (cf_sl eI l2 rfl rfl rfl) .nil)))
 refine zq fun K4 m4 => zr (zv [2] 2 [0,2,3,4] [] [(0, vi p1), (2, vq 0), (3, .one (.pv (.s (.slice none 0 0)))), (4, vi p1)] [.box [cb false, .pv (.s (.slice none 0 0))]] (zd (m4 _ _ (zb 0 (XW.sub (Sub.list (t := 3) (sz := 1) rfl) (XW.rounds' BIG (x := cd Tryz.f123 [1,1,0,1,0,0]) (by kernel_rfl) fun Q1 hQ1 => ?_))))))
 have hL1 : ∀ (k1 : Nat) (l1 : List Int) (x1 : Int), ref1_wideOf_l1 p1 k1 l1 x1 = some r → XR Tryz.prog 25 0 [] (cd Tryz.f123 [1,1,0,1,0,0]) Q1 k1 [(0, vi p1), (2, vq 0), (3, .one (.sl 1 1 0 l1.length)), (4, vi x1)] [.box qa2238, .arr 1 (eI.els l1)] := by
  intro k1
  induction k1 with
  | zero => intro l1 x1 h; rw [ref1_wideOf_l1.eq_1] at h; cases h
  | succ k1 ih1 =>
   intro l1 x1 h
   rw [ref1_wideOf_l1.eq_2] at h
   refine zq fun K5 m5 => zq fun K6 m6 => zr (zg [2] 2 [0,2,3,4,8] (zd (m6 _ _ (zC h (fun b7 h => ?_) (fun b7 h => ?_)))))
   ·refine zs (m5 _ _ (zq fun K8 m8 => zb 1 (zq fun K9 m9 => zr (zo [2] 3 [0,2,3,4,5] [] [(10 : Int) ≠ 0] (⟨by decide, trivial⟩) (zd ?_)))))
    refine m9 _ _ (zq fun K10 m10 => ?_)
    have j1 : ∀ (x2 : Int), ref1_wideOf_j1 (ref1_wideOf_l1 p1 k1) l1 x1 x2 = some r → ∀ w0 w1, Sub 25 0 [] w0 w1 [(0, vi p1), (2, vq 0), (3, .one (.sl 1 1 0 l1.length)), (4, vi x1), (5, vi x2)] [.box qa2238, .arr 1 (eI.els l1)] → K10 w0 w1 := by
     intro x2 h w0 w1 hS
     unfold ref1_wideOf_j1 at h
     refine m10 _ _ (XW.sub hS ?_)
     obtain ⟨g13, h⟩ := zG h
     refine zr (zp [2] 4 [0,2,4,20] [] [(0, vi p1), (2, vq 0), (4, vi x1), (20, .one (.sl 1 1 0 (l1.length + (eI.els [x2]).length)))] [.box [cb false, .pv (.s (.slice none 0 0))], .arr 1 (eI.els l1 ++ eI.els [x2])] [elemsOk 1 (eI.els [x2]), l1.length = (eI.els l1).length, l1.length + (eI.els [x2]).length ≤ 4294967296] (⟨eI.ok _, (eI.len l1).symm, g13, trivial⟩) ?_)
     rw [show l1.length + (eI.els [x2]).length = (l1 ++ [x2]).length from eI.lapp _ _]
     rw [show eI.els l1 ++ eI.els [x2] = eI.els (l1 ++ [x2]) from eI.app2 _ _]
     exact zg [2] 1 [0,2,3,4] (zd (m8 _ _ (zr (zo [2] 3 [0,2,3,4] [] [(10 : Int) ≠ 0] (⟨by decide, trivial⟩) (zd (XR.sub (zk [0,2,3,4]) (ih1 (l1 ++ [x2]) (i64.wrap (x1.tdiv (10 : Int))) h)))))))
    refine zq fun K11 m11 => zr (zv [2] 2 [0,2,3,4,5,14] [] [(0, vi p1), (2, vq 0), (3, .one (.sl 1 1 0 l1.length)), (4, vi x1), (5, vi (x1.tmod (10 : Int))), (14, vb (decide ((x1.tmod (10 : Int)) < (0 : Int))))] [.box qa2238, .arr 1 (eI.els l1)] (zd (m11 _ _ (zC h (fun b12 h => ?_) (fun b12 h => ?_)))))
    ·exact zr (zg [2] 3 [0,2,3,4,5] (zd (j1 (i64.wrap (0 - (x1.tmod (10 : Int)))) h _ _ (zk [0,2,3,4,5]))))
    ·exact zs (j1 (x1.tmod (10 : Int)) h _ _ (zk [0,2,3,4,5]))
   ·exact zx 0 (hQ1 _ _ _ (j2 l1 h _ _ (zk [0,2,3])))
 exact XR.sub (zk [0,2,3,4]) (hL1 BIG [] p1 h)
def ref1_cut_j3 (x3 : List Int) (z1 : Bool) : Option RWide :=
    some (RWide.mk z1 x3)
def ref1_cut_j2 (p1 : Bool) (x3 : List Int) : Option RWide :=
    ift p1
      (ref1_cut_j3 x3 (decide ((0 : Int) < (x3.length : Int))))
      (ref1_cut_j3 x3 false)
def ref1_cut_j1 (rec1 : List Int → Option RWide) (p1 : Bool) (x1 : List Int) (x2 : Bool) : Option RWide :=
    ift x2
      (grd (0 ≤ (0 : Int) ∧ (0 : Int) ≤ (i64.wrap ((x1.length : Int) - (1 : Int))) ∧ (i64.wrap ((x1.length : Int) - (1 : Int))) ≤ (x1.length : Int)) <|
       rec1 ((x1.drop (0 : Int).toNat).take ((i64.wrap ((x1.length : Int) - (1 : Int))).toNat - (0 : Int).toNat)))
      (ref1_cut_j2 p1 x1)
def ref1_cut_l1 (p1 : Bool) : Nat → List Int → Option RWide
  | 0, _ => none
  | k1 + 1, x1 =>
    ift (decide ((0 : Int) < (x1.length : Int)))
      (bnd (at? x1 (i64.wrap ((x1.length : Int) - (1 : Int)))) fun e1 =>
       ref1_cut_j1 (ref1_cut_l1 p1 k1) p1 x1 (e1 == (0 : Int)))
      (ref1_cut_j1 (ref1_cut_l1 p1 k1) p1 x1 false)
def ref1_cut (p1 : Bool) (p2 : (List Int)) : Option RWide :=
    ref1_cut_l1 p1 BIG p2
abbrev qa2247 : List CV := [cb false, .pv (.s (.slice none 0 0))]
theorem c_ref1_cut (p1 : Bool) (p2 : (List Int)) (r : RWide) (h : ref1_cut p1 p2 = some r) : PC Tryz.prog 184 [vb p1, vl eI p2] (.ag [cb r.below, cl eI r.d]) := by
 unfold ref1_cut at h
 refine zF 30 Tryz.f184 (zq fun K1 m1 => zr (zg [4] 1 [0,1,4] (zd (m1 _ _ (zq fun K2 m2 => ?_)))))
 have j2 : ∀ (x3 : List Int), ref1_cut_j2 p1 x3 = some r → ∀ w0 w1, Sub 30 0 [] w0 w1 [(0, vb p1), (1, vl eI x3), (4, vq 0)] [.box qa2247] → K2 w0 w1 := by
  intro x3 h w0 w1 hS
  unfold ref1_cut_j2 at h
  refine m2 _ _ (XW.sub hS ?_)
  refine zq fun K9 m9 => ?_
  have j3 : ∀ (z1 : Bool), ref1_cut_j3 x3 z1 = some r → ∀ w0 w1, Sub 30 0 [] w0 w1 [(4, vq 0)] [.box [cb z1, cl eI x3]] → K9 w0 w1 := by
   intro z1 h w0 w1 hS
   unfold ref1_cut_j3 at h
   refine m9 _ _ (XW.sub hS ?_)
   refine ze ?_
   obtain rfl := zj h
   exact zf [.ag [cb z1, cl eI x3]] (.ag (.cons (.rfl _ rfl) (.cons (.rfl _ rfl) .nil)))
  rcases zW h with ⟨b10, h⟩ | ⟨b10, h⟩
  ·refine zr (zg [4] 2 [1,4,23] (zt 23 b10 (zv [4] 2 [1,4,23,25] [] [(1, vl eI x3), (4, vq 0), (23, vb true), (25, vi ((eI.els x3).length : Int))] [.box [cb false, .pv (.s (.slice none 0 0))]] ?_)))
   rw [eI.len x3]
   exact zg [4] 5 [4] (zd (j3 (decide ((0 : Int) < (x3.length : Int))) h _ _ (zk [4])))
  ·exact zr (zg [4] 2 [1,4,23] (zt 23 b10 (zv [4] 7 [4] [] [(4, vq 0)] [.box [cb false, cl eI x3]] (zd (j3 false h _ _ (zk [4]))))))
 refine zb 0 (XW.rounds' BIG (x := cd Tryz.f184 [1,0,0,0]) (by kernel_rfl) fun Q1 hQ1 => ?_)
 have hL1 : ∀ (k1 : Nat) (x1 : List Int), ref1_cut_l1 p1 k1 x1 = some r → XR Tryz.prog 30 0 [] (cd Tryz.f184 [1,0,0,0]) Q1 k1 [(0, vb p1), (1, vl eI x1), (4, vq 0)] [.box qa2247] := by
  intro k1
  induction k1 with
  | zero => intro x1 h; rw [ref1_cut_l1.eq_1] at h; cases h
  | succ k1 ih1 =>
   intro x1 h
   rw [ref1_cut_l1.eq_2] at h
   refine zq fun K3 m3 => zq fun K4 m4 => ?_
   have j1 : ∀ (x2 : Bool), ref1_cut_j1 (ref1_cut_l1 p1 k1) p1 x1 x2 = some r → ∀ w0 w1, Sub 30 0 [] w0 w1 [(0, vb p1), (1, vl eI x1), (4, vq 0), (16, vb x2)] [.box qa2247] → K4 w0 w1 := by
    intro x2 h w0 w1 hS
    unfold ref1_cut_j1 at h
    refine m4 _ _ (XW.sub hS ?_)
    refine zC h (fun b7 h => ?_) (fun b7 h => ?_)
    ·refine zs (m3 _ _ (zb 1 ?_))
     obtain ⟨g8, h⟩ := zG h
     refine zr (zv [4] 3 [0,4,17,19] [] [(0, vb p1), (4, vq 0), (17, vl eI x1), (19, vi ((eI.els x1).length : Int))] [.box [cb false, .pv (.s (.slice none 0 0))]] ?_)
     rw [eI.len x1]
     refine zp [4] 2 [0,4,21] [] [(0, vb p1), (4, vq 0), (21, .one (.pv (.ro (((eI.els x1).drop (0 : Int).toNat).take ((i64.wrap ((x1.length : Int) - (1 : Int))).toNat - (0 : Int).toNat)))))] [.box [cb false, .pv (.s (.slice none 0 0))]] [(0 ≤ (0 : Int) ∧ (0 : Int) ≤ (i64.wrap ((x1.length : Int) - (1 : Int))) ∧ (i64.wrap ((x1.length : Int) - (1 : Int))) ≤ ((eI.els x1).length : Int)) ∧ elemsOk 1 (eI.els x1)] (⟨eI.cutOk g8, trivial⟩) ?_
     rw [show ((eI.els x1).drop (0 : Int).toNat).take ((i64.wrap ((x1.length : Int) - (1 : Int))).toNat - (0 : Int).toNat) = eI.els ((x1.drop (0 : Int).toNat).take ((i64.wrap ((x1.length : Int) - (1 : Int))).toNat - (0 : Int).toNat)) from eI.cut _ _ _]
     exact zg [4] 1 [0,1,4] (zd (XR.sub (zk [0,1,4]) (ih1 ((x1.drop (0 : Int).toNat).take ((i64.wrap ((x1.length : Int) - (1 : Int))).toNat - (0 : Int).toNat)) h)))
    ·exact zx 0 (hQ1 _ _ _ (j2 x1 h _ _ (zk [0,1,4])))
   rcases zW h with ⟨b5, h⟩ | ⟨b5, h⟩
   ·obtain ⟨e1, a6, h⟩ := zB h
    refine zr (zv [4] 2 [0,1,4,6] [] [(0, vb p1), (1, vl eI x1), (4, vq 0), (6, vi ((eI.els x1).length : Int))] [.box [cb false, .pv (.s (.slice none 0 0))]] ?_)
    rw [eI.len x1]
    refine zg [4] 2 [0,1,4,8] (zt 8 b5 (zv [4] 3 [0,1,4,8,9,11] [] [(0, vb p1), (1, vl eI x1), (4, vq 0), (8, vb true), (9, vl eI x1), (11, vi ((eI.els x1).length : Int))] [.box [cb false, .pv (.s (.slice none 0 0))]] ?_))
    rw [eI.len x1]
    exact zo [4] 5 [0,1,4,16] [[pi e1]] [0 ≤ (i64.wrap ((x1.length : Int) - (1 : Int))) ∧ (i64.wrap ((x1.length : Int) - (1 : Int))) < ((eI.els x1).length : Int) ∧ elemsOk 1 (eI.els x1), (eI.els x1)[(i64.wrap ((x1.length : Int) - (1 : Int))).toNat]? = some [pi e1]] (⟨eI.inb a6, (eI.get a6), trivial⟩) (zd (j1 (e1 == (0 : Int)) h _ _ (zk [0,1,4,16])))
   ·refine zr (zv [4] 2 [0,1,4,6] [] [(0, vb p1), (1, vl eI x1), (4, vq 0), (6, vi ((eI.els x1).length : Int))] [.box [cb false, .pv (.s (.slice none 0 0))]] ?_)
    rw [eI.len x1]
    exact zg [4] 2 [0,1,4,8] (zt 8 b5 (zg [4] 8 [0,1,4,16] (zd (j1 false h _ _ (zk [0,1,4,16])))))
 exact XR.sub (zk [0,1,4]) (hL1 BIG p2 h)
def ref1_mulWide_j1 (rec1 : List Int → Int → Option RWide) (x1 : Int) (l3 : List Int) : Option RWide :=
    rec1 l3 (i64.wrap (x1 + (1 : Int)))
def ref1_mulWide_l2 (rec1 : List Int → Int → Option RWide) (p2 : RWide) (x1 : Int) (e1 : Int) : Nat → List Int → Int → Option RWide
  | 0, _, _ => none
  | k2 + 1, l2, x2 =>
    ift (decide (x2 < (p2.d.length : Int)))
      (bnd (at? p2.d x2) fun e2 =>
       bnd (at? l2 (i64.wrap (x1 + x2))) fun e3 =>
       (ref1_mulWide_l2 rec1 p2 x1 e1 k2) (l2.set (i64.wrap (x1 + x2)).toNat (i64.wrap (e3 + (i64.wrap (e1 * e2))))) (i64.wrap (x2 + (1 : Int))))
      (ref1_mulWide_j1 rec1 x1 l2)
def ref1_mulWide_j3 (p1 : RWide) (p2 : RWide) (l6 : List Int) : Option RWide :=
    bnd (ref1_cut (!(p1.below == p2.below)) l6) fun r1 =>
    some r1
def ref1_mulWide_l3 (p1 : RWide) (p2 : RWide) : Nat → List Int → Int → Option RWide
  | 0, _, _ => none
  | k3 + 1, l5, x3 =>
    bnd (some (decide ((i64.wrap (x3 + (1 : Int))) < ((l5.length : Nat) : Int)))) fun y2 =>
    ift y2
      (bnd (at? l5 (i64.wrap (x3 + (1 : Int)))) fun e4 =>
       bnd (at? l5 x3) fun e5 =>
       bnd (at? (l5.set (i64.wrap (x3 + (1 : Int))).toNat (i64.wrap (e4 + (i64.wrap (e5.tdiv (10 : Int)))))) x3) fun e6 =>
       (ref1_mulWide_l3 p1 p2 k3) ((l5.set (i64.wrap (x3 + (1 : Int))).toNat (i64.wrap (e4 + (i64.wrap (e5.tdiv (10 : Int)))))).set x3.toNat (e6.tmod (10 : Int))) (i64.wrap (x3 + (1 : Int))))
      (ref1_mulWide_j3 p1 p2 l5)
def ref1_mulWide_j2 (p1 : RWide) (p2 : RWide) (l4 : List Int) : Option RWide :=
    ref1_mulWide_l3 p1 p2 BIG l4 (0 : Int)
def ref1_mulWide_l1 (p1 : RWide) (p2 : RWide) : Nat → List Int → Int → Option RWide
  | 0, _, _ => none
  | k1 + 1, l1, x1 =>
    ift (decide (x1 < (p1.d.length : Int)))
      (bnd (at? p1.d x1) fun e1 =>
       ref1_mulWide_l2 (ref1_mulWide_l1 p1 p2 k1) p2 x1 e1 BIG l1 (0 : Int))
      (ref1_mulWide_j2 p1 p2 l1)
def ref1_mulWide (p1 : RWide) (p2 : RWide) : Option RWide :=
    bnd (some (i64.wrap ((i64.wrap ((p1.d.length : Int) + (p2.d.length : Int))) + (1 : Int)))) fun y1 =>
    grd (0 ≤ y1 ∧ y1 ≤ y1 ∧ y1 ≤ 4294967296) <|
    ref1_mulWide_l1 p1 p2 BIG (List.replicate y1.toNat (0 : Int)) (0 : Int)
abbrev qa2260 (p1 : RWide) : List PV := [.s (.bool p1.below), .ro (eI.els p1.d)]
abbrev qa2261 (p2 : RWide) : List PV := [.s (.bool p2.below), .ro (eI.els p2.d)]
abbrev qa2262 : List CV := [cb false, .pv (.s (.slice none 0 0))]
theorem c_ref1_mulWide (p1 : RWide) (p2 : RWide) (r : RWide) (h : ref1_mulWide p1 p2 = some r) : PC Tryz.prog 187 [.ag [cb p1.below, cl eI p1.d], .ag [cb p2.below, cl eI p2.d]] (.ag [cb r.below, cl eI r.d]) := by
 unfold ref1_mulWide at h
 refine zF 81 Tryz.f187 (zq fun K1 m1 => zr (zg [4] 3 [2,3,4] (zd (m1 _ _ (zq fun K2 m2 => ?_)))))
 obtain ⟨y1, hy3, h⟩ := zB h
 obtain ⟨g5, h⟩ := zG h
 refine zr (zv [4] 3 [2,3,4,13] [[.s (.bool p1.below), .ro (eI.els p1.d)]] [(2, vR [.s (.bool p1.below), .ro (eI.els p1.d)]), (3, vR [.s (.bool p2.below), .ro (eI.els p2.d)]), (4, vq 0), (13, vi ((eI.els p1.d).length : Int))] [.box [cb false, .pv (.s (.slice none 0 0))]] ?_)
 rw [eI.len p1.d]
 refine zv [4] 3 [2,3,4,13,16] [[.s (.bool p2.below), .ro (eI.els p2.d)]] [(2, vR [.s (.bool p1.below), .ro (eI.els p1.d)]), (3, vR [.s (.bool p2.below), .ro (eI.els p2.d)]), (4, vq 0), (13, vi (p1.d.length : Int)), (16, vi ((eI.els p2.d).length : Int))] [.box [cb false, .pv (.s (.slice none 0 0))]] ?_
 rw [eI.len p2.d]
 refine zv [4] 2 [2,3,4,18] [] [(2, vR [.s (.bool p1.below), .ro (eI.els p1.d)]), (3, vR [.s (.bool p2.below), .ro (eI.els p2.d)]), (4, vq 0), (18, vi (i64.wrap ((i64.wrap ((p1.d.length : Int) + (p2.d.length : Int))) + (1 : Int))))] [.box [cb false, .pv (.s (.slice none 0 0))]] ?_
 rw [show (i64.wrap ((i64.wrap ((p1.d.length : Int) + (p2.d.length : Int))) + (1 : Int))) = y1 from zj hy3]
 refine zp [4] 1 [2,3,4,19] [] [(2, vR [.s (.bool p1.below), .ro (eI.els p1.d)]), (3, vR [.s (.bool p2.below), .ro (eI.els p2.d)]), (4, vq 0), (19, .one (.sl 1 1 0 y1.toNat))] [.box [cb false, .pv (.s (.slice none 0 0))], .arr 1 (List.replicate y1.toNat [pi 0])] [0 ≤ y1, y1 ≤ y1, y1 ≤ 4294967296] (⟨g5.1, g5.2.1, g5.2.2, trivial⟩) ?_
 rw [show List.replicate y1.toNat [pi 0] = eI.els (List.replicate y1.toNat (0 : Int)) from eI.rep _ (0 : Int)]
 refine zg [4] 1 [2,3,4,5] (zd (m2 _ _ (zq fun K6 m6 => ?_)))
 have j2 : ∀ (l4 : List Int), ref1_mulWide_j2 p1 p2 l4 = some r → ∀ w0 w1, Sub 81 0 [] w0 w1 [(2, vR (qa2260 p1)), (3, vR (qa2261 p2)), (4, vq 0), (5, .one (.sl 1 1 0 l4.length))] [.box qa2262, .arr 1 (eI.els l4)] → K6 w0 w1 := by
  intro l4 h w0 w1 hS
  unfold ref1_mulWide_j2 at h
  refine m6 _ _ (XW.sub hS ?_)
  refine zq fun K22 m22 => ?_
  have j3 : ∀ (l6 : List Int), ref1_mulWide_j3 p1 p2 l6 = some r → ∀ w0 w1, Sub 81 0 [] w0 w1 [(2, vR (qa2260 p1)), (3, vR (qa2261 p2)), (4, vq 0), (5, .one (.sl 1 1 0 l6.length))] [.box qa2262, .arr 1 (eI.els l6)] → K22 w0 w1 := by
   intro l6 h w0 w1 hS
   unfold ref1_mulWide_j3 at h
   refine m22 _ _ (XW.sub hS ?_)
   refine zq fun K33 m33 => ?_
   obtain ⟨r1, c34, h⟩ := zB h
   refine zr (zv [4] 6 [4,78,79] [(qa2260 p1), (qa2261 p2)] [(4, vq 0), (78, vb (!(p1.below == p2.below))), (79, .one (.sl 1 1 0 l6.length))] [.box qa2262, .arr 1 (eI.els l6)] (XO.sub (Sub.kill (fr' := [(4, vq 0), (78, vb (!(p1.below == p2.below))), (79, vl eI l6)]) 1 (Nat.zero_le _) (by kernel_rfl) ⟨.one (.rfl _ rfl), .one (.rfl _ rfl), .one (cf_sl eI l6 rfl rfl rfl), trivial⟩) (za (c_ref1_cut _ _ _ c34) (zg [4] 1 [4] (zd (m33 _ _ (ze ?_)))))))
   obtain rfl := zj h
   exact zf [.ag [cb r1.below, cl eI r1.d]] (.ag (.cons (.rfl _ rfl) (.cons (.rfl _ rfl) .nil)))
  refine zq fun K23 m23 => zr (zg [4] 1 [2,3,4,5,10] (zd (m23 _ _ (zb 4 (XW.rounds' BIG (x := cd Tryz.f187 [1,1,1,0,1,0,0]) (by kernel_rfl) fun Q3 hQ3 => ?_)))))
  have hL3 : ∀ (k3 : Nat) (l5 : List Int) (x3 : Int), ref1_mulWide_l3 p1 p2 k3 l5 x3 = some r → XR Tryz.prog 81 0 [] (cd Tryz.f187 [1,1,1,0,1,0,0]) Q3 k3 [(2, vR (qa2260 p1)), (3, vR (qa2261 p2)), (4, vq 0), (5, .one (.sl 1 1 0 l5.length)), (10, vi x3)] [.box qa2262, .arr 1 (eI.els l5)] := by
   intro k3
   induction k3 with
   | zero => intro l5 x3 h; rw [ref1_mulWide_l3.eq_1] at h; cases h
   | succ k3 ih3 =>
    intro l5 x3 h
    rw [ref1_mulWide_l3.eq_2] at h
    refine zq fun K24 m24 => zq fun K25 m25 => ?_
    obtain ⟨y2, hy26, h⟩ := zB h
    refine zr (zv [4] 5 [2,3,4,5,10,53] [] [(2, vR [.s (.bool p1.below), .ro (eI.els p1.d)]), (3, vR [.s (.bool p2.below), .ro (eI.els p2.d)]), (4, vq 0), (5, .one (.sl 1 1 0 l5.length)), (10, vi x3), (53, vb (decide ((i64.wrap (x3 + (1 : Int))) < ((l5.length : Nat) : Int))))] [.box [cb false, .pv (.s (.slice none 0 0))], .arr 1 (eI.els l5)] ?_)
    rw [show (decide ((i64.wrap (x3 + (1 : Int))) < ((l5.length : Nat) : Int))) = y2 from zj hy26]
    refine zd (m25 _ _ (zC h (fun b27 h => ?_) (fun b27 h => ?_)))
    ·refine zs (m24 _ _ (zq fun K28 m28 => zb 5 (zq fun K29 m29 => ?_)))
     obtain ⟨e4, a30, h⟩ := zB h
     obtain ⟨e5, a31, h⟩ := zB h
     refine zw 10 [(65, vi (i64.wrap (e5.tdiv (10 : Int)))), (64, vi e5), (63, .one (.pt 1 1 (0 + x3.toNat) 0)), (62, vi x3), (61, .one (.sl 1 1 0 l5.length)), (60, vi e4), (59, .one (.pt 1 1 (0 + (i64.wrap (x3 + (1 : Int))).toNat) 0)), (58, vi (i64.wrap (x3 + (1 : Int)))), (57, vi x3), (56, .one (.sl 1 1 0 l5.length)), (2, vR (qa2260 p1)), (3, vR (qa2261 p2)), (4, vq 0), (5, .one (.sl 1 1 0 l5.length)), (10, vi x3), (53, vb y2)] ?_ ?_
     ·exact zyo 10 [[pi e4], [pi e5]] [0 ≤ (i64.wrap (x3 + (1 : Int))) ∧ (i64.wrap (x3 + (1 : Int))) < ((l5.length : Nat) : Int), (eI.els l5)[(0 + (i64.wrap (x3 + (1 : Int))).toNat)]? = some [pi e4], 0 ≤ x3 ∧ x3 < ((l5.length : Nat) : Int), (eI.els l5)[(0 + x3.toNat)]? = some [pi e5], (10 : Int) ≠ 0] (⟨Enc.inb' a30, (eI.get0 a30), Enc.inb' a31, (eI.get0 a31), by decide, trivial⟩) zyd
     refine zp [4] 3 [2,3,4,5,10] [[pi e4]] [(2, vR [.s (.bool p1.below), .ro (eI.els p1.d)]), (3, vR [.s (.bool p2.below), .ro (eI.els p2.d)]), (4, vq 0), (5, .one (.sl 1 1 0 l5.length)), (10, vi x3)] [.box [cb false, .pv (.s (.slice none 0 0))], .arr 1 ((eI.els l5).set (0 + (i64.wrap (x3 + (1 : Int))).toNat) [pi (i64.wrap (e4 + (i64.wrap (e5.tdiv (10 : Int)))))])] [0 ≤ (i64.wrap (x3 + (1 : Int))) ∧ (i64.wrap (x3 + (1 : Int))) < ((l5.length : Nat) : Int), (eI.els l5)[(0 + (i64.wrap (x3 + (1 : Int))).toNat)]? = some [pi e4]] (⟨Enc.inb' a30, (eI.get0 a30), trivial⟩) ?_
     rw [show (eI.els l5).set (0 + (i64.wrap (x3 + (1 : Int))).toNat) [pi (i64.wrap (e4 + (i64.wrap (e5.tdiv (10 : Int)))))] = eI.els (l5.set (i64.wrap (x3 + (1 : Int))).toNat (i64.wrap (e4 + (i64.wrap (e5.tdiv (10 : Int)))))) from eI.set0 _ _ (i64.wrap (e4 + (i64.wrap (e5.tdiv (10 : Int)))))]
     refine zd (m29 _ _ ?_)
     obtain ⟨e6, a32, h⟩ := zB h
     refine zr ?_
     refine zp [4] 7 [2,3,4,5,10] [[pi e6], [pi e6]] [(2, vR [.s (.bool p1.below), .ro (eI.els p1.d)]), (3, vR [.s (.bool p2.below), .ro (eI.els p2.d)]), (4, vq 0), (5, .one (.sl 1 1 0 l5.length)), (10, vi x3)] [.box [cb false, .pv (.s (.slice none 0 0))], .arr 1 ((eI.els (l5.set (i64.wrap (x3 + (1 : Int))).toNat (i64.wrap (e4 + (i64.wrap (e5.tdiv (10 : Int))))))).set (0 + x3.toNat) [pi (e6.tmod (10 : Int))])] [0 ≤ x3 ∧ x3 < ((l5.length : Nat) : Int), (eI.els (l5.set (i64.wrap (x3 + (1 : Int))).toNat (i64.wrap (e4 + (i64.wrap (e5.tdiv (10 : Int)))))))[(0 + x3.toNat)]? = some [pi e6], (10 : Int) ≠ 0, 0 ≤ x3 ∧ x3 < ((l5.length : Nat) : Int), (eI.els (l5.set (i64.wrap (x3 + (1 : Int))).toNat (i64.wrap (e4 + (i64.wrap (e5.tdiv (10 : Int)))))))[(0 + x3.toNat)]? = some [pi e6]] (⟨(by have := Enc.inb' a32; simpa using this), (eI.get0 a32), by decide, (by have := Enc.inb' a32; simpa using this), (eI.get0 a32), trivial⟩) ?_
     rw [show (eI.els (l5.set (i64.wrap (x3 + (1 : Int))).toNat (i64.wrap (e4 + (i64.wrap (e5.tdiv (10 : Int))))))).set (0 + x3.toNat) [pi (e6.tmod (10 : Int))] = eI.els ((l5.set (i64.wrap (x3 + (1 : Int))).toNat (i64.wrap (e4 + (i64.wrap (e5.tdiv (10 : Int)))))).set x3.toNat (e6.tmod (10 : Int))) from eI.set0 _ _ (e6.tmod (10 : Int))]
     refine zd (m28 _ _ (zr (zg [4] 3 [2,3,4,5,10] (zd ?_))))
     exact XR.sub (Sub.trans (Sub.pick (fr' := [(2, vR [.s (.bool p1.below), .ro (eI.els p1.d)]), (3, vR [.s (.bool p2.below), .ro (eI.els p2.d)]), (4, vq 0), (5, .one (.sl 1 1 0 l5.length)), (10, vi (i64.wrap (x3 + (1 : Int))))]) [2,3,4,5,10] (by kernel_rfl)) (Sub.frame (fr' := [(2, vR [.s (.bool p1.below), .ro (eI.els p1.d)]), (3, vR [.s (.bool p2.below), .ro (eI.els p2.d)]), (4, vq 0), (5, .one (.sl 1 1 0 ((l5.set (i64.wrap (x3 + (1 : Int))).toNat (i64.wrap (e4 + (i64.wrap (e5.tdiv (10 : Int)))))).set x3.toNat (e6.tmod (10 : Int))).length)), (10, vi (i64.wrap (x3 + (1 : Int))))]) ⟨.rfl _, .rfl _, .rfl _, ALe.of_eq (show (.one (.sl 1 1 0 l5.length) : AV) = .one (.sl 1 1 0 ((l5.set (i64.wrap (x3 + (1 : Int))).toNat (i64.wrap (e4 + (i64.wrap (e5.tdiv (10 : Int)))))).set x3.toNat (e6.tmod (10 : Int))).length) from by simp), .rfl _, trivial⟩)) (ih3 ((l5.set (i64.wrap (x3 + (1 : Int))).toNat (i64.wrap (e4 + (i64.wrap (e5.tdiv (10 : Int)))))).set x3.toNat (e6.tmod (10 : Int))) (i64.wrap (x3 + (1 : Int))) h)
    ·exact zx 4 (hQ3 _ _ _ (j3 l5 h _ _ (zk [2,3,4,5])))
  exact XR.sub (zk [2,3,4,5,10]) (hL3 BIG l4 (0 : Int) h)
 refine zq fun K7 m7 => zr (zv [4] 3 [2,3,4,5,21,22] [[.s (.bool p1.below), .ro (eI.els p1.d)]] [(2, vR [.s (.bool p1.below), .ro (eI.els p1.d)]), (3, vR [.s (.bool p2.below), .ro (eI.els p2.d)]), (4, vq 0), (5, .one (.sl 1 1 0 y1.toNat)), (21, vl eI p1.d), (22, vi ((eI.els p1.d).length : Int))] [.box [cb false, .pv (.s (.slice none 0 0))], .arr 1 (eI.els (List.replicate y1.toNat (0 : Int)))] ?_)
 rw [eI.len p1.d]
 refine zg [4] 1 [2,3,4,5,21,22,23] (zd (m7 _ _ (zb 0 (XW.rounds' BIG (x := cd Tryz.f187 [1,1,0,1,0,0]) (by kernel_rfl) fun Q1 hQ1 => ?_))))
 have hL1 : ∀ (k1 : Nat) (l1 : List Int) (x1 : Int), ref1_mulWide_l1 p1 p2 k1 l1 x1 = some r → XR Tryz.prog 81 0 [] (cd Tryz.f187 [1,1,0,1,0,0]) Q1 k1 [(2, vR (qa2260 p1)), (3, vR (qa2261 p2)), (4, vq 0), (5, .one (.sl 1 1 0 l1.length)), (21, vl eI p1.d), (22, vi (p1.d.length : Int)), (23, vi x1)] [.box qa2262, .arr 1 (eI.els l1)] := by
  intro k1
  induction k1 with
  | zero => intro l1 x1 h; rw [ref1_mulWide_l1.eq_1] at h; cases h
  | succ k1 ih1 =>
   intro l1 x1 h
   rw [ref1_mulWide_l1.eq_2] at h
   refine zq fun K8 m8 => zr (zg [4] 1 [2,3,4,5,21,22,23,24] (zd (m8 _ _ (zq fun K9 m9 => zC h (fun b10 h => ?_) (fun b10 h => ?_)))))
   ·refine zs (m9 _ _ (zq fun K11 m11 => ?_))
    have j1 : ∀ (l3 : List Int), ref1_mulWide_j1 (ref1_mulWide_l1 p1 p2 k1) x1 l3 = some r → ∀ w0 w1, Sub 81 0 [] w0 w1 [(2, vR (qa2260 p1)), (3, vR (qa2261 p2)), (4, vq 0), (5, .one (.sl 1 1 0 l3.length)), (21, vl eI p1.d), (22, vi (p1.d.length : Int)), (23, vi x1)] [.box qa2262, .arr 1 (eI.els l3)] → K11 w0 w1 := by
     intro l3 h w0 w1 hS
     unfold ref1_mulWide_j1 at h
     refine m11 _ _ (XW.sub hS ?_)
     exact zr (zg [4] 2 [2,3,4,5,21,22,23] (zd (XR.sub (zk [2,3,4,5,21,22,23]) (ih1 l3 (i64.wrap (x1 + (1 : Int))) h))))
    refine zb 1 (zq fun K12 m12 => ?_)
    obtain ⟨e1, a13, h⟩ := zB h
    refine zr (zo [4] 5 [2,3,4,5,6,7,21,22,23] [[pi e1]] [0 ≤ x1 ∧ x1 < ((eI.els p1.d).length : Int) ∧ elemsOk 1 (eI.els p1.d), (eI.els p1.d)[x1.toNat]? = some [pi e1]] (⟨eI.inb a13, (eI.get a13), trivial⟩) (zd (m12 _ _ (zq fun K14 m14 => zr ?_))))
    refine zv [4] 3 [2,3,4,5,6,7,21,22,23,29,30] [[.s (.bool p2.below), .ro (eI.els p2.d)]] [(2, vR [.s (.bool p1.below), .ro (eI.els p1.d)]), (3, vR [.s (.bool p2.below), .ro (eI.els p2.d)]), (4, vq 0), (5, .one (.sl 1 1 0 l1.length)), (6, vi x1), (7, vi e1), (21, vl eI p1.d), (22, vi (p1.d.length : Int)), (23, vi x1), (29, vl eI p2.d), (30, vi ((eI.els p2.d).length : Int))] [.box [cb false, .pv (.s (.slice none 0 0))], .arr 1 (eI.els l1)] ?_
    rw [eI.len p2.d]
    refine zg [4] 1 [2,3,4,5,6,7,21,22,23,29,30,31] (zd (m14 _ _ (zb 2 (XW.rounds' BIG (x := cd Tryz.f187 [1,1,0,1,0,0,1,1,0,0,1,1,0,0]) (by kernel_rfl) fun Q2 hQ2 => ?_))))
    have hL2 : ∀ (k2 : Nat) (l2 : List Int) (x2 : Int), ref1_mulWide_l2 (ref1_mulWide_l1 p1 p2 k1) p2 x1 e1 k2 l2 x2 = some r → XR Tryz.prog 81 0 [] (cd Tryz.f187 [1,1,0,1,0,0,1,1,0,0,1,1,0,0]) Q2 k2 [(2, vR (qa2260 p1)), (3, vR (qa2261 p2)), (4, vq 0), (5, .one (.sl 1 1 0 l2.length)), (6, vi x1), (7, vi e1), (21, vl eI p1.d), (22, vi (p1.d.length : Int)), (23, vi x1), (29, vl eI p2.d), (30, vi (p2.d.length : Int)), (31, vi x2)] [.box qa2262, .arr 1 (eI.els l2)] := by
     intro k2
     induction k2 with
     | zero => intro l2 x2 h; rw [ref1_mulWide_l2.eq_1] at h; cases h
     | succ k2 ih2 =>
      intro l2 x2 h
      rw [ref1_mulWide_l2.eq_2] at h
      refine zq fun K15 m15 => zr (zg [4] 1 [2,3,4,5,6,7,21,22,23,29,30,31,32] (zd (m15 _ _ (zq fun K16 m16 => zC h (fun b17 h => ?_) (fun b17 h => ?_)))))
      ·refine zs (m16 _ _ (zq fun K18 m18 => zb 3 (zq fun K19 m19 => ?_)))
       obtain ⟨e2, a20, h⟩ := zB h
       refine zr (zo [4] 5 [2,3,4,5,6,7,8,9,21,22,23,29,30,31] [[pi e2]] [0 ≤ x2 ∧ x2 < ((eI.els p2.d).length : Int) ∧ elemsOk 1 (eI.els p2.d), (eI.els p2.d)[x2.toNat]? = some [pi e2]] (⟨eI.inb a20, (eI.get a20), trivial⟩) (zd (m19 _ _ ?_)))
       obtain ⟨e3, a21, h⟩ := zB h
       refine zr ?_
       refine zp [4] 12 [2,3,4,5,6,7,21,22,23,29,30,31] [[pi e3], [pi e3]] [(2, vR [.s (.bool p1.below), .ro (eI.els p1.d)]), (3, vR [.s (.bool p2.below), .ro (eI.els p2.d)]), (4, vq 0), (5, .one (.sl 1 1 0 l2.length)), (6, vi x1), (7, vi e1), (21, vl eI p1.d), (22, vi (p1.d.length : Int)), (23, vi x1), (29, vl eI p2.d), (30, vi (p2.d.length : Int)), (31, vi x2)] [.box [cb false, .pv (.s (.slice none 0 0))], .arr 1 ((eI.els l2).set (0 + (i64.wrap (x1 + x2)).toNat) [pi (i64.wrap (e3 + (i64.wrap (e1 * e2))))])] [0 ≤ (i64.wrap (x1 + x2)) ∧ (i64.wrap (x1 + x2)) < ((l2.length : Nat) : Int), (eI.els l2)[(0 + (i64.wrap (x1 + x2)).toNat)]? = some [pi e3], 0 ≤ (i64.wrap (x1 + x2)) ∧ (i64.wrap (x1 + x2)) < ((l2.length : Nat) : Int), (eI.els l2)[(0 + (i64.wrap (x1 + x2)).toNat)]? = some [pi e3]] (⟨Enc.inb' a21, (eI.get0 a21), Enc.inb' a21, (eI.get0 a21), trivial⟩) ?_
       rw [show (eI.els l2).set (0 + (i64.wrap (x1 + x2)).toNat) [pi (i64.wrap (e3 + (i64.wrap (e1 * e2))))] = eI.els (l2.set (i64.wrap (x1 + x2)).toNat (i64.wrap (e3 + (i64.wrap (e1 * e2))))) from eI.set0 _ _ (i64.wrap (e3 + (i64.wrap (e1 * e2))))]
       refine zd (m18 _ _ (zr (zg [4] 2 [2,3,4,5,6,7,21,22,23,29,30,31] (zd ?_))))
       exact XR.sub (Sub.trans (Sub.pick (fr' := [(2, vR [.s (.bool p1.below), .ro (eI.els p1.d)]), (3, vR [.s (.bool p2.below), .ro (eI.els p2.d)]), (4, vq 0), (5, .one (.sl 1 1 0 l2.length)), (6, vi x1), (7, vi e1), (21, vl eI p1.d), (22, vi (p1.d.length : Int)), (23, vi x1), (29, vl eI p2.d), (30, vi (p2.d.length : Int)), (31, vi (i64.wrap (x2 + (1 : Int))))]) [2,3,4,5,6,7,21,22,23,29,30,31] (by kernel_rfl)) (Sub.frame (fr' := [(2, vR [.s (.bool p1.below), .ro (eI.els p1.d)]), (3, vR [.s (.bool p2.below), .ro (eI.els p2.d)]), (4, vq 0), (5, .one (.sl 1 1 0 (l2.set (i64.wrap (x1 + x2)).toNat (i64.wrap (e3 + (i64.wrap (e1 * e2))))).length)), (6, vi x1), (7, vi e1), (21, vl eI p1.d), (22, vi (p1.d.length : Int)), (23, vi x1), (29, vl eI p2.d), (30, vi (p2.d.length : Int)), (31, vi (i64.wrap (x2 + (1 : Int))))]) ⟨.rfl _, .rfl _, .rfl _, ALe.of_eq (show (.one (.sl 1 1 0 l2.length) : AV) = .one (.sl 1 1 0 (l2.set (i64.wrap (x1 + x2)).toNat (i64.wrap (e3 + (i64.wrap (e1 * e2))))).length) from by simp), .rfl _, .rfl _, .rfl _, .rfl _, .rfl _, .rfl _, .rfl _, .rfl _, trivial⟩)) (ih2 (l2.set (i64.wrap (x1 + x2)).toNat (i64.wrap (e3 + (i64.wrap (e1 * e2))))) (i64.wrap (x2 + (1 : Int))) h)
      ·exact zx 2 (hQ2 _ _ _ (j1 l2 h _ _ (zk [2,3,4,5,21,22,23])))
    exact XR.sub (zk [2,3,4,5,6,7,21,22,23,29,30,31]) (hL2 BIG l1 (0 : Int) h)
   ·exact zx 0 (hQ1 _ _ _ (j2 l1 h _ _ (zk [2,3,4,5])))
 exact XR.sub (Sub.trans (Sub.pick (fr' := [(2, vR [.s (.bool p1.below), .ro (eI.els p1.d)]), (3, vR [.s (.bool p2.below), .ro (eI.els p2.d)]), (4, vq 0), (5, .one (.sl 1 1 0 y1.toNat)), (21, vl eI p1.d), (22, vi (p1.d.length : Int)), (23, vi 0)]) [2,3,4,5,21,22,23] (by kernel_rfl)) (Sub.frame (fr' := [(2, vR [.s (.bool p1.below), .ro (eI.els p1.d)]), (3, vR [.s (.bool p2.below), .ro (eI.els p2.d)]), (4, vq 0), (5, .one (.sl 1 1 0 (List.replicate y1.toNat (0 : Int)).length)), (21, vl eI p1.d), (22, vi (p1.d.length : Int)), (23, vi 0)]) ⟨.rfl _, .rfl _, .rfl _, ALe.of_eq (show (.one (.sl 1 1 0 y1.toNat) : AV) = .one (.sl 1 1 0 (List.replicate y1.toNat (0 : Int)).length) from by simp), .rfl _, .rfl _, .rfl _, trivial⟩)) (hL1 BIG (List.replicate y1.toNat (0 : Int)) (0 : Int) h)
def ref1_half_j1 (z3 : Bool) (z4 : List Int) : Option RWide :=
    some (RWide.mk z3 z4)
def ref1_half_l1 (p1 : Int) : Nat → Bool → List Int → Int → Option RWide
  | 0, _, _, _ => none
  | k1 + 1, z1, z2, x1 =>
    ift (decide (x1 < p1))
      (bnd (ref1_wideOf (256 : Int)) fun r2 =>
       bnd (ref1_mulWide (RWide.mk z1 z2) r2) fun r3 =>
       (ref1_half_l1 p1 k1) r3.below r3.d (i64.wrap (x1 + (1 : Int))))
      (ref1_half_j1 z1 z2)
def ref1_half (p1 : Int) : Option RWide :=
    bnd (ref1_wideOf (128 : Int)) fun r1 =>
    ref1_half_l1 p1 BIG r1.below r1.d (1 : Int)
abbrev qa2285 : List CV := [cb false, .pv (.s (.slice none 0 0))]
abbrev qa2296 (p1 : Int) (z1 : Bool) (z2 : List Int) (x1 : Int) (r2 : RWide) : Fr := [(12, .ag [cb r2.below, cl eI r2.d]), (11, .ag [cb z1, cl eI z2]), (0, vi p1), (2, vq 0), (3, vq 1), (4, vi x1), (8, vb (decide (x1 < p1)))]
theorem c_ref1_half (p1 : Int) (r : RWide) (h : ref1_half p1 = some r) : PC Tryz.prog 166 [vi p1] (.ag [cb r.below, cl eI r.d]) := by
 unfold ref1_half at h
 refine zF 15 Tryz.f166 (zq fun K1 m1 => zr (zg [2, 3] 1 [0,2] (zd (m1 _ _ (zq fun K2 m2 => ?_)))))
 obtain ⟨r1, c3, h⟩ := zB h
 refine zr (za (c_ref1_wideOf _ _ c3) (zv [2, 3] 2 [0,2,3] [] [(0, vi p1), (2, vq 0), (3, vq 1)] [.box qa2285, .box [cb r1.below, cl eI r1.d]] (zd (m2 _ _ (zq fun K4 m4 => ?_)))))
 have j1 : ∀ (z3 : Bool) (z4 : List Int), ref1_half_j1 z3 z4 = some r → ∀ w0 w1, Sub 15 0 [] w0 w1 [(2, vq 0), (3, vq 1)] [.box qa2285, .box [cb z3, cl eI z4]] → K4 w0 w1 := by
  intro z3 z4 h w0 w1 hS
  unfold ref1_half_j1 at h
  refine m4 _ _ (XW.sub hS ?_)
  refine zq fun K12 m12 => zr (zg [2, 3] 2 [2] (zd (m12 _ _ (ze ?_))))
  obtain rfl := zj h
  exact zf [.ag [cb z3, cl eI z4]] (.ag (.cons (.rfl _ rfl) (.cons (.rfl _ rfl) .nil)))
 refine zq fun K5 m5 => zr (zg [2, 3] 1 [0,2,3,4] (zd (m5 _ _ (zb 0 (XW.rounds' BIG (x := cd Tryz.f166 [1,1,0,1,0,0]) (by kernel_rfl) fun Q1 hQ1 => ?_)))))
 have hL1 : ∀ (k1 : Nat) (z1 : Bool) (z2 : List Int) (x1 : Int), ref1_half_l1 p1 k1 z1 z2 x1 = some r → XR Tryz.prog 15 0 [] (cd Tryz.f166 [1,1,0,1,0,0]) Q1 k1 [(0, vi p1), (2, vq 0), (3, vq 1), (4, vi x1)] [.box qa2285, .box [cb z1, cl eI z2]] := by
  intro k1
  induction k1 with
  | zero => intro z1 z2 x1 h; rw [ref1_half_l1.eq_1] at h; cases h
  | succ k1 ih1 =>
   intro z1 z2 x1 h
   rw [ref1_half_l1.eq_2] at h
   refine zq fun K6 m6 => zq fun K7 m7 => zr (zg [2, 3] 3 [0,2,3,4,8] (zd (m7 _ _ (zC h (fun b8 h => ?_) (fun b8 h => ?_)))))
   ·refine zs (m6 _ _ (zq fun K9 m9 => zb 1 ?_))
    obtain ⟨r2, c10, h⟩ := zB h
    obtain ⟨r3, c11, h⟩ := zB h
    refine zw 2 (qa2296 p1 z1 z2 x1 r2) ?_ ?_
    ·exact zyg 1 (DX.cal 123 [vi 256] (.ag [cb r2.below, cl eI r2.d]) (qa2296 p1 z1 z2 x1 r2) (by kernel_rfl) (c_ref1_wideOf _ _ c10) rfl rfl (by kernel_rfl) zyd)
    exact za (c_ref1_mulWide _ _ _ c11) (zv [2, 3] 1 [0,2,3,4] [] [(0, vi p1), (2, vq 0), (3, vq 1), (4, vi x1)] [.box qa2285, .box [cb r3.below, cl eI r3.d]] (zd (m9 _ _ (zr (zg [2, 3] 3 [0,2,3,4] (zd (XR.sub (zk [0,2,3,4]) (ih1 r3.below r3.d (i64.wrap (x1 + (1 : Int))) h))))))))
   ·exact zx 0 (hQ1 _ _ _ (j1 z1 z2 h _ _ (zk [2,3])))
 exact XR.sub (zk [0,2,3,4]) (hL1 BIG r1.below r1.d (1 : Int) h)
def ref1_plus_j3 (rec1 : List Int → Int → Int → Option (List Int)) (l1 : List Int) (x2 : Int) (x5 : Int) : Option (List Int) :=
    grd (l1.length + 1 ≤ 4294967296) <|
    rec1 (l1 ++ [(x5.tmod (10 : Int))]) (i64.wrap (x5.tdiv (10 : Int))) (i64.wrap (x2 + (1 : Int)))
def ref1_plus_j2 (rec1 : List Int → Int → Int → Option (List Int)) (p2 : (List Int)) (l1 : List Int) (x2 : Int) (x4 : Int) : Option (List Int) :=
    ift (decide (x2 < (p2.length : Int)))
      (bnd (at? p2 x2) fun e2 =>
       ref1_plus_j3 rec1 l1 x2 (i64.wrap (x4 + e2)))
      (ref1_plus_j3 rec1 l1 x2 x4)
def ref1_plus_j4 (l2 : List Int) : Option (List Int) :=
    some l2
def ref1_plus_j1 (rec1 : List Int → Int → Int → Option (List Int)) (p1 : (List Int)) (p2 : (List Int)) (l1 : List Int) (x1 : Int) (x2 : Int) (x3 : Bool) : Option (List Int) :=
    ift x3
      (ift (decide (x2 < (p1.length : Int)))
         (bnd (at? p1 x2) fun e1 =>
          ref1_plus_j2 rec1 p2 l1 x2 (i64.wrap (x1 + e1)))
         (ref1_plus_j2 rec1 p2 l1 x2 x1))
      (ref1_plus_j4 l1)
def ref1_plus_l1 (p1 : (List Int)) (p2 : (List Int)) : Nat → List Int → Int → Int → Option (List Int)
  | 0, _, _, _ => none
  | k1 + 1, l1, x1, x2 =>
    ift (decide (x2 < (p1.length : Int)))
      (ref1_plus_j1 (ref1_plus_l1 p1 p2 k1) p1 p2 l1 x1 x2 true)
      (ift (decide (x2 < (p2.length : Int)))
         (ref1_plus_j1 (ref1_plus_l1 p1 p2 k1) p1 p2 l1 x1 x2 true)
         (ref1_plus_j1 (ref1_plus_l1 p1 p2 k1) p1 p2 l1 x1 x2 (decide ((0 : Int) < x1))))
def ref1_plus (p1 : (List Int)) (p2 : (List Int)) : Option (List Int) :=
    ref1_plus_l1 p1 p2 BIG [] (0 : Int) (0 : Int)
theorem c_ref1_plus (p1 : (List Int)) (p2 : (List Int)) (r : (List Int)) (h : ref1_plus p1 p2 = some r) : PC Tryz.prog 185 [vl eI p1, vl eI p2] (vl eI r) := by
 unfold ref1_plus at h
 refine zF 54 Tryz.f185 (zq fun K1 m1 => zr (zg [] 1 [0,1] (zd (m1 _ _ (zq fun K2 m2 => zr ?_)))))
 refine zg [] 1 [0,1,5] (zd (m2 _ _ (zq fun K3 m3 => zr (zv [] 1 [0,1,5,6] [] [(0, vl eI p1), (1, vl eI p2), (5, .one (.pv (.s (.slice none 0 0)))), (6, vi 0)] [] (zd (m3 _ _ ?_))))))
 refine zq fun K4 m4 => ?_
 have j4 : ∀ (l2 : List Int), ref1_plus_j4 l2 = some r → ∀ w0 w1, Sub 54 0 [] w0 w1 [(5, .one (.sl 0 1 0 l2.length))] [.arr 1 (eI.els l2)] → K4 w0 w1 := by
  intro l2 h w0 w1 hS
  unfold ref1_plus_j4 at h
  refine m4 _ _ (XW.sub hS ?_)
  refine zq fun K23 m23 => zr (zg [] 2 [4] (zd (m23 _ _ (ze ?_))))
  obtain rfl := zj h
  exact zf [.one (.sl 0 1 0 l2.length)] (.one (cf_sl eI l2 rfl rfl rfl))
 refine zq fun K5 m5 => zr (zv [] 1 [0,1,5,6,7] [] [(0, vl eI p1), (1, vl eI p2), (5, .one (.pv (.s (.slice none 0 0)))), (6, vi 0), (7, vi 0)] [] (zd (m5 _ _ (zb 0 (XW.sub (Sub.list (t := 5) (sz := 1) rfl) (XW.rounds' BIG (x := cd Tryz.f185 [1,1,1,0,1,0,0]) (by kernel_rfl) fun Q1 hQ1 => ?_))))))
 have hL1 : ∀ (k1 : Nat) (l1 : List Int) (x1 : Int) (x2 : Int), ref1_plus_l1 p1 p2 k1 l1 x1 x2 = some r → XR Tryz.prog 54 0 [] (cd Tryz.f185 [1,1,1,0,1,0,0]) Q1 k1 [(0, vl eI p1), (1, vl eI p2), (5, .one (.sl 0 1 0 l1.length)), (6, vi x1), (7, vi x2)] [.arr 1 (eI.els l1)] := by
  intro k1
  induction k1 with
  | zero => intro l1 x1 x2 h; rw [ref1_plus_l1.eq_1] at h; cases h
  | succ k1 ih1 =>
   intro l1 x1 x2 h
   rw [ref1_plus_l1.eq_2] at h
   refine zq fun K6 m6 => zq fun K7 m7 => ?_
   have j1 : ∀ (x3 : Bool), ref1_plus_j1 (ref1_plus_l1 p1 p2 k1) p1 p2 l1 x1 x2 x3 = some r → ∀ w0 w1, Sub 54 0 [] w0 w1 [(0, vl eI p1), (1, vl eI p2), (5, .one (.sl 0 1 0 l1.length)), (6, vi x1), (7, vi x2), (22, vb x3)] [.arr 1 (eI.els l1)] → K7 w0 w1 := by
    intro x3 h w0 w1 hS
    unfold ref1_plus_j1 at h
    refine m7 _ _ (XW.sub hS ?_)
    refine zC h (fun b10 h => ?_) (fun b10 h => ?_)
    ·refine zs (m6 _ _ (zq fun K11 m11 => zb 1 (zq fun K12 m12 => zr (zg [] 2 [0,1,5,7,8] (zd ?_)))))
     refine m12 _ _ (zq fun K13 m13 => ?_)
     have j2 : ∀ (x4 : Int), ref1_plus_j2 (ref1_plus_l1 p1 p2 k1) p2 l1 x2 x4 = some r → ∀ w0 w1, Sub 54 0 [] w0 w1 [(0, vl eI p1), (1, vl eI p2), (5, .one (.sl 0 1 0 l1.length)), (7, vi x2), (8, vi x4)] [.arr 1 (eI.els l1)] → K13 w0 w1 := by
      intro x4 h w0 w1 hS
      unfold ref1_plus_j2 at h
      refine m13 _ _ (XW.sub hS ?_)
      refine zq fun K17 m17 => ?_
      have j3 : ∀ (x5 : Int), ref1_plus_j3 (ref1_plus_l1 p1 p2 k1) l1 x2 x5 = some r → ∀ w0 w1, Sub 54 0 [] w0 w1 [(0, vl eI p1), (1, vl eI p2), (5, .one (.sl 0 1 0 l1.length)), (7, vi x2), (8, vi x5)] [.arr 1 (eI.els l1)] → K17 w0 w1 := by
       intro x5 h w0 w1 hS
       unfold ref1_plus_j3 at h
       refine m17 _ _ (XW.sub hS ?_)
       refine zq fun K21 m21 => ?_
       obtain ⟨g22, h⟩ := zG h
       refine zr (zp [] 5 [0,1,7,8,50] [] [(0, vl eI p1), (1, vl eI p2), (7, vi x2), (8, vi x5), (50, .one (.sl 0 1 0 (l1.length + (eI.els [(x5.tmod (10 : Int))]).length)))] [.arr 1 (eI.els l1 ++ eI.els [(x5.tmod (10 : Int))])] [(10 : Int) ≠ 0, elemsOk 1 (eI.els [(x5.tmod (10 : Int))]), l1.length = (eI.els l1).length, l1.length + (eI.els [(x5.tmod (10 : Int))]).length ≤ 4294967296] (⟨by decide, eI.ok _, (eI.len l1).symm, g22, trivial⟩) ?_)
       rw [show l1.length + (eI.els [(x5.tmod (10 : Int))]).length = (l1 ++ [(x5.tmod (10 : Int))]).length from eI.lapp _ _]
       rw [show eI.els l1 ++ eI.els [(x5.tmod (10 : Int))] = eI.els (l1 ++ [(x5.tmod (10 : Int))]) from eI.app2 _ _]
       refine zg [] 1 [0,1,5,7,8] (zd (m21 _ _ (zr (zo [] 3 [0,1,5,6,7] [] [(10 : Int) ≠ 0] (⟨by decide, trivial⟩) (zd (m11 _ _ (zr ?_)))))))
       exact zv [] 3 [0,1,5,6,7] [] [(0, vl eI p1), (1, vl eI p2), (5, .one (.sl 0 1 0 ((l1 ++ [(x5.tmod (10 : Int))]).length))), (6, vi (i64.wrap (x5.tdiv (10 : Int)))), (7, vi (i64.wrap (x2 + (1 : Int))))] [.arr 1 (eI.els (l1 ++ [(x5.tmod (10 : Int))]))] (zd (XR.sub (zk [0,1,5,6,7]) (ih1 (l1 ++ [(x5.tmod (10 : Int))]) (i64.wrap (x5.tdiv (10 : Int))) (i64.wrap (x2 + (1 : Int))) h)))
      refine zq fun K18 m18 => zr (zv [] 3 [0,1,5,7,8,36,38] [] [(0, vl eI p1), (1, vl eI p2), (5, .one (.sl 0 1 0 l1.length)), (7, vi x2), (8, vi x4), (36, vi x2), (38, vi ((eI.els p2).length : Int))] [.arr 1 (eI.els l1)] ?_)
      rw [eI.len p2]
      refine zg [] 1 [0,1,5,7,8,39] (zd (m18 _ _ (zC h (fun b19 h => ?_) (fun b19 h => ?_))))
      ·obtain ⟨e2, a20, h⟩ := zB h
       exact zr (zo [] 7 [0,1,5,7,8] [[pi e2]] [0 ≤ x2 ∧ x2 < ((eI.els p2).length : Int) ∧ elemsOk 1 (eI.els p2), (eI.els p2)[x2.toNat]? = some [pi e2]] (⟨eI.inb a20, (eI.get a20), trivial⟩) (zd (j3 (i64.wrap (x4 + e2)) h _ _ (zk [0,1,5,7,8]))))
      ·exact zs (j3 x4 h _ _ (zk [0,1,5,7,8]))
     refine zq fun K14 m14 => zr (zv [] 3 [0,1,5,7,8,26,28] [] [(0, vl eI p1), (1, vl eI p2), (5, .one (.sl 0 1 0 l1.length)), (7, vi x2), (8, vi x1), (26, vi x2), (28, vi ((eI.els p1).length : Int))] [.arr 1 (eI.els l1)] ?_)
     rw [eI.len p1]
     refine zg [] 1 [0,1,5,7,8,29] (zd (m14 _ _ (zC h (fun b15 h => ?_) (fun b15 h => ?_))))
     ·obtain ⟨e1, a16, h⟩ := zB h
      exact zr (zo [] 7 [0,1,5,7,8] [[pi e1]] [0 ≤ x2 ∧ x2 < ((eI.els p1).length : Int) ∧ elemsOk 1 (eI.els p1), (eI.els p1)[x2.toNat]? = some [pi e1]] (⟨eI.inb a16, (eI.get a16), trivial⟩) (zd (j2 (i64.wrap (x1 + e1)) h _ _ (zk [0,1,5,7,8]))))
     ·exact zs (j2 x1 h _ _ (zk [0,1,5,7,8]))
    ·exact zx 0 (hQ1 _ _ _ (j4 l1 h _ _ (zk [5])))
   rcases zW h with ⟨b8, h⟩ | ⟨b8, h⟩
   ·refine zr (zv [] 3 [0,1,5,6,7,9,11] [] [(0, vl eI p1), (1, vl eI p2), (5, .one (.sl 0 1 0 l1.length)), (6, vi x1), (7, vi x2), (9, vi x2), (11, vi ((eI.els p1).length : Int))] [.arr 1 (eI.els l1)] ?_)
    rw [eI.len p1]
    exact zg [] 2 [0,1,5,6,7,13] (zt 13 b8 (zg [] 9 [0,1,5,6,7,22] (zd (j1 true h _ _ (zk [0,1,5,6,7,22])))))
   ·rcases zW h with ⟨b9, h⟩ | ⟨b9, h⟩
    ·refine zr (zv [] 3 [0,1,5,6,7,9,11] [] [(0, vl eI p1), (1, vl eI p2), (5, .one (.sl 0 1 0 l1.length)), (6, vi x1), (7, vi x2), (9, vi x2), (11, vi ((eI.els p1).length : Int))] [.arr 1 (eI.els l1)] ?_)
     rw [eI.len p1]
     refine zg [] 2 [0,1,5,6,7,13] (zt 13 b8 (zv [] 3 [0,1,5,6,7,13,14,16] [] [(0, vl eI p1), (1, vl eI p2), (5, .one (.sl 0 1 0 l1.length)), (6, vi x1), (7, vi x2), (13, vb false), (14, vi x2), (16, vi ((eI.els p2).length : Int))] [.arr 1 (eI.els l1)] ?_))
     rw [eI.len p2]
     exact zg [] 3 [0,1,5,6,7,19] (zt 19 b9 (zg [] 3 [0,1,5,6,7,22] (zd (j1 true h _ _ (zk [0,1,5,6,7,22])))))
    ·refine zr (zv [] 3 [0,1,5,6,7,9,11] [] [(0, vl eI p1), (1, vl eI p2), (5, .one (.sl 0 1 0 l1.length)), (6, vi x1), (7, vi x2), (9, vi x2), (11, vi ((eI.els p1).length : Int))] [.arr 1 (eI.els l1)] ?_)
     rw [eI.len p1]
     refine zg [] 2 [0,1,5,6,7,13] (zt 13 b8 (zv [] 3 [0,1,5,6,7,13,14,16] [] [(0, vl eI p1), (1, vl eI p2), (5, .one (.sl 0 1 0 l1.length)), (6, vi x1), (7, vi x2), (13, vb false), (14, vi x2), (16, vi ((eI.els p2).length : Int))] [.arr 1 (eI.els l1)] ?_))
     rw [eI.len p2]
     exact zg [] 3 [0,1,5,6,7,19] (zt 19 b9 (zg [] 3 [0,1,5,6,7,22] (zd (j1 (decide ((0 : Int) < x1)) h _ _ (zk [0,1,5,6,7,22])))))
 exact XR.sub (zk [0,1,5,6,7]) (hL1 BIG [] (0 : Int) (0 : Int) h)
def ref1_most_j1 : Option Int :=
    some (0 : Int)
def ref1_most_l1 (p1 : (List Int)) (p2 : (List Int)) : Nat → Int → Option Int
  | 0, _ => none
  | k1 + 1, x1 =>
    ift (decide ((0 : Int) ≤ x1))
      (bnd (at? p1 x1) fun e1 =>
       bnd (at? p2 x1) fun e2 =>
       ift (e1 != e2)
         (some (i64.wrap (e1 - e2)))
         ((ref1_most_l1 p1 p2 k1) (i64.wrap (x1 - (1 : Int)))))
      (ref1_most_j1)
def ref1_most (p1 : (List Int)) (p2 : (List Int)) : Option Int :=
    ift ((p1.length : Int) != (p2.length : Int))
      (some (i64.wrap ((p1.length : Int) - (p2.length : Int))))
      (ref1_most_l1 p1 p2 BIG (i64.wrap ((p1.length : Int) - (1 : Int))))
abbrev qa2314 (p1 : (List Int)) (p2 : (List Int)) (x1 : Int) (e1 : Int) (e2 : Int) : Fr := [(39, vi e2), (38, .one (.pv (.rp (eI.els p2) x1.toNat 0))), (37, vi x1), (36, vl eI p2), (35, vi e1), (34, .one (.pv (.rp (eI.els p1) x1.toNat 0))), (33, vi x1), (32, vl eI p1), (0, vl eI p1), (1, vl eI p2), (5, vi x1), (31, vb (e1 != e2))]
theorem c_ref1_most (p1 : (List Int)) (p2 : (List Int)) (r : Int) (h : ref1_most p1 p2 = some r) : PC Tryz.prog 121 [vl eI p1, vl eI p2] (vi r) := by
 unfold ref1_most at h
 refine zF 41 Tryz.f121 (zq fun K1 m1 => zr (zg [] 1 [0,1] (zd (m1 _ _ (zq fun K2 m2 => zq fun K3 m3 => ?_)))))
 refine zr (zv [] 2 [0,1,7] [] [(0, vl eI p1), (1, vl eI p2), (7, vi ((eI.els p1).length : Int))] [] ?_)
 rw [eI.len p1]
 refine zv [] 2 [0,1,7,9] [] [(0, vl eI p1), (1, vl eI p2), (7, vi (p1.length : Int)), (9, vi ((eI.els p2).length : Int))] [] ?_
 rw [eI.len p2]
 refine zg [] 1 [0,1,10] (zd (m3 _ _ (zC h (fun b4 h => ?_) (fun b4 h => ?_))))
 ·refine zq fun K5 m5 => zr (zv [] 2 [1,12] [] [(1, vl eI p2), (12, vi ((eI.els p1).length : Int))] [] ?_)
  rw [eI.len p1]
  refine zv [] 2 [12,14] [] [(12, vi (p1.length : Int)), (14, vi ((eI.els p2).length : Int))] [] ?_
  rw [eI.len p2]
  refine zg [] 2 [4] (zd (m5 _ _ (ze ?_)))
  obtain rfl := zj h
  exact zf [vi (i64.wrap ((p1.length : Int) - (p2.length : Int)))] (.one (.rfl _ rfl))
 ·refine zs (m2 _ _ (zq fun K6 m6 => ?_))
  have j1 : ∀ (_ : Unit), ref1_most_j1 = some r → ∀ w0 w1, Sub 41 0 [] w0 w1 [] [] → K6 w0 w1 := by
   intro _ h w0 w1 hS
   unfold ref1_most_j1 at h
   refine m6 _ _ (XW.sub hS ?_)
   refine zq fun K17 m17 => zr (zg [] 1 [4] (zd (m17 _ _ (ze ?_))))
   obtain rfl := zj h
   exact zf [vi 0] (.one (.rfl _ rfl))
  refine zq fun K7 m7 => zr (zv [] 2 [0,1,17] [] [(0, vl eI p1), (1, vl eI p2), (17, vi ((eI.els p1).length : Int))] [] ?_)
  rw [eI.len p1]
  refine zg [] 2 [0,1,5] (zd (m7 _ _ (zb 0 (XW.rounds' BIG (x := cd Tryz.f121 [1,1,0,1,0,0]) (by kernel_rfl) fun Q1 hQ1 => ?_))))
  have hL1 : ∀ (k1 : Nat) (x1 : Int), ref1_most_l1 p1 p2 k1 x1 = some r → XR Tryz.prog 41 0 [] (cd Tryz.f121 [1,1,0,1,0,0]) Q1 k1 [(0, vl eI p1), (1, vl eI p2), (5, vi x1)] [] := by
   intro k1
   induction k1 with
   | zero => intro x1 h; rw [ref1_most_l1.eq_1] at h; cases h
   | succ k1 ih1 =>
    intro x1 h
    rw [ref1_most_l1.eq_2] at h
    refine zq fun K8 m8 => zq fun K9 m9 => zr (zg [] 2 [0,1,5,20] (zd (m9 _ _ (zC h (fun b10 h => ?_) (fun b10 h => ?_)))))
    ·refine zs (m8 _ _ (zq fun K11 m11 => zb 1 (zq fun K12 m12 => ?_)))
     obtain ⟨e1, a13, h⟩ := zB h
     obtain ⟨e2, a14, h⟩ := zB h
     refine zw 8 [(30, vi e2), (29, .one (.pv (.rp (eI.els p2) x1.toNat 0))), (28, vi x1), (27, vl eI p2), (26, vi e1), (25, .one (.pv (.rp (eI.els p1) x1.toNat 0))), (24, vi x1), (23, vl eI p1), (0, vl eI p1), (1, vl eI p2), (5, vi x1), (20, vb (decide ((0 : Int) ≤ x1)))] ?_ ?_
     ·exact zyo 8 [[pi e1], [pi e2]] [0 ≤ x1 ∧ x1 < ((eI.els p1).length : Int) ∧ elemsOk 1 (eI.els p1), (eI.els p1)[x1.toNat]? = some [pi e1], 0 ≤ x1 ∧ x1 < ((eI.els p2).length : Int) ∧ elemsOk 1 (eI.els p2), (eI.els p2)[x1.toNat]? = some [pi e2]] (⟨eI.inb a13, (eI.get a13), eI.inb a14, (eI.get a14), trivial⟩) zyd
     refine zg [] 1 [0,1,5,31] (zd (m12 _ _ (zC h (fun b15 h => ?_) (fun b15 h => ?_))))
     ·refine zq fun K16 m16 => zw 8 (qa2314 p1 p2 x1 e1 e2) ?_ ?_
      ·exact zyp 8 [[pi e1], [pi e2]] (qa2314 p1 p2 x1 e1 e2) [0 ≤ x1 ∧ x1 < ((eI.els p1).length : Int) ∧ elemsOk 1 (eI.els p1), (eI.els p1)[x1.toNat]? = some [pi e1], 0 ≤ x1 ∧ x1 < ((eI.els p2).length : Int) ∧ elemsOk 1 (eI.els p2), (eI.els p2)[x1.toNat]? = some [pi e2]] (⟨eI.inb a13, (eI.get a13), eI.inb a14, (eI.get a14), trivial⟩) zyd
      refine zv [] 2 [4] [] [(4, vi (i64.wrap (e1 - e2)))] [] (zd (m16 _ _ (ze (hQ1 _ _ _ ?_))))
      obtain rfl := zj h
      exact zf [vi (i64.wrap (e1 - e2))] (.one (.rfl _ rfl))
     ·exact zs (m11 _ _ (zr (zg [] 3 [0,1,5] (zd (XR.sub (zk [0,1,5]) (ih1 (i64.wrap (x1 - (1 : Int))) h))))))
    ·exact zx 0 (hQ1 _ _ _ (j1 () h _ _ (zk [])))
  exact XR.sub (zk [0,1,5]) (hL1 BIG (i64.wrap ((p1.length : Int) - (1 : Int))) h)
def ref1_minus_j2 (rec1 : List Int → Int → Int → Option (List Int)) (l1 : List Int) (x2 : Int) (x4 : Int) (x5 : Int) : Option (List Int) :=
    grd (l1.length + 1 ≤ 4294967296) <|
    rec1 (l1 ++ [x5]) x4 (i64.wrap (x2 + (1 : Int)))
def ref1_minus_j1 (rec1 : List Int → Int → Int → Option (List Int)) (l1 : List Int) (x2 : Int) (x3 : Int) : Option (List Int) :=
    ift (decide (x3 < (0 : Int)))
      (ref1_minus_j2 rec1 l1 x2 (1 : Int) (i64.wrap (x3 + (10 : Int))))
      (ref1_minus_j2 rec1 l1 x2 (0 : Int) x3)
def ref1_minus_j3 (l2 : List Int) : Option (List Int) :=
    bnd (ref1_cut false l2) fun r1 =>
    some r1.d
def ref1_minus_l1 (p1 : (List Int)) (p2 : (List Int)) : Nat → List Int → Int → Int → Option (List Int)
  | 0, _, _, _ => none
  | k1 + 1, l1, x1, x2 =>
    ift (decide (x2 < (p1.length : Int)))
      (bnd (at? p1 x2) fun e1 =>
       ift (decide (x2 < (p2.length : Int)))
         (bnd (at? p2 x2) fun e2 =>
          ref1_minus_j1 (ref1_minus_l1 p1 p2 k1) l1 x2 (i64.wrap ((i64.wrap (e1 - x1)) - e2)))
         (ref1_minus_j1 (ref1_minus_l1 p1 p2 k1) l1 x2 (i64.wrap (e1 - x1))))
      (ref1_minus_j3 l1)
def ref1_minus (p1 : (List Int)) (p2 : (List Int)) : Option (List Int) :=
    ref1_minus_l1 p1 p2 BIG [] (0 : Int) (0 : Int)
theorem c_ref1_minus (p1 : (List Int)) (p2 : (List Int)) (r : (List Int)) (h : ref1_minus p1 p2 = some r) : PC Tryz.prog 186 [vl eI p1, vl eI p2] (vl eI r) := by
 unfold ref1_minus at h
 refine zF 42 Tryz.f186 (zq fun K1 m1 => zr (zg [] 1 [0,1] (zd (m1 _ _ (zq fun K2 m2 => zr ?_)))))
 refine zg [] 1 [0,1,5] (zd (m2 _ _ (zq fun K3 m3 => zr (zv [] 1 [0,1,5,6] [] [(0, vl eI p1), (1, vl eI p2), (5, .one (.pv (.s (.slice none 0 0)))), (6, vi 0)] [] (zd (m3 _ _ ?_))))))
 refine zq fun K4 m4 => ?_
 have j3 : ∀ (l2 : List Int), ref1_minus_j3 l2 = some r → ∀ w0 w1, Sub 42 0 [] w0 w1 [(5, .one (.sl 0 1 0 l2.length))] [.arr 1 (eI.els l2)] → K4 w0 w1 := by
  intro l2 h w0 w1 hS
  unfold ref1_minus_j3 at h
  refine m4 _ _ (XW.sub hS ?_)
  refine zq fun K22 m22 => ?_
  obtain ⟨r1, c23, h⟩ := zB h
  refine zr (zv [] 1 [39] [] [(39, .one (.sl 0 1 0 l2.length))] [.arr 1 (eI.els l2)] (XO.sub (Sub.kill (fr' := [(39, vl eI l2)]) 0 (Nat.zero_le _) (by kernel_rfl) ⟨.one (cf_sl eI l2 rfl rfl rfl), trivial⟩) (za (c_ref1_cut _ _ _ c23) (zg [] 2 [4] (zd (m22 _ _ (ze ?_)))))))
  obtain rfl := zj h
  exact zf [vl eI r1.d] (.one (.rfl _ rfl))
 refine zq fun K5 m5 => zr (zv [] 2 [0,1,5,6,10] [] [(0, vl eI p1), (1, vl eI p2), (5, .one (.pv (.s (.slice none 0 0)))), (6, vi 0), (10, vi ((eI.els p1).length : Int))] [] ?_)
 rw [eI.len p1]
 refine zv [] 1 [0,1,5,6,10,11] [] [(0, vl eI p1), (1, vl eI p2), (5, .one (.pv (.s (.slice none 0 0)))), (6, vi 0), (10, vi (p1.length : Int)), (11, vi 0)] [] (zd (m5 _ _ (zb 0 (XW.sub (Sub.list (t := 5) (sz := 1) rfl) (XW.rounds' BIG (x := cd Tryz.f186 [1,1,1,0,1,0,0]) (by kernel_rfl) fun Q1 hQ1 => ?_)))))
 have hL1 : ∀ (k1 : Nat) (l1 : List Int) (x1 : Int) (x2 : Int), ref1_minus_l1 p1 p2 k1 l1 x1 x2 = some r → XR Tryz.prog 42 0 [] (cd Tryz.f186 [1,1,1,0,1,0,0]) Q1 k1 [(0, vl eI p1), (1, vl eI p2), (5, .one (.sl 0 1 0 l1.length)), (6, vi x1), (10, vi (p1.length : Int)), (11, vi x2)] [.arr 1 (eI.els l1)] := by
  intro k1
  induction k1 with
  | zero => intro l1 x1 x2 h; rw [ref1_minus_l1.eq_1] at h; cases h
  | succ k1 ih1 =>
   intro l1 x1 x2 h
   rw [ref1_minus_l1.eq_2] at h
   refine zq fun K6 m6 => zr (zg [] 1 [0,1,5,6,10,11,12] (zd (m6 _ _ (zq fun K7 m7 => zC h (fun b8 h => ?_) (fun b8 h => ?_)))))
   ·refine zs (m7 _ _ (zq fun K9 m9 => zb 1 (zq fun K10 m10 => zr (zg [] 2 [0,1,5,6,7,10,11] (zd ?_)))))
    refine m10 _ _ (zq fun K11 m11 => ?_)
    obtain ⟨e1, a12, h⟩ := zB h
    refine zr (zp [] 7 [0,1,5,7,8,10,11] [[pi e1]] [(0, vl eI p1), (1, vl eI p2), (5, .one (.sl 0 1 0 l1.length)), (7, vi x2), (8, vi (i64.wrap (e1 - x1))), (10, vi (p1.length : Int)), (11, vi x2)] [.arr 1 (eI.els l1)] [0 ≤ x2 ∧ x2 < ((eI.els p1).length : Int) ∧ elemsOk 1 (eI.els p1), (eI.els p1)[x2.toNat]? = some [pi e1]] (⟨eI.inb a12, (eI.get a12), trivial⟩) (zd (m11 _ _ (zq fun K13 m13 => ?_))))
    have j1 : ∀ (x3 : Int), ref1_minus_j1 (ref1_minus_l1 p1 p2 k1) l1 x2 x3 = some r → ∀ w0 w1, Sub 42 0 [] w0 w1 [(0, vl eI p1), (1, vl eI p2), (5, .one (.sl 0 1 0 l1.length)), (8, vi x3), (10, vi (p1.length : Int)), (11, vi x2)] [.arr 1 (eI.els l1)] → K13 w0 w1 := by
     intro x3 h w0 w1 hS
     unfold ref1_minus_j1 at h
     refine m13 _ _ (XW.sub hS ?_)
     refine zq fun K17 m17 => zr (zg [] 1 [0,1,5,6,8,10,11] (zd (m17 _ _ (zq fun K18 m18 => ?_))))
     have j2 : ∀ (x4 : Int) (x5 : Int), ref1_minus_j2 (ref1_minus_l1 p1 p2 k1) l1 x2 x4 x5 = some r → ∀ w0 w1, Sub 42 0 [] w0 w1 [(0, vl eI p1), (1, vl eI p2), (5, .one (.sl 0 1 0 l1.length)), (6, vi x4), (8, vi x5), (10, vi (p1.length : Int)), (11, vi x2)] [.arr 1 (eI.els l1)] → K18 w0 w1 := by
      intro x4 x5 h w0 w1 hS
      unfold ref1_minus_j2 at h
      refine m18 _ _ (XW.sub hS ?_)
      obtain ⟨g21, h⟩ := zG h
      refine zr (zp [] 4 [0,1,6,10,11,37] [] [(0, vl eI p1), (1, vl eI p2), (6, vi x4), (10, vi (p1.length : Int)), (11, vi x2), (37, .one (.sl 0 1 0 (l1.length + (eI.els [x5]).length)))] [.arr 1 (eI.els l1 ++ eI.els [x5])] [elemsOk 1 (eI.els [x5]), l1.length = (eI.els l1).length, l1.length + (eI.els [x5]).length ≤ 4294967296] (⟨eI.ok _, (eI.len l1).symm, g21, trivial⟩) ?_)
      rw [show l1.length + (eI.els [x5]).length = (l1 ++ [x5]).length from eI.lapp _ _]
      rw [show eI.els l1 ++ eI.els [x5] = eI.els (l1 ++ [x5]) from eI.app2 _ _]
      exact zg [] 1 [0,1,5,6,10,11] (zd (m9 _ _ (zr (zg [] 2 [0,1,5,6,10,11] (zd (XR.sub (zk [0,1,5,6,10,11]) (ih1 (l1 ++ [x5]) x4 (i64.wrap (x2 + (1 : Int))) h)))))))
     refine zq fun K19 m19 => zr (zg [] 2 [0,1,5,6,8,10,11,31] (zd (m19 _ _ (zC h (fun b20 h => ?_) (fun b20 h => ?_)))))
     ·exact zr (zv [] 4 [0,1,5,6,8,10,11] [] [(0, vl eI p1), (1, vl eI p2), (5, .one (.sl 0 1 0 l1.length)), (6, vi 1), (8, vi (i64.wrap (x3 + (10 : Int)))), (10, vi (p1.length : Int)), (11, vi x2)] [.arr 1 (eI.els l1)] (zd (j2 (1 : Int) (i64.wrap (x3 + (10 : Int))) h _ _ (zk [0,1,5,6,8,10,11]))))
     ·exact zs (j2 (0 : Int) x3 h _ _ (zk [0,1,5,6,8,10,11]))
    refine zq fun K14 m14 => zr (zv [] 3 [0,1,5,7,8,10,11,20,22] [] [(0, vl eI p1), (1, vl eI p2), (5, .one (.sl 0 1 0 l1.length)), (7, vi x2), (8, vi (i64.wrap (e1 - x1))), (10, vi (p1.length : Int)), (11, vi x2), (20, vi x2), (22, vi ((eI.els p2).length : Int))] [.arr 1 (eI.els l1)] ?_)
    rw [eI.len p2]
    refine zg [] 1 [0,1,5,7,8,10,11,23] (zd (m14 _ _ (zC h (fun b15 h => ?_) (fun b15 h => ?_))))
    ·obtain ⟨e2, a16, h⟩ := zB h
     exact zr (zo [] 7 [0,1,5,8,10,11] [[pi e2]] [0 ≤ x2 ∧ x2 < ((eI.els p2).length : Int) ∧ elemsOk 1 (eI.els p2), (eI.els p2)[x2.toNat]? = some [pi e2]] (⟨eI.inb a16, (eI.get a16), trivial⟩) (zd (j1 (i64.wrap ((i64.wrap (e1 - x1)) - e2)) h _ _ (zk [0,1,5,8,10,11]))))
    ·exact zs (j1 (i64.wrap (e1 - x1)) h _ _ (zk [0,1,5,8,10,11]))
   ·exact zx 0 (hQ1 _ _ _ (j3 l1 h _ _ (zk [5])))
 exact XR.sub (zk [0,1,5,6,10,11]) (hL1 BIG [] (0 : Int) (0 : Int) h)
def ref1_addWide (p1 : RWide) (p2 : RWide) : Option RWide :=
    ift (p1.below == p2.below)
      (bnd (ref1_plus p1.d p2.d) fun r1 =>
       bnd (ref1_cut p1.below r1) fun r2 =>
       some r2)
      (bnd (ref1_most p1.d p2.d) fun r3 =>
       ift (decide ((0 : Int) ≤ r3))
         (bnd (ref1_minus p1.d p2.d) fun r4 =>
          bnd (ref1_cut p1.below r4) fun r5 =>
          some r5)
         (bnd (ref1_minus p2.d p1.d) fun r6 =>
          bnd (ref1_cut p2.below r6) fun r7 =>
          some r7))
abbrev qa2332 (p1 : RWide) : List PV := [.s (.bool p1.below), .ro (eI.els p1.d)]
abbrev qa2333 (p2 : RWide) : List PV := [.s (.bool p2.below), .ro (eI.els p2.d)]
abbrev qa2342 (p1 : RWide) (p2 : RWide) (r3 : Int) (r4 : (List Int)) : Fr := [(30, vl eI r4), (29, vl eI p2.d), (28, .one (.pv (.rp [(qa2333 p2)] 0 1))), (27, vl eI p1.d), (26, .one (.pv (.rp [(qa2332 p1)] 0 1))), (25, vb p1.below), (24, vR (qa2332 p1)), (2, vR (qa2332 p1)), (3, vR (qa2333 p2)), (4, vq 0), (23, vb (decide ((0 : Int) ≤ r3)))]
theorem c_ref1_addWide (p1 : RWide) (p2 : RWide) (r : RWide) (h : ref1_addWide p1 p2 = some r) : PC Tryz.prog 165 [.ag [cb p1.below, cl eI p1.d], .ag [cb p2.below, cl eI p2.d]] (.ag [cb r.below, cl eI r.d]) := by
 unfold ref1_addWide at h
 refine zF 40 Tryz.f165 (zq fun K1 m1 => zr (zg [4] 3 [2,3,4] (zd (m1 _ _ (zq fun K2 m2 => zq fun K3 m3 => ?_)))))
 refine zr (zu [4] 5 [2,3,4,9] [(qa2332 p1), (qa2333 p2)] (zd (m3 _ _ (zC h (fun b4 h => ?_) (fun b4 h => ?_)))))
 ·refine zq fun K5 m5 => ?_
  obtain ⟨r1, c6, h⟩ := zB h
  obtain ⟨r2, c7, h⟩ := zB h
  refine zw 7 [(16, vl eI r1), (15, vl eI p2.d), (14, .one (.pv (.rp [(qa2333 p2)] 0 1))), (13, vl eI p1.d), (12, .one (.pv (.rp [(qa2332 p1)] 0 1))), (11, vb p1.below), (10, vR (qa2332 p1)), (2, vR (qa2332 p1)), (3, vR (qa2333 p2)), (4, vq 0), (9, vb (p1.below == p2.below))] ?_ ?_
  ·refine zyv 6 [(qa2332 p1), (qa2332 p1), (qa2333 p2)] [(15, vl eI p2.d), (14, .one (.pv (.rp [(qa2333 p2)] 0 1))), (13, vl eI p1.d), (12, .one (.pv (.rp [(qa2332 p1)] 0 1))), (11, vb p1.below), (10, vR (qa2332 p1)), (2, vR (qa2332 p1)), (3, vR (qa2333 p2)), (4, vq 0), (9, vb (p1.below == p2.below))] ?_
   exact zya (c_ref1_plus _ _ _ c6) zyd
  refine zl 184 [vb p1.below, vl eI r1] (.ag [cb r2.below, cl eI r2.d]) [(17, .ag [cb r2.below, cl eI r2.d]), (16, vl eI r1), (15, vl eI p2.d), (14, .one (.pv (.rp [(qa2333 p2)] 0 1))), (13, vl eI p1.d), (12, .one (.pv (.rp [(qa2332 p1)] 0 1))), (11, vb p1.below), (10, vR (qa2332 p1)), (2, vR (qa2332 p1)), (3, vR (qa2333 p2)), (4, vq 0), (9, vb (p1.below == p2.below))] (c_ref1_cut _ _ _ c7) ?_
  refine zg [4] 1 [4] (zd (m5 _ _ (ze ?_)))
  obtain rfl := zj h
  exact zf [.ag [cb r2.below, cl eI r2.d]] (.ag (.cons (.rfl _ rfl) (.cons (.rfl _ rfl) .nil)))
 ·refine zs (m2 _ _ (zq fun K8 m8 => zq fun K9 m9 => ?_))
  obtain ⟨r3, c10, h⟩ := zB h
  refine zr (zu [4] 4 [2,3,4,19,21] [(qa2332 p1), (qa2333 p2)] (zl 121 [vl eI p1.d, vl eI p2.d] (vi r3) [(22, vi r3), (2, vR (qa2332 p1)), (3, vR (qa2333 p2)), (4, vq 0), (19, vl eI p1.d), (21, vl eI p2.d)] (c_ref1_most _ _ _ c10) (zg [4] 1 [2,3,4,23] (zd (m9 _ _ (zC h (fun b11 h => ?_) (fun b11 h => ?_)))))))
  ·refine zq fun K12 m12 => ?_
   obtain ⟨r4, c13, h⟩ := zB h
   obtain ⟨r5, c14, h⟩ := zB h
   refine zw 7 (qa2342 p1 p2 r3 r4) ?_ ?_
   ·refine zyu 6 [(qa2332 p1), (qa2332 p1), (qa2333 p2)] ?_
    refine DX.cal 186 [vl eI p1.d, vl eI p2.d] (vl eI r4) (qa2342 p1 p2 r3 r4) (by kernel_rfl) (c_ref1_minus _ _ _ c13) rfl rfl (by kernel_rfl) ?_
    exact zyd
   refine za (c_ref1_cut _ _ _ c14) (zv [4] 1 [4] [] [(4, vq 0)] [.box [cb r5.below, cl eI r5.d]] (zd (m12 _ _ (ze ?_))))
   obtain rfl := zj h
   exact zf [.ag [cb r5.below, cl eI r5.d]] (.ag (.cons (.rfl _ rfl) (.cons (.rfl _ rfl) .nil)))
  ·refine zs (m8 _ _ (zq fun K15 m15 => ?_))
   obtain ⟨r6, c16, h⟩ := zB h
   obtain ⟨r7, c17, h⟩ := zB h
   refine zw 7 [(38, vl eI r6), (37, vl eI p1.d), (36, .one (.pv (.rp [(qa2332 p1)] 0 1))), (35, vl eI p2.d), (34, .one (.pv (.rp [(qa2333 p2)] 0 1))), (33, vb p2.below), (32, vR (qa2333 p2)), (2, vR (qa2332 p1)), (3, vR (qa2333 p2)), (4, vq 0), (23, vb (decide ((0 : Int) ≤ r3)))] ?_ ?_
   ·exact zyu 6 [(qa2333 p2), (qa2333 p2), (qa2332 p1)] (zya (c_ref1_minus _ _ _ c16) zyd)
   refine za (c_ref1_cut _ _ _ c17) (zg [4] 1 [4] (zd (m15 _ _ (ze ?_))))
   obtain rfl := zj h
   exact zf [.ag [cb r7.below, cl eI r7.d]] (.ag (.cons (.rfl _ rfl) (.cons (.rfl _ rfl) .nil)))
def ref1_fixed_j1 (rec1 : List Int → Bool → List Int → Int → Option (List Int)) (l1 : List Int) (x1 : Int) (l3 : List Int) (x4 : Int) : Option (List Int) :=
    bnd (at? l1 x1) fun e3 =>
    bnd (ref1_cut false l3) fun r1 =>
    rec1 (l1.set x1.toNat (u8.wrap x4)) r1.below r1.d (i64.wrap (x1 - (1 : Int)))
def ref1_fixed_l2 (rec1 : List Int → Bool → List Int → Int → Option (List Int)) (l1 : List Int) (z2 : List Int) (x1 : Int) : Nat → List Int → Int → Int → Option (List Int)
  | 0, _, _, _ => none
  | k2 + 1, l2, x2, x3 =>
    ift (decide ((0 : Int) ≤ x3))
      (bnd (at? z2 x3) fun e1 =>
       bnd (some (i64.wrap ((i64.wrap ((i64.wrap ((10 : Int) * x2)) + e1)).tdiv (256 : Int)))) fun y1 =>
       bnd (some ((i64.wrap ((i64.wrap ((10 : Int) * x2)) + e1)).tmod (256 : Int))) fun y2 =>
       bnd (at? l2 x3) fun e2 =>
       (ref1_fixed_l2 rec1 l1 z2 x1 k2) (l2.set x3.toNat y1) y2 (i64.wrap (x3 - (1 : Int))))
      (ref1_fixed_j1 rec1 l1 x1 l2 x2)
def ref1_fixed_j2 (l4 : List Int) (z3 : Bool) (z4 : List Int) : Option (List Int) :=
    some l4
def ref1_fixed_l1 : Nat → List Int → Bool → List Int → Int → Option (List Int)
  | 0, _, _, _, _ => none
  | k1 + 1, l1, z1, z2, x1 =>
    ift (decide ((0 : Int) ≤ x1))
      (grd (0 ≤ (z2.length : Int) ∧ (z2.length : Int) ≤ (z2.length : Int) ∧ (z2.length : Int) ≤ 4294967296) <|
       ref1_fixed_l2 (ref1_fixed_l1 k1) l1 z2 x1 BIG (List.replicate (z2.length : Int).toNat (0 : Int)) (0 : Int) (i64.wrap ((z2.length : Int) - (1 : Int))))
      (ref1_fixed_j2 l1 z1 z2)
def ref1_fixed (p1 : RWide) (p2 : Int) : Option (List Int) :=
    grd (0 ≤ p2 ∧ p2 ≤ p2 ∧ p2 ≤ 4294967296) <|
    ref1_fixed_l1 BIG (List.replicate p2.toNat (0 : Int)) p1.below p1.d (i64.wrap (p2 - (1 : Int)))
theorem c_ref1_fixed (p1 : RWide) (p2 : Int) (r : (List Int)) (h : ref1_fixed p1 p2 = some r) : PC Tryz.prog 164 [.ag [cb p1.below, cl eI p1.d], vi p2] (vl (eK .u8) r) := by
 unfold ref1_fixed at h
 refine zF 54 Tryz.f164 (zq fun K1 m1 => zr (zg [2] 2 [1,2] (zd (m1 _ _ (zq fun K2 m2 => ?_)))))
 obtain ⟨g4, h⟩ := zG h
 refine zr (zp [2] 2 [1,2,12] [] [(1, vi p2), (2, vq 0), (12, .one (.sl 1 1 0 p2.toNat))] [.box [cb p1.below, cl eI p1.d], .arr 1 (List.replicate p2.toNat [.s (.int .u8 (0 : Int))])] [0 ≤ p2, p2 ≤ p2, p2 ≤ 4294967296] (⟨g4.1, g4.2.1, g4.2.2, trivial⟩) ?_)
 rw [show List.replicate p2.toNat [.s (.int .u8 (0 : Int))] = (eK .u8).els (List.replicate p2.toNat (0 : Int)) from (eK .u8).rep _ (0 : Int)]
 refine zg [2] 1 [1,2,5] (zd (m2 _ _ (zq fun K5 m5 => ?_)))
 have j2 : ∀ (l4 : List Int) (z3 : Bool) (z4 : List Int), ref1_fixed_j2 l4 z3 z4 = some r → ∀ w0 w1, Sub 54 0 [] w0 w1 [(5, .one (.sl 1 1 0 l4.length))] [.box [cb z3, cl eI z4], .arr 1 ((eK .u8).els l4)] → K5 w0 w1 := by
  intro l4 z3 z4 h w0 w1 hS
  unfold ref1_fixed_j2 at h
  refine m5 _ _ (XW.sub hS ?_)
  refine zq fun K29 m29 => zr (zg [2] 2 [4] (zd (m29 _ _ (ze ?_))))
  obtain rfl := zj h
  exact zf [.one (.sl 1 1 0 l4.length)] (.one (cf_sl (eK .u8) l4 rfl rfl rfl))
 refine zq fun K6 m6 => zr (zg [2] 3 [2,5,6] (zd (m6 _ _ (zb 0 (XW.rounds' BIG (x := cd Tryz.f164 [1,1,0,1,0,0]) (by kernel_rfl) fun Q1 hQ1 => ?_)))))
 have hL1 : ∀ (k1 : Nat) (l1 : List Int) (z1 : Bool) (z2 : List Int) (x1 : Int), ref1_fixed_l1 k1 l1 z1 z2 x1 = some r → XR Tryz.prog 54 0 [] (cd Tryz.f164 [1,1,0,1,0,0]) Q1 k1 [(2, vq 0), (5, .one (.sl 1 1 0 l1.length)), (6, vi x1)] [.box [cb z1, cl eI z2], .arr 1 ((eK .u8).els l1)] := by
  intro k1
  induction k1 with
  | zero => intro l1 z1 z2 x1 h; rw [ref1_fixed_l1.eq_1] at h; cases h
  | succ k1 ih1 =>
   intro l1 z1 z2 x1 h
   rw [ref1_fixed_l1.eq_2] at h
   refine zq fun K7 m7 => zq fun K8 m8 => zr (zg [2] 2 [2,5,6,16] (zd (m8 _ _ (zC h (fun b9 h => ?_) (fun b9 h => ?_)))))
   ·refine zs (m7 _ _ (zq fun K10 m10 => zb 1 (zq fun K11 m11 => zr (zg [2] 1 [2,5,6,7] (zd ?_)))))
    refine m11 _ _ (zq fun K12 m12 => ?_)
    obtain ⟨g14, h⟩ := zG h
    refine zr (zv [2] 3 [2,5,6,7,21] [] [(2, vq 0), (5, .one (.sl 1 1 0 l1.length)), (6, vi x1), (7, vi 0), (21, vi ((eI.els z2).length : Int))] [.box [cb z1, cl eI z2], .arr 1 ((eK .u8).els l1)] ?_)
    rw [eI.len z2]
    refine zp [2] 1 [2,5,6,7,22] [] [(2, vq 0), (5, .one (.sl 1 1 0 l1.length)), (6, vi x1), (7, vi 0), (22, .one (.sl 2 1 0 ((z2.length : Int).toNat)))] [.box [cb z1, cl eI z2], .arr 1 ((eK .u8).els l1), .arr 1 (List.replicate (z2.length : Int).toNat [pi 0])] [0 ≤ (z2.length : Int), (z2.length : Int) ≤ (z2.length : Int), (z2.length : Int) ≤ 4294967296] (⟨g14.1, g14.2.1, g14.2.2, trivial⟩) ?_
    rw [show List.replicate (z2.length : Int).toNat [pi 0] = eI.els (List.replicate (z2.length : Int).toNat (0 : Int)) from eI.rep _ (0 : Int)]
    refine zg [2] 1 [2,5,6,7,8] (zd (m12 _ _ (zq fun K15 m15 => ?_)))
    have j1 : ∀ (l3 : List Int) (x4 : Int), ref1_fixed_j1 (ref1_fixed_l1 k1) l1 x1 l3 x4 = some r → ∀ w0 w1, Sub 54 0 [] w0 w1 [(2, vq 0), (5, .one (.sl 1 1 0 l1.length)), (6, vi x1), (7, vi x4), (8, .one (.sl 2 1 0 l3.length))] [.box [cb z1, cl eI z2], .arr 1 ((eK .u8).els l1), .arr 1 (eI.els l3)] → K15 w0 w1 := by
     intro l3 x4 h w0 w1 hS
     unfold ref1_fixed_j1 at h
     refine m15 _ _ (XW.sub hS ?_)
     refine zq fun K26 m26 => ?_
     obtain ⟨e3, a27, h⟩ := zB h
     refine zr (zp [2] 6 [2,5,6,8] [[.s (.int .u8 e3)]] [(2, vq 0), (5, .one (.sl 1 1 0 l1.length)), (6, vi x1), (8, .one (.sl 2 1 0 l3.length))] [.box [cb z1, cl eI z2], .arr 1 (((eK .u8).els l1).set (0 + x1.toNat) [.s (.int .u8 (u8.wrap x4))]), .arr 1 (eI.els l3)] [0 ≤ x1 ∧ x1 < ((l1.length : Nat) : Int), ((eK .u8).els l1)[(0 + x1.toNat)]? = some [.s (.int .u8 e3)]] (⟨Enc.inb' a27, ((eK .u8).get0 a27), trivial⟩) ?_)
     rw [show ((eK .u8).els l1).set (0 + x1.toNat) [.s (.int .u8 (u8.wrap x4))] = (eK .u8).els (l1.set x1.toNat (u8.wrap x4)) from (eK .u8).set0 _ _ (u8.wrap x4)]
     refine zd (m26 _ _ ?_)
     obtain ⟨r1, c28, h⟩ := zB h
     refine zr (zv [2] 1 [2,5,6,51] [] [(2, vq 0), (5, .one (.sl 1 1 0 l1.length)), (6, vi x1), (51, .one (.sl 2 1 0 l3.length))] [.box [cb z1, cl eI z2], .arr 1 ((eK .u8).els (l1.set x1.toNat (u8.wrap x4))), .arr 1 (eI.els l3)] (XO.sub (Sub.kill (fr' := [(2, vq 0), (5, .one (.sl 1 1 0 l1.length)), (6, vi x1), (51, vl eI l3)]) 2 (Nat.zero_le _) (by kernel_rfl) ⟨.one (.rfl _ rfl), .one (.rfl _ rfl), .one (.rfl _ rfl), .one (cf_sl eI l3 rfl rfl rfl), trivial⟩) (za (c_ref1_cut _ _ _ c28) (zg [2] 1 [2,5,6] (zd (m10 _ _ (zr ?_)))))))
     refine zv [2] 3 [2,5,6] [] [(2, vq 0), (5, .one (.sl 1 1 0 l1.length)), (6, vi (i64.wrap (x1 - (1 : Int))))] [.box [cb r1.below, cl eI r1.d], .arr 1 ((eK .u8).els (l1.set x1.toNat (u8.wrap x4))), .dead] (zd ?_)
     exact XR.sub (Sub.trans (Sub.trans (Sub.pick (fr' := [(2, vq 0), (5, .one (.sl 1 1 0 l1.length)), (6, vi (i64.wrap (x1 - (1 : Int))))]) [2,5,6] (by kernel_rfl)) (Sub.take (fr' := [(2, vq 0), (5, .one (.sl 1 1 0 l1.length)), (6, vi (i64.wrap (x1 - (1 : Int))))]) 2 (Nat.zero_le _) (by kernel_rfl) (by kernel_rfl))) (Sub.frame (fr' := [(2, vq 0), (5, .one (.sl 1 1 0 (l1.set x1.toNat (u8.wrap x4)).length)), (6, vi (i64.wrap (x1 - (1 : Int))))]) ⟨.rfl _, ALe.of_eq (show (.one (.sl 1 1 0 l1.length) : AV) = .one (.sl 1 1 0 (l1.set x1.toNat (u8.wrap x4)).length) from by simp), .rfl _, trivial⟩)) (ih1 (l1.set x1.toNat (u8.wrap x4)) r1.below r1.d (i64.wrap (x1 - (1 : Int))) h)
    refine zq fun K16 m16 => zr (zv [2] 3 [2,5,6,7,8,25] [] [(2, vq 0), (5, .one (.sl 1 1 0 l1.length)), (6, vi x1), (7, vi 0), (8, .one (.sl 2 1 0 ((z2.length : Int).toNat))), (25, vi ((eI.els z2).length : Int))] [.box [cb z1, cl eI z2], .arr 1 ((eK .u8).els l1), .arr 1 (eI.els (List.replicate (z2.length : Int).toNat (0 : Int)))] ?_)
    rw [eI.len z2]
    refine zg [2] 2 [2,5,6,7,8,9] (zd (m16 _ _ (zb 2 (XW.rounds' BIG (x := cd Tryz.f164 [1,1,0,1,0,0,1,0,0,1,1,0,1,0,0]) (by kernel_rfl) fun Q2 hQ2 => ?_))))
    have hL2 : ∀ (k2 : Nat) (l2 : List Int) (x2 : Int) (x3 : Int), ref1_fixed_l2 (ref1_fixed_l1 k1) l1 z2 x1 k2 l2 x2 x3 = some r → XR Tryz.prog 54 0 [] (cd Tryz.f164 [1,1,0,1,0,0,1,0,0,1,1,0,1,0,0]) Q2 k2 [(2, vq 0), (5, .one (.sl 1 1 0 l1.length)), (6, vi x1), (7, vi x2), (8, .one (.sl 2 1 0 l2.length)), (9, vi x3)] [.box [cb z1, cl eI z2], .arr 1 ((eK .u8).els l1), .arr 1 (eI.els l2)] := by
     intro k2
     induction k2 with
     | zero => intro l2 x2 x3 h; rw [ref1_fixed_l2.eq_1] at h; cases h
     | succ k2 ih2 =>
      intro l2 x2 x3 h
      rw [ref1_fixed_l2.eq_2] at h
      refine zq fun K17 m17 => zq fun K18 m18 => zr (zg [2] 2 [2,5,6,7,8,9,28] (zd (m18 _ _ (zC h (fun b19 h => ?_) (fun b19 h => ?_)))))
      ·refine zs (m17 _ _ (zq fun K20 m20 => zb 3 (zq fun K21 m21 => ?_)))
       obtain ⟨e1, a22, h⟩ := zB h
       refine zr (zo [2] 9 [2,5,6,8,9,10] [[pi e1]] [0 ≤ x3 ∧ x3 < ((eI.els z2).length : Int) ∧ elemsOk 1 (eI.els z2), (eI.els z2)[x3.toNat]? = some [pi e1]] (⟨eI.inb a22, (eI.get a22), trivial⟩) (zd (m21 _ _ ?_)))
       obtain ⟨y1, hy23, h⟩ := zB h
       obtain ⟨y2, hy24, h⟩ := zB h
       obtain ⟨e2, a25, h⟩ := zB h
       refine zr (zp [2] 4 [2,5,6,8,9,10,39,40,42] [] [(2, vq 0), (5, .one (.sl 1 1 0 l1.length)), (6, vi x1), (8, .one (.sl 2 1 0 l2.length)), (9, vi x3), (10, vi (i64.wrap ((i64.wrap ((10 : Int) * x2)) + e1))), (39, .one (.sl 2 1 0 l2.length)), (40, vi x3), (42, vi (i64.wrap ((i64.wrap ((i64.wrap ((10 : Int) * x2)) + e1)).tdiv (256 : Int))))] [.box [cb z1, cl eI z2], .arr 1 ((eK .u8).els l1), .arr 1 (eI.els l2)] [(256 : Int) ≠ 0] (⟨by decide, trivial⟩) ?_)
       rw [show (i64.wrap ((i64.wrap ((i64.wrap ((10 : Int) * x2)) + e1)).tdiv (256 : Int))) = y1 from zj hy23]
       refine zp [2] 2 [2,5,6,8,9,39,40,42,44] [] [(2, vq 0), (5, .one (.sl 1 1 0 l1.length)), (6, vi x1), (8, .one (.sl 2 1 0 l2.length)), (9, vi x3), (39, .one (.sl 2 1 0 l2.length)), (40, vi x3), (42, vi y1), (44, vi ((i64.wrap ((i64.wrap ((10 : Int) * x2)) + e1)).tmod (256 : Int)))] [.box [cb z1, cl eI z2], .arr 1 ((eK .u8).els l1), .arr 1 (eI.els l2)] [(256 : Int) ≠ 0] (⟨by decide, trivial⟩) ?_
       rw [show ((i64.wrap ((i64.wrap ((10 : Int) * x2)) + e1)).tmod (256 : Int)) = y2 from zj hy24]
       refine zp [2] 2 [2,5,6,8,9,44] [[pi e2]] [(2, vq 0), (5, .one (.sl 1 1 0 l1.length)), (6, vi x1), (8, .one (.sl 2 1 0 l2.length)), (9, vi x3), (44, vi y2)] [.box [cb z1, cl eI z2], .arr 1 ((eK .u8).els l1), .arr 1 ((eI.els l2).set (0 + x3.toNat) [pi y1])] [0 ≤ x3 ∧ x3 < ((l2.length : Nat) : Int), (eI.els l2)[(0 + x3.toNat)]? = some [pi e2]] (⟨Enc.inb' a25, (eI.get0 a25), trivial⟩) ?_
       rw [show (eI.els l2).set (0 + x3.toNat) [pi y1] = eI.els (l2.set x3.toNat y1) from eI.set0 _ _ y1]
       refine zg [2] 1 [2,5,6,7,8,9] (zd (m20 _ _ (zr (zg [2] 3 [2,5,6,7,8,9] (zd ?_)))))
       exact XR.sub (Sub.trans (Sub.pick (fr' := [(2, vq 0), (5, .one (.sl 1 1 0 l1.length)), (6, vi x1), (7, vi y2), (8, .one (.sl 2 1 0 l2.length)), (9, vi (i64.wrap (x3 - (1 : Int))))]) [2,5,6,7,8,9] (by kernel_rfl)) (Sub.frame (fr' := [(2, vq 0), (5, .one (.sl 1 1 0 l1.length)), (6, vi x1), (7, vi y2), (8, .one (.sl 2 1 0 (l2.set x3.toNat y1).length)), (9, vi (i64.wrap (x3 - (1 : Int))))]) ⟨.rfl _, .rfl _, .rfl _, .rfl _, ALe.of_eq (show (.one (.sl 2 1 0 l2.length) : AV) = .one (.sl 2 1 0 (l2.set x3.toNat y1).length) from by simp), .rfl _, trivial⟩)) (ih2 (l2.set x3.toNat y1) y2 (i64.wrap (x3 - (1 : Int))) h)
      ·exact zx 2 (hQ2 _ _ _ (j1 l2 x2 h _ _ (zk [2,5,6,7,8])))
    exact XR.sub (Sub.trans (Sub.pick (fr' := [(2, vq 0), (5, .one (.sl 1 1 0 l1.length)), (6, vi x1), (7, vi 0), (8, .one (.sl 2 1 0 ((z2.length : Int).toNat))), (9, vi (i64.wrap ((z2.length : Int) - (1 : Int))))]) [2,5,6,7,8,9] (by kernel_rfl)) (Sub.frame (fr' := [(2, vq 0), (5, .one (.sl 1 1 0 l1.length)), (6, vi x1), (7, vi 0), (8, .one (.sl 2 1 0 (List.replicate (z2.length : Int).toNat (0 : Int)).length)), (9, vi (i64.wrap ((z2.length : Int) - (1 : Int))))]) ⟨.rfl _, .rfl _, .rfl _, .rfl _, ALe.of_eq (show (.one (.sl 2 1 0 ((z2.length : Int).toNat)) : AV) = .one (.sl 2 1 0 (List.replicate (z2.length : Int).toNat (0 : Int)).length) from by simp), .rfl _, trivial⟩)) (hL2 BIG (List.replicate (z2.length : Int).toNat (0 : Int)) (0 : Int) (i64.wrap ((z2.length : Int) - (1 : Int))) h)
   ·exact zx 0 (hQ1 _ _ _ (j2 l1 z1 z2 h _ _ (zk [5])))
 exact XR.sub (Sub.trans (Sub.pick (fr' := [(2, vq 0), (5, .one (.sl 1 1 0 p2.toNat)), (6, vi (i64.wrap (p2 - (1 : Int))))]) [2,5,6] (by kernel_rfl)) (Sub.frame (fr' := [(2, vq 0), (5, .one (.sl 1 1 0 (List.replicate p2.toNat (0 : Int)).length)), (6, vi (i64.wrap (p2 - (1 : Int))))]) ⟨.rfl _, ALe.of_eq (show (.one (.sl 1 1 0 p2.toNat) : AV) = .one (.sl 1 1 0 (List.replicate p2.toNat (0 : Int)).length) from by simp), .rfl _, trivial⟩)) (hL1 BIG (List.replicate p2.toNat (0 : Int)) p1.below p1.d (i64.wrap (p2 - (1 : Int))) h)
def ref1_tens (p1 : RWide) (p2 : Int) : Option RWide :=
    ift ((p1.d.length : Int) == (0 : Int))
      (some p1)
      (grd (0 ≤ p2 ∧ p2 ≤ p2 ∧ p2 ≤ 4294967296) <|
       grd ((List.replicate p2.toNat (0 : Int)).length + p1.d.length ≤ 4294967296) <|
       some (RWide.mk p1.below ((List.replicate p2.toNat (0 : Int)) ++ p1.d)))
abbrev qa2365 (p1 : RWide) : List PV := [.s (.bool p1.below), .ro (eI.els p1.d)]
theorem c_ref1_tens (p1 : RWide) (p2 : Int) (r : RWide) (h : ref1_tens p1 p2 = some r) : PC Tryz.prog 122 [.ag [cb p1.below, cl eI p1.d], vi p2] (.ag [cb r.below, cl eI r.d]) := by
 unfold ref1_tens at h
 refine zF 18 Tryz.f122 (zq fun K1 m1 => zr (zg [4] 2 [1,2,4] (zd (m1 _ _ (zq fun K2 m2 => zq fun K3 m3 => ?_)))))
 refine zr (zv [4] 3 [1,2,4,7] [[.s (.bool p1.below), .ro (eI.els p1.d)]] [(1, vi p2), (2, vR [.s (.bool p1.below), .ro (eI.els p1.d)]), (4, vq 0), (7, vi ((eI.els p1.d).length : Int))] [.box [cb false, .pv (.s (.slice none 0 0))]] ?_)
 rw [eI.len p1.d]
 refine zg [4] 1 [1,2,4,8] (zd (m3 _ _ (zC h (fun b4 h => ?_) (fun b4 h => ?_))))
 ·refine zq fun K5 m5 => zr (zu [4] 2 [4] [(qa2365 p1)] (zd (m5 _ _ (ze ?_))))
  obtain rfl := zj h
  exact zf [.ag [cb p1.below, cl eI p1.d]] (.ag (.cons (.rfl _ rfl) (.cons (.rfl _ rfl) .nil)))
 ·refine zs (m2 _ _ (zq fun K6 m6 => ?_))
  obtain ⟨g8, h⟩ := zG h
  obtain ⟨g9, h⟩ := zG h
  refine XW.sub (Sub.dead 1) ?_
  refine XW.drwG 7 [1, 2] [([], []), ([], []), ([], []), ([1], [1]), ([], []), ([], []), ([1], [1])] [(16, .one (.sl 1 1 0 (((List.replicate p2.toNat (0 : Int)) ++ p1.d).length))), (15, vl eI p1.d), (14, .one (.pv (.rp [(qa2365 p1)] 0 1))), (13, .j), (12, vi p2), (11, vb p1.below), (10, vR (qa2365 p1)), (1, vi p2), (2, vR (qa2365 p1)), (4, vq 0), (8, vb ((p1.d.length : Int) == (0 : Int)))] [.box [cb false, .pv (.s (.slice none 0 0))], .arr 1 (eI.els ((List.replicate p2.toNat (0 : Int)) ++ p1.d))] (by kernel_rfl) (by kernel_rfl) ?_ ?_
  ·refine zgv 3 [(qa2365 p1)] [(12, vi p2), (11, vb p1.below), (10, vR (qa2365 p1)), (1, vi p2), (2, vR (qa2365 p1)), (4, vq 0), (8, vb ((p1.d.length : Int) == (0 : Int)))] ?_
   refine GY.new false 1 [] [(13, .one (.sl 1 1 0 p2.toNat)), (12, vi p2), (11, vb p1.below), (10, vR [.s (.bool p1.below), .ro (eI.els p1.d)]), (1, vi p2), (2, vR [.s (.bool p1.below), .ro (eI.els p1.d)]), (4, vq 0), (8, vb ((p1.d.length : Int) == (0 : Int)))] [1] [.box [cb false, .pv (.s (.slice none 0 0))], .arr 1 (List.replicate p2.toNat [pi 0])] [0 ≤ p2, p2 ≤ p2, p2 ≤ 4294967296] (by kernel_rfl) (by kernel_rfl) (⟨g8.1, g8.2.1, g8.2.2, trivial⟩) ?_
   rw [show List.replicate p2.toNat [pi 0] = eI.els (List.replicate p2.toNat (0 : Int)) from eI.rep _ (0 : Int)]
   refine zgv 2 [(qa2365 p1)] [(15, vl eI p1.d), (14, .one (.pv (.rp [(qa2365 p1)] 0 1))), (13, .one (.sl 1 1 0 p2.toNat)), (12, vi p2), (11, vb p1.below), (10, vR (qa2365 p1)), (1, vi p2), (2, vR (qa2365 p1)), (4, vq 0), (8, vb ((p1.d.length : Int) == (0 : Int)))] ?_
   refine GY.wr [] [(16, .one (.sl 1 1 0 (p2.toNat + (eI.els p1.d).length))), (15, vl eI p1.d), (14, .one (.pv (.rp [[.s (.bool p1.below), .ro (eI.els p1.d)]] 0 1))), (13, .j), (12, vi p2), (11, vb p1.below), (10, vR [.s (.bool p1.below), .ro (eI.els p1.d)]), (1, vi p2), (2, vR [.s (.bool p1.below), .ro (eI.els p1.d)]), (4, vq 0), (8, vb ((p1.d.length : Int) == (0 : Int)))] [1] [.box [cb false, .pv (.s (.slice none 0 0))], .arr 1 (eI.els (List.replicate p2.toNat (0 : Int)) ++ eI.els p1.d)] [elemsOk 1 (eI.els p1.d), p2.toNat = (eI.els (List.replicate p2.toNat (0 : Int))).length, p2.toNat + (eI.els p1.d).length ≤ 4294967296] (by kernel_rfl) (by kernel_rfl) (⟨eI.ok _, (by simp [Enc.len]), (by simp [Enc.len] at * <;> omega), trivial⟩) ?_
   rw [show p2.toNat + (eI.els p1.d).length = ((List.replicate p2.toNat (0 : Int)) ++ p1.d).length from (by simp [Enc.len] <;> omega)]
   rw [show eI.els (List.replicate p2.toNat (0 : Int)) ++ eI.els p1.d = eI.els ((List.replicate p2.toNat (0 : Int)) ++ p1.d) from eI.app2 _ _]
   exact GY.done (by kernel_rfl) (by kernel_rfl)
  refine zv [4] 2 [4] [] [(4, vq 0)] [.box [cb p1.below, .sl 1 1 0 (((List.replicate p2.toNat (0 : Int)) ++ p1.d).length)], .arr 1 (eI.els ((List.replicate p2.toNat (0 : Int)) ++ p1.d))] (zd (m6 _ _ (ze ?_)))
  obtain rfl := zj h
  exact zf [.ag [cb p1.below, .sl 1 1 0 (((List.replicate p2.toNat (0 : Int)) ++ p1.d).length)]] (.ag (.cons (.rfl _ rfl) (.cons (cf_sl eI ((List.replicate p2.toNat (0 : Int)) ++ p1.d) rfl rfl rfl) .nil)))
def ref1_twelve (p1 : GValue) : Option RWide :=
    bnd (ref1_wideOf p1.n) fun r1 =>
    bnd (ref1_tens r1 (i64.wrap ((12 : Int) - p1.scale))) fun r2 =>
    some r2
abbrev qa2376 (p1 : GValue) : List PV := [pi p1.kind, pi p1.n, pi p1.scale, .s (.string p1.s), .ro (eValue.els p1.items)]
theorem c_ref1_twelve (p1 : GValue) (r : RWide) (h : ref1_twelve p1 = some r) : PC Tryz.prog 75 [.ag [ci p1.kind, ci p1.n, ci p1.scale, cst p1.s, cl eValue p1.items]] (.ag [cb r.below, cl eI r.d]) := by
 unfold ref1_twelve at h
 refine zF 10 Tryz.f75 (zq fun K1 m1 => zr (zg [2] 2 [1,2] (zd (m1 _ _ (zq fun K2 m2 => ?_)))))
 obtain ⟨r1, c3, h⟩ := zB h
 obtain ⟨r2, c4, h⟩ := zB h
 refine zw 6 [(8, vi (i64.wrap ((12 : Int) - p1.scale))), (7, vi p1.scale), (6, .one (.pv (.rp [(qa2376 p1)] 0 2))), (5, .ag [cb r1.below, cl eI r1.d]), (4, vi p1.n), (3, .one (.pv (.rp [(qa2376 p1)] 0 1))), (1, vR (qa2376 p1)), (2, vq 0)] ?_ ?_
 ·refine zyu 2 [(qa2376 p1)] (DX.cal 123 [vi p1.n] (.ag [cb r1.below, cl eI r1.d]) [(5, .ag [cb r1.below, cl eI r1.d]), (4, vi p1.n), (3, .one (.pv (.rp [(qa2376 p1)] 0 1))), (1, vR (qa2376 p1)), (2, vq 0)] (by kernel_rfl) (c_ref1_wideOf _ _ c3) rfl rfl (by kernel_rfl) ?_)
  exact zyu 3 [(qa2376 p1)] zyd
 refine za (c_ref1_tens _ _ _ c4) (zv [2] 1 [2] [] [(2, vq 0)] [.box [cb r2.below, cl eI r2.d]] (zd (m2 _ _ (ze ?_))))
 obtain rfl := zj h
 exact zf [.ag [cb r2.below, cl eI r2.d]] (.ag (.cons (.rfl _ rfl) (.cons (.rfl _ rfl) .nil)))
def ref1_key_j3 (l3 : List Int) : Option (List Int) :=
    some l3
def ref1_key_j2 (l2 : List Int) : Option (List Int) :=
    grd (l2.length + 1 ≤ 4294967296) <|
    ref1_key_j3 (l2 ++ [(0 : Int)])
def ref1_key_l1 (q_ref1_key : GValue → Option (List Int)) (p1 : GValue) : Nat → List Int → Int → Option (List Int)
  | 0, _, _ => none
  | k1 + 1, l1, x2 =>
    ift (decide (x2 < (p1.items.length : Int)))
      (grd (l1.length + 1 ≤ 4294967296) <|
       bnd (at? p1.items x2) fun e1 =>
       bnd (q_ref1_key e1) fun r9 =>
       grd ((l1 ++ [(1 : Int)]).length + r9.length ≤ 4294967296) <|
       (ref1_key_l1 q_ref1_key p1 k1) ((l1 ++ [(1 : Int)]) ++ r9) (i64.wrap (x2 + (1 : Int))))
      (ref1_key_j2 l1)
def ref1_key_j1 (q_ref1_key : GValue → Option (List Int)) (p1 : GValue) (x1 : Bool) : Option (List Int) :=
    ift x1
      (bnd (ref1_wideOf p1.n) fun r1 =>
       bnd (ref1_half (8 : Int)) fun r2 =>
       bnd (ref1_addWide r1 r2) fun r3 =>
       bnd (ref1_fixed r3 (8 : Int)) fun r4 =>
       grd ([(u8.wrap p1.kind)].length + r4.length ≤ 4294967296) <|
       ref1_key_j3 ([(u8.wrap p1.kind)] ++ r4))
      (ift (p1.kind == (3 : Int))
         (bnd (ref1_twelve p1) fun r5 =>
          bnd (ref1_half (16 : Int)) fun r6 =>
          bnd (ref1_addWide r5 r6) fun r7 =>
          bnd (ref1_fixed r7 (16 : Int)) fun r8 =>
          grd ([(u8.wrap p1.kind)].length + r8.length ≤ 4294967296) <|
          grd (([(u8.wrap p1.kind)] ++ r8).length + 1 ≤ 4294967296) <|
          ref1_key_j3 (([(u8.wrap p1.kind)] ++ r8) ++ [(u8.wrap p1.scale)]))
         (ift (p1.kind == (4 : Int))
            (grd ([(u8.wrap p1.kind)].length + (bytesL p1.s).length ≤ 4294967296) <|
             grd (([(u8.wrap p1.kind)] ++ (bytesL p1.s)).length + 1 ≤ 4294967296) <|
             ref1_key_j3 (([(u8.wrap p1.kind)] ++ (bytesL p1.s)) ++ [(0 : Int)]))
            (ref1_key_l1 q_ref1_key p1 BIG [(u8.wrap p1.kind)] (0 : Int))))
def ref1_key : Nat → GValue → Option (List Int)
  | 0, _ => none
  | k0 + 1, p1 =>
    ift (p1.kind == (0 : Int))
      (some [(8 : Int)])
      (ift (p1.kind == (1 : Int))
         (grd ([(u8.wrap p1.kind)].length + 1 ≤ 4294967296) <|
          ref1_key_j3 ([(u8.wrap p1.kind)] ++ [(u8.wrap p1.n)]))
         (ift (p1.kind == (2 : Int))
            (ref1_key_j1 (ref1_key k0) p1 (p1.kind == (2 : Int)))
            (ref1_key_j1 (ref1_key k0) p1 (p1.kind == (5 : Int)))))
abbrev qa2383 (p1 : GValue) : List CV := [ci p1.kind, ci p1.n, ci p1.scale, cst p1.s, cl eValue p1.items]
abbrev qa2384 (p1 : GValue) : List PV := [pi p1.kind, pi p1.n, pi p1.scale, .s (.string p1.s), .ro (eValue.els p1.items)]
abbrev qa2388 (p1 : GValue) : St := [.arr 1 ((eK .u8).els [(u8.wrap p1.kind)])]
theorem c_ref1_key : ∀ (k0 : Nat) (p1 : GValue) (r : (List Int)), ref1_key k0 p1 = some r → PC Tryz.prog 125 [.ag (qa2383 p1)] (vl (eK .u8) r)
 | 0, _, r, h => by rw [ref1_key.eq_1] at h; cases h
 | k0 + 1, p1, r, h => by
  rw [ref1_key.eq_2] at h
  refine zF 80 Tryz.f125 (zq fun K1 m1 => zr (zg [12] 2 [1] (zd (m1 _ _ (zq fun K2 m2 => zq fun K3 m3 => ?_)))))
  refine zr (zu [12] 3 [1,7] [(qa2384 p1)] (zd (m3 _ _ (zC h (fun b4 h => ?_) (fun b4 h => ?_)))))
  ·refine zq fun K5 m5 => zr (zv [12] 2 [2] [] [(2, vl (eK .u8) [(8 : Int)])] [] (zd (m5 _ _ (ze ?_))))
   obtain rfl := zj h
   exact zf [vl (eK .u8) [(8 : Int)]] (.one (.rfl _ rfl))
  ·refine zs (m2 _ _ (zq fun K6 m6 => zr (zu [12] 5 [1,3] [(qa2384 p1)] (zd (m6 _ _ (zq fun K7 m7 => ?_))))))
   have j3 : ∀ (l3 : List Int), ref1_key_j3 l3 = some r → ∀ w0 w1, Sub 80 0 [] w0 w1 [(3, .one (.sl 0 1 0 l3.length))] [.arr 1 ((eK .u8).els l3)] → K7 w0 w1 := by
    intro l3 h w0 w1 hS
    unfold ref1_key_j3 at h
    refine m7 _ _ (XW.sub hS ?_)
    refine zq fun K48 m48 => zr (zg [12] 2 [2] (zd (m48 _ _ (ze ?_))))
    obtain rfl := zj h
    exact zf [.one (.sl 0 1 0 l3.length)] (.one (cf_sl (eK .u8) l3 rfl rfl rfl))
   refine zq fun K8 m8 => zr (zu [12] 2 [1,3,14] [(qa2384 p1)] (zd (m8 _ _ (zb 0 (zq fun K9 m9 => zr ?_)))))
   refine zv [12] 2 [1,3,14,36] [] [(1, vR (qa2384 p1)), (3, .one (.sl 0 1 0 1)), (14, vi p1.kind), (36, vb (p1.kind == (1 : Int)))] (qa2388 p1) (zd (m9 _ _ (zC h (fun b10 h => ?_) (fun b10 h => ?_))))
   ·obtain ⟨g11, h⟩ := zG h
    refine zr ?_
    refine zp [12] 6 [43] [[pi p1.kind, pi p1.n, pi p1.scale, .s (.string p1.s), .ro (eValue.els p1.items)]] [(43, .one (.sl 0 1 0 (1 + ((eK .u8).els [(u8.wrap p1.n)]).length)))] [.arr 1 ((eK .u8).els [(u8.wrap p1.kind)] ++ (eK .u8).els [(u8.wrap p1.n)])] [([[pi p1.kind, pi p1.n, pi p1.scale, .s (.string p1.s), .ro (eValue.els p1.items)]] : List (List PV))[0]? = some [pi p1.kind, pi p1.n, pi p1.scale, .s (.string p1.s), .ro (eValue.els p1.items)], elemsOk 1 ((eK .u8).els [(u8.wrap p1.n)]), 1 = ((eK .u8).els [(u8.wrap p1.kind)]).length, 1 + ((eK .u8).els [(u8.wrap p1.n)]).length ≤ 4294967296] (⟨rfl, (eK .u8).ok _, (by simp [Enc.len]), (by simp [Enc.len] at * <;> omega), trivial⟩) ?_
    rw [show 1 + ((eK .u8).els [(u8.wrap p1.n)]).length = ([(u8.wrap p1.kind)] ++ [(u8.wrap p1.n)]).length from (by simp [Enc.len] <;> omega)]
    rw [show (eK .u8).els [(u8.wrap p1.kind)] ++ (eK .u8).els [(u8.wrap p1.n)] = (eK .u8).els ([(u8.wrap p1.kind)] ++ [(u8.wrap p1.n)]) from (eK .u8).app2 _ _]
    exact zg [12] 1 [3] (zd (j3 ([(u8.wrap p1.kind)] ++ [(u8.wrap p1.n)]) h _ _ (zk [3])))
   ·refine zq fun K12 m12 => ?_
    have j1 : ∀ (x1 : Bool), ref1_key_j1 (ref1_key k0) p1 x1 = some r → ∀ w0 w1, Sub 80 0 [] w0 w1 [(1, vR (qa2384 p1)), (3, .one (.sl 0 1 0 1)), (14, vi p1.kind), (44, vb x1)] (qa2388 p1) → K12 w0 w1 := by
     intro x1 h w0 w1 hS
     unfold ref1_key_j1 at h
     refine m12 _ _ (XW.sub hS ?_)
     refine zC h (fun b15 h => ?_) (fun b15 h => ?_)
     ·obtain ⟨r1, c16, h⟩ := zB h
      obtain ⟨r2, c17, h⟩ := zB h
      obtain ⟨r3, c18, h⟩ := zB h
      obtain ⟨r4, c19, h⟩ := zB h
      obtain ⟨g20, h⟩ := zG h
      refine zr (zu [12] 3 [47,49] [(qa2384 p1)] (za (c_ref1_wideOf _ _ c16) (zl 166 [vi 8] (.ag [cb r2.below, cl eI r2.d]) [(51, .ag [cb r2.below, cl eI r2.d]), (50, .ag [cb r1.below, cl eI r1.d]), (47, .one (.sl 0 1 0 1)), (49, vi p1.n)] (c_ref1_half _ _ c17) (za (c_ref1_addWide _ _ _ c18) (za (c_ref1_fixed _ _ _ c19) ?_)))))
      refine zp [12] 1 [54] [] [(54, .one (.sl 0 1 0 (1 + ((eK .u8).els r4).length)))] [.arr 1 ((eK .u8).els [(u8.wrap p1.kind)] ++ (eK .u8).els r4)] [elemsOk 1 ((eK .u8).els r4), 1 = ((eK .u8).els [(u8.wrap p1.kind)]).length, 1 + ((eK .u8).els r4).length ≤ 4294967296] (⟨(eK .u8).ok _, (by simp [Enc.len]), (by simp [Enc.len] at * <;> omega), trivial⟩) ?_
      rw [show 1 + ((eK .u8).els r4).length = ([(u8.wrap p1.kind)] ++ r4).length from (by simp [Enc.len] <;> omega)]
      rw [show (eK .u8).els [(u8.wrap p1.kind)] ++ (eK .u8).els r4 = (eK .u8).els ([(u8.wrap p1.kind)] ++ r4) from (eK .u8).app2 _ _]
      exact zg [12] 1 [3] (zd (j3 ([(u8.wrap p1.kind)] ++ r4) h _ _ (zk [3])))
     ·refine zq fun K21 m21 => zr (zg [12] 2 [1,3,14,55] (zd (m21 _ _ (zC h (fun b22 h => ?_) (fun b22 h => ?_)))))
      ·refine zq fun K23 m23 => ?_
       obtain ⟨r5, c24, h⟩ := zB h
       obtain ⟨r6, c25, h⟩ := zB h
       obtain ⟨r7, c26, h⟩ := zB h
       obtain ⟨r8, c27, h⟩ := zB h
       obtain ⟨g28, h⟩ := zG h
       refine zr (zv [12] 2 [1,57,58] [(qa2384 p1)] [(1, vR (qa2384 p1)), (57, .one (.sl 0 1 0 1)), (58, .ag (qa2383 p1))] (qa2388 p1) (za (c_ref1_twelve _ _ c24) (za (c_ref1_half _ _ c25) ?_)))
       refine zl 165 [.ag [cb r5.below, cl eI r5.d], .ag [cb r6.below, cl eI r6.d]] (.ag [cb r7.below, cl eI r7.d]) [(61, .ag [cb r7.below, cl eI r7.d]), (60, .ag [cb r6.below, cl eI r6.d]), (59, .ag [cb r5.below, cl eI r5.d]), (1, vR (qa2384 p1)), (57, .one (.sl 0 1 0 1)), (58, .ag (qa2383 p1))] (c_ref1_addWide _ _ _ c26) (za (c_ref1_fixed _ _ _ c27) ?_)
       refine zp [12] 1 [1,63] [] [(1, vR [pi p1.kind, pi p1.n, pi p1.scale, .s (.string p1.s), .ro (eValue.els p1.items)]), (63, .one (.sl 0 1 0 (1 + ((eK .u8).els r8).length)))] [.arr 1 ((eK .u8).els [(u8.wrap p1.kind)] ++ (eK .u8).els r8)] [elemsOk 1 ((eK .u8).els r8), 1 = ((eK .u8).els [(u8.wrap p1.kind)]).length, 1 + ((eK .u8).els r8).length ≤ 4294967296] (⟨(eK .u8).ok _, (by simp [Enc.len]), (by simp [Enc.len] at * <;> omega), trivial⟩) ?_
       rw [show 1 + ((eK .u8).els r8).length = ([(u8.wrap p1.kind)] ++ r8).length from (by simp [Enc.len] <;> omega)]
       rw [show (eK .u8).els [(u8.wrap p1.kind)] ++ (eK .u8).els r8 = (eK .u8).els ([(u8.wrap p1.kind)] ++ r8) from (eK .u8).app2 _ _]
       refine zg [12] 1 [1,3] (zd (m23 _ _ ?_))
       obtain ⟨g29, h⟩ := zG h
       refine zr ?_
       refine zp [12] 6 [69] [[pi p1.kind, pi p1.n, pi p1.scale, .s (.string p1.s), .ro (eValue.els p1.items)]] [(69, .one (.sl 0 1 0 (([(u8.wrap p1.kind)] ++ r8).length + ((eK .u8).els [(u8.wrap p1.scale)]).length)))] [.arr 1 ((eK .u8).els ([(u8.wrap p1.kind)] ++ r8) ++ (eK .u8).els [(u8.wrap p1.scale)])] [([[pi p1.kind, pi p1.n, pi p1.scale, .s (.string p1.s), .ro (eValue.els p1.items)]] : List (List PV))[0]? = some [pi p1.kind, pi p1.n, pi p1.scale, .s (.string p1.s), .ro (eValue.els p1.items)], elemsOk 1 ((eK .u8).els [(u8.wrap p1.scale)]), ([(u8.wrap p1.kind)] ++ r8).length = ((eK .u8).els ([(u8.wrap p1.kind)] ++ r8)).length, ([(u8.wrap p1.kind)] ++ r8).length + ((eK .u8).els [(u8.wrap p1.scale)]).length ≤ 4294967296] (⟨rfl, (eK .u8).ok _, ((eK .u8).len ([(u8.wrap p1.kind)] ++ r8)).symm, g29, trivial⟩) ?_
       rw [show ([(u8.wrap p1.kind)] ++ r8).length + ((eK .u8).els [(u8.wrap p1.scale)]).length = (([(u8.wrap p1.kind)] ++ r8) ++ [(u8.wrap p1.scale)]).length from (eK .u8).lapp _ _]
       rw [show (eK .u8).els ([(u8.wrap p1.kind)] ++ r8) ++ (eK .u8).els [(u8.wrap p1.scale)] = (eK .u8).els (([(u8.wrap p1.kind)] ++ r8) ++ [(u8.wrap p1.scale)]) from (eK .u8).app2 _ _]
       exact zg [12] 1 [3] (zd (j3 (([(u8.wrap p1.kind)] ++ r8) ++ [(u8.wrap p1.scale)]) h _ _ (zk [3])))
      ·refine zq fun K30 m30 => zr (zg [12] 2 [1,3,70] (zd (m30 _ _ (zC h (fun b31 h => ?_) (fun b31 h => ?_)))))
       ·refine zq fun K32 m32 => ?_
        obtain ⟨g33, h⟩ := zG h
        refine zr ?_
        refine zp [12] 4 [75] [[pi p1.kind, pi p1.n, pi p1.scale, .s (.string p1.s), .ro (eValue.els p1.items)]] [(75, .one (.sl 0 1 0 (1 + (byteEls p1.s).length)))] [.arr 1 ((eK .u8).els [(u8.wrap p1.kind)] ++ byteEls p1.s)] [([[pi p1.kind, pi p1.n, pi p1.scale, .s (.string p1.s), .ro (eValue.els p1.items)]] : List (List PV))[0]? = some [pi p1.kind, pi p1.n, pi p1.scale, .s (.string p1.s), .ro (eValue.els p1.items)], elemsOk 1 (byteEls p1.s), 1 = ((eK .u8).els [(u8.wrap p1.kind)]).length, 1 + (byteEls p1.s).length ≤ 4294967296] (⟨rfl, byteEls_ok _, (by simp [Enc.len]), (by simp [Enc.len, byteEls_len] at * <;> omega), trivial⟩) ?_
        rw [show 1 + (byteEls p1.s).length = ([(u8.wrap p1.kind)] ++ (bytesL p1.s)).length from (by simp [byteEls_len] <;> omega)]
        rw [show (eK .u8).els [(u8.wrap p1.kind)] ++ byteEls p1.s = (eK .u8).els ([(u8.wrap p1.kind)] ++ (bytesL p1.s)) from byteEls_app _ _]
        refine zg [12] 1 [3] (zd (m32 _ _ ?_))
        obtain ⟨g34, h⟩ := zG h
        refine zr ?_
        refine zp [12] 3 [78] [] [(78, .one (.sl 0 1 0 (([(u8.wrap p1.kind)] ++ (bytesL p1.s)).length + ((eK .u8).els [(0 : Int)]).length)))] [.arr 1 ((eK .u8).els ([(u8.wrap p1.kind)] ++ (bytesL p1.s)) ++ (eK .u8).els [(0 : Int)])] [elemsOk 1 ((eK .u8).els [(0 : Int)]), ([(u8.wrap p1.kind)] ++ (bytesL p1.s)).length = ((eK .u8).els ([(u8.wrap p1.kind)] ++ (bytesL p1.s))).length, ([(u8.wrap p1.kind)] ++ (bytesL p1.s)).length + ((eK .u8).els [(0 : Int)]).length ≤ 4294967296] (⟨(eK .u8).ok _, ((eK .u8).len ([(u8.wrap p1.kind)] ++ (bytesL p1.s))).symm, g34, trivial⟩) ?_
        rw [show ([(u8.wrap p1.kind)] ++ (bytesL p1.s)).length + ((eK .u8).els [(0 : Int)]).length = (([(u8.wrap p1.kind)] ++ (bytesL p1.s)) ++ [(0 : Int)]).length from (eK .u8).lapp _ _]
        rw [show (eK .u8).els ([(u8.wrap p1.kind)] ++ (bytesL p1.s)) ++ (eK .u8).els [(0 : Int)] = (eK .u8).els (([(u8.wrap p1.kind)] ++ (bytesL p1.s)) ++ [(0 : Int)]) from (eK .u8).app2 _ _]
        exact zg [12] 1 [3] (zd (j3 (([(u8.wrap p1.kind)] ++ (bytesL p1.s)) ++ [(0 : Int)]) h _ _ (zk [3])))
       ·refine zq fun K35 m35 => ?_
        have j2 : ∀ (l2 : List Int), ref1_key_j2 l2 = some r → ∀ w0 w1, Sub 80 0 [] w0 w1 [(3, .one (.sl 0 1 0 l2.length))] [.arr 1 ((eK .u8).els l2)] → K35 w0 w1 := by
         intro l2 h w0 w1 hS
         unfold ref1_key_j2 at h
         refine m35 _ _ (XW.sub hS ?_)
         obtain ⟨g47, h⟩ := zG h
         refine zr (zp [12] 3 [35] [] [(35, .one (.sl 0 1 0 (l2.length + ((eK .u8).els [(0 : Int)]).length)))] [.arr 1 ((eK .u8).els l2 ++ (eK .u8).els [(0 : Int)])] [elemsOk 1 ((eK .u8).els [(0 : Int)]), l2.length = ((eK .u8).els l2).length, l2.length + ((eK .u8).els [(0 : Int)]).length ≤ 4294967296] (⟨(eK .u8).ok _, ((eK .u8).len l2).symm, g47, trivial⟩) ?_)
         rw [show l2.length + ((eK .u8).els [(0 : Int)]).length = (l2 ++ [(0 : Int)]).length from (eK .u8).lapp _ _]
         rw [show (eK .u8).els l2 ++ (eK .u8).els [(0 : Int)] = (eK .u8).els (l2 ++ [(0 : Int)]) from (eK .u8).app2 _ _]
         exact zg [12] 1 [3] (zd (j3 (l2 ++ [(0 : Int)]) h _ _ (zk [3])))
        refine zq fun K36 m36 => zr (zv [12] 3 [1,3,17] [[pi p1.kind, pi p1.n, pi p1.scale, .s (.string p1.s), .ro (eValue.els p1.items)]] [(1, vR [pi p1.kind, pi p1.n, pi p1.scale, .s (.string p1.s), .ro (eValue.els p1.items)]), (3, .one (.sl 0 1 0 1)), (17, vi ((eValue.els p1.items).length : Int))] [.arr 1 ((eK .u8).els [(u8.wrap p1.kind)])] ?_)
        rw [eValue.len p1.items]
        refine zg [12] 1 [1,3,17,18] (zd (m36 _ _ (zb 1 (XW.rounds' BIG (x := cd Tryz.f125 [1,1,1,0,1,0,1,1,1,1,1,1,1,1,0,1,0,0]) (by kernel_rfl) fun Q1 hQ1 => ?_))))
        have hL1 : ∀ (k1 : Nat) (l1 : List Int) (x2 : Int), ref1_key_l1 (ref1_key k0) p1 k1 l1 x2 = some r → XR Tryz.prog 80 0 [] (cd Tryz.f125 [1,1,1,0,1,0,1,1,1,1,1,1,1,1,0,1,0,0]) Q1 k1 [(1, vR (qa2384 p1)), (3, .one (.sl 0 1 0 l1.length)), (17, vi (p1.items.length : Int)), (18, vi x2)] [.arr 1 ((eK .u8).els l1)] := by
         intro k1
         induction k1 with
         | zero => intro l1 x2 h; rw [ref1_key_l1.eq_1] at h; cases h
         | succ k1 ih1 =>
          intro l1 x2 h
          rw [ref1_key_l1.eq_2] at h
          refine zq fun K37 m37 => zr (zg [12] 1 [1,3,17,18,19] (zd (m37 _ _ (zq fun K38 m38 => zC h (fun b39 h => ?_) (fun b39 h => ?_)))))
          ·refine zs (m38 _ _ (zq fun K40 m40 => zb 2 (zq fun K41 m41 => zr (zg [12] 2 [1,3,4,17,18] (zd ?_)))))
           refine m41 _ _ (zq fun K42 m42 => ?_)
           obtain ⟨g43, h⟩ := zG h
           refine zr (zp [12] 3 [1,4,17,18,23] [] [(1, vR [pi p1.kind, pi p1.n, pi p1.scale, .s (.string p1.s), .ro (eValue.els p1.items)]), (4, vi x2), (17, vi (p1.items.length : Int)), (18, vi x2), (23, .one (.sl 0 1 0 (l1.length + ((eK .u8).els [(1 : Int)]).length)))] [.arr 1 ((eK .u8).els l1 ++ (eK .u8).els [(1 : Int)])] [elemsOk 1 ((eK .u8).els [(1 : Int)]), l1.length = ((eK .u8).els l1).length, l1.length + ((eK .u8).els [(1 : Int)]).length ≤ 4294967296] (⟨(eK .u8).ok _, ((eK .u8).len l1).symm, g43, trivial⟩) ?_)
           rw [show l1.length + ((eK .u8).els [(1 : Int)]).length = (l1 ++ [(1 : Int)]).length from (eK .u8).lapp _ _]
           rw [show (eK .u8).els l1 ++ (eK .u8).els [(1 : Int)] = (eK .u8).els (l1 ++ [(1 : Int)]) from (eK .u8).app2 _ _]
           refine zg [12] 1 [1,3,4,17,18] (zd (m42 _ _ ?_))
           obtain ⟨e1, a44, h⟩ := zB h
           obtain ⟨r9, c45, h⟩ := zB h
           obtain ⟨g46, h⟩ := zG h
           refine zr ?_
           refine zo [12] 6 [1,17,18,24,29] [(qa2384 p1), [pi e1.kind, pi e1.n, pi e1.scale, .s (.string e1.s), .ro (eValue.els e1.items)]] [([(qa2384 p1)] : List (List PV))[0]? = some (qa2384 p1), 0 ≤ x2 ∧ x2 < ((eValue.els p1.items).length : Int) ∧ elemsOk 5 (eValue.els p1.items), (eValue.els p1.items)[x2.toNat]? = some [pi e1.kind, pi e1.n, pi e1.scale, .s (.string e1.s), .ro (eValue.els e1.items)]] (⟨rfl, eValue.inb a44, ((eValue.get a44).trans (by cases e1; rfl)), trivial⟩) ?_
           refine zl 125 [.ag [ci e1.kind, ci e1.n, ci e1.scale, cst e1.s, cl eValue e1.items]] (vl (eK .u8) r9) [(30, vl (eK .u8) r9), (1, vR (qa2384 p1)), (17, vi (p1.items.length : Int)), (18, vi x2), (24, .one (.sl 0 1 0 ((l1 ++ [(1 : Int)]).length))), (29, .ag [ci e1.kind, ci e1.n, ci e1.scale, cst e1.s, cl eValue e1.items])] (c_ref1_key k0 _ _ c45) ?_
           refine zp [12] 1 [1,17,18,31] [] [(1, vR [pi p1.kind, pi p1.n, pi p1.scale, .s (.string p1.s), .ro (eValue.els p1.items)]), (17, vi (p1.items.length : Int)), (18, vi x2), (31, .one (.sl 0 1 0 ((l1 ++ [(1 : Int)]).length + ((eK .u8).els r9).length)))] [.arr 1 ((eK .u8).els (l1 ++ [(1 : Int)]) ++ (eK .u8).els r9)] [elemsOk 1 ((eK .u8).els r9), (l1 ++ [(1 : Int)]).length = ((eK .u8).els (l1 ++ [(1 : Int)])).length, (l1 ++ [(1 : Int)]).length + ((eK .u8).els r9).length ≤ 4294967296] (⟨(eK .u8).ok _, ((eK .u8).len (l1 ++ [(1 : Int)])).symm, (by rw [(eK .u8).len]; exact g46), trivial⟩) ?_
           rw [show (l1 ++ [(1 : Int)]).length + ((eK .u8).els r9).length = ((l1 ++ [(1 : Int)]) ++ r9).length from (eK .u8).lapp _ _]
           rw [show (eK .u8).els (l1 ++ [(1 : Int)]) ++ (eK .u8).els r9 = (eK .u8).els ((l1 ++ [(1 : Int)]) ++ r9) from (eK .u8).app2 _ _]
           exact zg [12] 1 [1,3,17,18] (zd (m40 _ _ (zr (zg [12] 2 [1,3,17,18] (zd (XR.sub (zk [1,3,17,18]) (ih1 ((l1 ++ [(1 : Int)]) ++ r9) (i64.wrap (x2 + (1 : Int))) h)))))))
          ·exact zx 1 (hQ1 _ _ _ (j2 l1 h _ _ (zk [3])))
        exact XR.sub (zk [1,3,17,18]) (hL1 BIG [(u8.wrap p1.kind)] (0 : Int) h)
    refine zq fun K13 m13 => zr (zg [12] 2 [1,3,14,44] (zd (m13 _ _ (zC h (fun b14 h => ?_) (fun b14 h => ?_)))))
    ·exact zs (j1 (p1.kind == (2 : Int)) h _ _ (zk [1,3,14,44]))
    ·exact zr (zv [12] 2 [1,3,14,44] [] [(1, vR (qa2384 p1)), (3, .one (.sl 0 1 0 1)), (14, vi p1.kind), (44, vb (p1.kind == (5 : Int)))] (qa2388 p1) (zd (j1 (p1.kind == (5 : Int)) h _ _ (zk [1,3,14,44]))))
def ref1_Key_j1 (l2 : List Int) : Option (List Int) :=
    some l2
def ref1_Key_l1 (p1 : (List GValue)) : Nat → List Int → Int → Option (List Int)
  | 0, _, _ => none
  | k1 + 1, l1, x1 =>
    ift (decide (x1 < (p1.length : Int)))
      (bnd (at? p1 x1) fun e1 =>
       bnd (ref1_Sound e1) fun r1 =>
       ift (!r1)
         (some [])
         (bnd (ref1_key BIG e1) fun r2 =>
          grd (l1.length + r2.length ≤ 4294967296) <|
          (ref1_Key_l1 p1 k1) (l1 ++ r2) (i64.wrap (x1 + (1 : Int)))))
      (ref1_Key_j1 l1)
def ref1_Key (p1 : (List GValue)) : Option (List Int) :=
    ref1_Key_l1 p1 BIG [] (0 : Int)
abbrev qa2411 (e1 : GValue) : List PV := [pi e1.kind, pi e1.n, pi e1.scale, .s (.string e1.s), .ro (eValue.els e1.items)]
theorem c_ref1_Key (p1 : (List GValue)) (r : (List Int)) (h : ref1_Key p1 = some r) : PC Tryz.prog 78 [vl eValue p1] (vl (eK .u8) r) := by
 unfold ref1_Key at h
 refine zF 25 Tryz.f78 (zq fun K1 m1 => zr (zg [] 1 [0] (zd (m1 _ _ (zq fun K2 m2 => zr ?_)))))
 refine zg [] 1 [0,3] (zd (m2 _ _ (zq fun K3 m3 => ?_)))
 have j1 : ∀ (l2 : List Int), ref1_Key_j1 l2 = some r → ∀ w0 w1, Sub 25 0 [] w0 w1 [(3, .one (.sl 0 1 0 l2.length))] [.arr 1 ((eK .u8).els l2)] → K3 w0 w1 := by
  intro l2 h w0 w1 hS
  unfold ref1_Key_j1 at h
  refine m3 _ _ (XW.sub hS ?_)
  refine zq fun K18 m18 => zr (zg [] 2 [2] (zd (m18 _ _ (ze ?_))))
  obtain rfl := zj h
  exact zf [.one (.sl 0 1 0 l2.length)] (.one (cf_sl (eK .u8) l2 rfl rfl rfl))
 refine zq fun K4 m4 => zr (zv [] 2 [0,3,6] [] [(0, vl eValue p1), (3, .one (.pv (.s (.slice none 0 0)))), (6, vi ((eValue.els p1).length : Int))] [] ?_)
 rw [eValue.len p1]
 refine zv [] 1 [0,3,6,7] [] [(0, vl eValue p1), (3, .one (.pv (.s (.slice none 0 0)))), (6, vi (p1.length : Int)), (7, vi 0)] [] (zd (m4 _ _ (zb 0 (XW.sub (Sub.list (t := 3) (sz := 1) rfl) (XW.rounds' BIG (x := cd Tryz.f78 [1,1,0,1,0,0]) (by kernel_rfl) fun Q1 hQ1 => ?_)))))
 have hL1 : ∀ (k1 : Nat) (l1 : List Int) (x1 : Int), ref1_Key_l1 p1 k1 l1 x1 = some r → XR Tryz.prog 25 0 [] (cd Tryz.f78 [1,1,0,1,0,0]) Q1 k1 [(0, vl eValue p1), (3, .one (.sl 0 1 0 l1.length)), (6, vi (p1.length : Int)), (7, vi x1)] [.arr 1 ((eK .u8).els l1)] := by
  intro k1
  induction k1 with
  | zero => intro l1 x1 h; rw [ref1_Key_l1.eq_1] at h; cases h
  | succ k1 ih1 =>
   intro l1 x1 h
   rw [ref1_Key_l1.eq_2] at h
   refine zq fun K5 m5 => zr (zg [] 1 [0,3,6,7,8] (zd (m5 _ _ (zq fun K6 m6 => zC h (fun b7 h => ?_) (fun b7 h => ?_)))))
   ·refine zs (m6 _ _ (zq fun K8 m8 => zb 1 (zq fun K9 m9 => zr (zg [] 2 [0,3,4,6,7] (zd ?_)))))
    refine m9 _ _ (zq fun K10 m10 => zq fun K11 m11 => ?_)
    obtain ⟨e1, a12, h⟩ := zB h
    obtain ⟨r1, c13, h⟩ := zB h
    refine zr (zp [] 4 [0,3,4,6,7,13] [(qa2411 e1)] [(0, vl eValue p1), (3, .one (.sl 0 1 0 l1.length)), (4, vi x1), (6, vi (p1.length : Int)), (7, vi x1), (13, .ag [ci e1.kind, ci e1.n, ci e1.scale, cst e1.s, cl eValue e1.items])] [.arr 1 ((eK .u8).els l1)] [0 ≤ x1 ∧ x1 < ((eValue.els p1).length : Int) ∧ elemsOk 5 (eValue.els p1), (eValue.els p1)[x1.toNat]? = some (qa2411 e1)] (⟨eValue.inb a12, ((eValue.get a12).trans (by cases e1; rfl)), trivial⟩) ?_)
    refine za (c_ref1_Sound _ _ c13) (zg [] 1 [0,3,4,6,7,15] (zd (m11 _ _ (zC h (fun b14 h => ?_) (fun b14 h => ?_)))))
    ·refine zq fun K15 m15 => zr (zv [] 1 [2] [] [(2, .one (.pv (.s (.slice none 0 0))))] [.arr 1 ((eK .u8).els l1)] (zd (m15 _ _ (ze (hQ1 _ _ _ ?_)))))
     obtain rfl := zj h
     exact zf [.one (.pv (.s (.slice none 0 0)))] (.one (.nl))
    ·refine zs (m10 _ _ ?_)
     obtain ⟨r2, c16, h⟩ := zB h
     obtain ⟨g17, h⟩ := zG h
     refine zr (zo [] 5 [0,6,7,16,20] [(qa2411 e1)] [0 ≤ x1 ∧ x1 < ((eValue.els p1).length : Int) ∧ elemsOk 5 (eValue.els p1), (eValue.els p1)[x1.toNat]? = some (qa2411 e1)] (⟨eValue.inb a12, ((eValue.get a12).trans (by cases e1; rfl)), trivial⟩) (za (c_ref1_key BIG _ _ c16) ?_))
     refine zp [] 1 [0,6,7,22] [] [(0, vl eValue p1), (6, vi (p1.length : Int)), (7, vi x1), (22, .one (.sl 0 1 0 (l1.length + ((eK .u8).els r2).length)))] [.arr 1 ((eK .u8).els l1 ++ (eK .u8).els r2)] [elemsOk 1 ((eK .u8).els r2), l1.length = ((eK .u8).els l1).length, l1.length + ((eK .u8).els r2).length ≤ 4294967296] (⟨(eK .u8).ok _, ((eK .u8).len l1).symm, (by rw [(eK .u8).len]; exact g17), trivial⟩) ?_
     rw [show l1.length + ((eK .u8).els r2).length = (l1 ++ r2).length from (eK .u8).lapp _ _]
     rw [show (eK .u8).els l1 ++ (eK .u8).els r2 = (eK .u8).els (l1 ++ r2) from (eK .u8).app2 _ _]
     exact zg [] 1 [0,3,6,7] (zd (m8 _ _ (zr (zg [] 2 [0,3,6,7] (zd (XR.sub (zk [0,3,6,7]) (ih1 (l1 ++ r2) (i64.wrap (x1 + (1 : Int))) h)))))))
   ·exact zx 0 (hQ1 _ _ _ (j1 l1 h _ _ (zk [3])))
 exact XR.sub (zk [0,3,6,7]) (hL1 BIG [] (0 : Int) h)
def ref1_Fnv_j1 (x3 : Int) : Option Int :=
    some x3
def ref1_Fnv_l1 (p1 : (List Int)) : Nat → Int → Int → Option Int
  | 0, _, _ => none
  | k1 + 1, x1, x2 =>
    ift (decide (x2 < (p1.length : Int)))
      (bnd (at? p1 x2) fun e1 =>
       bnd (some (u64.wrap (BitVec.ofInt u64.bits x1 ^^^ BitVec.ofInt u64.bits (u64.wrap e1)).toNat)) fun y1 =>
       (ref1_Fnv_l1 p1 k1) (u64.wrap (y1 * (1099511628211 : Int))) (i64.wrap (x2 + (1 : Int))))
      (ref1_Fnv_j1 x1)
def ref1_Fnv (p1 : (List Int)) : Option Int :=
    ref1_Fnv_l1 p1 BIG (14695981039346656037 : Int) (0 : Int)
theorem c_ref1_Fnv (p1 : (List Int)) (r : Int) (h : ref1_Fnv p1 = some r) : PC Tryz.prog 77 [vl (eK .u8) p1] (vk .u64 r) := by
 unfold ref1_Fnv at h
 refine zF 19 Tryz.f77 (zq fun K1 m1 => zr (zg [] 1 [0] (zd (m1 _ _ (zq fun K2 m2 => zr ?_)))))
 refine zg [] 1 [0,3] (zd (m2 _ _ (zq fun K3 m3 => ?_)))
 have j1 : ∀ (x3 : Int), ref1_Fnv_j1 x3 = some r → ∀ w0 w1, Sub 19 0 [] w0 w1 [(3, vk .u64 x3)] [] → K3 w0 w1 := by
  intro x3 h w0 w1 hS
  unfold ref1_Fnv_j1 at h
  refine m3 _ _ (XW.sub hS ?_)
  refine zq fun K12 m12 => zr (zg [] 2 [2] (zd (m12 _ _ (ze ?_))))
  obtain rfl := zj h
  exact zf [vk .u64 x3] (.one (.rfl _ rfl))
 refine zq fun K4 m4 => zr (zv [] 2 [3,6,7] [] [(3, vk .u64 14695981039346656037), (6, vl (eK .u8) p1), (7, vi (((eK .u8).els p1).length : Int))] [] ?_)
 rw [(eK .u8).len p1]
 refine zg [] 1 [3,6,7,8] (zd (m4 _ _ (zb 0 (XW.rounds' BIG (x := cd Tryz.f77 [1,1,0,1,0,0]) (by kernel_rfl) fun Q1 hQ1 => ?_))))
 have hL1 : ∀ (k1 : Nat) (x1 : Int) (x2 : Int), ref1_Fnv_l1 p1 k1 x1 x2 = some r → XR Tryz.prog 19 0 [] (cd Tryz.f77 [1,1,0,1,0,0]) Q1 k1 [(3, vk .u64 x1), (6, vl (eK .u8) p1), (7, vi (p1.length : Int)), (8, vi x2)] [] := by
  intro k1
  induction k1 with
  | zero => intro x1 x2 h; rw [ref1_Fnv_l1.eq_1] at h; cases h
  | succ k1 ih1 =>
   intro x1 x2 h
   rw [ref1_Fnv_l1.eq_2] at h
   refine zq fun K5 m5 => zr (zg [] 1 [3,6,7,8,9] (zd (m5 _ _ (zq fun K6 m6 => zC h (fun b7 h => ?_) (fun b7 h => ?_)))))
   ·refine zs (m6 _ _ (zq fun K8 m8 => zb 1 (zq fun K9 m9 => ?_)))
    obtain ⟨e1, a10, h⟩ := zB h
    refine zr (zo [] 3 [3,5,6,7,8] [[.s (.int .u8 e1)]] [0 ≤ x2 ∧ x2 < (((eK .u8).els p1).length : Int) ∧ elemsOk 1 ((eK .u8).els p1), ((eK .u8).els p1)[x2.toNat]? = some [.s (.int .u8 e1)]] (⟨(eK .u8).inb a10, ((eK .u8).get a10), trivial⟩) (zd (m9 _ _ ?_)))
    obtain ⟨y1, hy11, h⟩ := zB h
    refine zr (zv [] 4 [6,7,8,15] [] [(6, vl (eK .u8) p1), (7, vi (p1.length : Int)), (8, vi x2), (15, vk .u64 (u64.wrap (BitVec.ofInt u64.bits x1 ^^^ BitVec.ofInt u64.bits (u64.wrap e1)).toNat))] [] ?_)
    rw [show (u64.wrap (BitVec.ofInt u64.bits x1 ^^^ BitVec.ofInt u64.bits (u64.wrap e1)).toNat) = y1 from zj hy11]
    exact zg [] 2 [3,6,7,8] (zd (m8 _ _ (zr (zg [] 2 [3,6,7,8] (zd (XR.sub (zk [3,6,7,8]) (ih1 (u64.wrap (y1 * (1099511628211 : Int))) (i64.wrap (x2 + (1 : Int))) h)))))))
   ·exact zx 0 (hQ1 _ _ _ (j1 x1 h _ _ (zk [3])))
 exact XR.sub (zk [3,6,7,8]) (hL1 BIG (14695981039346656037 : Int) (0 : Int) h)
def ref1_Hash (p1 : GValue) : Option Int :=
    bnd (ref1_Key [p1]) fun r1 =>
    bnd (ref1_Fnv r1) fun r2 =>
    some r2
theorem c_ref1_Hash (p1 : GValue) (r : Int) (h : ref1_Hash p1 = some r) : PC Tryz.prog 38 [.ag [ci p1.kind, ci p1.n, ci p1.scale, cst p1.s, cl eValue p1.items]] (vk .u64 r) := by
 unfold ref1_Hash at h
 refine zF 7 Tryz.f38 (zq fun K1 m1 => zr (zg [] 2 [1] (zd (m1 _ _ (zq fun K2 m2 => ?_)))))
 obtain ⟨r1, c3, h⟩ := zB h
 obtain ⟨r2, c4, h⟩ := zB h
 refine zr (zv [] 2 [4] [[pi p1.kind, pi p1.n, pi p1.scale, .s (.string p1.s), .ro (eValue.els p1.items)]] [(4, .one (.pv (.ro [[pi p1.kind, pi p1.n, pi p1.scale, .s (.string p1.s), .ro (eValue.els p1.items)]])))] [] ?_)
 rw [show ([[pi p1.kind, pi p1.n, pi p1.scale, .s (.string p1.s), .ro (eValue.els p1.items)]] : List (List PV)) = eValue.els [p1] from by cases p1; rfl]
 refine za (c_ref1_Key _ _ c3) (za (c_ref1_Fnv _ _ c4) (zv [] 1 [2] [] [(2, vk .u64 r2)] [] (zd (m2 _ _ (ze ?_)))))
 obtain rfl := zj h
 exact zf [vk .u64 r2] (.one (.rfl _ rfl))
def ref3_down_j1 (x1 : Int) : Option Int :=
    some x1
def ref3_down (p1 : Int) (p2 : Int) : Option Int :=
    grd (p2 ≠ 0) <|
    bnd (some (decide (p1 < (i64.wrap ((i64.wrap (p1.tdiv p2)) * p2))))) fun y1 =>
    ift y1
      (ref3_down_j1 (i64.wrap ((i64.wrap (p1.tdiv p2)) - (1 : Int))))
      (ref3_down_j1 (i64.wrap (p1.tdiv p2)))
theorem c_ref3_down (p1 : Int) (p2 : Int) (r : Int) (h : ref3_down p1 p2 = some r) : PC Tryz.prog 39 [vi p1, vi p2] (vi r) := by
 unfold ref3_down at h
 refine zF 17 Tryz.f39 (zq fun K1 m1 => zr (zg [] 1 [0,1] (zd (m1 _ _ (zq fun K2 m2 => ?_)))))
 obtain ⟨g3, h⟩ := zG h
 refine zr (zo [] 4 [0,1,5] [] [p2 ≠ 0] (⟨g3, trivial⟩) (zd (m2 _ _ (zq fun K4 m4 => ?_))))
 have j1 : ∀ (x1 : Int), ref3_down_j1 x1 = some r → ∀ w0 w1, Sub 17 0 [] w0 w1 [(5, vi x1)] [] → K4 w0 w1 := by
  intro x1 h w0 w1 hS
  unfold ref3_down_j1 at h
  refine m4 _ _ (XW.sub hS ?_)
  refine zq fun K8 m8 => zr (zg [] 2 [4] (zd (m8 _ _ (ze ?_))))
  obtain rfl := zj h
  exact zf [vi x1] (.one (.rfl _ rfl))
 refine zq fun K5 m5 => ?_
 obtain ⟨y1, hy6, h⟩ := zB h
 refine zr (zv [] 5 [5,13] [] [(5, vi (i64.wrap (p1.tdiv p2))), (13, vb (decide (p1 < (i64.wrap ((i64.wrap (p1.tdiv p2)) * p2)))))] [] ?_)
 rw [show (decide (p1 < (i64.wrap ((i64.wrap (p1.tdiv p2)) * p2)))) = y1 from zj hy6]
 refine zd (m5 _ _ (zC h (fun b7 h => ?_) (fun b7 h => ?_)))
 ·exact zr (zg [] 3 [5] (zd (j1 (i64.wrap ((i64.wrap (p1.tdiv p2)) - (1 : Int))) h _ _ (zk [5]))))
 ·exact zs (j1 (i64.wrap (p1.tdiv p2)) h _ _ (zk [5]))
def ref1_zoneOf_j1 : Option (GZone × Bool) :=
    some ((GZone.mk ByteArray.empty (0 : Int) (0 : Int) (GTurn.mk (0 : Int) (0 : Int) (0 : Int) (0 : Int)) (GTurn.mk (0 : Int) (0 : Int) (0 : Int) (0 : Int))), false)
def ref1_zoneOf_l1 (p1 : ByteArray) (r1 : (List GZone)) : Nat → Int → Option (GZone × Bool)
  | 0, _ => none
  | k1 + 1, x1 =>
    ift (decide (x1 < (r1.length : Int)))
      (bnd (at? r1 x1) fun e1 =>
       ift (e1.name.toList == p1.toList)
         (some (e1, true))
         ((ref1_zoneOf_l1 p1 r1 k1) (i64.wrap (x1 + (1 : Int)))))
      (ref1_zoneOf_j1)
def ref1_zoneOf (p1 : ByteArray) : Option (GZone × Bool) :=
    bnd (api_Zones) fun r1 =>
    ref1_zoneOf_l1 p1 r1 BIG (0 : Int)
abbrev qa2423 : List CV := [cst ByteArray.empty, ci 0, ci 0, ci 0, ci 0, ci 0, ci 0, ci 0, ci 0, ci 0, ci 0]
abbrev qa2426 (e1 : GZone) : List PV := [.s (.string e1.name), pi e1.offset, pi e1.summer, pi e1.start.month, pi e1.start.week, pi e1.start.weekday, pi e1.start.minute, pi e1.stop.month, pi e1.stop.week, pi e1.stop.weekday, pi e1.stop.minute]
theorem c_ref1_zoneOf (p1 : ByteArray) (r : (GZone × Bool)) (h : ref1_zoneOf p1 = some r) : PC Tryz.prog 79 [vs p1] (.tp [.ag [cst r.1.name, ci r.1.offset, ci r.1.summer, ci r.1.start.month, ci r.1.start.week, ci r.1.start.weekday, ci r.1.start.minute, ci r.1.stop.month, ci r.1.stop.week, ci r.1.stop.weekday, ci r.1.stop.minute], vb r.2]) := by
 unfold ref1_zoneOf at h
 refine zF 25 Tryz.f79 (zq fun K1 m1 => zr (zg [2] 2 [0,2] (zd (m1 _ _ (zq fun K2 m2 => ?_)))))
 obtain ⟨r1, c3, h⟩ := zB h
 refine zr (za (c_api_Zones _ c3) (zv [2] 1 [0,2,4] [] [(0, vs p1), (2, vq 0), (4, vl eZone r1)] [.box qa2423] (zd (m2 _ _ (zq fun K4 m4 => ?_)))))
 have j1 : ∀ (_ : Unit), ref1_zoneOf_j1 = some r → ∀ w0 w1, Sub 25 0 [] w0 w1 [(2, vq 0)] [.box qa2423] → K4 w0 w1 := by
  intro _ h w0 w1 hS
  unfold ref1_zoneOf_j1 at h
  refine m4 _ _ (XW.sub hS ?_)
  refine zq fun K15 m15 => zr (zg [2] 3 [2,3] (zd (m15 _ _ (ze ?_))))
  obtain rfl := zj h
  exact zf [.ag qa2423, vb false] (.tpc (.ag (.cons (.rfl _ rfl) (.cons (.rfl _ rfl) (.cons (.rfl _ rfl) (.cons (.rfl _ rfl) (.cons (.rfl _ rfl) (.cons (.rfl _ rfl) (.cons (.rfl _ rfl) (.cons (.rfl _ rfl) (.cons (.rfl _ rfl) (.cons (.rfl _ rfl) (.cons (.rfl _ rfl) .nil)))))))))))) (.tpc (.one (.rfl _ rfl)) (.tp0)))
 refine zq fun K5 m5 => zr (zv [2] 2 [0,2,4,8] [] [(0, vs p1), (2, vq 0), (4, vl eZone r1), (8, vi ((eZone.els r1).length : Int))] [.box [cst ByteArray.empty, ci 0, ci 0, ci 0, ci 0, ci 0, ci 0, ci 0, ci 0, ci 0, ci 0]] ?_)
 rw [eZone.len r1]
 refine zg [2] 1 [0,2,4,8,9] (zd (m5 _ _ (zb 0 (XW.rounds' BIG (x := cd Tryz.f79 [1,1,0,1,0,0]) (by kernel_rfl) fun Q1 hQ1 => ?_))))
 have hL1 : ∀ (k1 : Nat) (x1 : Int), ref1_zoneOf_l1 p1 r1 k1 x1 = some r → XR Tryz.prog 25 0 [] (cd Tryz.f79 [1,1,0,1,0,0]) Q1 k1 [(0, vs p1), (2, vq 0), (4, vl eZone r1), (8, vi (r1.length : Int)), (9, vi x1)] [.box qa2423] := by
  intro k1
  induction k1 with
  | zero => intro x1 h; rw [ref1_zoneOf_l1.eq_1] at h; cases h
  | succ k1 ih1 =>
   intro x1 h
   rw [ref1_zoneOf_l1.eq_2] at h
   refine zq fun K6 m6 => zr (zg [2] 1 [0,2,4,8,9,10] (zd (m6 _ _ (zq fun K7 m7 => zC h (fun b8 h => ?_) (fun b8 h => ?_)))))
   ·refine zs (m7 _ _ (zq fun K9 m9 => zb 1 (zq fun K10 m10 => zr (zg [2] 2 [0,2,4,5,8,9] (zd ?_)))))
    refine m10 _ _ (zq fun K11 m11 => ?_)
    obtain ⟨e1, a12, h⟩ := zB h
    refine zr ?_
    refine zp [2] 7 [0,2,4,5,8,9,18] [(qa2426 e1)] [(0, vs p1), (2, vq 0), (4, vl eZone r1), (5, vi x1), (8, vi (r1.length : Int)), (9, vi x1), (18, vb (e1.name.toList == p1.toList))] [.box qa2423] [0 ≤ x1 ∧ x1 < ((eZone.els r1).length : Int) ∧ elemsOk 11 (eZone.els r1), (eZone.els r1)[x1.toNat]? = some (qa2426 e1)] (⟨eZone.inb a12, (eZone.get a12), trivial⟩) ?_
    refine zd (m11 _ _ (zC h (fun b13 h => ?_) (fun b13 h => ?_)))
    ·refine zq fun K14 m14 => zr ?_
     refine zo [2] 6 [2,3] [(qa2426 e1)] [0 ≤ x1 ∧ x1 < ((eZone.els r1).length : Int) ∧ elemsOk 11 (eZone.els r1), (eZone.els r1)[x1.toNat]? = some (qa2426 e1)] (⟨eZone.inb a12, (eZone.get a12), trivial⟩) (zd (m14 _ _ ?_))
     refine ze (hQ1 _ _ _ ?_)
     obtain rfl := zj h
     exact zf [.ag [cst e1.name, ci e1.offset, ci e1.summer, ci e1.start.month, ci e1.start.week, ci e1.start.weekday, ci e1.start.minute, ci e1.stop.month, ci e1.stop.week, ci e1.stop.weekday, ci e1.stop.minute], vb true] (.tpc (.ag (.cons (.rfl _ rfl) (.cons (.rfl _ rfl) (.cons (.rfl _ rfl) (.cons (.rfl _ rfl) (.cons (.rfl _ rfl) (.cons (.rfl _ rfl) (.cons (.rfl _ rfl) (.cons (.rfl _ rfl) (.cons (.rfl _ rfl) (.cons (.rfl _ rfl) (.cons (.rfl _ rfl) .nil)))))))))))) (.tpc (.one (.rfl _ rfl)) (.tp0)))
    ·exact zs (m9 _ _ (zr (zg [2] 2 [0,2,4,8,9] (zd (XR.sub (zk [0,2,4,8,9]) (ih1 (i64.wrap (x1 + (1 : Int))) h))))))
   ·exact zx 0 (hQ1 _ _ _ (j1 () h _ _ (zk [2])))
 exact XR.sub (zk [0,2,4,8,9]) (hL1 BIG (0 : Int) h)
def ref1_floor_j2 (x2 : Int) : Option Int :=
    some x2
def ref1_floor_j1 (p1 : Int) (p2 : Int) (x1 : Bool) : Option Int :=
    ift x1
      (ref1_floor_j2 (i64.wrap ((i64.wrap (p1.tdiv p2)) - (1 : Int))))
      (ref1_floor_j2 (i64.wrap (p1.tdiv p2)))
def ref1_floor (p1 : Int) (p2 : Int) : Option Int :=
    grd (p2 ≠ 0) <|
    grd (p2 ≠ 0) <|
    ift ((p1.tmod p2) != (0 : Int))
      (ref1_floor_j1 p1 p2 (!((decide (p1 < (0 : Int))) == (decide (p2 < (0 : Int))))))
      (ref1_floor_j1 p1 p2 false)
theorem c_ref1_floor (p1 : Int) (p2 : Int) (r : Int) (h : ref1_floor p1 p2 = some r) : PC Tryz.prog 127 [vi p1, vi p2] (vi r) := by
 unfold ref1_floor at h
 refine zF 23 Tryz.f127 (zq fun K1 m1 => zr (zg [] 1 [0,1] (zd (m1 _ _ (zq fun K2 m2 => ?_)))))
 obtain ⟨g3, h⟩ := zG h
 refine zr (zo [] 4 [0,1,5] [] [p2 ≠ 0] (⟨g3, trivial⟩) (zd (m2 _ _ (zq fun K4 m4 => ?_))))
 have j2 : ∀ (x2 : Int), ref1_floor_j2 x2 = some r → ∀ w0 w1, Sub 23 0 [] w0 w1 [(5, vi x2)] [] → K4 w0 w1 := by
  intro x2 h w0 w1 hS
  unfold ref1_floor_j2 at h
  refine m4 _ _ (XW.sub hS ?_)
  refine zq fun K9 m9 => zr (zg [] 2 [4] (zd (m9 _ _ (ze ?_))))
  obtain rfl := zj h
  exact zf [vi x2] (.one (.rfl _ rfl))
 refine zq fun K5 m5 => ?_
 have j1 : ∀ (x1 : Bool), ref1_floor_j1 p1 p2 x1 = some r → ∀ w0 w1, Sub 23 0 [] w0 w1 [(5, vi (i64.wrap (p1.tdiv p2))), (19, vb x1)] [] → K5 w0 w1 := by
  intro x1 h w0 w1 hS
  unfold ref1_floor_j1 at h
  refine m5 _ _ (XW.sub hS ?_)
  refine zC h (fun b8 h => ?_) (fun b8 h => ?_)
  ·exact zr (zg [] 3 [5] (zd (j2 (i64.wrap ((i64.wrap (p1.tdiv p2)) - (1 : Int))) h _ _ (zk [5]))))
  ·exact zs (j2 (i64.wrap (p1.tdiv p2)) h _ _ (zk [5]))
 obtain ⟨g6, h⟩ := zG h
 rcases zW h with ⟨b7, h⟩ | ⟨b7, h⟩
 ·exact zr (zp [] 5 [0,1,5,13] [] [(0, vi p1), (1, vi p2), (5, vi (i64.wrap (p1.tdiv p2))), (13, vb ((p1.tmod p2) != (0 : Int)))] [] [p2 ≠ 0] (⟨g6, trivial⟩) (zt 13 b7 (zg [] 6 [5,19] (zd (j1 (!((decide (p1 < (0 : Int))) == (decide (p2 < (0 : Int))))) h _ _ (zk [5,19]))))))
 ·exact zr (zo [] 5 [0,1,5,13] [] [p2 ≠ 0] (⟨g6, trivial⟩) (zt 13 b7 (zv [] 6 [5,19] [] [(5, vi (i64.wrap (p1.tdiv p2))), (19, vb false)] [] (zd (j1 false h _ _ (zk [5,19]))))))
def ref1_yearStart_j1 (x1 : Int) : Option Int :=
    some (i64.wrap (x1 - (719528 : Int)))
def ref1_yearStart (p1 : Int) : Option Int :=
    ift (decide ((0 : Int) < p1))
      (bnd (some (i64.wrap ((i64.wrap (p1 - (1 : Int))).tdiv (4 : Int)))) fun y1 =>
       bnd (some (i64.wrap ((i64.wrap (p1 - (1 : Int))).tdiv (100 : Int)))) fun y2 =>
       bnd (some (i64.wrap ((i64.wrap (p1 - (1 : Int))).tdiv (400 : Int)))) fun y3 =>
       bnd (some (i64.wrap ((i64.wrap ((i64.wrap (y1 - y2)) + y3)) + (1 : Int)))) fun y4 =>
       ref1_yearStart_j1 (i64.wrap ((i64.wrap ((365 : Int) * p1)) + y4)))
      (ref1_yearStart_j1 (i64.wrap ((365 : Int) * p1)))
theorem c_ref1_yearStart (p1 : Int) (r : Int) (h : ref1_yearStart p1 = some r) : PC Tryz.prog 128 [vi p1] (vi r) := by
 unfold ref1_yearStart at h
 refine zF 24 Tryz.f128 (zq fun K1 m1 => zr (zg [] 1 [0] (zd (m1 _ _ (zq fun K2 m2 => zr ?_)))))
 refine zg [] 3 [0,3] (zd (m2 _ _ (zq fun K3 m3 => ?_)))
 have j1 : ∀ (x1 : Int), ref1_yearStart_j1 x1 = some r → ∀ w0 w1, Sub 24 0 [] w0 w1 [(3, vi x1)] [] → K3 w0 w1 := by
  intro x1 h w0 w1 hS
  unfold ref1_yearStart_j1 at h
  refine m3 _ _ (XW.sub hS ?_)
  refine zq fun K10 m10 => zr (zg [] 3 [2] (zd (m10 _ _ (ze ?_))))
  obtain rfl := zj h
  exact zf [vi (i64.wrap (x1 - (719528 : Int)))] (.one (.rfl _ rfl))
 refine zq fun K4 m4 => zr (zv [] 2 [0,3,7] [] [(0, vi p1), (3, vi (i64.wrap ((365 : Int) * p1))), (7, vb (decide ((0 : Int) < p1)))] [] (zd (m4 _ _ (zC h (fun b5 h => ?_) (fun b5 h => ?_)))))
 ·obtain ⟨y1, hy6, h⟩ := zB h
  obtain ⟨y2, hy7, h⟩ := zB h
  obtain ⟨y3, hy8, h⟩ := zB h
  obtain ⟨y4, hy9, h⟩ := zB h
  refine zr (zp [] 4 [0,8,11] [] [(0, vi p1), (8, vi (i64.wrap ((365 : Int) * p1))), (11, vi (i64.wrap ((i64.wrap (p1 - (1 : Int))).tdiv (4 : Int))))] [] [(4 : Int) ≠ 0] (⟨by decide, trivial⟩) ?_)
  rw [show (i64.wrap ((i64.wrap (p1 - (1 : Int))).tdiv (4 : Int))) = y1 from zj hy6]
  refine zp [] 3 [0,8,11,14] [] [(0, vi p1), (8, vi (i64.wrap ((365 : Int) * p1))), (11, vi y1), (14, vi (i64.wrap ((i64.wrap (p1 - (1 : Int))).tdiv (100 : Int))))] [] [(100 : Int) ≠ 0] (⟨by decide, trivial⟩) ?_
  rw [show (i64.wrap ((i64.wrap (p1 - (1 : Int))).tdiv (100 : Int))) = y2 from zj hy7]
  refine zp [] 4 [8,15,18] [] [(8, vi (i64.wrap ((365 : Int) * p1))), (15, vi (i64.wrap (y1 - y2))), (18, vi (i64.wrap ((i64.wrap (p1 - (1 : Int))).tdiv (400 : Int))))] [] [(400 : Int) ≠ 0] (⟨by decide, trivial⟩) ?_
  rw [show (i64.wrap ((i64.wrap (p1 - (1 : Int))).tdiv (400 : Int))) = y3 from zj hy8]
  refine zv [] 2 [8,20] [] [(8, vi (i64.wrap ((365 : Int) * p1))), (20, vi (i64.wrap ((i64.wrap ((i64.wrap (y1 - y2)) + y3)) + (1 : Int))))] [] ?_
  rw [show (i64.wrap ((i64.wrap ((i64.wrap (y1 - y2)) + y3)) + (1 : Int))) = y4 from zj hy9]
  exact zg [] 2 [3] (zd (j1 (i64.wrap ((i64.wrap ((365 : Int) * p1)) + y4)) h _ _ (zk [3])))
 ·exact zs (j1 (i64.wrap ((365 : Int) * p1)) h _ _ (zk [3]))
def ref1_leap_j1 (x1 : Bool) : Option Bool :=
    some x1
def ref1_leap (p1 : Int) : Option Bool :=
    ift ((p1.tmod (4 : Int)) == (0 : Int))
      (ift ((p1.tmod (100 : Int)) != (0 : Int))
         (ref1_leap_j1 true)
         (ref1_leap_j1 ((p1.tmod (400 : Int)) == (0 : Int))))
      (ref1_leap_j1 false)
theorem c_ref1_leap (p1 : Int) (r : Bool) (h : ref1_leap p1 = some r) : PC Tryz.prog 167 [vi p1] (vb r) := by
 unfold ref1_leap at h
 refine zF 16 Tryz.f167 (zq fun K1 m1 => zr (zg [] 1 [0] (zd (m1 _ _ (zq fun K2 m2 => ?_)))))
 have j1 : ∀ (x1 : Bool), ref1_leap_j1 x1 = some r → ∀ w0 w1, Sub 16 0 [] w0 w1 [(2, vb x1)] [] → K2 w0 w1 := by
  intro x1 h w0 w1 hS
  unfold ref1_leap_j1 at h
  refine m2 _ _ (XW.sub hS ?_)
  refine ze ?_
  obtain rfl := zj h
  exact zf [vb x1] (.one (.rfl _ rfl))
 rcases zW h with ⟨b3, h⟩ | ⟨b3, h⟩
 ·rcases zW h with ⟨b4, h⟩ | ⟨b4, h⟩
  ·exact zr (zo [] 4 [0,6] [] [(4 : Int) ≠ 0] (⟨by decide, trivial⟩) (zt 6 b3 (zp [] 4 [0,6,10] [] [(0, vi p1), (6, vb true), (10, vb ((p1.tmod (100 : Int)) != (0 : Int)))] [] [(100 : Int) ≠ 0] (⟨by decide, trivial⟩) (zt 10 b4 (zg [] 6 [2] (zd (j1 true h _ _ (zk [2]))))))))
  ·exact zr (zo [] 4 [0,6] [] [(4 : Int) ≠ 0] (⟨by decide, trivial⟩) (zt 6 b3 (zp [] 4 [0,6,10] [] [(0, vi p1), (6, vb true), (10, vb ((p1.tmod (100 : Int)) != (0 : Int)))] [] [(100 : Int) ≠ 0] (⟨by decide, trivial⟩) (zt 10 b4 (zo [] 6 [2] [] [(400 : Int) ≠ 0] (⟨by decide, trivial⟩) (zd (j1 ((p1.tmod (400 : Int)) == (0 : Int)) h _ _ (zk [2]))))))))
 ·exact zr (zo [] 4 [0,6] [] [(4 : Int) ≠ 0] (⟨by decide, trivial⟩) (zt 6 b3 (zv [] 10 [2] [] [(2, vb false)] [] (zd (j1 false h _ _ (zk [2]))))))
def ref1_MonthDays_j1 (x1 : Bool) : Option Int :=
    ift x1
      (some (30 : Int))
      (some (31 : Int))
def ref1_MonthDays (p1 : Int) (p2 : Int) : Option Int :=
    ift (p2 == (2 : Int))
      (bnd (ref1_leap p1) fun r1 =>
       ift r1
         (some (29 : Int))
         (some (28 : Int)))
      (ift (p2 == (4 : Int))
         (ref1_MonthDays_j1 (p2 == (4 : Int)))
         (ift (p2 == (6 : Int))
            (ref1_MonthDays_j1 (p2 == (6 : Int)))
            (ift (p2 == (9 : Int))
               (ref1_MonthDays_j1 (p2 == (9 : Int)))
               (ref1_MonthDays_j1 (p2 == (11 : Int))))))
theorem c_ref1_MonthDays (p1 : Int) (p2 : Int) (r : Int) (h : ref1_MonthDays p1 p2 = some r) : PC Tryz.prog 129 [vi p1, vi p2] (vi r) := by
 unfold ref1_MonthDays at h
 refine zF 15 Tryz.f129 (zq fun K1 m1 => zr (zg [] 1 [0,1] (zd (m1 _ _ (zq fun K2 m2 => zq fun K3 m3 => ?_)))))
 refine zr (zg [] 1 [0,5] (zd (m3 _ _ (zb 0 (zq fun K4 m4 => zr (zv [] 2 [0,5,6] [] [(0, vi p1), (5, vi p2), (6, vb (p2 == (2 : Int)))] [] ?_))))))
 refine zd (m4 _ _ (zC h (fun b5 h => ?_) (fun b5 h => ?_)))
 ·refine zq fun K6 m6 => zq fun K7 m7 => ?_
  obtain ⟨r1, c8, h⟩ := zB h
  refine zr (zg [] 1 [8] (za (c_ref1_leap _ _ c8) (zd (m7 _ _ (zC h (fun b9 h => ?_) (fun b9 h => ?_))))))
  ·refine zq fun K10 m10 => zr (zv [] 1 [4] [] [(4, vi 29)] [] (zd (m10 _ _ (ze ?_))))
   obtain rfl := zj h
   exact zf [vi 29] (.one (.rfl _ rfl))
  ·refine zs (m6 _ _ (zq fun K11 m11 => zr (zg [] 1 [4] (zd (m11 _ _ (ze ?_))))))
   obtain rfl := zj h
   exact zf [vi 28] (.one (.rfl _ rfl))
 ·refine zq fun K12 m12 => ?_
  have j1 : ∀ (x1 : Bool), ref1_MonthDays_j1 x1 = some r → ∀ w0 w1, Sub 15 0 [] w0 w1 [(10, vb x1)] [] → K12 w0 w1 := by
   intro x1 h w0 w1 hS
   unfold ref1_MonthDays_j1 at h
   refine m12 _ _ (XW.sub hS ?_)
   refine zC h (fun b19 h => ?_) (fun b19 h => ?_)
   ·refine zq fun K20 m20 => zr (zg [] 1 [4] (zd (m20 _ _ (ze ?_))))
    obtain rfl := zj h
    exact zf [vi 30] (.one (.rfl _ rfl))
   ·refine zs (m2 _ _ (zq fun K21 m21 => zr (zg [] 1 [4] (zd (m21 _ _ (ze ?_))))))
    obtain rfl := zj h
    exact zf [vi 31] (.one (.rfl _ rfl))
  refine zq fun K13 m13 => zr (zv [] 2 [5,10] [] [(5, vi p2), (10, vb (p2 == (4 : Int)))] [] (zd (m13 _ _ (zC h (fun b14 h => ?_) (fun b14 h => ?_)))))
  ·exact zs (j1 (p2 == (4 : Int)) h _ _ (zk [10]))
  ·refine zq fun K15 m15 => zr (zg [] 2 [5,10] (zd (m15 _ _ (zC h (fun b16 h => ?_) (fun b16 h => ?_)))))
   ·exact zs (j1 (p2 == (6 : Int)) h _ _ (zk [10]))
   ·refine zq fun K17 m17 => zr (zg [] 2 [5,10] (zd (m17 _ _ (zC h (fun b18 h => ?_) (fun b18 h => ?_)))))
    ·exact zs (j1 (p2 == (9 : Int)) h _ _ (zk [10]))
    ·exact zr (zv [] 2 [10] [] [(10, vb (p2 == (11 : Int)))] [] (zd (j1 (p2 == (11 : Int)) h _ _ (zk [10]))))
def ref1_civil_j2 (p1 : Int) (r1 : Int) (x3 : Int) (z2 : Int) (x5 : Int) : Option GCivil :=
    bnd (some (i64.wrap ((i64.wrap (p1 - (i64.wrap ((86400 : Int) * r1)))).tdiv (3600 : Int)))) fun y1 =>
    bnd (some (i64.wrap ((i64.wrap (p1 - (i64.wrap ((86400 : Int) * r1)))).tdiv (60 : Int)))) fun y2 =>
    bnd (some ((i64.wrap (p1 - (i64.wrap ((86400 : Int) * r1)))).tmod (60 : Int))) fun y3 =>
    some (GCivil.mk x3 z2 (i64.wrap (x5 + (1 : Int))) y1 (y2.tmod (60 : Int)) y3)
def ref1_civil_l2 (p1 : Int) (r1 : Int) (x3 : Int) : Nat → Int → Int → Option GCivil
  | 0, _, _ => none
  | k2 + 1, z1, x4 =>
    bnd (ref1_MonthDays x3 z1) fun r4 =>
    ift (decide (r4 ≤ x4))
      (bnd (ref1_MonthDays x3 z1) fun r5 =>
       (ref1_civil_l2 p1 r1 x3 k2) (i64.wrap (z1 + (1 : Int))) (i64.wrap (x4 - r5)))
      (ref1_civil_j2 p1 r1 x3 z1 x4)
def ref1_civil_j1 (p1 : Int) (r1 : Int) (x3 : Int) : Option GCivil :=
    bnd (ref1_yearStart x3) fun r3 =>
    ref1_civil_l2 p1 r1 x3 BIG (1 : Int) (i64.wrap (r1 - r3))
def ref1_civil_l1 (p1 : Int) (r1 : Int) : Nat → Int → Int → Option GCivil
  | 0, _, _ => none
  | k1 + 1, x1, x2 =>
    ift (decide ((1 : Int) < (i64.wrap (x2 - x1))))
      (bnd (ref1_yearStart (i64.wrap ((i64.wrap (x1 + x2)).tdiv (2 : Int)))) fun r2 =>
       ift (decide (r2 ≤ r1))
         ((ref1_civil_l1 p1 r1 k1) (i64.wrap ((i64.wrap (x1 + x2)).tdiv (2 : Int))) x2)
         ((ref1_civil_l1 p1 r1 k1) x1 (i64.wrap ((i64.wrap (x1 + x2)).tdiv (2 : Int)))))
      (ref1_civil_j1 p1 r1 x1)
def ref1_civil (p1 : Int) : Option GCivil :=
    bnd (ref1_floor p1 (86400 : Int)) fun r1 =>
    ref1_civil_l1 p1 r1 BIG (0 : Int) (10001 : Int)
abbrev qa2447 : List CV := [ci 0, ci 0, ci 0, ci 0, ci 0, ci 0]
abbrev qa2453 (x3 : Int) (z1 : Int) : List CV := [ci x3, ci z1, ci 0, ci 0, ci 0, ci 0]
theorem c_ref1_civil (p1 : Int) (r : GCivil) (h : ref1_civil p1 = some r) : PC Tryz.prog 80 [vi p1] (.ag [ci r.year, ci r.month, ci r.day, ci r.hour, ci r.minute, ci r.second]) := by
 unfold ref1_civil at h
 refine zF 66 Tryz.f80 (zq fun K1 m1 => zr (zg [2, 7] 1 [0,2] (zd (m1 _ _ (zq fun K2 m2 => ?_)))))
 obtain ⟨r1, c3, h⟩ := zB h
 refine zr (zg [2, 7] 1 [0,2,10] (zl 127 [vi p1, vi 86400] (vi r1) [(11, vi r1), (0, vi p1), (2, vq 0), (10, vi p1)] (c_ref1_floor _ _ _ c3) (zg [2, 7] 1 [0,2,3] (zd (m2 _ _ (zq fun K4 m4 => zr ?_))))))
 refine zg [2, 7] 2 [0,2,3,4,5] (zd (m4 _ _ (zq fun K5 m5 => ?_)))
 have j1 : ∀ (x3 : Int), ref1_civil_j1 p1 r1 x3 = some r → ∀ w0 w1, Sub 66 0 [] w0 w1 [(0, vi p1), (2, vq 0), (3, vi r1), (4, vi x3)] [.box qa2447] → K5 w0 w1 := by
  intro x3 h w0 w1 hS
  unfold ref1_civil_j1 at h
  refine m5 _ _ (XW.sub hS ?_)
  refine zq fun K13 m13 => zr (zg [2, 7] 4 [0,2,3,4,7] (zd (m13 _ _ (zq fun K14 m14 => ?_))))
  obtain ⟨r3, c15, h⟩ := zB h
  refine zr (zg [2, 7] 2 [0,2,3,4,7,28,29] (zl 128 [vi x3] (vi r3) [(30, vi r3), (0, vi p1), (2, vq 0), (3, vi r1), (4, vi x3), (7, vq 1), (28, vi r1), (29, vi x3)] (c_ref1_yearStart _ _ c15) (zg [2, 7] 2 [0,2,3,4,7,8] (zd (m14 _ _ (zq fun K16 m16 => ?_))))))
  have j2 : ∀ (z2 : Int) (x5 : Int), ref1_civil_j2 p1 r1 x3 z2 x5 = some r → ∀ w0 w1, Sub 66 0 [] w0 w1 [(0, vi p1), (2, vq 0), (3, vi r1), (7, vq 1), (8, vi x5)] [.box qa2447, .box [ci x3, ci z2, ci 0, ci 0, ci 0, ci 0]] → K16 w0 w1 := by
   intro z2 x5 h w0 w1 hS
   unfold ref1_civil_j2 at h
   refine m16 _ _ (XW.sub hS ?_)
   refine zq fun K23 m23 => zr (zg [2, 7] 4 [0,2,3,7] (zd (m23 _ _ (zq fun K24 m24 => zr (zg [2, 7] 5 [2,7,9] ?_)))))
   refine zd (m24 _ _ (zq fun K25 m25 => ?_))
   obtain ⟨y1, hy26, h⟩ := zB h
   obtain ⟨y2, hy27, h⟩ := zB h
   obtain ⟨y3, hy28, h⟩ := zB h
   refine zr (zp [2, 7] 2 [2,7,9,56] [] [(2, vq 0), (7, vq 1), (9, vi (i64.wrap (p1 - (i64.wrap ((86400 : Int) * r1))))), (56, vi (i64.wrap ((i64.wrap (p1 - (i64.wrap ((86400 : Int) * r1)))).tdiv (3600 : Int))))] [.box [ci 0, ci 0, ci 0, ci 0, ci 0, ci 0], .box [ci x3, ci z2, ci (i64.wrap (x5 + (1 : Int))), ci 0, ci 0, ci 0]] [(3600 : Int) ≠ 0] (⟨by decide, trivial⟩) ?_)
   rw [show (i64.wrap ((i64.wrap (p1 - (i64.wrap ((86400 : Int) * r1)))).tdiv (3600 : Int))) = y1 from zj hy26]
   refine zp [2, 7] 2 [2,7,9,56,58] [] [(2, vq 0), (7, vq 1), (9, vi (i64.wrap (p1 - (i64.wrap ((86400 : Int) * r1))))), (56, vi y1), (58, vi (i64.wrap ((i64.wrap (p1 - (i64.wrap ((86400 : Int) * r1)))).tdiv (60 : Int))))] [.box [ci 0, ci 0, ci 0, ci 0, ci 0, ci 0], .box [ci x3, ci z2, ci (i64.wrap (x5 + (1 : Int))), ci 0, ci 0, ci 0]] [(60 : Int) ≠ 0] (⟨by decide, trivial⟩) ?_
   rw [show (i64.wrap ((i64.wrap (p1 - (i64.wrap ((86400 : Int) * r1)))).tdiv (60 : Int))) = y2 from zj hy27]
   refine zp [2, 7] 3 [2,7,56,59,61] [] [(2, vq 0), (7, vq 1), (56, vi y1), (59, vi (y2.tmod (60 : Int))), (61, vi ((i64.wrap (p1 - (i64.wrap ((86400 : Int) * r1)))).tmod (60 : Int)))] [.box [ci 0, ci 0, ci 0, ci 0, ci 0, ci 0], .box [ci x3, ci z2, ci (i64.wrap (x5 + (1 : Int))), ci 0, ci 0, ci 0]] [(60 : Int) ≠ 0, (60 : Int) ≠ 0] (⟨by decide, by decide, trivial⟩) ?_
   rw [show ((i64.wrap (p1 - (i64.wrap ((86400 : Int) * r1)))).tmod (60 : Int)) = y3 from zj hy28]
   refine zg [2, 7] 6 [2,7] (zd (m25 _ _ (zq fun K29 m29 => zr (zg [2, 7] 2 [2] (zd (m29 _ _ ?_))))))
   refine ze ?_
   obtain rfl := zj h
   exact zf [.ag [ci x3, ci z2, ci (i64.wrap (x5 + (1 : Int))), ci y1, ci (y2.tmod (60 : Int)), ci y3]] (.ag (.cons (.rfl _ rfl) (.cons (.rfl _ rfl) (.cons (.rfl _ rfl) (.cons (.rfl _ rfl) (.cons (.rfl _ rfl) (.cons (.rfl _ rfl) .nil)))))))
  refine zb 2 (XW.rounds' BIG (x := cd Tryz.f80 [1,1,1,1,1,1,0,0,0]) (by kernel_rfl) fun Q2 hQ2 => ?_)
  have hL2 : ∀ (k2 : Nat) (z1 : Int) (x4 : Int), ref1_civil_l2 p1 r1 x3 k2 z1 x4 = some r → XR Tryz.prog 66 0 [] (cd Tryz.f80 [1,1,1,1,1,1,0,0,0]) Q2 k2 [(0, vi p1), (2, vq 0), (3, vi r1), (4, vi x3), (7, vq 1), (8, vi x4)] [.box qa2447, .box (qa2453 x3 z1)] := by
   intro k2
   induction k2 with
   | zero => intro z1 x4 h; rw [ref1_civil_l2.eq_1] at h; cases h
   | succ k2 ih2 =>
    intro z1 x4 h
    rw [ref1_civil_l2.eq_2] at h
    refine zq fun K17 m17 => zq fun K18 m18 => ?_
    obtain ⟨r4, c19, h⟩ := zB h
    refine zr (zg [2, 7] 4 [0,2,3,4,7,8,32,33,35] (za (c_ref1_MonthDays _ _ _ c19) (zv [2, 7] 1 [0,2,3,4,7,8,37] [] [(0, vi p1), (2, vq 0), (3, vi r1), (4, vi x3), (7, vq 1), (8, vi x4), (37, vb (decide (r4 ≤ x4)))] [.box qa2447, .box (qa2453 x3 z1)] (zd (m18 _ _ (zC h (fun b20 h => ?_) (fun b20 h => ?_)))))))
    ·refine zs (m17 _ _ (zb 3 (zq fun K21 m21 => ?_)))
     obtain ⟨r5, c22, h⟩ := zB h
     refine zr (zg [2, 7] 4 [0,2,3,4,7,38,39,41] (za (c_ref1_MonthDays _ _ _ c22) (zv [2, 7] 2 [0,2,3,4,7,8] [] [(0, vi p1), (2, vq 0), (3, vi r1), (4, vi x3), (7, vq 1), (8, vi (i64.wrap (x4 - r5)))] [.box qa2447, .box (qa2453 x3 z1)] (zd (m21 _ _ (zr (zg [2, 7] 5 [0,2,3,4,7,8] ?_)))))))
     exact zd (XR.sub (zk [0,2,3,4,7,8]) (ih2 (i64.wrap (z1 + (1 : Int))) (i64.wrap (x4 - r5)) h))
    ·exact zx 2 (hQ2 _ _ _ (j2 z1 x4 h _ _ (zk [0,2,3,7,8])))
  exact XR.sub (zk [0,2,3,4,7,8]) (hL2 BIG (1 : Int) (i64.wrap (r1 - r3)) h)
 refine zb 0 (XW.rounds' BIG (x := cd Tryz.f80 [1,1,1,0,0,0]) (by kernel_rfl) fun Q1 hQ1 => ?_)
 have hL1 : ∀ (k1 : Nat) (x1 : Int) (x2 : Int), ref1_civil_l1 p1 r1 k1 x1 x2 = some r → XR Tryz.prog 66 0 [] (cd Tryz.f80 [1,1,1,0,0,0]) Q1 k1 [(0, vi p1), (2, vq 0), (3, vi r1), (4, vi x1), (5, vi x2)] [.box qa2447] := by
  intro k1
  induction k1 with
  | zero => intro x1 x2 h; rw [ref1_civil_l1.eq_1] at h; cases h
  | succ k1 ih1 =>
   intro x1 x2 h
   rw [ref1_civil_l1.eq_2] at h
   refine zq fun K6 m6 => zq fun K7 m7 => zr (zg [2, 7] 4 [0,2,3,4,5,15] (zd (m7 _ _ (zC h (fun b8 h => ?_) (fun b8 h => ?_)))))
   ·refine zs (m6 _ _ (zb 1 (zq fun K9 m9 => zr (zo [2, 7] 5 [0,2,3,4,5,6] [] [(2 : Int) ≠ 0] (⟨by decide, trivial⟩) (zd (m9 _ _ ?_))))))
    refine zq fun K10 m10 => ?_
    obtain ⟨r2, c11, h⟩ := zB h
    refine zr (zv [2, 7] 1 [0,2,3,4,5,6,20] [] [(0, vi p1), (2, vq 0), (3, vi r1), (4, vi x1), (5, vi x2), (6, vi (i64.wrap ((i64.wrap (x1 + x2)).tdiv (2 : Int)))), (20, vi (i64.wrap ((i64.wrap (x1 + x2)).tdiv (2 : Int))))] [.box qa2447] (za (c_ref1_yearStart _ _ c11) (zg [2, 7] 2 [0,2,3,4,5,6,23] (zd (m10 _ _ (zC h (fun b12 h => ?_) (fun b12 h => ?_)))))))
    ·exact zr (zv [2, 7] 2 [0,2,3,4,5] [] [(0, vi p1), (2, vq 0), (3, vi r1), (4, vi (i64.wrap ((i64.wrap (x1 + x2)).tdiv (2 : Int)))), (5, vi x2)] [.box qa2447] (zd (XR.sub (zk [0,2,3,4,5]) (ih1 (i64.wrap ((i64.wrap (x1 + x2)).tdiv (2 : Int))) x2 h))))
    ·exact zr (zg [2, 7] 2 [0,2,3,4,5] (zd (XR.sub (zk [0,2,3,4,5]) (ih1 x1 (i64.wrap ((i64.wrap (x1 + x2)).tdiv (2 : Int))) h))))
   ·exact zx 0 (hQ1 _ _ _ (j1 x1 h _ _ (zk [0,2,3,4])))
 exact XR.sub (zk [0,2,3,4,5]) (hL1 BIG (0 : Int) (10001 : Int) h)
def ref1_Days_j1 (p3 : Int) (x3 : Int) : Option Int :=
    some (i64.wrap ((i64.wrap (x3 + p3)) - (1 : Int)))
def ref1_Days_l1 (p1 : Int) (p2 : Int) (p3 : Int) : Nat → Int → Int → Option Int
  | 0, _, _ => none
  | k1 + 1, x1, x2 =>
    ift (decide (x2 < p2))
      (bnd (ref1_MonthDays p1 x2) fun r2 =>
       (ref1_Days_l1 p1 p2 p3 k1) (i64.wrap (x1 + r2)) (i64.wrap (x2 + (1 : Int))))
      (ref1_Days_j1 p3 x1)
def ref1_Days (p1 : Int) (p2 : Int) (p3 : Int) : Option Int :=
    bnd (ref1_yearStart p1) fun r1 =>
    ref1_Days_l1 p1 p2 p3 BIG r1 (1 : Int)
theorem c_ref1_Days (p1 : Int) (p2 : Int) (p3 : Int) (r : Int) (h : ref1_Days p1 p2 p3 = some r) : PC Tryz.prog 169 [vi p1, vi p2, vi p3] (vi r) := by
 unfold ref1_Days at h
 refine zF 25 Tryz.f169 (zq fun K1 m1 => zr (zg [] 1 [0,1,2] (zd (m1 _ _ (zq fun K2 m2 => ?_)))))
 obtain ⟨r1, c3, h⟩ := zB h
 refine zr (zg [] 1 [0,1,2,9] (zl 128 [vi p1] (vi r1) [(10, vi r1), (0, vi p1), (1, vi p2), (2, vi p3), (9, vi p1)] (c_ref1_yearStart _ _ c3) (zg [] 1 [0,1,2,7] (zd (m2 _ _ (zq fun K4 m4 => ?_))))))
 have j1 : ∀ (x3 : Int), ref1_Days_j1 p3 x3 = some r → ∀ w0 w1, Sub 25 0 [] w0 w1 [(2, vi p3), (7, vi x3)] [] → K4 w0 w1 := by
  intro x3 h w0 w1 hS
  unfold ref1_Days_j1 at h
  refine m4 _ _ (XW.sub hS ?_)
  refine zq fun K11 m11 => zr (zg [] 5 [6] (zd (m11 _ _ (ze ?_))))
  obtain rfl := zj h
  exact zf [vi (i64.wrap ((i64.wrap (x3 + p3)) - (1 : Int)))] (.one (.rfl _ rfl))
 refine zq fun K5 m5 => zr (zg [] 1 [0,1,2,7,8] (zd (m5 _ _ (zb 0 (XW.rounds' BIG (x := cd Tryz.f169 [1,1,0,1,0,0]) (by kernel_rfl) fun Q1 hQ1 => ?_)))))
 have hL1 : ∀ (k1 : Nat) (x1 : Int) (x2 : Int), ref1_Days_l1 p1 p2 p3 k1 x1 x2 = some r → XR Tryz.prog 25 0 [] (cd Tryz.f169 [1,1,0,1,0,0]) Q1 k1 [(0, vi p1), (1, vi p2), (2, vi p3), (7, vi x1), (8, vi x2)] [] := by
  intro k1
  induction k1 with
  | zero => intro x1 x2 h; rw [ref1_Days_l1.eq_1] at h; cases h
  | succ k1 ih1 =>
   intro x1 x2 h
   rw [ref1_Days_l1.eq_2] at h
   refine zq fun K6 m6 => zq fun K7 m7 => zr (zg [] 3 [0,1,2,7,8,13] (zd (m7 _ _ (zC h (fun b8 h => ?_) (fun b8 h => ?_)))))
   ·refine zs (m6 _ _ (zq fun K9 m9 => zb 1 ?_))
    obtain ⟨r2, c10, h⟩ := zB h
    refine zr (zg [] 3 [0,1,2,8,16,17,18] (zl 129 [vi p1, vi x2] (vi r2) [(19, vi r2), (0, vi p1), (1, vi p2), (2, vi p3), (8, vi x2), (16, vi x1), (17, vi p1), (18, vi x2)] (c_ref1_MonthDays _ _ _ c10) (zg [] 2 [0,1,2,7,8] (zd (m9 _ _ (zr (zg [] 3 [0,1,2,7,8] ?_)))))))
    exact zd (XR.sub (zk [0,1,2,7,8]) (ih1 (i64.wrap (x1 + r2)) (i64.wrap (x2 + (1 : Int))) h))
   ·exact zx 0 (hQ1 _ _ _ (j1 x1 h _ _ (zk [2,7])))
 exact XR.sub (zk [0,1,2,7,8]) (hL1 BIG r1 (1 : Int) h)
def ref1_weekday (p1 : Int) : Option Int :=
    bnd (ref1_floor (i64.wrap (p1 + (3 : Int))) (7 : Int)) fun r1 =>
    bnd (some (i64.wrap ((i64.wrap (p1 - (i64.wrap ((7 : Int) * r1)))) + (4 : Int)))) fun y1 =>
    some y1
theorem c_ref1_weekday (p1 : Int) (r : Int) (h : ref1_weekday p1 = some r) : PC Tryz.prog 168 [vi p1] (vi r) := by
 unfold ref1_weekday at h
 refine zF 10 Tryz.f168 (zq fun K1 m1 => zr (zg [] 1 [0] (zd (m1 _ _ (zq fun K2 m2 => ?_)))))
 obtain ⟨r1, c3, h⟩ := zB h
 obtain ⟨y1, hy4, h⟩ := zB h
 refine zr (zg [] 3 [3,5] (zl 127 [vi (i64.wrap (p1 + (3 : Int))), vi 7] (vi r1) [(6, vi r1), (3, vi p1), (5, vi (i64.wrap (p1 + (3 : Int))))] (c_ref1_floor _ _ _ c3) (zv [] 3 [9] [] [(9, vi (i64.wrap ((i64.wrap (p1 - (i64.wrap ((7 : Int) * r1)))) + (4 : Int))))] [] ?_)))
 rw [show (i64.wrap ((i64.wrap (p1 - (i64.wrap ((7 : Int) * r1)))) + (4 : Int))) = y1 from zj hy4]
 refine zg [] 1 [2] (zd (m2 _ _ (ze ?_)))
 obtain rfl := zj h
 exact zf [vi y1] (.one (.rfl _ rfl))
def ref1_turn_j1 (rec1 : List Int → Int → Option Int) (x1 : Int) (l2 : List Int) : Option Int :=
    rec1 l2 (i64.wrap (x1 + (1 : Int)))
def ref1_turn_j3 (p1 : Int) (p2 : GTurn) (l3 : List Int) (x2 : Int) : Option Int :=
    bnd (at? l3 x2) fun e1 =>
    bnd (ref1_Days p1 p2.month e1) fun r4 =>
    bnd (some (i64.wrap ((i64.wrap ((86400 : Int) * r4)) + (i64.wrap ((60 : Int) * p2.minute))))) fun y2 =>
    some y2
def ref1_turn_j2 (p1 : Int) (p2 : GTurn) (l3 : List Int) : Option Int :=
    bnd (some (decide (((l3.length : Nat) : Int) ≤ (i64.wrap (p2.week - (1 : Int)))))) fun y1 =>
    ift y1
      (ref1_turn_j3 p1 p2 l3 (i64.wrap (((l3.length : Nat) : Int) - (1 : Int))))
      (ref1_turn_j3 p1 p2 l3 (i64.wrap (p2.week - (1 : Int))))
def ref1_turn_l1 (p1 : Int) (p2 : GTurn) : Nat → List Int → Int → Option Int
  | 0, _, _ => none
  | k1 + 1, l1, x1 =>
    bnd (ref1_MonthDays p1 p2.month) fun r1 =>
    ift (decide (x1 ≤ r1))
      (bnd (ref1_Days p1 p2.month x1) fun r2 =>
       bnd (ref1_weekday r2) fun r3 =>
       ift (r3 == p2.weekday)
         (grd (l1.length + 1 ≤ 4294967296) <|
          ref1_turn_j1 (ref1_turn_l1 p1 p2 k1) x1 (l1 ++ [x1]))
         (ref1_turn_j1 (ref1_turn_l1 p1 p2 k1) x1 l1))
      (ref1_turn_j2 p1 p2 l1)
def ref1_turn (p1 : Int) (p2 : GTurn) : Option Int :=
    ref1_turn_l1 p1 p2 BIG [] (1 : Int)
abbrev qa2467 (p2 : GTurn) : List PV := [pi p2.month, pi p2.week, pi p2.weekday, pi p2.minute]
abbrev qa2474 (p1 : Int) (p2 : GTurn) (l3 : List Int) (x2 : Int) (e1 : Int) (r4 : Int) : Fr := [(50, vi (i64.wrap ((60 : Int) * p2.minute))), (49, vi p2.minute), (48, .one (.pv (.rp [(qa2467 p2)] 0 3))), (47, vi (i64.wrap ((86400 : Int) * r4))), (46, vi r4), (45, vi e1), (44, .one (.pt 0 1 (0 + x2.toNat) 0)), (43, vi x2), (42, .one (.sl 0 1 0 l3.length)), (41, vi p2.month), (40, vR (qa2467 p2)), (39, vi p1), (0, vi p1), (3, vR (qa2467 p2)), (5, .one (.sl 0 1 0 l3.length)), (7, vi x2)]
theorem c_ref1_turn (p1 : Int) (p2 : GTurn) (r : Int) (h : ref1_turn p1 p2 = some r) : PC Tryz.prog 130 [vi p1, .ag [ci p2.month, ci p2.week, ci p2.weekday, ci p2.minute]] (vi r) := by
 unfold ref1_turn at h
 refine zF 52 Tryz.f130 (zq fun K1 m1 => zr (zg [] 2 [0,3] (zd (m1 _ _ (zq fun K2 m2 => zr ?_)))))
 refine zg [] 1 [0,3,5] (zd (m2 _ _ (zq fun K3 m3 => ?_)))
 have j2 : ∀ (l3 : List Int), ref1_turn_j2 p1 p2 l3 = some r → ∀ w0 w1, Sub 52 0 [] w0 w1 [(0, vi p1), (3, vR (qa2467 p2)), (5, .one (.sl 0 1 0 l3.length))] [.arr 1 (eI.els l3)] → K3 w0 w1 := by
  intro l3 h w0 w1 hS
  unfold ref1_turn_j2 at h
  refine m3 _ _ (XW.sub hS ?_)
  refine zq fun K15 m15 => zr (zu [] 4 [0,3,5,7] [(qa2467 p2)] (zd (m15 _ _ (zq fun K16 m16 => ?_))))
  have j3 : ∀ (x2 : Int), ref1_turn_j3 p1 p2 l3 x2 = some r → ∀ w0 w1, Sub 52 0 [] w0 w1 [(0, vi p1), (3, vR (qa2467 p2)), (5, .one (.sl 0 1 0 l3.length)), (7, vi x2)] [.arr 1 (eI.els l3)] → K16 w0 w1 := by
   intro x2 h w0 w1 hS
   unfold ref1_turn_j3 at h
   refine m16 _ _ (XW.sub hS ?_)
   refine zq fun K20 m20 => ?_
   obtain ⟨e1, a21, h⟩ := zB h
   obtain ⟨r4, c22, h⟩ := zB h
   obtain ⟨y2, hy23, h⟩ := zB h
   refine zw 12 (qa2474 p1 p2 l3 x2 e1 r4) ?_ ?_
   ·refine zyo 7 [(qa2467 p2), [pi e1]] [([(qa2467 p2)] : List (List PV))[0]? = some (qa2467 p2), 0 ≤ x2 ∧ x2 < ((l3.length : Nat) : Int), (eI.els l3)[(0 + x2.toNat)]? = some [pi e1]] (⟨rfl, Enc.inb' a21, (eI.get0 a21), trivial⟩) (zya (c_ref1_Days _ _ _ _ c22) ?_)
    refine zyv 4 [(qa2467 p2)] (qa2474 p1 p2 l3 x2 e1 r4) ?_
    exact zyd
   refine zv [] 1 [51] [] [(51, vi (i64.wrap ((i64.wrap ((86400 : Int) * r4)) + (i64.wrap ((60 : Int) * p2.minute)))))] [.arr 1 (eI.els l3)] ?_
   rw [show (i64.wrap ((i64.wrap ((86400 : Int) * r4)) + (i64.wrap ((60 : Int) * p2.minute)))) = y2 from zj hy23]
   refine zg [] 1 [4] (zd (m20 _ _ (ze ?_)))
   obtain rfl := zj h
   exact zf [vi y2] (.one (.rfl _ rfl))
  refine zq fun K17 m17 => ?_
  obtain ⟨y1, hy18, h⟩ := zB h
  refine zr (zv [] 4 [0,3,5,7,35] [] [(0, vi p1), (3, vR [pi p2.month, pi p2.week, pi p2.weekday, pi p2.minute]), (5, .one (.sl 0 1 0 l3.length)), (7, vi (i64.wrap (p2.week - (1 : Int)))), (35, vb (decide (((l3.length : Nat) : Int) ≤ (i64.wrap (p2.week - (1 : Int))))))] [.arr 1 (eI.els l3)] ?_)
  rw [show (decide (((l3.length : Nat) : Int) ≤ (i64.wrap (p2.week - (1 : Int))))) = y1 from zj hy18]
  refine zd (m17 _ _ (zC h (fun b19 h => ?_) (fun b19 h => ?_)))
  ·exact zr (zg [] 4 [0,3,5,7] (zd (j3 (i64.wrap (((l3.length : Nat) : Int) - (1 : Int))) h _ _ (zk [0,3,5,7]))))
  ·exact zs (j3 (i64.wrap (p2.week - (1 : Int))) h _ _ (zk [0,3,5,7]))
 refine zq fun K4 m4 => zr (zv [] 1 [0,3,5,6] [] [(0, vi p1), (3, vR [pi p2.month, pi p2.week, pi p2.weekday, pi p2.minute]), (5, .one (.pv (.s (.slice none 0 0)))), (6, vi 1)] [] (zd (m4 _ _ (zb 0 (XW.sub (Sub.list (t := 5) (sz := 1) rfl) (XW.rounds' BIG (x := cd Tryz.f130 [1,1,0,1,0,0]) (by kernel_rfl) fun Q1 hQ1 => ?_))))))
 have hL1 : ∀ (k1 : Nat) (l1 : List Int) (x1 : Int), ref1_turn_l1 p1 p2 k1 l1 x1 = some r → XR Tryz.prog 52 0 [] (cd Tryz.f130 [1,1,0,1,0,0]) Q1 k1 [(0, vi p1), (3, vR (qa2467 p2)), (5, .one (.sl 0 1 0 l1.length)), (6, vi x1)] [.arr 1 (eI.els l1)] := by
  intro k1
  induction k1 with
  | zero => intro l1 x1 h; rw [ref1_turn_l1.eq_1] at h; cases h
  | succ k1 ih1 =>
   intro l1 x1 h
   rw [ref1_turn_l1.eq_2] at h
   refine zq fun K5 m5 => zq fun K6 m6 => ?_
   obtain ⟨r1, c7, h⟩ := zB h
   refine zr (zu [] 4 [0,3,5,6,8,9,11] [(qa2467 p2)] (za (c_ref1_MonthDays _ _ _ c7) (zv [] 1 [0,3,5,6,13] [] [(0, vi p1), (3, vR (qa2467 p2)), (5, .one (.sl 0 1 0 l1.length)), (6, vi x1), (13, vb (decide (x1 ≤ r1)))] [.arr 1 (eI.els l1)] (zd (m6 _ _ (zC h (fun b8 h => ?_) (fun b8 h => ?_)))))))
   ·refine zs (m5 _ _ (zq fun K9 m9 => ?_))
    have j1 : ∀ (l2 : List Int), ref1_turn_j1 (ref1_turn_l1 p1 p2 k1) x1 l2 = some r → ∀ w0 w1, Sub 52 0 [] w0 w1 [(0, vi p1), (3, vR (qa2467 p2)), (5, .one (.sl 0 1 0 l2.length)), (6, vi x1)] [.arr 1 (eI.els l2)] → K9 w0 w1 := by
     intro l2 h w0 w1 hS
     unfold ref1_turn_j1 at h
     refine m9 _ _ (XW.sub hS ?_)
     exact zr (zg [] 3 [0,3,5,6] (zd (XR.sub (zk [0,3,5,6]) (ih1 l2 (i64.wrap (x1 + (1 : Int))) h))))
    refine zb 1 (zq fun K10 m10 => ?_)
    obtain ⟨r2, c11, h⟩ := zB h
    obtain ⟨r3, c12, h⟩ := zB h
    refine zw 8 [(23, vi p2.weekday), (22, .one (.pv (.rp [(qa2467 p2)] 0 2))), (21, vi r3), (20, vi r2), (19, vi x1), (18, vi p2.month), (17, vR (qa2467 p2)), (16, vi p1), (0, vi p1), (3, vR (qa2467 p2)), (5, .one (.sl 0 1 0 l1.length)), (6, vi x1), (13, vb (decide (x1 ≤ r1)))] ?_ ?_
    ·exact zyu 4 [(qa2467 p2)] (zya (c_ref1_Days _ _ _ _ c11) (DX.cal 168 [vi r2] (vi r3) [(21, vi r3), (20, vi r2), (19, vi x1), (18, vi p2.month), (17, vR (qa2467 p2)), (16, vi p1), (0, vi p1), (3, vR (qa2467 p2)), (5, .one (.sl 0 1 0 l1.length)), (6, vi x1), (13, vb (decide (x1 ≤ r1)))] (by kernel_rfl) (c_ref1_weekday _ _ c12) rfl rfl (by kernel_rfl) (zyu 2 [(qa2467 p2)] zyd)))
    refine zg [] 1 [0,3,5,6,24] (zd (m10 _ _ (zC h (fun b13 h => ?_) (fun b13 h => ?_))))
    ·obtain ⟨g14, h⟩ := zG h
     refine zr (zp [] 4 [0,3,6,28] [] [(0, vi p1), (3, vR [pi p2.month, pi p2.week, pi p2.weekday, pi p2.minute]), (6, vi x1), (28, .one (.sl 0 1 0 (l1.length + (eI.els [x1]).length)))] [.arr 1 (eI.els l1 ++ eI.els [x1])] [elemsOk 1 (eI.els [x1]), l1.length = (eI.els l1).length, l1.length + (eI.els [x1]).length ≤ 4294967296] (⟨eI.ok _, (eI.len l1).symm, g14, trivial⟩) ?_)
     rw [show l1.length + (eI.els [x1]).length = (l1 ++ [x1]).length from eI.lapp _ _]
     rw [show eI.els l1 ++ eI.els [x1] = eI.els (l1 ++ [x1]) from eI.app2 _ _]
     exact zg [] 1 [0,3,5,6] (zd (j1 (l1 ++ [x1]) h _ _ (zk [0,3,5,6])))
    ·exact zs (j1 l1 h _ _ (zk [0,3,5,6]))
   ·exact zx 0 (hQ1 _ _ _ (j2 l1 h _ _ (zk [0,3,5])))
 exact XR.sub (zk [0,3,5,6]) (hL1 BIG [] (1 : Int) h)
def ref1_ahead_j2 (p1 : GZone) (x2 : Bool) : Option Int :=
    ift x2
      (bnd (some (i64.wrap ((i64.wrap ((60 : Int) * p1.offset)) + (i64.wrap ((60 : Int) * p1.summer))))) fun y5 =>
       some y5)
      (some (i64.wrap ((60 : Int) * p1.offset)))
def ref1_ahead_j1 (p1 : GZone) (p2 : Int) (r2 : Int) (y1 : Int) (x1 : Bool) : Option Int :=
    bnd (some (decide (y1 ≤ (i64.wrap (r2 - (i64.wrap ((60 : Int) * p1.offset))))))) fun y3 =>
    ift y3
      (ift (decide (p2 < y1))
         (ref1_ahead_j2 p1 true)
         (bnd (some (decide ((i64.wrap (r2 - (i64.wrap ((60 : Int) * p1.offset)))) ≤ p2))) fun y4 =>
          ref1_ahead_j2 p1 y4))
      (ref1_ahead_j2 p1 x1)
def ref1_ahead (p1 : GZone) (p2 : Int) : Option Int :=
    ift (p1.summer == (0 : Int))
      (some (i64.wrap ((60 : Int) * p1.offset)))
      (bnd (ref1_civil (i64.wrap (p2 + (i64.wrap ((60 : Int) * p1.offset))))) fun r1 =>
       bnd (ref1_turn r1.year p1.start) fun r2 =>
       bnd (ref1_turn r1.year p1.stop) fun r3 =>
       bnd (some (i64.wrap ((i64.wrap (r3 - (i64.wrap ((60 : Int) * p1.offset)))) - (i64.wrap ((60 : Int) * p1.summer))))) fun y1 =>
       bnd (some (decide ((i64.wrap (r2 - (i64.wrap ((60 : Int) * p1.offset)))) ≤ p2))) fun y2 =>
       ift y2
         (ref1_ahead_j1 p1 p2 r2 y1 (decide (p2 < y1)))
         (ref1_ahead_j1 p1 p2 r2 y1 false))
abbrev qa2481 (p1 : GZone) : List PV := [.s (.string p1.name), pi p1.offset, pi p1.summer, pi p1.start.month, pi p1.start.week, pi p1.start.weekday, pi p1.start.minute, pi p1.stop.month, pi p1.stop.week, pi p1.stop.weekday, pi p1.stop.minute]
abbrev qa2484 (p1 : GZone) : List CV := [ci p1.start.month, ci p1.start.week, ci p1.start.weekday, ci p1.start.minute]
theorem c_ref1_ahead (p1 : GZone) (p2 : Int) (r : Int) (h : ref1_ahead p1 p2 = some r) : PC Tryz.prog 81 [.ag [cst p1.name, ci p1.offset, ci p1.summer, ci p1.start.month, ci p1.start.week, ci p1.start.weekday, ci p1.start.minute, ci p1.stop.month, ci p1.stop.week, ci p1.stop.weekday, ci p1.stop.minute], vi p2] (vi r) := by
 unfold ref1_ahead at h
 refine zF 64 Tryz.f81 (zq fun K1 m1 => zr (zg [] 2 [1,2] (zd (m1 _ _ (zq fun K2 m2 => zr ?_)))))
 refine zu [] 4 [1,2,5] [(qa2481 p1)] (zd (m2 _ _ (zq fun K3 m3 => zq fun K4 m4 => zr ?_)))
 refine zv [] 3 [1,2,5,15] [(qa2481 p1)] [(1, vi p2), (2, vR (qa2481 p1)), (5, vi (i64.wrap ((60 : Int) * p1.offset))), (15, vb (p1.summer == (0 : Int)))] [] (zd (m4 _ _ ?_))
 refine zC h (fun b5 h => ?_) (fun b5 h => ?_)
 ·refine zq fun K6 m6 => zr (zg [] 2 [4] (zd (m6 _ _ (ze ?_))))
  obtain rfl := zj h
  exact zf [vi (i64.wrap ((60 : Int) * p1.offset))] (.one (.rfl _ rfl))
 ·refine zs (m3 _ _ (zq fun K7 m7 => ?_))
  obtain ⟨r1, c8, h⟩ := zB h
  refine zr (zg [] 3 [1,2,5,19] ?_)
  refine zl 80 [vi (i64.wrap (p2 + (i64.wrap ((60 : Int) * p1.offset))))] (.ag [ci r1.year, ci r1.month, ci r1.day, ci r1.hour, ci r1.minute, ci r1.second]) [(20, .ag [ci r1.year, ci r1.month, ci r1.day, ci r1.hour, ci r1.minute, ci r1.second]), (1, vi p2), (2, vR (qa2481 p1)), (5, vi (i64.wrap ((60 : Int) * p1.offset))), (19, vi (i64.wrap (p2 + (i64.wrap ((60 : Int) * p1.offset)))))] (c_ref1_civil _ _ c8) ?_
  refine zg [] 2 [1,2,5,6] (zd (m7 _ _ (zq fun K9 m9 => ?_)))
  obtain ⟨r2, c10, h⟩ := zB h
  obtain ⟨r3, c11, h⟩ := zB h
  obtain ⟨y1, hy12, h⟩ := zB h
  refine zw 17 [(7, vi (i64.wrap (r2 - (i64.wrap ((60 : Int) * p1.offset))))), (37, vi y1), (36, vi (i64.wrap ((60 : Int) * p1.summer))), (35, vi p1.summer), (34, .one (.pv (.rp [(qa2481 p1)] 0 2))), (33, vi (i64.wrap (r3 - (i64.wrap ((60 : Int) * p1.offset))))), (32, vi (i64.wrap ((60 : Int) * p1.offset))), (31, vi r3), (30, .ag [ci p1.stop.month, ci p1.stop.week, ci p1.stop.weekday, ci p1.stop.minute]), (29, .one (.pv (.rp [(qa2481 p1)] 0 7))), (28, vi r1.year), (27, vi (i64.wrap (r2 - (i64.wrap ((60 : Int) * p1.offset))))), (26, vi (i64.wrap ((60 : Int) * p1.offset))), (25, vi r2), (24, .ag (qa2484 p1)), (23, .one (.pv (.rp [(qa2481 p1)] 0 3))), (22, vi r1.year), (1, vi p2), (2, vR (qa2481 p1)), (5, vi (i64.wrap ((60 : Int) * p1.offset))), (6, vi r1.year)] ?_ ?_
  ·refine zyu 3 [(qa2481 p1)] ?_
   refine DX.cal 130 [vi r1.year, .ag (qa2484 p1)] (vi r2) [(25, vi r2), (24, .ag (qa2484 p1)), (23, .one (.pv (.rp [(qa2481 p1)] 0 3))), (22, vi r1.year), (1, vi p2), (2, vR (qa2481 p1)), (5, vi (i64.wrap ((60 : Int) * p1.offset))), (6, vi r1.year)] (by kernel_rfl) (c_ref1_turn _ _ _ c10) rfl rfl (by kernel_rfl) ?_
   refine zyu 5 [(qa2481 p1)] (zya (c_ref1_turn _ _ _ c11) ?_)
   refine zyv 6 [[.s (.string p1.name), pi p1.offset, pi p1.summer, pi p1.start.month, pi p1.start.week, pi p1.start.weekday, pi p1.start.minute, pi p1.stop.month, pi p1.stop.week, pi p1.stop.weekday, pi p1.stop.minute]] [(37, vi (i64.wrap ((i64.wrap (r3 - (i64.wrap ((60 : Int) * p1.offset)))) - (i64.wrap ((60 : Int) * p1.summer))))), (36, vi (i64.wrap ((60 : Int) * p1.summer))), (35, vi p1.summer), (34, .one (.pv (.rp [[.s (.string p1.name), pi p1.offset, pi p1.summer, pi p1.start.month, pi p1.start.week, pi p1.start.weekday, pi p1.start.minute, pi p1.stop.month, pi p1.stop.week, pi p1.stop.weekday, pi p1.stop.minute]] 0 2))), (33, vi (i64.wrap (r3 - (i64.wrap ((60 : Int) * p1.offset))))), (32, vi (i64.wrap ((60 : Int) * p1.offset))), (31, vi r3), (30, .ag [ci p1.stop.month, ci p1.stop.week, ci p1.stop.weekday, ci p1.stop.minute]), (29, .one (.pv (.rp [[.s (.string p1.name), pi p1.offset, pi p1.summer, pi p1.start.month, pi p1.start.week, pi p1.start.weekday, pi p1.start.minute, pi p1.stop.month, pi p1.stop.week, pi p1.stop.weekday, pi p1.stop.minute]] 0 7))), (28, vi r1.year), (27, vi (i64.wrap (r2 - (i64.wrap ((60 : Int) * p1.offset))))), (26, vi (i64.wrap ((60 : Int) * p1.offset))), (25, vi r2), (24, .ag [ci p1.start.month, ci p1.start.week, ci p1.start.weekday, ci p1.start.minute]), (23, .one (.pv (.rp [[.s (.string p1.name), pi p1.offset, pi p1.summer, pi p1.start.month, pi p1.start.week, pi p1.start.weekday, pi p1.start.minute, pi p1.stop.month, pi p1.stop.week, pi p1.stop.weekday, pi p1.stop.minute]] 0 3))), (22, vi r1.year), (1, vi p2), (2, vR [.s (.string p1.name), pi p1.offset, pi p1.summer, pi p1.start.month, pi p1.start.week, pi p1.start.weekday, pi p1.start.minute, pi p1.stop.month, pi p1.stop.week, pi p1.stop.weekday, pi p1.stop.minute]), (5, vi (i64.wrap ((60 : Int) * p1.offset))), (6, vi r1.year)] ?_
   rw [show (i64.wrap ((i64.wrap (r3 - (i64.wrap ((60 : Int) * p1.offset)))) - (i64.wrap ((60 : Int) * p1.summer)))) = y1 from zj hy12]
   exact zyg 1 zyd
  refine zg [] 1 [1,2,5,7,8] (zd (m9 _ _ (zq fun K13 m13 => ?_)))
  have j1 : ∀ (x1 : Bool), ref1_ahead_j1 p1 p2 r2 y1 x1 = some r → ∀ w0 w1, Sub 64 0 [] w0 w1 [(1, vi p2), (2, vR (qa2481 p1)), (5, vi (i64.wrap ((60 : Int) * p1.offset))), (7, vi (i64.wrap (r2 - (i64.wrap ((60 : Int) * p1.offset))))), (8, vi y1), (9, vb x1)] [] → K13 w0 w1 := by
   intro x1 h w0 w1 hS
   unfold ref1_ahead_j1 at h
   refine m13 _ _ (XW.sub hS ?_)
   refine zq fun K16 m16 => ?_
   have j2 : ∀ (x2 : Bool), ref1_ahead_j2 p1 x2 = some r → ∀ w0 w1, Sub 64 0 [] w0 w1 [(2, vR (qa2481 p1)), (5, vi (i64.wrap ((60 : Int) * p1.offset))), (9, vb x2)] [] → K16 w0 w1 := by
    intro x2 h w0 w1 hS
    unfold ref1_ahead_j2 at h
    refine m16 _ _ (XW.sub hS ?_)
    refine zq fun K22 m22 => zq fun K23 m23 => zr (zg [] 1 [2,5,57] (zd (m23 _ _ (zC h (fun b24 h => ?_) (fun b24 h => ?_)))))
    ·refine zq fun K25 m25 => ?_
     obtain ⟨y5, hy26, h⟩ := zB h
     refine zr (zv [] 5 [62] [[.s (.string p1.name), pi p1.offset, pi p1.summer, pi p1.start.month, pi p1.start.week, pi p1.start.weekday, pi p1.start.minute, pi p1.stop.month, pi p1.stop.week, pi p1.stop.weekday, pi p1.stop.minute]] [(62, vi (i64.wrap ((i64.wrap ((60 : Int) * p1.offset)) + (i64.wrap ((60 : Int) * p1.summer)))))] [] ?_)
     rw [show (i64.wrap ((i64.wrap ((60 : Int) * p1.offset)) + (i64.wrap ((60 : Int) * p1.summer)))) = y5 from zj hy26]
     refine zg [] 1 [4] (zd (m25 _ _ (ze ?_)))
     obtain rfl := zj h
     exact zf [vi y5] (.one (.rfl _ rfl))
    ·refine zs (m22 _ _ (zq fun K27 m27 => zr (zg [] 2 [4] (zd (m27 _ _ (ze ?_))))))
     obtain rfl := zj h
     exact zf [vi (i64.wrap ((60 : Int) * p1.offset))] (.one (.rfl _ rfl))
   refine zq fun K17 m17 => ?_
   obtain ⟨y3, hy18, h⟩ := zB h
   refine zr (zv [] 3 [1,2,5,7,8,9,48] [] [(1, vi p2), (2, vR [.s (.string p1.name), pi p1.offset, pi p1.summer, pi p1.start.month, pi p1.start.week, pi p1.start.weekday, pi p1.start.minute, pi p1.stop.month, pi p1.stop.week, pi p1.stop.weekday, pi p1.stop.minute]), (5, vi (i64.wrap ((60 : Int) * p1.offset))), (7, vi (i64.wrap (r2 - (i64.wrap ((60 : Int) * p1.offset))))), (8, vi y1), (9, vb x1), (48, vb (decide (y1 ≤ (i64.wrap (r2 - (i64.wrap ((60 : Int) * p1.offset)))))))] [] ?_)
   rw [show (decide (y1 ≤ (i64.wrap (r2 - (i64.wrap ((60 : Int) * p1.offset)))))) = y3 from zj hy18]
   refine zd (m17 _ _ (zC h (fun b19 h => ?_) (fun b19 h => ?_)))
   ·rcases zW h with ⟨b20, h⟩ | ⟨b20, h⟩
    ·exact zr (zg [] 4 [1,2,5,7,52] (zt 52 b20 (zg [] 5 [2,5,9] (zd (j2 true h _ _ (zk [2,5,9]))))))
    ·obtain ⟨y4, hy21, h⟩ := zB h
     refine zr (zv [] 4 [1,2,5,7,52] [] [(1, vi p2), (2, vR (qa2481 p1)), (5, vi (i64.wrap ((60 : Int) * p1.offset))), (7, vi (i64.wrap (r2 - (i64.wrap ((60 : Int) * p1.offset))))), (52, vb (decide (p2 < y1)))] [] (zt 52 b20 ?_))
     refine zv [] 3 [2,5,52,55] [] [(2, vR [.s (.string p1.name), pi p1.offset, pi p1.summer, pi p1.start.month, pi p1.start.week, pi p1.start.weekday, pi p1.start.minute, pi p1.stop.month, pi p1.stop.week, pi p1.stop.weekday, pi p1.stop.minute]), (5, vi (i64.wrap ((60 : Int) * p1.offset))), (52, vb false), (55, vb (decide ((i64.wrap (r2 - (i64.wrap ((60 : Int) * p1.offset)))) ≤ p2)))] [] ?_
     rw [show (decide ((i64.wrap (r2 - (i64.wrap ((60 : Int) * p1.offset)))) ≤ p2)) = y4 from zj hy21]
     exact zg [] 2 [2,5,9] (zd (j2 y4 h _ _ (zk [2,5,9])))
   ·exact zs (j2 x1 h _ _ (zk [2,5,9]))
  obtain ⟨y2, hy14, h⟩ := zB h
  rcases zW h with ⟨b15, h⟩ | ⟨b15, h⟩
  ·refine zr (zv [] 3 [1,2,5,7,8,40] [] [(1, vi p2), (2, vR [.s (.string p1.name), pi p1.offset, pi p1.summer, pi p1.start.month, pi p1.start.week, pi p1.start.weekday, pi p1.start.minute, pi p1.stop.month, pi p1.stop.week, pi p1.stop.weekday, pi p1.stop.minute]), (5, vi (i64.wrap ((60 : Int) * p1.offset))), (7, vi (i64.wrap (r2 - (i64.wrap ((60 : Int) * p1.offset))))), (8, vi y1), (40, vb (decide ((i64.wrap (r2 - (i64.wrap ((60 : Int) * p1.offset)))) ≤ p2)))] [] ?_)
   rw [show (decide ((i64.wrap (r2 - (i64.wrap ((60 : Int) * p1.offset)))) ≤ p2)) = y2 from zj hy14]
   exact zg [] 1 [1,2,5,7,8,41] (zt 41 b15 (zg [] 5 [1,2,5,7,8,9] (zd (j1 (decide (p2 < y1)) h _ _ (zk [1,2,5,7,8,9])))))
  ·refine zr (zv [] 3 [1,2,5,7,8,40] [] [(1, vi p2), (2, vR [.s (.string p1.name), pi p1.offset, pi p1.summer, pi p1.start.month, pi p1.start.week, pi p1.start.weekday, pi p1.start.minute, pi p1.stop.month, pi p1.stop.week, pi p1.stop.weekday, pi p1.stop.minute]), (5, vi (i64.wrap ((60 : Int) * p1.offset))), (7, vi (i64.wrap (r2 - (i64.wrap ((60 : Int) * p1.offset))))), (8, vi y1), (40, vb (decide ((i64.wrap (r2 - (i64.wrap ((60 : Int) * p1.offset)))) ≤ p2)))] [] ?_)
   rw [show (decide ((i64.wrap (r2 - (i64.wrap ((60 : Int) * p1.offset)))) ≤ p2)) = y2 from zj hy14]
   exact zg [] 1 [1,2,5,7,8,41] (zt 41 b15 (zg [] 5 [1,2,5,7,8,9] (zd (j1 false h _ _ (zk [1,2,5,7,8,9])))))
def ref1_Local (p1 : Int) (p2 : ByteArray) : Option (GCivil × Int) :=
    bnd (ref1_zoneOf p2) fun r1 =>
    ift (!r1.2)
      (some ((GCivil.mk (0 : Int) (0 : Int) (0 : Int) (0 : Int) (0 : Int) (0 : Int)), (4 : Int)))
      (bnd (ref1_within p1 (-62135596800 : Int) (253402300799 : Int)) fun r2 =>
       ift (!r2)
         (some ((GCivil.mk (0 : Int) (0 : Int) (0 : Int) (0 : Int) (0 : Int) (0 : Int)), (3 : Int)))
         (bnd (ref1_ahead r1.1 p1) fun r3 =>
          bnd (ref1_civil (i64.wrap (p1 + r3))) fun r4 =>
          some (r4, (0 : Int))))
abbrev qa2493 (r1 : (GZone × Bool)) : List CV := [cst r1.1.name, ci r1.1.offset, ci r1.1.summer, ci r1.1.start.month, ci r1.1.start.week, ci r1.1.start.weekday, ci r1.1.start.minute, ci r1.1.stop.month, ci r1.1.stop.week, ci r1.1.stop.weekday, ci r1.1.stop.minute]
abbrev qa2495 : List CV := [ci 0, ci 0, ci 0, ci 0, ci 0, ci 0]
theorem c_ref1_Local (p1 : Int) (p2 : ByteArray) (r : (GCivil × Int)) (h : ref1_Local p1 p2 = some r) : PC Tryz.prog 40 [vi p1, vs p2] (.tp [.ag [ci r.1.year, ci r.1.month, ci r.1.day, ci r.1.hour, ci r.1.minute, ci r.1.second], vi r.2]) := by
 unfold ref1_Local at h
 refine zF 26 Tryz.f40 (zq fun K1 m1 => zr (zg [4, 6] 2 [0,1,4] (zd (m1 _ _ (zq fun K2 m2 => ?_)))))
 obtain ⟨r1, c3, h⟩ := zB h
 refine zr (zg [4, 6] 1 [0,4,9] ?_)
 refine zl 79 [vs p2] (.tp [.ag (qa2493 r1), vb r1.2]) [(10, .tp [.ag (qa2493 r1), vb r1.2]), (0, vi p1), (4, vq 0), (9, vs p2)] (c_ref1_zoneOf _ _ c3) (zg [4, 6] 6 [0,4,6,7] ?_)
 refine zd (m2 _ _ (zq fun K4 m4 => zq fun K5 m5 => zr (zg [4, 6] 2 [0,4,6,14] (zd (m5 _ _ ?_)))))
 refine zC h (fun b6 h => ?_) (fun b6 h => ?_)
 ·refine zq fun K7 m7 => zr (zv [4, 6] 3 [4,5] [] [(4, vq 0), (5, vi 4)] [.box qa2495, .box (qa2493 r1)] (zd (m7 _ _ (ze ?_))))
  obtain rfl := zj h
  exact zf [.ag qa2495, vi 4] (.tpc (.ag (.cons (.rfl _ rfl) (.cons (.rfl _ rfl) (.cons (.rfl _ rfl) (.cons (.rfl _ rfl) (.cons (.rfl _ rfl) (.cons (.rfl _ rfl) .nil))))))) (.tpc (.one (.rfl _ rfl)) (.tp0)))
 ·refine zs (m4 _ _ (zq fun K8 m8 => zq fun K9 m9 => ?_))
  obtain ⟨r2, c10, h⟩ := zB h
  refine zr (zg [4, 6] 1 [0,4,6,16] (za (c_ref1_within _ _ _ _ c10) (zv [4, 6] 1 [0,4,6,18] [] [(0, vi p1), (4, vq 0), (6, vq 1), (18, vb (!r2))] [.box qa2495, .box (qa2493 r1)] (zd (m9 _ _ (zC h (fun b11 h => ?_) (fun b11 h => ?_)))))))
  ·refine zq fun K12 m12 => zr (zg [4, 6] 3 [4,5] (zd (m12 _ _ (ze ?_))))
   obtain rfl := zj h
   exact zf [.ag qa2495, vi 3] (.tpc (.ag (.cons (.rfl _ rfl) (.cons (.rfl _ rfl) (.cons (.rfl _ rfl) (.cons (.rfl _ rfl) (.cons (.rfl _ rfl) (.cons (.rfl _ rfl) .nil))))))) (.tpc (.one (.rfl _ rfl)) (.tp0)))
  ·refine zs (m8 _ _ (zq fun K13 m13 => ?_))
   obtain ⟨r3, c14, h⟩ := zB h
   obtain ⟨r4, c15, h⟩ := zB h
   refine zr (zg [4, 6] 3 [4,20,21,22] ?_)
   refine zl 81 [.ag (qa2493 r1), vi p1] (vi r3) [(23, vi r3), (4, vq 0), (20, vi p1), (21, .ag (qa2493 r1)), (22, vi p1)] (c_ref1_ahead _ _ _ c14) (zg [4, 6] 1 [4,24] ?_)
   refine za (c_ref1_civil _ _ c15) (zv [4, 6] 2 [4,5] [] [(4, vq 0), (5, vi 0)] [.box [ci r4.year, ci r4.month, ci r4.day, ci r4.hour, ci r4.minute, ci r4.second], .box (qa2493 r1)] (zd (m13 _ _ (ze ?_))))
   obtain rfl := zj h
   exact zf [.ag [ci r4.year, ci r4.month, ci r4.day, ci r4.hour, ci r4.minute, ci r4.second], vi 0] (.tpc (.ag (.cons (.rfl _ rfl) (.cons (.rfl _ rfl) (.cons (.rfl _ rfl) (.cons (.rfl _ rfl) (.cons (.rfl _ rfl) (.cons (.rfl _ rfl) .nil))))))) (.tpc (.one (.rfl _ rfl)) (.tp0)))
def ref3_Transform_j4 (z4 : Int) : Option GValue :=
    some (GValue.mk (2 : Int) z4 (0 : Int) ByteArray.empty [])
def ref3_Transform_j2 (p2 : GValue) (z2 : ByteArray) : Option GValue :=
    some (GValue.mk p2.kind p2.n p2.scale z2 p2.items)
def ref3_Transform_l1 (p1 : GTransform) (p2 : GValue) : Nat → Nat → Int → Option GValue
  | 0, _, _ => none
  | k1 + 1, z1, x2 =>
    ift (decide (z1 < p2.s.size))
      (ift (x2 == p1.param)
         (grd (0 ≤ (0 : Int) ∧ (0 : Int) ≤ Int.ofNat z1 ∧ Int.ofNat z1 ≤ (p2.s.size : Int)) <|
          ref3_Transform_j2 p2 (p2.s.extract (0 : Int).toNat (Int.ofNat z1).toNat))
         ((ref3_Transform_l1 p1 p2 k1) (z1 + (Utf8.decode p2.s z1).2) (i64.wrap (x2 + (1 : Int)))))
      (ref3_Transform_j2 p2 p2.s)
def ref3_Transform_j3 (p2 : GValue) (z3 : Int) : Option GValue :=
    some (GValue.mk p2.kind z3 p2.scale p2.s p2.items)
def ref3_Transform_j1 (p1 : GTransform) (p2 : GValue) (x1 : Bool) : Option GValue :=
    ift x1
      (some (GValue.mk (0 : Int) (0 : Int) (0 : Int) ByteArray.empty []))
      (bnd (ref3_TransformType p1 (GType.mk p2.kind p2.scale [])) fun r3 =>
       ift (r3.2 != (0 : Int))
         (some (GValue.mk (0 : Int) (0 : Int) (0 : Int) ByteArray.empty []))
         (ift (p1.kind == (0 : Int))
            (some (GValue.mk (0 : Int) (0 : Int) (0 : Int) ByteArray.empty []))
            (ift (p1.kind == (1 : Int))
               (some p2)
               (ift (p1.kind == (2 : Int))
                  (bnd (ref1_Hash p2) fun r4 =>
                   grd ((u64.wrap p1.param) ≠ 0) <|
                   ref3_Transform_j4 (i64.wrap (r4.tmod (u64.wrap p1.param))))
                  (ift (p1.kind == (3 : Int))
                     (ift (p2.kind == (4 : Int))
                        (ref3_Transform_l1 p1 p2 BIG 0 (0 : Int))
                        (bnd (ref3_down p2.n p1.param) fun r5 =>
                         bnd (some (decide ((i64.wrap (p1.param * r5)) < (-999999999999999999 : Int)))) fun y1 =>
                         ift y1
                           (ref3_Transform_j3 p2 (-999999999999999999 : Int))
                           (ref3_Transform_j3 p2 (i64.wrap (p1.param * r5)))))
                     (ift (p1.kind == (6 : Int))
                        (bnd (ref3_down p2.n (86400 : Int)) fun r6 =>
                         ref3_Transform_j4 r6)
                        (ift (p1.kind == (7 : Int))
                           (bnd (ref3_down p2.n (3600 : Int)) fun r7 =>
                            ref3_Transform_j4 r7)
                           (bnd (ref1_Local p2.n (ByteArray.mk #[117, 116, 99])) fun r8 =>
                            ift (p1.kind == (5 : Int))
                              (bnd (some (i64.wrap ((12 : Int) * (i64.wrap (r8.1.year - (1970 : Int)))))) fun y2 =>
                               ref3_Transform_j4 (i64.wrap ((i64.wrap (y2 + r8.1.month)) - (1 : Int))))
                              (ref3_Transform_j4 (i64.wrap (r8.1.year - (1970 : Int))))))))))))
def ref3_Transform (p1 : GTransform) (p2 : GValue) : Option GValue :=
    ift (p2.kind == (0 : Int))
      (ref3_Transform_j1 p1 p2 true)
      (bnd (ref1_Sound p2) fun r1 =>
       ift (!r1)
         (ref3_Transform_j1 p1 p2 true)
         (bnd (ref1_Leaf p2.kind) fun r2 =>
          ref3_Transform_j1 p1 p2 (!r2)))
abbrev qa2504 (p2 : GValue) : List CV := [ci p2.kind, ci p2.n, ci p2.scale, cst p2.s, cl eValue p2.items]
abbrev qa2506 (p1 : GTransform) : List PV := [pi p1.kind, pi p1.param]
abbrev qa2507 : List CV := [ci 0, ci 0, ci 0, cst ByteArray.empty, .pv (.s (.slice none 0 0))]
abbrev qa2509 (r3 : (GType × Int)) : List CV := [ci r3.1.kind, ci r3.1.scale, cl eField r3.1.fields]
abbrev qa2510 : List CV := [ci 2, ci 0, ci 0, cst ByteArray.empty, .pv (.s (.slice none 0 0))]
abbrev qa2511 : Fr := [(4, vq 1), (7, vq 3)]
abbrev qa2512 (z4 : Int) : List CV := [ci 2, ci z4, ci 0, cst ByteArray.empty, .pv (.s (.slice none 0 0))]
abbrev qa2514 : Fr := [(3, vq 0), (4, vq 1)]
abbrev qa2522 (p2 : GValue) : St := [.box (qa2504 p2), .box qa2507]
abbrev qa2527 (p2 : GValue) (r3 : (GType × Int)) : St := [.box (qa2504 p2), .box qa2507, .box (qa2509 r3), .box qa2510]
abbrev qa2530 (p1 : GTransform) (p2 : GValue) (r4 : Int) : Fr := [(77, vk .u64 (u64.wrap p1.param)), (76, vi p1.param), (75, .one (.pv (.rp [(qa2506 p1)] 0 1))), (74, vk .u64 r4), (73, .ag (qa2504 p2)), (2, vR (qa2506 p1)), (3, vq 0), (4, vq 1), (7, vq 3), (42, vi p1.kind), (71, vb (p1.kind == (2 : Int)))]
theorem c_ref3_Transform (p1 : GTransform) (p2 : GValue) (r : GValue) (h : ref3_Transform p1 p2 = some r) : PC Tryz.prog 13 [.ag [ci p1.kind, ci p1.param], .ag (qa2504 p2)] (.ag [ci r.kind, ci r.n, ci r.scale, cst r.s, cl eValue r.items]) := by
 unfold ref3_Transform at h
 refine zF 131 Tryz.f13 (zq fun K1 m1 => zr (zg [3, 4, 5, 7, 10] 3 [2,3,4] (zd (m1 _ _ (zq fun K2 m2 => zq fun K3 m3 => ?_)))))
 have j1 : ∀ (x1 : Bool), ref3_Transform_j1 p1 p2 x1 = some r → ∀ w0 w1, Sub 131 0 [] w0 w1 [(2, vR (qa2506 p1)), (3, vq 0), (4, vq 1), (25, vb x1)] (qa2522 p2) → K3 w0 w1 := by
  intro x1 h w0 w1 hS
  unfold ref3_Transform_j1 at h
  refine m3 _ _ (XW.sub hS ?_)
  refine zC h (fun b8 h => ?_) (fun b8 h => ?_)
  ·refine zq fun K9 m9 => zr (zg [3, 4, 5, 7, 10] 2 [4] (zd (m9 _ _ (ze ?_))))
   obtain rfl := zj h
   exact zf [.ag qa2507] (.ag (.cons (.rfl _ rfl) (.cons (.rfl _ rfl) (.cons (.rfl _ rfl) (.cons (.rfl _ rfl) (.cons (.nl) .nil))))))
  ·refine zs (m2 _ _ (zq fun K10 m10 => zq fun K11 m11 => ?_))
   obtain ⟨r3, c12, h⟩ := zB h
   refine zr (zu [3, 4, 5, 7, 10] 6 [2,3,4,28,33] [(qa2506 p1)] ?_)
   refine zl 8 [.ag [ci p1.kind, ci p1.param], .ag [ci p2.kind, ci p2.scale, .pv (.s (.slice none 0 0))]] (.tp [.ag (qa2509 r3), vi r3.2]) [(34, .tp [.ag (qa2509 r3), vi r3.2]), (2, vR (qa2506 p1)), (3, vq 0), (4, vq 1), (28, .ag [ci p1.kind, ci p1.param]), (33, .ag [ci p2.kind, ci p2.scale, .pv (.s (.slice none 0 0))])] (PC.le (c_ref3_TransformType _ _ _ c12) ⟨.rfl _, ALe.agc ⟨.rfl _, .rfl _, .nl, trivial⟩, trivial⟩) ?_
   refine zv [3, 4, 5, 7, 10] 6 [2,3,4,6] [] [(2, vR (qa2506 p1)), (3, vq 0), (4, vq 1), (6, vi r3.2)] [.box (qa2504 p2), .box qa2507, .box (qa2509 r3)] (zd (m11 _ _ (zq fun K13 m13 => zr (zg [3, 4, 5, 7, 10] 2 [2,3,4,38] (zd (m13 _ _ ?_))))))
   refine zC h (fun b14 h => ?_) (fun b14 h => ?_)
   ·refine zq fun K15 m15 => zr (zg [3, 4, 5, 7, 10] 2 [4] (zd (m15 _ _ (ze ?_))))
    obtain rfl := zj h
    exact zf [.ag qa2507] (.ag (.cons (.rfl _ rfl) (.cons (.rfl _ rfl) (.cons (.rfl _ rfl) (.cons (.rfl _ rfl) (.cons (.nl) .nil))))))
   ·refine zs (m10 _ _ (zq fun K16 m16 => zr (zv [3, 4, 5, 7, 10] 3 [2,3,4,7] [] [(2, vR (qa2506 p1)), (3, vq 0), (4, vq 1), (7, vq 3)] (qa2527 p2 r3) (zd (m16 _ _ (zq fun K17 m17 => ?_))))))
    have j4 : ∀ (z4 : Int), ref3_Transform_j4 z4 = some r → ∀ w0 w1, Sub 131 0 [] w0 w1 qa2511 [.box (qa2504 p2), .box qa2507, .box (qa2509 r3), .box (qa2512 z4)] → K17 w0 w1 := by
     intro z4 h w0 w1 hS
     unfold ref3_Transform_j4 at h
     refine m17 _ _ (XW.sub hS ?_)
     refine zq fun K67 m67 => zr (zg [3, 4, 5, 7, 10] 2 [4] (zd (m67 _ _ (ze ?_))))
     obtain rfl := zj h
     exact zf [.ag (qa2512 z4)] (.ag (.cons (.rfl _ rfl) (.cons (.rfl _ rfl) (.cons (.rfl _ rfl) (.cons (.rfl _ rfl) (.cons (.nl) .nil))))))
    refine zq fun K18 m18 => zr (zu [3, 4, 5, 7, 10] 2 [2,3,4,7,42] [(qa2506 p1)] (zd (m18 _ _ (zb 0 (zq fun K19 m19 => zr ?_)))))
    refine zg [3, 4, 5, 7, 10] 2 [2,3,4,7,42,65] (zd (m19 _ _ (zC h (fun b20 h => ?_) (fun b20 h => ?_))))
    ·refine zq fun K21 m21 => zr (zv [3, 4, 5, 7, 10] 2 [4] [] [(4, vq 1)] (qa2527 p2 r3) (zd (m21 _ _ (ze ?_))))
     obtain rfl := zj h
     exact zf [.ag qa2507] (.ag (.cons (.rfl _ rfl) (.cons (.rfl _ rfl) (.cons (.rfl _ rfl) (.cons (.rfl _ rfl) (.cons (.nl) .nil))))))
    ·refine zq fun K22 m22 => zr (zg [3, 4, 5, 7, 10] 2 [2,3,4,7,42,68] (zd (m22 _ _ (zC h (fun b23 h => ?_) (fun b23 h => ?_)))))
     ·refine zq fun K24 m24 => zr (zg [3, 4, 5, 7, 10] 2 [4] (zd (m24 _ _ (ze ?_))))
      obtain rfl := zj h
      exact zf [.ag (qa2504 p2)] (.ag (.cons (.rfl _ rfl) (.cons (.rfl _ rfl) (.cons (.rfl _ rfl) (.cons (.rfl _ rfl) (.cons (.rfl _ rfl) .nil))))))
     ·refine zq fun K25 m25 => zr (zv [3, 4, 5, 7, 10] 2 [2,3,4,7,42,71] [] [(2, vR (qa2506 p1)), (3, vq 0), (4, vq 1), (7, vq 3), (42, vi p1.kind), (71, vb (p1.kind == (2 : Int)))] (qa2527 p2 r3) (zd (m25 _ _ ?_)))
      refine zC h (fun b26 h => ?_) (fun b26 h => ?_)
      ·obtain ⟨r4, c27, h⟩ := zB h
       obtain ⟨g28, h⟩ := zG h
       refine zw 5 (qa2530 p1 p2 r4) ?_ ?_
       ·exact zyg 1 (zya (c_ref1_Hash _ _ c27) (zyv 3 [(qa2506 p1)] (qa2530 p1 p2 r4) zyd))
       exact zo [3, 4, 5, 7, 10] 4 [4,7] [] [(u64.wrap p1.param) ≠ 0] (⟨g28, trivial⟩) (zd (j4 (i64.wrap (r4.tmod (u64.wrap p1.param))) h _ _ (zk [4,7])))
      ·refine zq fun K29 m29 => zr (zg [3, 4, 5, 7, 10] 2 [2,3,4,7,42,81] (zd (m29 _ _ (zC h (fun b30 h => ?_) (fun b30 h => ?_)))))
       ·refine zq fun K31 m31 => zq fun K32 m32 => zr (zv [3, 4, 5, 7, 10] 3 [2,3,4,85] [] [(2, vR (qa2506 p1)), (3, vq 0), (4, vq 1), (85, vb (p2.kind == (4 : Int)))] (qa2527 p2 r3) (zd (m32 _ _ ?_)))
        refine zC h (fun b33 h => ?_) (fun b33 h => ?_)
        ·refine zq fun K34 m34 => zr (zg [3, 4, 5, 7, 10] 1 [2,3,4,8] (zd (m34 _ _ (zq fun K35 m35 => ?_))))
         have j2 : ∀ (z2 : ByteArray), ref3_Transform_j2 p2 z2 = some r → ∀ w0 w1, Sub 131 0 [] w0 w1 qa2514 [.box [ci p2.kind, ci p2.n, ci p2.scale, cst z2, cl eValue p2.items], .box qa2507, .box (qa2509 r3), .box qa2510] → K35 w0 w1 := by
          intro z2 h w0 w1 hS
          unfold ref3_Transform_j2 at h
          refine m35 _ _ (XW.sub hS ?_)
          refine zq fun K47 m47 => zr (zg [3, 4, 5, 7, 10] 2 [4] (zd (m47 _ _ (ze ?_))))
          obtain rfl := zj h
          exact zf [.ag [ci p2.kind, ci p2.n, ci p2.scale, cst z2, cl eValue p2.items]] (.ag (.cons (.rfl _ rfl) (.cons (.rfl _ rfl) (.cons (.rfl _ rfl) (.cons (.rfl _ rfl) (.cons (.rfl _ rfl) .nil))))))
         refine zq fun K36 m36 => zr (zv [3, 4, 5, 7, 10] 2 [2,3,4,8,87] [] [(2, vR (qa2506 p1)), (3, vq 0), (4, vq 1), (8, vi 0), (87, vs p2.s)] (qa2527 p2 r3) ?_)
         refine XO.rng p2.s [(88, vq 4), (2, vR (qa2506 p1)), (3, vq 0), (4, vq 1), (8, vi 0), (87, vs p2.s)] [.box (qa2504 p2), .box qa2507, .box (qa2509 r3), .box qa2510, .raw (.stringIter p2.s 0)] (by kernel_rfl) (by kernel_rfl) (by kernel_rfl) (zd ?_)
         refine m36 _ _ (zb 1 (XW.rounds' BIG (x := cd Tryz.f13 [1,1,1,1,0,1,0,1,1,1,1,1,1,1,0,0,1,0,1,0,1,0,0]) (by kernel_rfl) fun Q1 hQ1 => ?_))
         have hL1 : ∀ (k1 : Nat) (z1 : Nat) (x2 : Int), ref3_Transform_l1 p1 p2 k1 z1 x2 = some r → XR Tryz.prog 131 0 [] (cd Tryz.f13 [1,1,1,1,0,1,0,1,1,1,1,1,1,1,0,0,1,0,1,0,1,0,0]) Q1 k1 [(2, vR (qa2506 p1)), (3, vq 0), (4, vq 1), (8, vi x2), (88, vq 4)] [.box (qa2504 p2), .box qa2507, .box (qa2509 r3), .box qa2510, .raw (.stringIter p2.s z1)] := by
          intro k1
          induction k1 with
          | zero => intro z1 x2 h; rw [ref3_Transform_l1.eq_1] at h; cases h
          | succ k1 ih1 =>
           intro z1 x2 h
           rw [ref3_Transform_l1.eq_2] at h
           refine zq fun K37 m37 => ?_
           rcases zW h with ⟨b38, h⟩ | ⟨b38, h⟩
           ·refine zr ?_
            refine XO.nxt 4 p2.s z1 [(89, .tp [vb true, vi (Int.ofNat z1), vk .i32 (Int.ofNat (Utf8.decode p2.s z1).1)]), (2, vR (qa2506 p1)), (3, vq 0), (4, vq 1), (8, vi x2), (88, vq 4)] [.box (qa2504 p2), .box qa2507, .box (qa2509 r3), .box qa2510, .raw (.stringIter p2.s (z1 + (Utf8.decode p2.s z1).2))] (by kernel_rfl) (by kernel_rfl) (by kernel_rfl) (by kernel_rfl) b38 ?_
            refine zg [3, 4, 5, 7, 10] 1 [2,3,4,8,88,89,90] (zd (m37 _ _ (zq fun K39 m39 => zc true (fun _ => ?_) (fun hx => by cases hx))))
            refine zs (m39 _ _ (zb 2 (zq fun K40 m40 => zr (zg [3, 4, 5, 7, 10] 2 [2,3,4,8,9,88] (zd (m40 _ _ ?_))))))
            refine zq fun K41 m41 => zq fun K42 m42 => zr ?_
            refine zv [3, 4, 5, 7, 10] 4 [2,3,4,8,9,88,95] [(qa2506 p1)] [(2, vR (qa2506 p1)), (3, vq 0), (4, vq 1), (8, vi x2), (9, vi (Int.ofNat z1)), (88, vq 4), (95, vb (x2 == p1.param))] [.box (qa2504 p2), .box qa2507, .box (qa2509 r3), .box qa2510, .raw (.stringIter p2.s (z1 + (Utf8.decode p2.s z1).2))] ?_
            refine zd (m42 _ _ (zC h (fun b43 h => ?_) (fun b43 h => ?_)))
            ·refine zq fun K44 m44 => ?_
             obtain ⟨g45, h⟩ := zG h
             exact zr (zo [3, 4, 5, 7, 10] 6 [3,4] [] [0 ≤ (0 : Int) ∧ (0 : Int) ≤ Int.ofNat z1 ∧ Int.ofNat z1 ≤ (p2.s.size : Int)] (⟨g45, trivial⟩) (zd (m44 _ _ (zx 1 (hQ1 _ _ _ (j2 (p2.s.extract (0 : Int).toNat (Int.ofNat z1).toNat) h _ _ (Sub.trans (Sub.pick (fr' := qa2514) [3,4] (by kernel_rfl)) (Sub.take (fr' := qa2514) 4 (Nat.zero_le _) (by kernel_rfl) (by kernel_rfl)))))))))
            ·exact zs (m41 _ _ (zr (zg [3, 4, 5, 7, 10] 3 [2,3,4,8,88] (zd (XR.sub (zk [2,3,4,8,88]) (ih1 (z1 + (Utf8.decode p2.s z1).2) (i64.wrap (x2 + (1 : Int))) h))))))
           ·refine zr (XO.nxtE 4 p2.s z1 [(89, .tp [vb false]), (2, vR (qa2506 p1)), (3, vq 0), (4, vq 1), (8, vi x2), (88, vq 4)] (by kernel_rfl) (by kernel_rfl) (by kernel_rfl) b38 (zg [3, 4, 5, 7, 10] 1 [2,3,4,8,88,89,90] (zd (m37 _ _ (zq fun K46 m46 => zc false (fun hx => by cases hx) (fun _ => ?_))))))
            exact zx 1 (hQ1 _ _ _ (j2 p2.s h _ _ (Sub.trans (Sub.pick (fr' := qa2514) [3,4] (by kernel_rfl)) (Sub.take (fr' := qa2514) 4 (Nat.zero_le _) (by kernel_rfl) (by kernel_rfl)))))
         exact XR.sub (zk [2,3,4,8,88]) (hL1 BIG 0 (0 : Int) h)
        ·refine zs (m31 _ _ (zq fun K48 m48 => ?_))
         obtain ⟨r5, c49, h⟩ := zB h
         refine zw 7 [(110, vi r5), (109, vi p1.param), (108, .one (.pv (.rp [(qa2506 p1)] 0 1))), (107, vi p2.n), (106, .one (.pt 0 0 0 1)), (105, vi p1.param), (104, .one (.pv (.rp [(qa2506 p1)] 0 1))), (2, vR (qa2506 p1)), (3, vq 0), (4, vq 1), (85, vb (p2.kind == (4 : Int)))] ?_ ?_
         ·exact zyu 6 [(qa2506 p1), (qa2506 p1)] (zya (c_ref3_down _ _ _ c49) zyd)
         refine zg [3, 4, 5, 7, 10] 3 [3,4] (zd (m48 _ _ (zq fun K50 m50 => ?_)))
         have j3 : ∀ (z3 : Int), ref3_Transform_j3 p2 z3 = some r → ∀ w0 w1, Sub 131 0 [] w0 w1 qa2514 [.box [ci p2.kind, ci z3, ci p2.scale, cst p2.s, cl eValue p2.items], .box qa2507, .box (qa2509 r3), .box qa2510] → K50 w0 w1 := by
          intro z3 h w0 w1 hS
          unfold ref3_Transform_j3 at h
          refine m50 _ _ (XW.sub hS ?_)
          refine zq fun K54 m54 => zr (zg [3, 4, 5, 7, 10] 2 [4] (zd (m54 _ _ (ze ?_))))
          obtain rfl := zj h
          exact zf [.ag [ci p2.kind, ci z3, ci p2.scale, cst p2.s, cl eValue p2.items]] (.ag (.cons (.rfl _ rfl) (.cons (.rfl _ rfl) (.cons (.rfl _ rfl) (.cons (.rfl _ rfl) (.cons (.rfl _ rfl) .nil))))))
         refine zq fun K51 m51 => ?_
         obtain ⟨y1, hy52, h⟩ := zB h
         refine zr (zv [3, 4, 5, 7, 10] 3 [3,4,115] [] [(3, vq 0), (4, vq 1), (115, vb (decide ((i64.wrap (p1.param * r5)) < (-999999999999999999 : Int))))] [.box [ci p2.kind, ci (i64.wrap (p1.param * r5)), ci p2.scale, cst p2.s, cl eValue p2.items], .box [ci 0, ci 0, ci 0, cst ByteArray.empty, .pv (.s (.slice none 0 0))], .box [ci r3.1.kind, ci r3.1.scale, cl eField r3.1.fields], .box [ci 2, ci 0, ci 0, cst ByteArray.empty, .pv (.s (.slice none 0 0))]] ?_)
         rw [show (decide ((i64.wrap (p1.param * r5)) < (-999999999999999999 : Int))) = y1 from zj hy52]
         refine zd (m51 _ _ (zC h (fun b53 h => ?_) (fun b53 h => ?_)))
         ·exact zr (zg [3, 4, 5, 7, 10] 2 [3,4] (zd (j3 (-999999999999999999 : Int) h _ _ (zk [3,4]))))
         ·exact zs (j3 (i64.wrap (p1.param * r5)) h _ _ (zk [3,4]))
       ·refine zq fun K55 m55 => zr (zg [3, 4, 5, 7, 10] 2 [2,3,4,7,42,118] (zd (m55 _ _ (zC h (fun b56 h => ?_) (fun b56 h => ?_)))))
        ·obtain ⟨r6, c57, h⟩ := zB h
         exact zr (zg [3, 4, 5, 7, 10] 2 [4,7,121] (zl 39 [vi p2.n, vi 86400] (vi r6) [(122, vi r6), (4, vq 1), (7, vq 3), (121, vi p2.n)] (c_ref3_down _ _ _ c57) (zg [3, 4, 5, 7, 10] 2 [4,7] (zd (j4 r6 h _ _ (zk [4,7]))))))
        ·refine zq fun K58 m58 => zr (zg [3, 4, 5, 7, 10] 2 [2,3,4,7,124] (zd (m58 _ _ (zC h (fun b59 h => ?_) (fun b59 h => ?_)))))
         ·obtain ⟨r7, c60, h⟩ := zB h
          exact zr (zv [3, 4, 5, 7, 10] 2 [4,7,127] [] [(4, vq 1), (7, vq 3), (127, vi p2.n)] (qa2527 p2 r3) (za (c_ref3_down _ _ _ c60) (zg [3, 4, 5, 7, 10] 2 [4,7] (zd (j4 r7 h _ _ (zk [4,7]))))))
         ·refine zq fun K61 m61 => ?_
          obtain ⟨r8, c62, h⟩ := zB h
          refine zr (zv [3, 4, 5, 7, 10] 2 [2,4,7,45] [] [(2, vR (qa2506 p1)), (4, vq 1), (7, vq 3), (45, vi p2.n)] (qa2527 p2 r3) (za (c_ref1_Local _ _ _ c62) (zg [3, 4, 5, 7, 10] 6 [2,4,7,10] (zd (m61 _ _ (zq fun K63 m63 => zr ?_))))))
          refine zv [3, 4, 5, 7, 10] 5 [2,4,7,10] [] [(2, vR (qa2506 p1)), (4, vq 1), (7, vq 3), (10, vq 4)] [.box (qa2504 p2), .box qa2507, .box (qa2509 r3), .box [ci 2, ci (i64.wrap (r8.1.year - (1970 : Int))), ci 0, cst ByteArray.empty, .pv (.s (.slice none 0 0))], .box [ci r8.1.year, ci r8.1.month, ci r8.1.day, ci r8.1.hour, ci r8.1.minute, ci r8.1.second]] ?_
          refine zd (m63 _ _ (zq fun K64 m64 => zr (zu [3, 4, 5, 7, 10] 3 [4,7,10,55] [(qa2506 p1)] (zd (m64 _ _ (zC h (fun b65 h => ?_) (fun b65 h => ?_)))))))
          ·obtain ⟨y2, hy66, h⟩ := zB h
           refine zr ?_
           refine zv [3, 4, 5, 7, 10] 4 [4,7,10,59] [] [(4, vq 1), (7, vq 3), (10, vq 4), (59, vi (i64.wrap ((12 : Int) * (i64.wrap (r8.1.year - (1970 : Int))))))] [.box [ci p2.kind, ci p2.n, ci p2.scale, cst p2.s, cl eValue p2.items], .box [ci 0, ci 0, ci 0, cst ByteArray.empty, .pv (.s (.slice none 0 0))], .box [ci r3.1.kind, ci r3.1.scale, cl eField r3.1.fields], .box [ci 2, ci (i64.wrap (r8.1.year - (1970 : Int))), ci 0, cst ByteArray.empty, .pv (.s (.slice none 0 0))], .box [ci r8.1.year, ci r8.1.month, ci r8.1.day, ci r8.1.hour, ci r8.1.minute, ci r8.1.second]] ?_
           rw [show (i64.wrap ((12 : Int) * (i64.wrap (r8.1.year - (1970 : Int))))) = y2 from zj hy66]
           exact zg [3, 4, 5, 7, 10] 6 [4,7] (zd (j4 (i64.wrap ((i64.wrap (y2 + r8.1.month)) - (1 : Int))) h _ _ (Sub.trans (Sub.pick (fr' := qa2511) [4,7] (by kernel_rfl)) (Sub.take (fr' := qa2511) 4 (Nat.zero_le _) (by kernel_rfl) (by kernel_rfl)))))
          ·exact zs (j4 (i64.wrap (r8.1.year - (1970 : Int))) h _ _ (Sub.trans (Sub.pick (fr' := qa2511) [4,7] (by kernel_rfl)) (Sub.take (fr' := qa2511) 4 (Nat.zero_le _) (by kernel_rfl) (by kernel_rfl))))
 rcases zW h with ⟨b4, h⟩ | ⟨b4, h⟩
 ·exact zr (zg [3, 4, 5, 7, 10] 4 [2,3,4,15] (zt 15 b4 (zv [3, 4, 5, 7, 10] 10 [2,3,4,25] [] [(2, vR (qa2506 p1)), (3, vq 0), (4, vq 1), (25, vb true)] (qa2522 p2) (zd (j1 true h _ _ (zk [2,3,4,25]))))))
 ·obtain ⟨r1, c5, h⟩ := zB h
  rcases zW h with ⟨b6, h⟩ | ⟨b6, h⟩
  ·refine zr (zg [3, 4, 5, 7, 10] 4 [2,3,4,15] (zt 15 b4 (zg [3, 4, 5, 7, 10] 1 [2,3,4,15,16] (zl 37 [.ag (qa2504 p2)] (vb r1) [(17, vb r1), (2, vR (qa2506 p1)), (3, vq 0), (4, vq 1), (15, vb false), (16, .ag (qa2504 p2))] (c_ref1_Sound _ _ c5) (zg [3, 4, 5, 7, 10] 3 [2,3,4,20] (zt 20 b6 (zg [3, 4, 5, 7, 10] 5 [2,3,4,25] ?_)))))))
   exact zd (j1 true h _ _ (zk [2,3,4,25]))
  ·obtain ⟨r2, c7, h⟩ := zB h
   refine zr (zv [3, 4, 5, 7, 10] 4 [2,3,4,15] [] [(2, vR (qa2506 p1)), (3, vq 0), (4, vq 1), (15, vb (p2.kind == (0 : Int)))] (qa2522 p2) (zt 15 b4 (zg [3, 4, 5, 7, 10] 1 [2,3,4,15,16] (za (c_ref1_Sound _ _ c5) ?_))))
   refine zv [3, 4, 5, 7, 10] 3 [2,3,4,20] [] [(2, vR (qa2506 p1)), (3, vq 0), (4, vq 1), (20, vb (!r1))] (qa2522 p2) (zt 20 b6 (zg [3, 4, 5, 7, 10] 2 [2,3,4,20,22] (za (c_ref1_Leaf _ _ c7) ?_)))
   exact zv [3, 4, 5, 7, 10] 2 [2,3,4,25] [] [(2, vR (qa2506 p1)), (3, vq 0), (4, vq 1), (25, vb (!r2))] (qa2522 p2) (zd (j1 (!r2) h _ _ (zk [2,3,4,25])))
def ref1_order (p1 : Int) (p2 : Int) : Option Int :=
    ift (decide (p1 < p2))
      (some (-1 : Int))
      (ift (decide (p2 < p1))
         (some (1 : Int))
         (some (0 : Int)))
theorem c_ref1_order (p1 : Int) (p2 : Int) (r : Int) (h : ref1_order p1 p2 = some r) : PC Tryz.prog 34 [vi p1, vi p2] (vi r) := by
 unfold ref1_order at h
 refine zF 11 Tryz.f34 (zq fun K1 m1 => zr (zg [] 1 [0,1] (zd (m1 _ _ (zq fun K2 m2 => zq fun K3 m3 => ?_)))))
 refine zr (zg [] 3 [0,1,7] (zd (m3 _ _ (zC h (fun b4 h => ?_) (fun b4 h => ?_)))))
 ·refine zq fun K5 m5 => zr (zv [] 1 [4] [] [(4, vi (-1))] [] (zd (m5 _ _ (ze ?_))))
  obtain rfl := zj h
  exact zf [vi (-1)] (.one (.rfl _ rfl))
 ·refine zs (m2 _ _ (zq fun K6 m6 => zq fun K7 m7 => zr (zg [] 3 [10] (zd (m7 _ _ ?_)))))
  refine zC h (fun b8 h => ?_) (fun b8 h => ?_)
  ·refine zq fun K9 m9 => zr (zg [] 1 [4] (zd (m9 _ _ (ze ?_))))
   obtain rfl := zj h
   exact zf [vi 1] (.one (.rfl _ rfl))
  ·refine zs (m6 _ _ (zq fun K10 m10 => zr (zv [] 1 [4] [] [(4, vi 0)] [] (zd (m10 _ _ (ze ?_))))))
   obtain rfl := zj h
   exact zf [vi 0] (.one (.rfl _ rfl))
def ref1_compareWide_j1 (x1 : Int) : Option Int :=
    ift (decide (x1 < (0 : Int)))
      (some (-1 : Int))
      (ift (decide ((0 : Int) < x1))
         (some (1 : Int))
         (some (0 : Int)))
def ref1_compareWide (p1 : RWide) (p2 : RWide) : Option Int :=
    ift (!(p1.below == p2.below))
      (ift p1.below
         (some (-1 : Int))
         (some (1 : Int)))
      (bnd (ref1_most p1.d p2.d) fun r1 =>
       ift p1.below
         (ref1_compareWide_j1 (i64.wrap (0 - r1)))
         (ref1_compareWide_j1 r1))
abbrev qa2556 (p1 : RWide) : List PV := [.s (.bool p1.below), .ro (eI.els p1.d)]
theorem c_ref1_compareWide (p1 : RWide) (p2 : RWide) (r : Int) (h : ref1_compareWide p1 p2 = some r) : PC Tryz.prog 74 [.ag [cb p1.below, cl eI p1.d], .ag [cb p2.below, cl eI p2.d]] (vi r) := by
 unfold ref1_compareWide at h
 refine zF 26 Tryz.f74 (zq fun K1 m1 => zr (zg [] 3 [2,3] (zd (m1 _ _ (zq fun K2 m2 => zq fun K3 m3 => ?_)))))
 refine zr (zu [] 5 [2,3,10] [(qa2556 p1), [.s (.bool p2.below), .ro (eI.els p2.d)]] (zd (m3 _ _ (zC h (fun b4 h => ?_) (fun b4 h => ?_)))))
 ·refine zq fun K5 m5 => zq fun K6 m6 => zr (zv [] 2 [12] [(qa2556 p1)] [(12, vb p1.below)] [] (zd (m6 _ _ (zC h (fun b7 h => ?_) (fun b7 h => ?_)))))
  ·refine zq fun K8 m8 => zr (zg [] 1 [4] (zd (m8 _ _ (ze ?_))))
   obtain rfl := zj h
   exact zf [vi (-1)] (.one (.rfl _ rfl))
  ·refine zs (m5 _ _ (zq fun K9 m9 => zr (zg [] 1 [4] (zd (m9 _ _ (ze ?_))))))
   obtain rfl := zj h
   exact zf [vi 1] (.one (.rfl _ rfl))
 ·refine zs (m2 _ _ (zq fun K10 m10 => ?_))
  obtain ⟨r1, c11, h⟩ := zB h
  refine zr (zu [] 4 [2,14,16] [(qa2556 p1), [.s (.bool p2.below), .ro (eI.els p2.d)]] (za (c_ref1_most _ _ _ c11) (zv [] 1 [2,5] [] [(2, vR (qa2556 p1)), (5, vi r1)] [] (zd (m10 _ _ (zq fun K12 m12 => ?_))))))
  have j1 : ∀ (x1 : Int), ref1_compareWide_j1 x1 = some r → ∀ w0 w1, Sub 26 0 [] w0 w1 [(5, vi x1)] [] → K12 w0 w1 := by
   intro x1 h w0 w1 hS
   unfold ref1_compareWide_j1 at h
   refine m12 _ _ (XW.sub hS ?_)
   refine zq fun K15 m15 => zq fun K16 m16 => zr (zg [] 2 [5,23] (zd (m16 _ _ (zC h (fun b17 h => ?_) (fun b17 h => ?_)))))
   ·refine zq fun K18 m18 => zr (zg [] 1 [4] (zd (m18 _ _ (ze ?_))))
    obtain rfl := zj h
    exact zf [vi (-1)] (.one (.rfl _ rfl))
   ·refine zs (m15 _ _ (zq fun K19 m19 => zq fun K20 m20 => zr (zv [] 2 [25] [] [(25, vb (decide ((0 : Int) < x1)))] [] (zd (m20 _ _ ?_)))))
    refine zC h (fun b21 h => ?_) (fun b21 h => ?_)
    ·refine zq fun K22 m22 => zr (zg [] 1 [4] (zd (m22 _ _ (ze ?_))))
     obtain rfl := zj h
     exact zf [vi 1] (.one (.rfl _ rfl))
    ·refine zs (m19 _ _ (zq fun K23 m23 => zr (zg [] 1 [4] (zd (m23 _ _ (ze ?_))))))
     obtain rfl := zj h
     exact zf [vi 0] (.one (.rfl _ rfl))
  refine zq fun K13 m13 => zr (zu [] 2 [5,19] [(qa2556 p1)] (zd (m13 _ _ (zC h (fun b14 h => ?_) (fun b14 h => ?_)))))
  ·exact zr (zg [] 3 [5] (zd (j1 (i64.wrap (0 - r1)) h _ _ (zk [5]))))
  ·exact zs (j1 r1 h _ _ (zk [5]))
def ref1_decimals (p1 : GValue) (p2 : GValue) : Option Int :=
    bnd (ref1_within p1.scale (0 : Int) (12 : Int)) fun r1 =>
    bnd (ref1_within p2.scale (0 : Int) (12 : Int)) fun r2 =>
    ift (!(r1 == r2))
      (ift r1
         (some (-1 : Int))
         (some (1 : Int)))
      (ift r1
         (bnd (ref1_twelve p1) fun r3 =>
          bnd (ref1_twelve p2) fun r4 =>
          bnd (ref1_compareWide r3 r4) fun r5 =>
          ift (r5 != (0 : Int))
            (some r5)
            (bnd (ref1_order p1.scale p2.scale) fun r6 =>
             some r6))
         (ift (p1.n != p2.n)
            (bnd (ref1_order p1.n p2.n) fun r7 =>
             some r7)
            (bnd (ref1_order p1.scale p2.scale) fun r8 =>
             some r8)))
abbrev qa2562 (p1 : GValue) : List CV := [ci p1.kind, ci p1.n, ci p1.scale, cst p1.s, cl eValue p1.items]
abbrev qa2563 (p2 : GValue) : List CV := [ci p2.kind, ci p2.n, ci p2.scale, cst p2.s, cl eValue p2.items]
abbrev qa2564 (p2 : GValue) : List PV := [pi p2.kind, pi p2.n, pi p2.scale, .s (.string p2.s), .ro (eValue.els p2.items)]
abbrev qa2565 (p1 : GValue) : List PV := [pi p1.kind, pi p1.n, pi p1.scale, .s (.string p1.s), .ro (eValue.els p1.items)]
abbrev qa2575 (p1 : GValue) (p2 : GValue) (r1 : Bool) (r3 : RWide) : Fr := [(21, .ag (qa2563 p2)), (20, .ag [cb r3.below, cl eI r3.d]), (19, .ag (qa2562 p1)), (2, vR (qa2565 p1)), (3, vR (qa2564 p2)), (18, vb r1)]
theorem c_ref1_decimals (p1 : GValue) (p2 : GValue) (r : Int) (h : ref1_decimals p1 p2 = some r) : PC Tryz.prog 35 [.ag (qa2562 p1), .ag (qa2563 p2)] (vi r) := by
 unfold ref1_decimals at h
 refine zF 47 Tryz.f35 (zq fun K1 m1 => zr (zg [] 3 [2,3] (zd (m1 _ _ (zq fun K2 m2 => ?_)))))
 obtain ⟨r1, c3, h⟩ := zB h
 obtain ⟨r2, c4, h⟩ := zB h
 refine zw 5 [(12, vi p2.scale), (11, .one (.pv (.rp [(qa2564 p2)] 0 2))), (10, vb r1), (9, vi p1.scale), (8, .one (.pv (.rp [(qa2565 p1)] 0 2))), (2, vR (qa2565 p1)), (3, vR (qa2564 p2))] ?_ ?_
 ·refine zyu 2 [(qa2565 p1)] (DX.cal 73 [vi p1.scale, vi 0, vi 12] (vb r1) [(10, vb r1), (9, vi p1.scale), (8, .one (.pv (.rp [(qa2565 p1)] 0 2))), (2, vR (qa2565 p1)), (3, vR (qa2564 p2))] (by kernel_rfl) (c_ref1_within _ _ _ _ c3) rfl rfl (by kernel_rfl) ?_)
  exact zyu 2 [(qa2564 p2)] zyd
 refine za (c_ref1_within _ _ _ _ c4) (zv [] 2 [2,3,5,6] [] [(2, vR (qa2565 p1)), (3, vR (qa2564 p2)), (5, vb r1), (6, vb r2)] [] (zd (m2 _ _ (zq fun K5 m5 => zq fun K6 m6 => zr (zg [] 3 [2,3,5,16] ?_)))))
 refine zd (m6 _ _ (zC h (fun b7 h => ?_) (fun b7 h => ?_)))
 ·refine zq fun K8 m8 => zq fun K9 m9 => zr (zg [] 1 [17] (zd (m9 _ _ (zC h (fun b10 h => ?_) (fun b10 h => ?_)))))
  ·refine zq fun K11 m11 => zr (zv [] 1 [4] [] [(4, vi (-1))] [] (zd (m11 _ _ (ze ?_))))
   obtain rfl := zj h
   exact zf [vi (-1)] (.one (.rfl _ rfl))
  ·refine zs (m8 _ _ (zq fun K12 m12 => zr (zg [] 1 [4] (zd (m12 _ _ (ze ?_))))))
   obtain rfl := zj h
   exact zf [vi 1] (.one (.rfl _ rfl))
 ·refine zs (m5 _ _ (zq fun K13 m13 => zq fun K14 m14 => zr (zv [] 1 [2,3,18] [] [(2, vR (qa2565 p1)), (3, vR (qa2564 p2)), (18, vb r1)] [] (zd (m14 _ _ ?_)))))
  refine zC h (fun b15 h => ?_) (fun b15 h => ?_)
  ·refine zq fun K16 m16 => zq fun K17 m17 => ?_
   obtain ⟨r3, c18, h⟩ := zB h
   obtain ⟨r4, c19, h⟩ := zB h
   obtain ⟨r5, c20, h⟩ := zB h
   refine zw 3 (qa2575 p1 p2 r1 r3) ?_ ?_
   ·refine zyu 1 [(qa2565 p1)] (zya (c_ref1_twelve _ _ c18) ?_)
    exact zyv 1 [(qa2564 p2)] (qa2575 p1 p2 r1 r3) zyd
   refine za (c_ref1_twelve _ _ c19) (za (c_ref1_compareWide _ _ _ c20) (zv [] 1 [2,3,7] [] [(2, vR (qa2565 p1)), (3, vR (qa2564 p2)), (7, vi r5)] [] (zd (m17 _ _ (zq fun K21 m21 => zr (zg [] 2 [2,3,7,25] ?_))))))
   refine zd (m21 _ _ (zC h (fun b22 h => ?_) (fun b22 h => ?_)))
   ·refine zq fun K23 m23 => zr (zg [] 2 [4] (zd (m23 _ _ (ze ?_))))
    obtain rfl := zj h
    exact zf [vi r5] (.one (.rfl _ rfl))
   ·refine zs (m16 _ _ (zq fun K24 m24 => ?_))
    obtain ⟨r6, c25, h⟩ := zB h
    refine zr (zv [] 4 [28,30] [(qa2565 p1), (qa2564 p2)] [(28, vi p1.scale), (30, vi p2.scale)] [] (za (c_ref1_order _ _ _ c25) (zg [] 1 [4] (zd (m24 _ _ (ze ?_))))))
    obtain rfl := zj h
    exact zf [vi r6] (.one (.rfl _ rfl))
  ·refine zs (m13 _ _ (zq fun K26 m26 => zq fun K27 m27 => zr (zu [] 5 [2,3,36] [(qa2565 p1), (qa2564 p2)] (zd (m27 _ _ ?_)))))
   refine zC h (fun b28 h => ?_) (fun b28 h => ?_)
   ·refine zq fun K29 m29 => ?_
    obtain ⟨r7, c30, h⟩ := zB h
    refine zr (zv [] 4 [38,40] [(qa2565 p1), (qa2564 p2)] [(38, vi p1.n), (40, vi p2.n)] [] (za (c_ref1_order _ _ _ c30) (zg [] 1 [4] (zd (m29 _ _ (ze ?_))))))
    obtain rfl := zj h
    exact zf [vi r7] (.one (.rfl _ rfl))
   ·refine zs (m26 _ _ (zq fun K31 m31 => ?_))
    obtain ⟨r8, c32, h⟩ := zB h
    refine zr (zv [] 4 [43,45] [(qa2565 p1), (qa2564 p2)] [(43, vi p1.scale), (45, vi p2.scale)] [] (za (c_ref1_order _ _ _ c32) (zg [] 1 [4] (zd (m31 _ _ (ze ?_))))))
    obtain rfl := zj h
    exact zf [vi r8] (.one (.rfl _ rfl))
def ref1_texts_j2 (p1 : ByteArray) (p2 : ByteArray) : Option Int :=
    bnd (ref1_order (p1.size : Int) (p2.size : Int)) fun r2 =>
    some r2
def ref1_texts_j1 (rec1 : Int → Option Int) (p1 : ByteArray) (p2 : ByteArray) (x1 : Int) (x2 : Bool) : Option Int :=
    ift x2
      (grd (0 ≤ x1 ∧ x1 < (p1.size : Int)) <|
       grd (0 ≤ x1 ∧ x1 < (p2.size : Int)) <|
       bnd (some (((p1.data.toList.getD x1.toNat 0).toNat : Int) != ((p2.data.toList.getD x1.toNat 0).toNat : Int))) fun y1 =>
       ift y1
         (grd (0 ≤ x1 ∧ x1 < (p1.size : Int)) <|
          grd (0 ≤ x1 ∧ x1 < (p2.size : Int)) <|
          bnd (ref1_order (i64.wrap ((p1.data.toList.getD x1.toNat 0).toNat : Int)) (i64.wrap ((p2.data.toList.getD x1.toNat 0).toNat : Int))) fun r1 =>
          some r1)
         (rec1 (i64.wrap (x1 + (1 : Int)))))
      (ref1_texts_j2 p1 p2)
def ref1_texts_l1 (p1 : ByteArray) (p2 : ByteArray) : Nat → Int → Option Int
  | 0, _ => none
  | k1 + 1, x1 =>
    ift (decide (x1 < (p1.size : Int)))
      (ref1_texts_j1 (ref1_texts_l1 p1 p2 k1) p1 p2 x1 (decide (x1 < (p2.size : Int))))
      (ref1_texts_j1 (ref1_texts_l1 p1 p2 k1) p1 p2 x1 false)
def ref1_texts (p1 : ByteArray) (p2 : ByteArray) : Option Int :=
    ref1_texts_l1 p1 p2 BIG (0 : Int)
theorem c_ref1_texts (p1 : ByteArray) (p2 : ByteArray) (r : Int) (h : ref1_texts p1 p2 = some r) : PC Tryz.prog 36 [vs p1, vs p2] (vi r) := by
 unfold ref1_texts at h
 refine zF 39 Tryz.f36 (zq fun K1 m1 => zr (zg [] 1 [0,1] (zd (m1 _ _ (zq fun K2 m2 => ?_)))))
 have j2 : ∀ (_ : Unit), ref1_texts_j2 p1 p2 = some r → ∀ w0 w1, Sub 39 0 [] w0 w1 [(0, vs p1), (1, vs p2)] [] → K2 w0 w1 := by
  intro _ h w0 w1 hS
  unfold ref1_texts_j2 at h
  refine m2 _ _ (XW.sub hS ?_)
  refine zq fun K18 m18 => ?_
  obtain ⟨r2, c19, h⟩ := zB h
  refine zr (zg [] 4 [35,37] (za (c_ref1_order _ _ _ c19) (zv [] 1 [4] [] [(4, vi r2)] [] (zd (m18 _ _ (ze ?_))))))
  obtain rfl := zj h
  exact zf [vi r2] (.one (.rfl _ rfl))
 refine zq fun K3 m3 => zr (zg [] 1 [0,1,5] (zd (m3 _ _ (zb 0 (XW.rounds' BIG (x := cd Tryz.f36 [1,0,1,0,0]) (by kernel_rfl) fun Q1 hQ1 => ?_)))))
 have hL1 : ∀ (k1 : Nat) (x1 : Int), ref1_texts_l1 p1 p2 k1 x1 = some r → XR Tryz.prog 39 0 [] (cd Tryz.f36 [1,0,1,0,0]) Q1 k1 [(0, vs p1), (1, vs p2), (5, vi x1)] [] := by
  intro k1
  induction k1 with
  | zero => intro x1 h; rw [ref1_texts_l1.eq_1] at h; cases h
  | succ k1 ih1 =>
   intro x1 h
   rw [ref1_texts_l1.eq_2] at h
   refine zq fun K4 m4 => zq fun K5 m5 => ?_
   have j1 : ∀ (x2 : Bool), ref1_texts_j1 (ref1_texts_l1 p1 p2 k1) p1 p2 x1 x2 = some r → ∀ w0 w1, Sub 39 0 [] w0 w1 [(0, vs p1), (1, vs p2), (5, vi x1), (15, vb x2)] [] → K5 w0 w1 := by
    intro x2 h w0 w1 hS
    unfold ref1_texts_j1 at h
    refine m5 _ _ (XW.sub hS ?_)
    refine zC h (fun b7 h => ?_) (fun b7 h => ?_)
    ·refine zs (m4 _ _ (zq fun K8 m8 => zb 1 (zq fun K9 m9 => ?_)))
     obtain ⟨g10, h⟩ := zG h
     obtain ⟨g11, h⟩ := zG h
     obtain ⟨y1, hy12, h⟩ := zB h
     refine zw 6 [(23, vk .u8 ((p2.data.toList.getD x1.toNat 0).toNat : Int)), (22, vi x1), (21, vs p2), (20, vk .u8 ((p1.data.toList.getD x1.toNat 0).toNat : Int)), (19, vi x1), (18, vs p1), (0, vs p1), (1, vs p2), (5, vi x1), (15, vb x2)] ?_ ?_
     ·exact zyo 6 [] [0 ≤ x1 ∧ x1 < (p1.size : Int), 0 ≤ x1 ∧ x1 < (p2.size : Int)] (⟨g10, g11, trivial⟩) zyd
     refine zv [] 1 [0,1,5,24] [] [(0, vs p1), (1, vs p2), (5, vi x1), (24, vb (((p1.data.toList.getD x1.toNat 0).toNat : Int) != ((p2.data.toList.getD x1.toNat 0).toNat : Int)))] [] ?_
     rw [show (((p1.data.toList.getD x1.toNat 0).toNat : Int) != ((p2.data.toList.getD x1.toNat 0).toNat : Int)) = y1 from zj hy12]
     refine zd (m9 _ _ (zC h (fun b13 h => ?_) (fun b13 h => ?_)))
     ·refine zq fun K14 m14 => ?_
      obtain ⟨g15, h⟩ := zG h
      obtain ⟨g16, h⟩ := zG h
      obtain ⟨r1, c17, h⟩ := zB h
      refine zw 8 [(32, vi (i64.wrap ((p2.data.toList.getD x1.toNat 0).toNat : Int))), (31, vk .u8 ((p2.data.toList.getD x1.toNat 0).toNat : Int)), (30, vi x1), (29, vs p2), (28, vi (i64.wrap ((p1.data.toList.getD x1.toNat 0).toNat : Int))), (27, vk .u8 ((p1.data.toList.getD x1.toNat 0).toNat : Int)), (26, vi x1), (25, vs p1), (0, vs p1), (1, vs p2), (5, vi x1), (24, vb y1)] ?_ ?_
      ·exact zyo 8 [] [0 ≤ x1 ∧ x1 < (p1.size : Int), 0 ≤ x1 ∧ x1 < (p2.size : Int)] (⟨g15, g16, trivial⟩) zyd
      refine za (c_ref1_order _ _ _ c17) (zg [] 1 [4] (zd (m14 _ _ (ze (hQ1 _ _ _ ?_)))))
      obtain rfl := zj h
      exact zf [vi r1] (.one (.rfl _ rfl))
     ·exact zs (m8 _ _ (zr (zv [] 3 [0,1,5] [] [(0, vs p1), (1, vs p2), (5, vi (i64.wrap (x1 + (1 : Int))))] [] (zd (XR.sub (zk [0,1,5]) (ih1 (i64.wrap (x1 + (1 : Int))) h))))))
    ·exact zx 0 (hQ1 _ _ _ (j2 () h _ _ (zk [0,1])))
   rcases zW h with ⟨b6, h⟩ | ⟨b6, h⟩
   ·exact zr (zg [] 5 [0,1,5,10] (zt 10 b6 (zg [] 5 [0,1,5,15] (zd (j1 (decide (x1 < (p2.size : Int))) h _ _ (zk [0,1,5,15]))))))
   ·exact zr (zv [] 5 [0,1,5,10] [] [(0, vs p1), (1, vs p2), (5, vi x1), (10, vb (decide (x1 < (p1.size : Int))))] [] (zt 10 b6 (zg [] 5 [0,1,5,15] (zd (j1 false h _ _ (zk [0,1,5,15]))))))
 exact XR.sub (zk [0,1,5]) (hL1 BIG (0 : Int) h)
def ref1_Compare_j4 (p1 : GValue) (p2 : GValue) : Option Int :=
    bnd (ref1_order (p1.items.length : Int) (p2.items.length : Int)) fun r7 =>
    some r7
def ref1_Compare_j3 (rec1 : Int → Option Int) (q_ref1_Compare : GValue → GValue → Option Int) (p1 : GValue) (p2 : GValue) (x2 : Int) (x3 : Bool) : Option Int :=
    ift x3
      (bnd (at? p1.items x2) fun e1 =>
       bnd (at? p2.items x2) fun e2 =>
       bnd (q_ref1_Compare e1 e2) fun r6 =>
       ift (r6 != (0 : Int))
         (some r6)
         (rec1 (i64.wrap (x2 + (1 : Int)))))
      (ref1_Compare_j4 p1 p2)
def ref1_Compare_l1 (q_ref1_Compare : GValue → GValue → Option Int) (p1 : GValue) (p2 : GValue) : Nat → Int → Option Int
  | 0, _ => none
  | k1 + 1, x2 =>
    ift (decide (x2 < (p1.items.length : Int)))
      (ref1_Compare_j3 (ref1_Compare_l1 q_ref1_Compare p1 p2 k1) q_ref1_Compare p1 p2 x2 (decide (x2 < (p2.items.length : Int))))
      (ref1_Compare_j3 (ref1_Compare_l1 q_ref1_Compare p1 p2 k1) q_ref1_Compare p1 p2 x2 false)
def ref1_Compare_j2 (q_ref1_Compare : GValue → GValue → Option Int) (p1 : GValue) (p2 : GValue) (x1 : Bool) : Option Int :=
    ift x1
      (bnd (ref1_order p1.n p2.n) fun r3 =>
       some r3)
      (ift (p1.scale != p2.scale)
         (bnd (ref1_order p1.scale p2.scale) fun r4 =>
          some r4)
         (bnd (ref1_texts p1.s p2.s) fun r5 =>
          ift (r5 != (0 : Int))
            (some r5)
            (ref1_Compare_l1 q_ref1_Compare p1 p2 BIG (0 : Int))))
def ref1_Compare_j1 (q_ref1_Compare : GValue → GValue → Option Int) (p1 : GValue) (p2 : GValue) : Option Int :=
    ift (p1.n != p2.n)
      (ref1_Compare_j2 q_ref1_Compare p1 p2 (p1.kind != (3 : Int)))
      (ref1_Compare_j2 q_ref1_Compare p1 p2 false)
def ref1_Compare : Nat → GValue → GValue → Option Int
  | 0, _, _ => none
  | k0 + 1, p1, p2 =>
    ift (!((p1.kind == (0 : Int)) == (p2.kind == (0 : Int))))
      (ift (p1.kind == (0 : Int))
         (some (1 : Int))
         (some (-1 : Int)))
      (ift (p1.kind == (0 : Int))
         (some (0 : Int))
         (ift (p1.kind != p2.kind)
            (bnd (ref1_order p1.kind p2.kind) fun r1 =>
             some r1)
            (ift (p1.kind == (3 : Int))
               (bnd (ref1_decimals p1 p2) fun r2 =>
                ift (r2 != (0 : Int))
                  (some r2)
                  (ref1_Compare_j1 (ref1_Compare k0) p1 p2))
               (ref1_Compare_j1 (ref1_Compare k0) p1 p2))))
abbrev qa2585 (p1 : GValue) : List CV := [ci p1.kind, ci p1.n, ci p1.scale, cst p1.s, cl eValue p1.items]
abbrev qa2586 (p2 : GValue) : List CV := [ci p2.kind, ci p2.n, ci p2.scale, cst p2.s, cl eValue p2.items]
abbrev qa2587 (p1 : GValue) : List PV := [pi p1.kind, pi p1.n, pi p1.scale, .s (.string p1.s), .ro (eValue.els p1.items)]
abbrev qa2588 (p2 : GValue) : List PV := [pi p2.kind, pi p2.n, pi p2.scale, .s (.string p2.s), .ro (eValue.els p2.items)]
theorem c_ref1_Compare : ∀ (k0 : Nat) (p1 : GValue) (p2 : GValue) (r : Int), ref1_Compare k0 p1 p2 = some r → PC Tryz.prog 12 [.ag (qa2585 p1), .ag (qa2586 p2)] (vi r)
 | 0, _, _, r, h => by rw [ref1_Compare.eq_1] at h; cases h
 | k0 + 1, p1, p2, r, h => by
  rw [ref1_Compare.eq_2] at h
  refine zF 109 Tryz.f12 (zq fun K1 m1 => zr (zg [] 3 [2,3] (zd (m1 _ _ (zq fun K2 m2 => zq fun K3 m3 => ?_)))))
  refine zr (zu [] 7 [2,3,15] [(qa2587 p1), (qa2588 p2)] (zd (m3 _ _ (zC h (fun b4 h => ?_) (fun b4 h => ?_)))))
  ·refine zq fun K5 m5 => zq fun K6 m6 => zr (zv [] 3 [18] [(qa2587 p1)] [(18, vb (p1.kind == (0 : Int)))] [] (zd (m6 _ _ (zC h (fun b7 h => ?_) (fun b7 h => ?_)))))
   ·refine zq fun K8 m8 => zr (zg [] 1 [4] (zd (m8 _ _ (ze ?_))))
    obtain rfl := zj h
    exact zf [vi 1] (.one (.rfl _ rfl))
   ·refine zs (m5 _ _ (zq fun K9 m9 => zr (zg [] 1 [4] (zd (m9 _ _ (ze ?_))))))
    obtain rfl := zj h
    exact zf [vi (-1)] (.one (.rfl _ rfl))
  ·refine zs (m2 _ _ (zq fun K10 m10 => zq fun K11 m11 => zr (zu [] 3 [2,3,21] [(qa2587 p1)] (zd (m11 _ _ ?_)))))
   refine zC h (fun b12 h => ?_) (fun b12 h => ?_)
   ·refine zq fun K13 m13 => zr (zg [] 1 [4] (zd (m13 _ _ (ze ?_))))
    obtain rfl := zj h
    exact zf [vi 0] (.one (.rfl _ rfl))
   ·refine zs (m10 _ _ (zq fun K14 m14 => zq fun K15 m15 => zr (zv [] 5 [2,3,26] [(qa2587 p1), (qa2588 p2)] [(2, vR (qa2587 p1)), (3, vR (qa2588 p2)), (26, vb (p1.kind != p2.kind))] [] (zd (m15 _ _ ?_)))))
    refine zC h (fun b16 h => ?_) (fun b16 h => ?_)
    ·refine zq fun K17 m17 => ?_
     obtain ⟨r1, c18, h⟩ := zB h
     refine zr (zu [] 4 [28,30] [(qa2587 p1), (qa2588 p2)] (za (c_ref1_order _ _ _ c18) (zv [] 1 [4] [] [(4, vi r1)] [] (zd (m17 _ _ (ze ?_))))))
     obtain rfl := zj h
     exact zf [vi r1] (.one (.rfl _ rfl))
    ·refine zs (m14 _ _ (zq fun K19 m19 => ?_))
     have j1 : ∀ (_ : Unit), ref1_Compare_j1 (ref1_Compare k0) p1 p2 = some r → ∀ w0 w1, Sub 109 0 [] w0 w1 [(2, vR (qa2587 p1)), (3, vR (qa2588 p2))] [] → K19 w0 w1 := by
      intro _ h w0 w1 hS
      unfold ref1_Compare_j1 at h
      refine m19 _ _ (XW.sub hS ?_)
      refine zq fun K27 m27 => zq fun K28 m28 => ?_
      have j2 : ∀ (x1 : Bool), ref1_Compare_j2 (ref1_Compare k0) p1 p2 x1 = some r → ∀ w0 w1, Sub 109 0 [] w0 w1 [(2, vR (qa2587 p1)), (3, vR (qa2588 p2)), (50, vb x1)] [] → K28 w0 w1 := by
       intro x1 h w0 w1 hS
       unfold ref1_Compare_j2 at h
       refine m28 _ _ (XW.sub hS ?_)
       refine zC h (fun b30 h => ?_) (fun b30 h => ?_)
       ·refine zq fun K31 m31 => ?_
        obtain ⟨r3, c32, h⟩ := zB h
        refine zr (zu [] 4 [52,54] [(qa2587 p1), (qa2588 p2)] (za (c_ref1_order _ _ _ c32) (zv [] 1 [4] [] [(4, vi r3)] [] (zd (m31 _ _ (ze ?_))))))
        obtain rfl := zj h
        exact zf [vi r3] (.one (.rfl _ rfl))
       ·refine zs (m27 _ _ (zq fun K33 m33 => zq fun K34 m34 => zr (zu [] 5 [2,3,60] [(qa2587 p1), (qa2588 p2)] (zd (m34 _ _ ?_)))))
        refine zC h (fun b35 h => ?_) (fun b35 h => ?_)
        ·refine zq fun K36 m36 => ?_
         obtain ⟨r4, c37, h⟩ := zB h
         refine zr (zu [] 4 [62,64] [(qa2587 p1), (qa2588 p2)] (zl 34 [vi p1.scale, vi p2.scale] (vi r4) [(65, vi r4), (62, vi p1.scale), (64, vi p2.scale)] (c_ref1_order _ _ _ c37) (zg [] 1 [4] (zd (m36 _ _ (ze ?_))))))
         obtain rfl := zj h
         exact zf [vi r4] (.one (.rfl _ rfl))
        ·refine zs (m33 _ _ (zq fun K38 m38 => zq fun K39 m39 => ?_))
         obtain ⟨r5, c40, h⟩ := zB h
         refine zr (zu [] 4 [2,3,67,69] [(qa2587 p1), (qa2588 p2)] (zl 36 [vs p1.s, vs p2.s] (vi r5) [(70, vi r5), (2, vR (qa2587 p1)), (3, vR (qa2588 p2)), (67, vs p1.s), (69, vs p2.s)] (c_ref1_texts _ _ _ c40) (zg [] 1 [2,3,6] (zd (m39 _ _ (zq fun K41 m41 => zr ?_))))))
         refine zg [] 2 [2,3,6,72] (zd (m41 _ _ (zC h (fun b42 h => ?_) (fun b42 h => ?_))))
         ·refine zq fun K43 m43 => zr (zv [] 2 [4] [] [(4, vi r5)] [] (zd (m43 _ _ (ze ?_))))
          obtain rfl := zj h
          exact zf [vi r5] (.one (.rfl _ rfl))
         ·refine zs (m38 _ _ (zq fun K44 m44 => ?_))
          have j4 : ∀ (_ : Unit), ref1_Compare_j4 p1 p2 = some r → ∀ w0 w1, Sub 109 0 [] w0 w1 [(2, vR (qa2587 p1)), (3, vR (qa2588 p2))] [] → K44 w0 w1 := by
           intro _ h w0 w1 hS
           unfold ref1_Compare_j4 at h
           refine m44 _ _ (XW.sub hS ?_)
           refine zq fun K58 m58 => ?_
           obtain ⟨r7, c59, h⟩ := zB h
           refine zr (zv [] 3 [3,104] [[pi p1.kind, pi p1.n, pi p1.scale, .s (.string p1.s), .ro (eValue.els p1.items)]] [(3, vR [pi p2.kind, pi p2.n, pi p2.scale, .s (.string p2.s), .ro (eValue.els p2.items)]), (104, vi ((eValue.els p1.items).length : Int))] [] ?_)
           rw [eValue.len p1.items]
           refine zv [] 3 [104,107] [[pi p2.kind, pi p2.n, pi p2.scale, .s (.string p2.s), .ro (eValue.els p2.items)]] [(104, vi (p1.items.length : Int)), (107, vi ((eValue.els p2.items).length : Int))] [] ?_
           rw [eValue.len p2.items]
           refine za (c_ref1_order _ _ _ c59) (zg [] 1 [4] (zd (m58 _ _ (ze ?_))))
           obtain rfl := zj h
           exact zf [vi r7] (.one (.rfl _ rfl))
          refine zq fun K45 m45 => zr (zg [] 1 [2,3,7] (zd (m45 _ _ (zb 0 (XW.rounds' BIG (x := cd Tryz.f12 [1,1,1,1,1,1,1,1,0,1,0,0]) (by kernel_rfl) fun Q1 hQ1 => ?_)))))
          have hL1 : ∀ (k1 : Nat) (x2 : Int), ref1_Compare_l1 (ref1_Compare k0) p1 p2 k1 x2 = some r → XR Tryz.prog 109 0 [] (cd Tryz.f12 [1,1,1,1,1,1,1,1,0,1,0,0]) Q1 k1 [(2, vR (qa2587 p1)), (3, vR (qa2588 p2)), (7, vi x2)] [] := by
           intro k1
           induction k1 with
           | zero => intro x2 h; rw [ref1_Compare_l1.eq_1] at h; cases h
           | succ k1 ih1 =>
            intro x2 h
            rw [ref1_Compare_l1.eq_2] at h
            refine zq fun K46 m46 => zq fun K47 m47 => ?_
            have j3 : ∀ (x3 : Bool), ref1_Compare_j3 (ref1_Compare_l1 (ref1_Compare k0) p1 p2 k1) (ref1_Compare k0) p1 p2 x2 x3 = some r → ∀ w0 w1, Sub 109 0 [] w0 w1 [(2, vR (qa2587 p1)), (3, vR (qa2588 p2)), (7, vi x2), (85, vb x3)] [] → K47 w0 w1 := by
             intro x3 h w0 w1 hS
             unfold ref1_Compare_j3 at h
             refine m47 _ _ (XW.sub hS ?_)
             refine zC h (fun b49 h => ?_) (fun b49 h => ?_)
             ·refine zs (m46 _ _ (zq fun K50 m50 => zb 1 (zq fun K51 m51 => ?_)))
              obtain ⟨e1, a52, h⟩ := zB h
              obtain ⟨e2, a53, h⟩ := zB h
              obtain ⟨r6, c54, h⟩ := zB h
              refine zw 10 [(97, .ag [ci e2.kind, ci e2.n, ci e2.scale, cst e2.s, cl eValue e2.items]), (96, .one (.pv (.rp (eValue.els p2.items) x2.toNat 0))), (95, vi x2), (94, vl eValue p2.items), (93, .one (.pv (.rp [(qa2588 p2)] 0 4))), (92, .ag [ci e1.kind, ci e1.n, ci e1.scale, cst e1.s, cl eValue e1.items]), (91, .one (.pv (.rp (eValue.els p1.items) x2.toNat 0))), (90, vi x2), (89, vl eValue p1.items), (88, .one (.pv (.rp [(qa2587 p1)] 0 4))), (2, vR (qa2587 p1)), (3, vR (qa2588 p2)), (7, vi x2), (85, vb x3)] ?_ ?_
              ·refine zyo 10 [(qa2587 p1), [pi e1.kind, pi e1.n, pi e1.scale, .s (.string e1.s), .ro (eValue.els e1.items)], (qa2588 p2), [pi e2.kind, pi e2.n, pi e2.scale, .s (.string e2.s), .ro (eValue.els e2.items)]] [([(qa2587 p1)] : List (List PV))[0]? = some (qa2587 p1), 0 ≤ x2 ∧ x2 < ((eValue.els p1.items).length : Int) ∧ elemsOk 5 (eValue.els p1.items), (eValue.els p1.items)[x2.toNat]? = some [pi e1.kind, pi e1.n, pi e1.scale, .s (.string e1.s), .ro (eValue.els e1.items)], ([(qa2588 p2)] : List (List PV))[0]? = some (qa2588 p2), 0 ≤ x2 ∧ x2 < ((eValue.els p2.items).length : Int) ∧ elemsOk 5 (eValue.els p2.items), (eValue.els p2.items)[x2.toNat]? = some [pi e2.kind, pi e2.n, pi e2.scale, .s (.string e2.s), .ro (eValue.els e2.items)]] (⟨rfl, eValue.inb a52, ((eValue.get a52).trans (by cases e1; rfl)), rfl, eValue.inb a53, ((eValue.get a53).trans (by cases e2; rfl)), trivial⟩) ?_
               exact zyd
              refine za (c_ref1_Compare k0 _ _ _ c54) (zg [] 1 [2,3,7,8] (zd (m51 _ _ (zq fun K55 m55 => zr (zv [] 2 [2,3,7,8,100] [] [(2, vR (qa2587 p1)), (3, vR (qa2588 p2)), (7, vi x2), (8, vi r6), (100, vb (r6 != (0 : Int)))] [] (zd ?_))))))
              refine m55 _ _ (zC h (fun b56 h => ?_) (fun b56 h => ?_))
              ·refine zq fun K57 m57 => zr (zg [] 2 [4] (zd (m57 _ _ (ze (hQ1 _ _ _ ?_)))))
               obtain rfl := zj h
               exact zf [vi r6] (.one (.rfl _ rfl))
              ·exact zs (m50 _ _ (zr (zg [] 3 [2,3,7] (zd (XR.sub (zk [2,3,7]) (ih1 (i64.wrap (x2 + (1 : Int))) h))))))
             ·exact zx 0 (hQ1 _ _ _ (j4 () h _ _ (zk [2,3])))
            rcases zW h with ⟨b48, h⟩ | ⟨b48, h⟩
            ·refine zr (zv [] 4 [2,3,7,74,77] [[pi p1.kind, pi p1.n, pi p1.scale, .s (.string p1.s), .ro (eValue.els p1.items)]] [(2, vR [pi p1.kind, pi p1.n, pi p1.scale, .s (.string p1.s), .ro (eValue.els p1.items)]), (3, vR [pi p2.kind, pi p2.n, pi p2.scale, .s (.string p2.s), .ro (eValue.els p2.items)]), (7, vi x2), (74, vi x2), (77, vi ((eValue.els p1.items).length : Int))] [] ?_)
             rw [eValue.len p1.items]
             refine zg [] 2 [2,3,7,79] (zt 79 b48 (zv [] 4 [2,3,7,79,80,83] [[pi p2.kind, pi p2.n, pi p2.scale, .s (.string p2.s), .ro (eValue.els p2.items)]] [(2, vR [pi p1.kind, pi p1.n, pi p1.scale, .s (.string p1.s), .ro (eValue.els p1.items)]), (3, vR [pi p2.kind, pi p2.n, pi p2.scale, .s (.string p2.s), .ro (eValue.els p2.items)]), (7, vi x2), (79, vb true), (80, vi x2), (83, vi ((eValue.els p2.items).length : Int))] [] ?_))
             rw [eValue.len p2.items]
             exact zg [] 2 [2,3,7,85] (zd (j3 (decide (x2 < (p2.items.length : Int))) h _ _ (zk [2,3,7,85])))
            ·refine zr (zv [] 4 [2,3,7,74,77] [[pi p1.kind, pi p1.n, pi p1.scale, .s (.string p1.s), .ro (eValue.els p1.items)]] [(2, vR [pi p1.kind, pi p1.n, pi p1.scale, .s (.string p1.s), .ro (eValue.els p1.items)]), (3, vR [pi p2.kind, pi p2.n, pi p2.scale, .s (.string p2.s), .ro (eValue.els p2.items)]), (7, vi x2), (74, vi x2), (77, vi ((eValue.els p1.items).length : Int))] [] ?_)
             rw [eValue.len p1.items]
             exact zg [] 2 [2,3,7,79] (zt 79 b48 (zg [] 6 [2,3,7,85] (zd (j3 false h _ _ (zk [2,3,7,85])))))
          exact XR.sub (zk [2,3,7]) (hL1 BIG (0 : Int) h)
      rcases zW h with ⟨b29, h⟩ | ⟨b29, h⟩
      ·exact zr (zu [] 6 [2,3,46] [(qa2587 p1), (qa2588 p2)] (zt 46 b29 (zu [] 4 [2,3,50] [(qa2587 p1)] (zd (j2 (p1.kind != (3 : Int)) h _ _ (zk [2,3,50]))))))
      ·exact zr (zv [] 6 [2,3,46] [(qa2587 p1), (qa2588 p2)] [(2, vR (qa2587 p1)), (3, vR (qa2588 p2)), (46, vb (p1.n != p2.n))] [] (zt 46 b29 (zg [] 4 [2,3,50] (zd (j2 false h _ _ (zk [2,3,50]))))))
     refine zq fun K20 m20 => zr (zu [] 3 [2,3,34] [(qa2587 p1)] (zd (m20 _ _ (zC h (fun b21 h => ?_) (fun b21 h => ?_)))))
     ·refine zq fun K22 m22 => ?_
      obtain ⟨r2, c23, h⟩ := zB h
      refine zr (zu [] 2 [2,3,35,36] [(qa2587 p1), (qa2588 p2)] ?_)
      refine zl 35 [.ag (qa2585 p1), .ag (qa2586 p2)] (vi r2) [(37, vi r2), (2, vR (qa2587 p1)), (3, vR (qa2588 p2)), (35, .ag (qa2585 p1)), (36, .ag (qa2586 p2))] (c_ref1_decimals _ _ _ c23) (zg [] 1 [2,3,5] ?_)
      refine zd (m22 _ _ (zq fun K24 m24 => zr (zg [] 2 [2,3,5,39] (zd (m24 _ _ (zC h (fun b25 h => ?_) (fun b25 h => ?_)))))))
      ·refine zq fun K26 m26 => zr (zv [] 2 [4] [] [(4, vi r2)] [] (zd (m26 _ _ (ze ?_))))
       obtain rfl := zj h
       exact zf [vi r2] (.one (.rfl _ rfl))
      ·exact zs (j1 () h _ _ (zk [2,3]))
     ·exact zs (j1 () h _ _ (zk [2,3]))
end Go.Proofs.YtmaemlebpjnmoaaGreatDoor
namespace Go.Proofs.YtmaemlebpjnmoaaGreatDoor
open Go.SX Go
open Go.IntKind (i64 u64 u8 i32 u32)
set_option linter.unusedVariables false
set_option linter.unusedSimpArgs false
set_option maxRecDepth 100000
set_option maxHeartbeats 8000000
def law3_TableTransformsMatchSpec_j1 (x1 : Bool) : Option Bool :=
    some x1
def law3_TableTransformsMatchSpec (p1 : GTransform) (p2 : GType) (p3 : GValue) : Option Bool :=
    bnd (table_TransformType p1 p2) fun r1 =>
    bnd (ref3_TransformType p1 p2) fun r2 =>
    bnd (law3_number (13 : Int)) fun r3 =>
    bnd (table_Transform (GTransform.mk (3 : Int) (10 : Int)) r3) fun r4 =>
    ift (r4.n == (10 : Int))
      (ift (r1.2 == r2.2)
         (bnd (law3_sameType r1.1 r2.1) fun r5 =>
          ift r5
            (bnd (table_Transform p1 p3) fun r6 =>
             bnd (ref3_Transform p1 p3) fun r7 =>
             bnd (ref1_Compare BIG r6 r7) fun r8 =>
             law3_TableTransformsMatchSpec_j1 (r8 == (0 : Int)))
            (law3_TableTransformsMatchSpec_j1 false))
         (law3_TableTransformsMatchSpec_j1 false))
      (law3_TableTransformsMatchSpec_j1 false)
abbrev qa2609 (p1 : GTransform) : List CV := [ci p1.kind, ci p1.param]
abbrev qa2610 (p2 : GType) : List CV := [ci p2.kind, ci p2.scale, cl eField p2.fields]
abbrev qa2611 (p3 : GValue) : List CV := [ci p3.kind, ci p3.n, ci p3.scale, cst p3.s, cl eValue p3.items]
abbrev qa2612 (p1 : GTransform) : List PV := [pi p1.kind, pi p1.param]
abbrev qa2613 (p2 : GType) : List PV := [pi p2.kind, pi p2.scale, .ro (eField.els p2.fields)]
abbrev qa2614 (r1 : (GType × Int)) : List CV := [ci r1.1.kind, ci r1.1.scale, cl eField r1.1.fields]
abbrev qa2615 (p3 : GValue) : List PV := [pi p3.kind, pi p3.n, pi p3.scale, .s (.string p3.s), .ro (eValue.els p3.items)]
abbrev qa2616 (r2 : (GType × Int)) : List CV := [ci r2.1.kind, ci r2.1.scale, cl eField r2.1.fields]
abbrev qa2620 (r4 : GValue) : List CV := [ci r4.kind, ci r4.n, ci r4.scale, cst r4.s, cl eValue r4.items]
abbrev qa2621 (r6 : GValue) : List CV := [ci r6.kind, ci r6.n, ci r6.scale, cst r6.s, cl eValue r6.items]
abbrev qa2628 (p1 : GTransform) (p3 : GValue) (r1 : (GType × Int)) (r2 : (GType × Int)) (r4 : GValue) (r5 : Bool) (r6 : GValue) : Fr := [(45, .ag (qa2611 p3)), (44, .ag (qa2609 p1)), (43, .ag (qa2621 r6)), (42, .ag (qa2611 p3)), (41, .ag (qa2609 p1)), (40, vb true), (39, vb r5), (38, vb r5), (37, .ag (qa2616 r2)), (36, .ag (qa2614 r1)), (35, vb true), (34, vb (r1.2 == r2.2)), (33, vb (r1.2 == r2.2)), (32, vi r2.2), (31, vi r1.2), (30, vb true), (29, vb (r4.n == (10 : Int))), (28, vi r4.n), (27, .one (.pt 2 0 0 1)), (3, vR (qa2612 p1)), (5, vR (qa2615 p3)), (7, vq 0), (8, vi r1.2), (9, vq 1), (10, vi r2.2), (11, vq 2)]
theorem c_law3_TableTransformsMatchSpec (p1 : GTransform) (p2 : GType) (p3 : GValue) (r : Bool) (h : law3_TableTransformsMatchSpec p1 p2 p3 = some r) : PC Tryz.prog 3 [.ag (qa2609 p1), .ag (qa2610 p2), .ag (qa2611 p3)] (vb r) := by
 unfold law3_TableTransformsMatchSpec at h
 refine zF 50 Tryz.f3 (zq fun K1 m1 => zr (zg [7, 9, 11] 4 [3,4,5] (zd (m1 _ _ (zq fun K2 m2 => ?_)))))
 obtain ⟨r1, c3, h⟩ := zB h
 refine zr (zu [7, 9, 11] 2 [3,4,5,13,14] [(qa2612 p1), (qa2613 p2)] ?_)
 refine zl 7 [.ag (qa2609 p1), .ag (qa2610 p2)] (.tp [.ag (qa2614 r1), vi r1.2]) [(15, .tp [.ag (qa2614 r1), vi r1.2]), (3, vR (qa2612 p1)), (4, vR (qa2613 p2)), (5, vR (qa2615 p3)), (13, .ag (qa2609 p1)), (14, .ag (qa2610 p2))] (c_table_TransformType _ _ _ c3) ?_
 refine zg [7, 9, 11] 6 [3,4,5,7,8] (zd (m2 _ _ (zq fun K4 m4 => ?_)))
 obtain ⟨r2, c5, h⟩ := zB h
 refine zr (zu [7, 9, 11] 2 [3,5,7,8,19,20] [(qa2612 p1), (qa2613 p2)] ?_)
 refine zl 8 [.ag (qa2609 p1), .ag (qa2610 p2)] (.tp [.ag (qa2616 r2), vi r2.2]) [(21, .tp [.ag (qa2616 r2), vi r2.2]), (3, vR (qa2612 p1)), (5, vR (qa2615 p3)), (7, vq 0), (8, vi r1.2), (19, .ag (qa2609 p1)), (20, .ag (qa2610 p2))] (c_ref3_TransformType _ _ _ c5) ?_
 refine zg [7, 9, 11] 6 [3,5,7,8,9,10] (zd (m4 _ _ (zq fun K6 m6 => ?_)))
 obtain ⟨r3, c7, h⟩ := zB h
 obtain ⟨r4, c8, h⟩ := zB h
 refine zr (zg [7, 9, 11] 1 [3,5,7,8,9,10,24] (zl 10 [vi 13] (.ag [ci r3.kind, ci r3.n, ci r3.scale, cst r3.s, cl eValue r3.items]) [(25, .ag [ci r3.kind, ci r3.n, ci r3.scale, cst r3.s, cl eValue r3.items]), (3, vR (qa2612 p1)), (5, vR (qa2615 p3)), (7, vq 0), (8, vi r1.2), (9, vq 1), (10, vi r2.2), (24, .ag [ci 3, ci 10])] (c_law3_number _ _ c7) (za (c_table_Transform _ _ _ c8) (zg [7, 9, 11] 2 [3,5,7,8,9,10,11] (zd ?_)))))
 refine m6 _ _ (zq fun K9 m9 => ?_)
 have j1 : ∀ (x1 : Bool), law3_TableTransformsMatchSpec_j1 x1 = some r → ∀ w0 w1, Sub 50 0 [] w0 w1 [(6, vb x1)] [.box (qa2614 r1), .box (qa2616 r2), .box (qa2620 r4)] → K9 w0 w1 := by
  intro x1 h w0 w1 hS
  unfold law3_TableTransformsMatchSpec_j1 at h
  refine m9 _ _ (XW.sub hS ?_)
  refine ze ?_
  obtain rfl := zj h
  exact zf [vb x1] (.one (.rfl _ rfl))
 rcases zW h with ⟨b10, h⟩ | ⟨b10, h⟩
 ·rcases zW h with ⟨b11, h⟩ | ⟨b11, h⟩
  ·obtain ⟨r5, c12, h⟩ := zB h
   rcases zW h with ⟨b13, h⟩ | ⟨b13, h⟩
   ·obtain ⟨r6, c14, h⟩ := zB h
    obtain ⟨r7, c15, h⟩ := zB h
    obtain ⟨r8, c16, h⟩ := zB h
    refine zw 19 (qa2628 p1 p3 r1 r2 r4 r5 r6) ?_ ?_
    ·refine zyv 4 [] [(30, vb (r4.n == (10 : Int))), (29, vb (r4.n == (10 : Int))), (28, vi r4.n), (27, .one (.pt 2 0 0 1)), (3, vR [pi p1.kind, pi p1.param]), (5, vR [pi p3.kind, pi p3.n, pi p3.scale, .s (.string p3.s), .ro (eValue.els p3.items)]), (7, vq 0), (8, vi r1.2), (9, vq 1), (10, vi r2.2), (11, vq 2)] ?_
     refine DX.eq (fr1 := [(30, vb true), (29, vb (r4.n == (10 : Int))), (28, vi r4.n), (27, .one (.pt 2 0 0 1)), (3, vR [pi p1.kind, pi p1.param]), (5, vR [pi p3.kind, pi p3.n, pi p3.scale, .s (.string p3.s), .ro (eValue.els p3.items)]), (7, vq 0), (8, vi r1.2), (9, vq 1), (10, vi r2.2), (11, vq 2)]) (by rw [b10]) ?_
     refine zyv 5 [] [(35, vb (r1.2 == r2.2)), (34, vb (r1.2 == r2.2)), (33, vb (r1.2 == r2.2)), (32, vi r2.2), (31, vi r1.2), (30, vb true), (29, vb (r4.n == (10 : Int))), (28, vi r4.n), (27, .one (.pt 2 0 0 1)), (3, vR [pi p1.kind, pi p1.param]), (5, vR [pi p3.kind, pi p3.n, pi p3.scale, .s (.string p3.s), .ro (eValue.els p3.items)]), (7, vq 0), (8, vi r1.2), (9, vq 1), (10, vi r2.2), (11, vq 2)] ?_
     refine DX.eq (fr1 := [(35, vb true), (34, vb (r1.2 == r2.2)), (33, vb (r1.2 == r2.2)), (32, vi r2.2), (31, vi r1.2), (30, vb true), (29, vb (r4.n == (10 : Int))), (28, vi r4.n), (27, .one (.pt 2 0 0 1)), (3, vR [pi p1.kind, pi p1.param]), (5, vR [pi p3.kind, pi p3.n, pi p3.scale, .s (.string p3.s), .ro (eValue.els p3.items)]), (7, vq 0), (8, vi r1.2), (9, vq 1), (10, vi r2.2), (11, vq 2)]) (by rw [b11]) (zyg 2 (zya (c_law3_sameType _ _ _ c12) ?_))
     refine zyv 2 [] [(40, vb r5), (39, vb r5), (38, vb r5), (37, .ag [ci r2.1.kind, ci r2.1.scale, cl eField r2.1.fields]), (36, .ag [ci r1.1.kind, ci r1.1.scale, cl eField r1.1.fields]), (35, vb true), (34, vb (r1.2 == r2.2)), (33, vb (r1.2 == r2.2)), (32, vi r2.2), (31, vi r1.2), (30, vb true), (29, vb (r4.n == (10 : Int))), (28, vi r4.n), (27, .one (.pt 2 0 0 1)), (3, vR [pi p1.kind, pi p1.param]), (5, vR [pi p3.kind, pi p3.n, pi p3.scale, .s (.string p3.s), .ro (eValue.els p3.items)]), (7, vq 0), (8, vi r1.2), (9, vq 1), (10, vi r2.2), (11, vq 2)] ?_
     refine DX.eq (fr1 := [(40, vb true), (39, vb r5), (38, vb r5), (37, .ag [ci r2.1.kind, ci r2.1.scale, cl eField r2.1.fields]), (36, .ag [ci r1.1.kind, ci r1.1.scale, cl eField r1.1.fields]), (35, vb true), (34, vb (r1.2 == r2.2)), (33, vb (r1.2 == r2.2)), (32, vi r2.2), (31, vi r1.2), (30, vb true), (29, vb (r4.n == (10 : Int))), (28, vi r4.n), (27, .one (.pt 2 0 0 1)), (3, vR [pi p1.kind, pi p1.param]), (5, vR [pi p3.kind, pi p3.n, pi p3.scale, .s (.string p3.s), .ro (eValue.els p3.items)]), (7, vq 0), (8, vi r1.2), (9, vq 1), (10, vi r2.2), (11, vq 2)]) (by rw [b13]) ?_
     refine zyu 2 [(qa2612 p1), (qa2615 p3)] (zya (c_table_Transform _ _ _ c14) ?_)
     refine zyv 2 [(qa2612 p1), (qa2615 p3)] (qa2628 p1 p3 r1 r2 r4 r5 r6) ?_
     exact zyd
    refine zl 13 [.ag (qa2609 p1), .ag (qa2611 p3)] (.ag [ci r7.kind, ci r7.n, ci r7.scale, cst r7.s, cl eValue r7.items]) [(46, .ag [ci r7.kind, ci r7.n, ci r7.scale, cst r7.s, cl eValue r7.items]), (45, .ag (qa2611 p3)), (44, .ag (qa2609 p1)), (43, .ag (qa2621 r6)), (42, .ag (qa2611 p3)), (41, .ag (qa2609 p1)), (40, vb true), (39, vb r5), (38, vb r5), (37, .ag (qa2616 r2)), (36, .ag (qa2614 r1)), (35, vb true), (34, vb (r1.2 == r2.2)), (33, vb (r1.2 == r2.2)), (32, vi r2.2), (31, vi r1.2), (30, vb true), (29, vb (r4.n == (10 : Int))), (28, vi r4.n), (27, .one (.pt 2 0 0 1)), (3, vR (qa2612 p1)), (5, vR (qa2615 p3)), (7, vq 0), (8, vi r1.2), (9, vq 1), (10, vi r2.2), (11, vq 2)] (c_ref3_Transform _ _ _ c15) ?_
    exact za (c_ref1_Compare BIG _ _ _ c16) (zg [7, 9, 11] 3 [6] (zd (j1 (r8 == (0 : Int)) h _ _ (zk [6]))))
   ·refine zw 19 [(45, .tp []), (44, .tp []), (43, .tp []), (42, .tp []), (41, .tp []), (40, vb false), (39, vb r5), (38, vb r5), (37, .ag (qa2616 r2)), (36, .ag (qa2614 r1)), (35, vb true), (34, vb (r1.2 == r2.2)), (33, vb (r1.2 == r2.2)), (32, vi r2.2), (31, vi r1.2), (30, vb true), (29, vb (r4.n == (10 : Int))), (28, vi r4.n), (27, .one (.pt 2 0 0 1)), (3, vR (qa2612 p1)), (5, vR (qa2615 p3)), (7, vq 0), (8, vi r1.2), (9, vq 1), (10, vi r2.2), (11, vq 2)] ?_ ?_
    ·refine zyv 4 [] [(30, vb (r4.n == (10 : Int))), (29, vb (r4.n == (10 : Int))), (28, vi r4.n), (27, .one (.pt 2 0 0 1)), (3, vR [pi p1.kind, pi p1.param]), (5, vR [pi p3.kind, pi p3.n, pi p3.scale, .s (.string p3.s), .ro (eValue.els p3.items)]), (7, vq 0), (8, vi r1.2), (9, vq 1), (10, vi r2.2), (11, vq 2)] ?_
     refine DX.eq (fr1 := [(30, vb true), (29, vb (r4.n == (10 : Int))), (28, vi r4.n), (27, .one (.pt 2 0 0 1)), (3, vR [pi p1.kind, pi p1.param]), (5, vR [pi p3.kind, pi p3.n, pi p3.scale, .s (.string p3.s), .ro (eValue.els p3.items)]), (7, vq 0), (8, vi r1.2), (9, vq 1), (10, vi r2.2), (11, vq 2)]) (by rw [b10]) ?_
     refine zyv 5 [] [(35, vb (r1.2 == r2.2)), (34, vb (r1.2 == r2.2)), (33, vb (r1.2 == r2.2)), (32, vi r2.2), (31, vi r1.2), (30, vb true), (29, vb (r4.n == (10 : Int))), (28, vi r4.n), (27, .one (.pt 2 0 0 1)), (3, vR [pi p1.kind, pi p1.param]), (5, vR [pi p3.kind, pi p3.n, pi p3.scale, .s (.string p3.s), .ro (eValue.els p3.items)]), (7, vq 0), (8, vi r1.2), (9, vq 1), (10, vi r2.2), (11, vq 2)] ?_
     refine DX.eq (fr1 := [(35, vb true), (34, vb (r1.2 == r2.2)), (33, vb (r1.2 == r2.2)), (32, vi r2.2), (31, vi r1.2), (30, vb true), (29, vb (r4.n == (10 : Int))), (28, vi r4.n), (27, .one (.pt 2 0 0 1)), (3, vR [pi p1.kind, pi p1.param]), (5, vR [pi p3.kind, pi p3.n, pi p3.scale, .s (.string p3.s), .ro (eValue.els p3.items)]), (7, vq 0), (8, vi r1.2), (9, vq 1), (10, vi r2.2), (11, vq 2)]) (by rw [b11]) (zyg 2 (zya (c_law3_sameType _ _ _ c12) ?_))
     refine zyv 2 [] [(40, vb r5), (39, vb r5), (38, vb r5), (37, .ag [ci r2.1.kind, ci r2.1.scale, cl eField r2.1.fields]), (36, .ag [ci r1.1.kind, ci r1.1.scale, cl eField r1.1.fields]), (35, vb true), (34, vb (r1.2 == r2.2)), (33, vb (r1.2 == r2.2)), (32, vi r2.2), (31, vi r1.2), (30, vb true), (29, vb (r4.n == (10 : Int))), (28, vi r4.n), (27, .one (.pt 2 0 0 1)), (3, vR [pi p1.kind, pi p1.param]), (5, vR [pi p3.kind, pi p3.n, pi p3.scale, .s (.string p3.s), .ro (eValue.els p3.items)]), (7, vq 0), (8, vi r1.2), (9, vq 1), (10, vi r2.2), (11, vq 2)] ?_
     refine DX.eq (fr1 := [(40, vb false), (39, vb r5), (38, vb r5), (37, .ag [ci r2.1.kind, ci r2.1.scale, cl eField r2.1.fields]), (36, .ag [ci r1.1.kind, ci r1.1.scale, cl eField r1.1.fields]), (35, vb true), (34, vb (r1.2 == r2.2)), (33, vb (r1.2 == r2.2)), (32, vi r2.2), (31, vi r1.2), (30, vb true), (29, vb (r4.n == (10 : Int))), (28, vi r4.n), (27, .one (.pt 2 0 0 1)), (3, vR [pi p1.kind, pi p1.param]), (5, vR [pi p3.kind, pi p3.n, pi p3.scale, .s (.string p3.s), .ro (eValue.els p3.items)]), (7, vq 0), (8, vi r1.2), (9, vq 1), (10, vi r2.2), (11, vq 2)]) (by rw [b13]) ?_
     exact zyg 5 zyd
    exact zv [7, 9, 11] 5 [6] [] [(6, vb false)] [.box (qa2614 r1), .box (qa2616 r2), .box (qa2620 r4)] (zd (j1 false h _ _ (zk [6])))
  ·refine zw 19 [(45, .tp []), (44, .tp []), (43, .tp []), (42, .tp []), (41, .tp []), (40, vb false), (39, vb false), (38, .tp []), (37, .tp []), (36, .tp []), (35, vb false), (34, vb (r1.2 == r2.2)), (33, vb (r1.2 == r2.2)), (32, vi r2.2), (31, vi r1.2), (30, vb true), (29, vb (r4.n == (10 : Int))), (28, vi r4.n), (27, .one (.pt 2 0 0 1)), (3, vR (qa2612 p1)), (5, vR (qa2615 p3)), (7, vq 0), (8, vi r1.2), (9, vq 1), (10, vi r2.2), (11, vq 2)] ?_ ?_
   ·refine zyv 4 [] [(30, vb (r4.n == (10 : Int))), (29, vb (r4.n == (10 : Int))), (28, vi r4.n), (27, .one (.pt 2 0 0 1)), (3, vR [pi p1.kind, pi p1.param]), (5, vR [pi p3.kind, pi p3.n, pi p3.scale, .s (.string p3.s), .ro (eValue.els p3.items)]), (7, vq 0), (8, vi r1.2), (9, vq 1), (10, vi r2.2), (11, vq 2)] ?_
    refine DX.eq (fr1 := [(30, vb true), (29, vb (r4.n == (10 : Int))), (28, vi r4.n), (27, .one (.pt 2 0 0 1)), (3, vR [pi p1.kind, pi p1.param]), (5, vR [pi p3.kind, pi p3.n, pi p3.scale, .s (.string p3.s), .ro (eValue.els p3.items)]), (7, vq 0), (8, vi r1.2), (9, vq 1), (10, vi r2.2), (11, vq 2)]) (by rw [b10]) ?_
    refine zyv 5 [] [(35, vb (r1.2 == r2.2)), (34, vb (r1.2 == r2.2)), (33, vb (r1.2 == r2.2)), (32, vi r2.2), (31, vi r1.2), (30, vb true), (29, vb (r4.n == (10 : Int))), (28, vi r4.n), (27, .one (.pt 2 0 0 1)), (3, vR [pi p1.kind, pi p1.param]), (5, vR [pi p3.kind, pi p3.n, pi p3.scale, .s (.string p3.s), .ro (eValue.els p3.items)]), (7, vq 0), (8, vi r1.2), (9, vq 1), (10, vi r2.2), (11, vq 2)] ?_
    exact DX.eq (fr1 := [(35, vb false), (34, vb (r1.2 == r2.2)), (33, vb (r1.2 == r2.2)), (32, vi r2.2), (31, vi r1.2), (30, vb true), (29, vb (r4.n == (10 : Int))), (28, vi r4.n), (27, .one (.pt 2 0 0 1)), (3, vR [pi p1.kind, pi p1.param]), (5, vR [pi p3.kind, pi p3.n, pi p3.scale, .s (.string p3.s), .ro (eValue.els p3.items)]), (7, vq 0), (8, vi r1.2), (9, vq 1), (10, vi r2.2), (11, vq 2)]) (by rw [b11]) (zyg 10 zyd)
   exact zv [7, 9, 11] 5 [6] [] [(6, vb false)] [.box (qa2614 r1), .box (qa2616 r2), .box (qa2620 r4)] (zd (j1 false h _ _ (zk [6])))
 ·refine zw 19 [(45, .tp []), (44, .tp []), (43, .tp []), (42, .tp []), (41, .tp []), (40, vb false), (39, vb false), (38, .tp []), (37, .tp []), (36, .tp []), (35, vb false), (34, vb false), (33, .tp []), (32, .tp []), (31, .tp []), (30, vb false), (29, vb (r4.n == (10 : Int))), (28, vi r4.n), (27, .one (.pt 2 0 0 1)), (3, vR (qa2612 p1)), (5, vR (qa2615 p3)), (7, vq 0), (8, vi r1.2), (9, vq 1), (10, vi r2.2), (11, vq 2)] ?_ ?_
  ·refine zyv 4 [] [(30, vb (r4.n == (10 : Int))), (29, vb (r4.n == (10 : Int))), (28, vi r4.n), (27, .one (.pt 2 0 0 1)), (3, vR [pi p1.kind, pi p1.param]), (5, vR [pi p3.kind, pi p3.n, pi p3.scale, .s (.string p3.s), .ro (eValue.els p3.items)]), (7, vq 0), (8, vi r1.2), (9, vq 1), (10, vi r2.2), (11, vq 2)] ?_
   exact DX.eq (fr1 := [(30, vb false), (29, vb (r4.n == (10 : Int))), (28, vi r4.n), (27, .one (.pt 2 0 0 1)), (3, vR [pi p1.kind, pi p1.param]), (5, vR [pi p3.kind, pi p3.n, pi p3.scale, .s (.string p3.s), .ro (eValue.els p3.items)]), (7, vq 0), (8, vi r1.2), (9, vq 1), (10, vi r2.2), (11, vq 2)]) (by rw [b10]) (zyg 15 zyd)
  exact zv [7, 9, 11] 5 [6] [] [(6, vb false)] [.box (qa2614 r1), .box (qa2616 r2), .box (qa2620 r4)] (zd (j1 false h _ _ (zk [6])))
end Go.Proofs.YtmaemlebpjnmoaaGreatDoor
