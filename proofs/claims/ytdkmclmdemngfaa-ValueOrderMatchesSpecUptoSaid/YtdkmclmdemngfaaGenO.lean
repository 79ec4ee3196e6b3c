/- Printed by a program: what the functions compute, and the proofs of their contracts. -/
import Derived.Test.YtdkmclmdemngfaaGenO2
namespace Go.Proofs.Ytdkmclmdemngfaa
open Go.SX Go
set_option linter.unusedVariables false
set_option linter.unusedSimpArgs false
set_option maxRecDepth 100000

def ref1_twelve (p1 : GValue) : Option RWide :=
    bnd (ref1_wideOf p1.n) fun r1 =>
    bnd (ref1_tens r1 (IntKind.i64.wrap ((12 : Int) - p1.scale))) fun r2 =>
    some r2


theorem c_ref1_twelve (p1 : GValue) (r : RWide) (h : ref1_twelve p1 = some r) : PC Try.prog 90 [.ag [ci p1.kind, ci p1.n, ci p1.scale, cst p1.s, cl eValue p1.items]] (.ag [cb r.below, cl eI r.d]) := by
  unfold ref1_twelve at h
  refine PC.of (n := 10) (fn := Try.f90) (c := cd Try.f90 []) (by kernel_rfl) (by kernel_rfl) (by kernel_rfl) (Nat.le_of_ble_eq_true rfl) ?_
  refine XW.seq (x := cd Try.f90 [0]) (y := cd Try.f90 [1]) (by kernel_rfl) fun K1 hK1 => ?_
  refine XW.reg (by kernel_rfl) ?_
  refine XO.go [2] 2 [1,2] [] [(1, .one (.pv (.rp [[pi p1.kind, pi p1.n, pi p1.scale, .s (.string p1.s), .ro (eValue.els p1.items)]] 0 0))), (2, .one (.pt 0 0 0 0))] [.box [cb false, .pv (.s (.slice none 0 0))]] [] (by kernel_rfl) trivial ?_
  refine XO.done (by kernel_rfl) ?_
  refine hK1 _ _ ?_
  refine XW.seq (x := cd Try.f90 [1,0]) (y := cd Try.f90 [1,1]) (by kernel_rfl) fun K2 hK2 => ?_
  obtain ⟨r1, c3, h⟩ := bnd_some h
  obtain ⟨r2, c4, h⟩ := bnd_some h
  refine XW.drwS 6 [(8, vi (IntKind.i64.wrap ((12 : Int) - p1.scale))), (7, vi p1.scale), (6, .one (.pv (.rp [[pi p1.kind, pi p1.n, pi p1.scale, .s (.string p1.s), .ro (eValue.els p1.items)]] 0 2))), (5, .ag [cb r1.below, cl eI r1.d]), (4, vi p1.n), (3, .one (.pv (.rp [[pi p1.kind, pi p1.n, pi p1.scale, .s (.string p1.s), .ro (eValue.els p1.items)]] 0 1))), (1, .one (.pv (.rp [[pi p1.kind, pi p1.n, pi p1.scale, .s (.string p1.s), .ro (eValue.els p1.items)]] 0 0))), (2, .one (.pt 0 0 0 0))] (by kernel_rfl) (by kernel_rfl) ?_ ?_
  · refine DX.go 2 [[pi p1.kind, pi p1.n, pi p1.scale, .s (.string p1.s), .ro (eValue.els p1.items)]] [(4, vi p1.n), (3, .one (.pv (.rp [[pi p1.kind, pi p1.n, pi p1.scale, .s (.string p1.s), .ro (eValue.els p1.items)]] 0 1))), (1, .one (.pv (.rp [[pi p1.kind, pi p1.n, pi p1.scale, .s (.string p1.s), .ro (eValue.els p1.items)]] 0 0))), (2, .one (.pt 0 0 0 0))] [([[pi p1.kind, pi p1.n, pi p1.scale, .s (.string p1.s), .ro (eValue.els p1.items)]] : List (List PV))[0]? = some [pi p1.kind, pi p1.n, pi p1.scale, .s (.string p1.s), .ro (eValue.els p1.items)]] (by kernel_rfl) (⟨rfl, trivial⟩) ?_
    refine DX.cal 107 [vi p1.n] (.ag [cb r1.below, cl eI r1.d]) [(5, .ag [cb r1.below, cl eI r1.d]), (4, vi p1.n), (3, .one (.pv (.rp [[pi p1.kind, pi p1.n, pi p1.scale, .s (.string p1.s), .ro (eValue.els p1.items)]] 0 1))), (1, .one (.pv (.rp [[pi p1.kind, pi p1.n, pi p1.scale, .s (.string p1.s), .ro (eValue.els p1.items)]] 0 0))), (2, .one (.pt 0 0 0 0))] (by kernel_rfl) (c_ref1_wideOf _ _ c3) rfl rfl (by kernel_rfl) ?_
    refine DX.go 3 [[pi p1.kind, pi p1.n, pi p1.scale, .s (.string p1.s), .ro (eValue.els p1.items)]] [(8, vi (IntKind.i64.wrap ((12 : Int) - p1.scale))), (7, vi p1.scale), (6, .one (.pv (.rp [[pi p1.kind, pi p1.n, pi p1.scale, .s (.string p1.s), .ro (eValue.els p1.items)]] 0 2))), (5, .ag [cb r1.below, cl eI r1.d]), (4, vi p1.n), (3, .one (.pv (.rp [[pi p1.kind, pi p1.n, pi p1.scale, .s (.string p1.s), .ro (eValue.els p1.items)]] 0 1))), (1, .one (.pv (.rp [[pi p1.kind, pi p1.n, pi p1.scale, .s (.string p1.s), .ro (eValue.els p1.items)]] 0 0))), (2, .one (.pt 0 0 0 0))] [([[pi p1.kind, pi p1.n, pi p1.scale, .s (.string p1.s), .ro (eValue.els p1.items)]] : List (List PV))[0]? = some [pi p1.kind, pi p1.n, pi p1.scale, .s (.string p1.s), .ro (eValue.els p1.items)]] (by kernel_rfl) (⟨rfl, trivial⟩) ?_
    exact DX.done (by kernel_rfl)
  refine XO.cal 106 [.ag [cb r1.below, cl eI r1.d], vi (IntKind.i64.wrap ((12 : Int) - p1.scale))] (.ag [cb r2.below, cl eI r2.d]) [(9, .ag [cb r2.below, cl eI r2.d]), (8, vi (IntKind.i64.wrap ((12 : Int) - p1.scale))), (7, vi p1.scale), (6, .one (.pv (.rp [[pi p1.kind, pi p1.n, pi p1.scale, .s (.string p1.s), .ro (eValue.els p1.items)]] 0 2))), (5, .ag [cb r1.below, cl eI r1.d]), (4, vi p1.n), (3, .one (.pv (.rp [[pi p1.kind, pi p1.n, pi p1.scale, .s (.string p1.s), .ro (eValue.els p1.items)]] 0 1))), (1, .one (.pv (.rp [[pi p1.kind, pi p1.n, pi p1.scale, .s (.string p1.s), .ro (eValue.els p1.items)]] 0 0))), (2, .one (.pt 0 0 0 0))] (by kernel_rfl) (c_ref1_tens _ _ _ c4) rfl rfl (by kernel_rfl) ?_
  refine XO.go [2] 1 [2] [] [(2, .one (.pt 0 0 0 0))] [.box [cb r2.below, cl eI r2.d]] [] (by kernel_rfl) trivial ?_
  refine XO.done (by kernel_rfl) ?_
  refine hK2 _ _ ?_
  refine XW.ret (by kernel_rfl) ?_
  obtain rfl := Option.some.inj h
  exact FinP.fin (.inr rfl) [] [.ag [cb r2.below, cl eI r2.d]] [] (by kernel_rfl) trivial (.ag (.cons (.rfl _ rfl) (.cons (.rfl _ rfl) .nil)))

def ref1_most_j1 : Option Int :=
    some (0 : Int)

def ref1_most_l1 (p1 : (List Int)) (p2 : (List Int)) : Nat → Int → Option Int
  | 0, _ => none
  | k1 + 1, x1 =>
    ift (decide ((0 : Int) ≤ x1))
      (bnd (at? p1 x1) fun e1 =>
       bnd (at? p2 x1) fun e2 =>
       ift (e1 != e2)
         (some (IntKind.i64.wrap (e1 - e2)))
         ((ref1_most_l1 p1 p2 k1) (IntKind.i64.wrap (x1 - (1 : Int)))))
      (ref1_most_j1)

def ref1_most (p1 : (List Int)) (p2 : (List Int)) : Option Int :=
    ift ((p1.length : Int) != (p2.length : Int))
      (some (IntKind.i64.wrap ((p1.length : Int) - (p2.length : Int))))
      (ref1_most_l1 p1 p2 BIG (IntKind.i64.wrap ((p1.length : Int) - (1 : Int))))


theorem c_ref1_most (p1 : (List Int)) (p2 : (List Int)) (r : Int) (h : ref1_most p1 p2 = some r) : PC Try.prog 105 [vl eI p1, vl eI p2] (vi r) := by
  unfold ref1_most at h
  refine PC.of (n := 41) (fn := Try.f105) (c := cd Try.f105 []) (by kernel_rfl) (by kernel_rfl) (by kernel_rfl) (Nat.le_of_ble_eq_true rfl) ?_
  refine XW.seq (x := cd Try.f105 [0]) (y := cd Try.f105 [1]) (by kernel_rfl) fun K1 hK1 => ?_
  refine XW.reg (by kernel_rfl) ?_
  refine XO.go [] 1 [0,1] [] [(0, vl eI p1), (1, vl eI p2)] [] [] (by kernel_rfl) trivial ?_
  refine XO.done (by kernel_rfl) ?_
  refine hK1 _ _ ?_
  refine XW.seq (x := cd Try.f105 [1,0]) (y := cd Try.f105 [1,1]) (by kernel_rfl) fun K2 hK2 => ?_
  refine XW.seq (x := cd Try.f105 [1,0,0]) (y := cd Try.f105 [1,0,1]) (by kernel_rfl) fun K3 hK3 => ?_
  refine XW.reg (by kernel_rfl) ?_
  refine XO.go [] 2 [0,1,7] [] [(0, vl eI p1), (1, vl eI p2), (7, vi ((eI.els p1).length : Int))] [] [] (by kernel_rfl) trivial ?_
  rw [eI.len p1]
  refine XO.go [] 2 [0,1,7,9] [] [(0, vl eI p1), (1, vl eI p2), (7, vi (p1.length : Int)), (9, vi ((eI.els p2).length : Int))] [] [] (by kernel_rfl) trivial ?_
  rw [eI.len p2]
  refine XO.go [] 1 [0,1,10] [] [(0, vl eI p1), (1, vl eI p2), (10, vb ((p1.length : Int) != (p2.length : Int)))] [] [] (by kernel_rfl) trivial ?_
  refine XO.done (by kernel_rfl) ?_
  refine hK3 _ _ ?_
  refine XW.cond (x := .tmp 10) (a := cd Try.f105 [1,0,1,0]) (b := cd Try.f105 [1,0,1,1]) (t := ((p1.length : Int) != (p2.length : Int))) (by kernel_rfl) (by kernel_rfl) (fun b4 => ?_) (fun b4 => ?_)
  · have h := ift_t b4 h
    refine XW.seq (x := cd Try.f105 [1,0,1,0,0]) (y := cd Try.f105 [1,0,1,0,1]) (by kernel_rfl) fun K5 hK5 => ?_
    refine XW.reg (by kernel_rfl) ?_
    refine XO.go [] 2 [1,12] [] [(1, vl eI p2), (12, vi ((eI.els p1).length : Int))] [] [] (by kernel_rfl) trivial ?_
    rw [eI.len p1]
    refine XO.go [] 2 [12,14] [] [(12, vi (p1.length : Int)), (14, vi ((eI.els p2).length : Int))] [] [] (by kernel_rfl) trivial ?_
    rw [eI.len p2]
    refine XO.go [] 2 [4] [] [(4, vi (IntKind.i64.wrap ((p1.length : Int) - (p2.length : Int))))] [] [] (by kernel_rfl) trivial ?_
    refine XO.done (by kernel_rfl) ?_
    refine hK5 _ _ ?_
    refine XW.ret (by kernel_rfl) ?_
    obtain rfl := Option.some.inj h
    exact FinP.fin (.inr rfl) [] [vi (IntKind.i64.wrap ((p1.length : Int) - (p2.length : Int)))] [] (by kernel_rfl) trivial (.one (.rfl _ rfl))
  · have h := ift_f b4 h
    refine XW.skip (by kernel_rfl) ?_
    refine hK2 _ _ ?_
    refine XW.seq (x := cd Try.f105 [1,1,0]) (y := cd Try.f105 [1,1,1]) (by kernel_rfl) fun K6 hK6 => ?_
    have hJ1 : ∀ (_ : Unit), ref1_most_j1 = some r → ∀ fr1 st1, Sub 41 0 [] fr1 st1 [] [] → K6 fr1 st1 := by
      intro _ h fr1 st1 hS
      unfold ref1_most_j1 at h
      refine hK6 _ _ (XW.sub hS ?_)
      refine XW.seq (x := cd Try.f105 [1,1,1,0]) (y := cd Try.f105 [1,1,1,1]) (by kernel_rfl) fun K17 hK17 => ?_
      refine XW.reg (by kernel_rfl) ?_
      refine XO.go [] 1 [4] [] [(4, vi (0 : Int))] [] [] (by kernel_rfl) trivial ?_
      refine XO.done (by kernel_rfl) ?_
      refine hK17 _ _ ?_
      refine XW.ret (by kernel_rfl) ?_
      obtain rfl := Option.some.inj h
      exact FinP.fin (.inr rfl) [] [vi (0 : Int)] [] (by kernel_rfl) trivial (.one (.rfl _ rfl))
    refine XW.seq (x := cd Try.f105 [1,1,0,0]) (y := cd Try.f105 [1,1,0,1]) (by kernel_rfl) fun K7 hK7 => ?_
    refine XW.reg (by kernel_rfl) ?_
    refine XO.go [] 2 [0,1,17] [] [(0, vl eI p1), (1, vl eI p2), (17, vi ((eI.els p1).length : Int))] [] [] (by kernel_rfl) trivial ?_
    rw [eI.len p1]
    refine XO.go [] 2 [0,1,5] [] [(0, vl eI p1), (1, vl eI p2), (5, vi (IntKind.i64.wrap ((p1.length : Int) - (1 : Int))))] [] [] (by kernel_rfl) trivial ?_
    refine XO.done (by kernel_rfl) ?_
    refine hK7 _ _ ?_
    refine XW.block (id := 0) (x := cd Try.f105 [1,1,0,1,0]) (by kernel_rfl) ?_
    refine XW.rounds' BIG (x := cd Try.f105 [1,1,0,1,0,0]) (by kernel_rfl) fun Q1 hQ1 => ?_
    have hL1 : ∀ (k1 : Nat) (x1 : Int), ref1_most_l1 p1 p2 k1 x1 = some r → XR Try.prog 41 0 [] (cd Try.f105 [1,1,0,1,0,0]) Q1 k1 [(0, vl eI p1), (1, vl eI p2), (5, vi x1)] [] := by
      intro k1
      induction k1 with
      | zero => intro x1 h; rw [ref1_most_l1.eq_1] at h; cases h
      | succ k1 ih1 =>
        intro x1 h
        rw [ref1_most_l1.eq_2] at h
        refine XW.seq (x := cd Try.f105 [1,1,0,1,0,0,0]) (y := cd Try.f105 [1,1,0,1,0,0,1]) (by kernel_rfl) fun K8 hK8 => ?_
        refine XW.seq (x := cd Try.f105 [1,1,0,1,0,0,0,0]) (y := cd Try.f105 [1,1,0,1,0,0,0,1]) (by kernel_rfl) fun K9 hK9 => ?_
        refine XW.reg (by kernel_rfl) ?_
        refine XO.go [] 2 [0,1,5,20] [] [(0, vl eI p1), (1, vl eI p2), (5, vi x1), (20, vb (decide ((0 : Int) ≤ x1)))] [] [] (by kernel_rfl) trivial ?_
        refine XO.done (by kernel_rfl) ?_
        refine hK9 _ _ ?_
        refine XW.cond (x := .tmp 20) (a := cd Try.f105 [1,1,0,1,0,0,0,1,0]) (b := cd Try.f105 [1,1,0,1,0,0,0,1,1]) (t := (decide ((0 : Int) ≤ x1))) (by kernel_rfl) (by kernel_rfl) (fun b10 => ?_) (fun b10 => ?_)
        · have h := ift_t b10 h
          refine XW.skip (by kernel_rfl) ?_
          refine hK8 _ _ ?_
          refine XW.seq (x := cd Try.f105 [1,1,0,1,0,0,1,0]) (y := cd Try.f105 [1,1,0,1,0,0,1,1]) (by kernel_rfl) fun K11 hK11 => ?_
          refine XW.block (id := 1) (x := cd Try.f105 [1,1,0,1,0,0,1,0,0]) (by kernel_rfl) ?_
          refine XW.seq (x := cd Try.f105 [1,1,0,1,0,0,1,0,0,0]) (y := cd Try.f105 [1,1,0,1,0,0,1,0,0,1]) (by kernel_rfl) fun K12 hK12 => ?_
          obtain ⟨e1, a13, h⟩ := bnd_some h
          obtain ⟨e2, a14, h⟩ := bnd_some h
          refine XW.drwS 8 [(30, vi e2), (29, .one (.pv (.rp (eI.els p2) x1.toNat 0))), (28, vi x1), (27, vl eI p2), (26, vi e1), (25, .one (.pv (.rp (eI.els p1) x1.toNat 0))), (24, vi x1), (23, vl eI p1), (0, vl eI p1), (1, vl eI p2), (5, vi x1), (20, vb (decide ((0 : Int) ≤ x1)))] (by kernel_rfl) (by kernel_rfl) ?_ ?_
          · refine DX.go 8 [[pi e1], [pi e2]] [(30, vi e2), (29, .one (.pv (.rp (eI.els p2) x1.toNat 0))), (28, vi x1), (27, vl eI p2), (26, vi e1), (25, .one (.pv (.rp (eI.els p1) x1.toNat 0))), (24, vi x1), (23, vl eI p1), (0, vl eI p1), (1, vl eI p2), (5, vi x1), (20, vb (decide ((0 : Int) ≤ x1)))] [0 ≤ x1 ∧ x1 < ((eI.els p1).length : Int) ∧ elemsOk 1 (eI.els p1), (eI.els p1)[x1.toNat]? = some [pi e1], 0 ≤ x1 ∧ x1 < ((eI.els p2).length : Int) ∧ elemsOk 1 (eI.els p2), (eI.els p2)[x1.toNat]? = some [pi e2]] (by kernel_rfl) (⟨eI.inb a13, (eI.get a13), eI.inb a14, (eI.get a14), trivial⟩) ?_
            exact DX.done (by kernel_rfl)
          refine XO.go [] 1 [0,1,5,31] [] [(0, vl eI p1), (1, vl eI p2), (5, vi x1), (31, vb (e1 != e2))] [] [] (by kernel_rfl) trivial ?_
          refine XO.done (by kernel_rfl) ?_
          refine hK12 _ _ ?_
          refine XW.cond (x := .tmp 31) (a := cd Try.f105 [1,1,0,1,0,0,1,0,0,1,0]) (b := cd Try.f105 [1,1,0,1,0,0,1,0,0,1,1]) (t := (e1 != e2)) (by kernel_rfl) (by kernel_rfl) (fun b15 => ?_) (fun b15 => ?_)
          · have h := ift_t b15 h
            refine XW.seq (x := cd Try.f105 [1,1,0,1,0,0,1,0,0,1,0,0]) (y := cd Try.f105 [1,1,0,1,0,0,1,0,0,1,0,1]) (by kernel_rfl) fun K16 hK16 => ?_
            refine XW.drwS 8 [(39, vi e2), (38, .one (.pv (.rp (eI.els p2) x1.toNat 0))), (37, vi x1), (36, vl eI p2), (35, vi e1), (34, .one (.pv (.rp (eI.els p1) x1.toNat 0))), (33, vi x1), (32, vl eI p1), (0, vl eI p1), (1, vl eI p2), (5, vi x1), (31, vb (e1 != e2))] (by kernel_rfl) (by kernel_rfl) ?_ ?_
            · refine DX.go 8 [[pi e1], [pi e2]] [(39, vi e2), (38, .one (.pv (.rp (eI.els p2) x1.toNat 0))), (37, vi x1), (36, vl eI p2), (35, vi e1), (34, .one (.pv (.rp (eI.els p1) x1.toNat 0))), (33, vi x1), (32, vl eI p1), (0, vl eI p1), (1, vl eI p2), (5, vi x1), (31, vb (e1 != e2))] [0 ≤ x1 ∧ x1 < ((eI.els p1).length : Int) ∧ elemsOk 1 (eI.els p1), (eI.els p1)[x1.toNat]? = some [pi e1], 0 ≤ x1 ∧ x1 < ((eI.els p2).length : Int) ∧ elemsOk 1 (eI.els p2), (eI.els p2)[x1.toNat]? = some [pi e2]] (by kernel_rfl) (⟨eI.inb a13, (eI.get a13), eI.inb a14, (eI.get a14), trivial⟩) ?_
              exact DX.done (by kernel_rfl)
            refine XO.go [] 2 [4] [] [(4, vi (IntKind.i64.wrap (e1 - e2)))] [] [] (by kernel_rfl) trivial ?_
            refine XO.done (by kernel_rfl) ?_
            refine hK16 _ _ ?_
            refine XW.ret (by kernel_rfl) ?_
            refine hQ1 _ _ _ ?_
            obtain rfl := Option.some.inj h
            exact FinP.fin (.inr rfl) [] [vi (IntKind.i64.wrap (e1 - e2))] [] (by kernel_rfl) trivial (.one (.rfl _ rfl))
          · have h := ift_f b15 h
            refine XW.skip (by kernel_rfl) ?_
            refine hK11 _ _ ?_
            refine XW.reg (by kernel_rfl) ?_
            refine XO.go [] 3 [0,1,5] [] [(0, vl eI p1), (1, vl eI p2), (5, vi (IntKind.i64.wrap (x1 - (1 : Int))))] [] [] (by kernel_rfl) trivial ?_
            refine XO.done (by kernel_rfl) ?_
            exact XR.sub (Sub.pick [0,1,5] (by kernel_rfl)) (ih1 (IntKind.i64.wrap (x1 - (1 : Int))) h)
        · have h := ift_f b10 h
          refine XW.exit (id := 0) (by kernel_rfl) ?_
          refine hQ1 _ _ _ ?_
          exact hJ1 () h _ _ (Sub.pick [] (by kernel_rfl))
    exact XR.sub (Sub.pick [0,1,5] (by kernel_rfl)) (hL1 BIG (IntKind.i64.wrap ((p1.length : Int) - (1 : Int))) h)

def ref1_compareWide_j1 (x1 : Int) : Option Int :=
    ift (decide (x1 < (0 : Int)))
      (some (-1 : Int))
      (ift (decide ((0 : Int) < x1))
         (some (1 : Int))
         (some (0 : Int)))

def ref1_compareWide (p1 : RWide) (p2 : RWide) : Option Int :=
    ift (!(p1.below == p2.below))
      (ift p1.below
         (some (-1 : Int))
         (some (1 : Int)))
      (bnd (ref1_most p1.d p2.d) fun r1 =>
       ift p1.below
         (ref1_compareWide_j1 (IntKind.i64.wrap (0 - r1)))
         (ref1_compareWide_j1 r1))


theorem c_ref1_compareWide (p1 : RWide) (p2 : RWide) (r : Int) (h : ref1_compareWide p1 p2 = some r) : PC Try.prog 89 [.ag [cb p1.below, cl eI p1.d], .ag [cb p2.below, cl eI p2.d]] (vi r) := by
  unfold ref1_compareWide at h
  refine PC.of (n := 26) (fn := Try.f89) (c := cd Try.f89 []) (by kernel_rfl) (by kernel_rfl) (by kernel_rfl) (Nat.le_of_ble_eq_true rfl) ?_
  refine XW.seq (x := cd Try.f89 [0]) (y := cd Try.f89 [1]) (by kernel_rfl) fun K1 hK1 => ?_
  refine XW.reg (by kernel_rfl) ?_
  refine XO.go [] 3 [2,3] [] [(2, .one (.pv (.rp [[.s (.bool p1.below), .ro (eI.els p1.d)]] 0 0))), (3, .one (.pv (.rp [[.s (.bool p2.below), .ro (eI.els p2.d)]] 0 0)))] [] [] (by kernel_rfl) trivial ?_
  refine XO.done (by kernel_rfl) ?_
  refine hK1 _ _ ?_
  refine XW.seq (x := cd Try.f89 [1,0]) (y := cd Try.f89 [1,1]) (by kernel_rfl) fun K2 hK2 => ?_
  refine XW.seq (x := cd Try.f89 [1,0,0]) (y := cd Try.f89 [1,0,1]) (by kernel_rfl) fun K3 hK3 => ?_
  refine XW.reg (by kernel_rfl) ?_
  refine XO.go [] 5 [2,3,10] [[.s (.bool p1.below), .ro (eI.els p1.d)], [.s (.bool p2.below), .ro (eI.els p2.d)]] [(2, .one (.pv (.rp [[.s (.bool p1.below), .ro (eI.els p1.d)]] 0 0))), (3, .one (.pv (.rp [[.s (.bool p2.below), .ro (eI.els p2.d)]] 0 0))), (10, vb (!(p1.below == p2.below)))] [] [([[.s (.bool p1.below), .ro (eI.els p1.d)]] : List (List PV))[0]? = some [.s (.bool p1.below), .ro (eI.els p1.d)], ([[.s (.bool p2.below), .ro (eI.els p2.d)]] : List (List PV))[0]? = some [.s (.bool p2.below), .ro (eI.els p2.d)]] (by kernel_rfl) (⟨rfl, rfl, trivial⟩) ?_
  refine XO.done (by kernel_rfl) ?_
  refine hK3 _ _ ?_
  refine XW.cond (x := .tmp 10) (a := cd Try.f89 [1,0,1,0]) (b := cd Try.f89 [1,0,1,1]) (t := (!(p1.below == p2.below))) (by kernel_rfl) (by kernel_rfl) (fun b4 => ?_) (fun b4 => ?_)
  · have h := ift_t b4 h
    refine XW.seq (x := cd Try.f89 [1,0,1,0,0]) (y := cd Try.f89 [1,0,1,0,1]) (by kernel_rfl) fun K5 hK5 => ?_
    refine XW.seq (x := cd Try.f89 [1,0,1,0,0,0]) (y := cd Try.f89 [1,0,1,0,0,1]) (by kernel_rfl) fun K6 hK6 => ?_
    refine XW.reg (by kernel_rfl) ?_
    refine XO.go [] 2 [12] [[.s (.bool p1.below), .ro (eI.els p1.d)]] [(12, vb p1.below)] [] [([[.s (.bool p1.below), .ro (eI.els p1.d)]] : List (List PV))[0]? = some [.s (.bool p1.below), .ro (eI.els p1.d)]] (by kernel_rfl) (⟨rfl, trivial⟩) ?_
    refine XO.done (by kernel_rfl) ?_
    refine hK6 _ _ ?_
    refine XW.cond (x := .tmp 12) (a := cd Try.f89 [1,0,1,0,0,1,0]) (b := cd Try.f89 [1,0,1,0,0,1,1]) (t := p1.below) (by kernel_rfl) (by kernel_rfl) (fun b7 => ?_) (fun b7 => ?_)
    · have h := ift_t b7 h
      refine XW.seq (x := cd Try.f89 [1,0,1,0,0,1,0,0]) (y := cd Try.f89 [1,0,1,0,0,1,0,1]) (by kernel_rfl) fun K8 hK8 => ?_
      refine XW.reg (by kernel_rfl) ?_
      refine XO.go [] 1 [4] [] [(4, vi (-1 : Int))] [] [] (by kernel_rfl) trivial ?_
      refine XO.done (by kernel_rfl) ?_
      refine hK8 _ _ ?_
      refine XW.ret (by kernel_rfl) ?_
      obtain rfl := Option.some.inj h
      exact FinP.fin (.inr rfl) [] [vi (-1 : Int)] [] (by kernel_rfl) trivial (.one (.rfl _ rfl))
    · have h := ift_f b7 h
      refine XW.skip (by kernel_rfl) ?_
      refine hK5 _ _ ?_
      refine XW.seq (x := cd Try.f89 [1,0,1,0,1,0]) (y := cd Try.f89 [1,0,1,0,1,1]) (by kernel_rfl) fun K9 hK9 => ?_
      refine XW.reg (by kernel_rfl) ?_
      refine XO.go [] 1 [4] [] [(4, vi (1 : Int))] [] [] (by kernel_rfl) trivial ?_
      refine XO.done (by kernel_rfl) ?_
      refine hK9 _ _ ?_
      refine XW.ret (by kernel_rfl) ?_
      obtain rfl := Option.some.inj h
      exact FinP.fin (.inr rfl) [] [vi (1 : Int)] [] (by kernel_rfl) trivial (.one (.rfl _ rfl))
  · have h := ift_f b4 h
    refine XW.skip (by kernel_rfl) ?_
    refine hK2 _ _ ?_
    refine XW.seq (x := cd Try.f89 [1,1,0]) (y := cd Try.f89 [1,1,1]) (by kernel_rfl) fun K10 hK10 => ?_
    obtain ⟨r1, c11, h⟩ := bnd_some h
    refine XW.reg (by kernel_rfl) ?_
    refine XO.go [] 4 [2,14,16] [[.s (.bool p1.below), .ro (eI.els p1.d)], [.s (.bool p2.below), .ro (eI.els p2.d)]] [(2, .one (.pv (.rp [[.s (.bool p1.below), .ro (eI.els p1.d)]] 0 0))), (14, vl eI p1.d), (16, vl eI p2.d)] [] [([[.s (.bool p1.below), .ro (eI.els p1.d)]] : List (List PV))[0]? = some [.s (.bool p1.below), .ro (eI.els p1.d)], ([[.s (.bool p2.below), .ro (eI.els p2.d)]] : List (List PV))[0]? = some [.s (.bool p2.below), .ro (eI.els p2.d)]] (by kernel_rfl) (⟨rfl, rfl, trivial⟩) ?_
    refine XO.cal 105 [vl eI p1.d, vl eI p2.d] (vi r1) [(17, vi r1), (2, .one (.pv (.rp [[.s (.bool p1.below), .ro (eI.els p1.d)]] 0 0))), (14, vl eI p1.d), (16, vl eI p2.d)] (by kernel_rfl) (c_ref1_most _ _ _ c11) rfl rfl (by kernel_rfl) ?_
    refine XO.go [] 1 [2,5] [] [(2, .one (.pv (.rp [[.s (.bool p1.below), .ro (eI.els p1.d)]] 0 0))), (5, vi r1)] [] [] (by kernel_rfl) trivial ?_
    refine XO.done (by kernel_rfl) ?_
    refine hK10 _ _ ?_
    refine XW.seq (x := cd Try.f89 [1,1,1,0]) (y := cd Try.f89 [1,1,1,1]) (by kernel_rfl) fun K12 hK12 => ?_
    have hJ1 : ∀ (x1 : Int), ref1_compareWide_j1 x1 = some r → ∀ fr1 st1, Sub 26 0 [] fr1 st1 [(5, vi x1)] [] → K12 fr1 st1 := by
      intro x1 h fr1 st1 hS
      unfold ref1_compareWide_j1 at h
      refine hK12 _ _ (XW.sub hS ?_)
      refine XW.seq (x := cd Try.f89 [1,1,1,1,0]) (y := cd Try.f89 [1,1,1,1,1]) (by kernel_rfl) fun K15 hK15 => ?_
      refine XW.seq (x := cd Try.f89 [1,1,1,1,0,0]) (y := cd Try.f89 [1,1,1,1,0,1]) (by kernel_rfl) fun K16 hK16 => ?_
      refine XW.reg (by kernel_rfl) ?_
      refine XO.go [] 2 [5,23] [] [(5, vi x1), (23, vb (decide (x1 < (0 : Int))))] [] [] (by kernel_rfl) trivial ?_
      refine XO.done (by kernel_rfl) ?_
      refine hK16 _ _ ?_
      refine XW.cond (x := .tmp 23) (a := cd Try.f89 [1,1,1,1,0,1,0]) (b := cd Try.f89 [1,1,1,1,0,1,1]) (t := (decide (x1 < (0 : Int)))) (by kernel_rfl) (by kernel_rfl) (fun b17 => ?_) (fun b17 => ?_)
      · have h := ift_t b17 h
        refine XW.seq (x := cd Try.f89 [1,1,1,1,0,1,0,0]) (y := cd Try.f89 [1,1,1,1,0,1,0,1]) (by kernel_rfl) fun K18 hK18 => ?_
        refine XW.reg (by kernel_rfl) ?_
        refine XO.go [] 1 [4] [] [(4, vi (-1 : Int))] [] [] (by kernel_rfl) trivial ?_
        refine XO.done (by kernel_rfl) ?_
        refine hK18 _ _ ?_
        refine XW.ret (by kernel_rfl) ?_
        obtain rfl := Option.some.inj h
        exact FinP.fin (.inr rfl) [] [vi (-1 : Int)] [] (by kernel_rfl) trivial (.one (.rfl _ rfl))
      · have h := ift_f b17 h
        refine XW.skip (by kernel_rfl) ?_
        refine hK15 _ _ ?_
        refine XW.seq (x := cd Try.f89 [1,1,1,1,1,0]) (y := cd Try.f89 [1,1,1,1,1,1]) (by kernel_rfl) fun K19 hK19 => ?_
        refine XW.seq (x := cd Try.f89 [1,1,1,1,1,0,0]) (y := cd Try.f89 [1,1,1,1,1,0,1]) (by kernel_rfl) fun K20 hK20 => ?_
        refine XW.reg (by kernel_rfl) ?_
        refine XO.go [] 2 [25] [] [(25, vb (decide ((0 : Int) < x1)))] [] [] (by kernel_rfl) trivial ?_
        refine XO.done (by kernel_rfl) ?_
        refine hK20 _ _ ?_
        refine XW.cond (x := .tmp 25) (a := cd Try.f89 [1,1,1,1,1,0,1,0]) (b := cd Try.f89 [1,1,1,1,1,0,1,1]) (t := (decide ((0 : Int) < x1))) (by kernel_rfl) (by kernel_rfl) (fun b21 => ?_) (fun b21 => ?_)
        · have h := ift_t b21 h
          refine XW.seq (x := cd Try.f89 [1,1,1,1,1,0,1,0,0]) (y := cd Try.f89 [1,1,1,1,1,0,1,0,1]) (by kernel_rfl) fun K22 hK22 => ?_
          refine XW.reg (by kernel_rfl) ?_
          refine XO.go [] 1 [4] [] [(4, vi (1 : Int))] [] [] (by kernel_rfl) trivial ?_
          refine XO.done (by kernel_rfl) ?_
          refine hK22 _ _ ?_
          refine XW.ret (by kernel_rfl) ?_
          obtain rfl := Option.some.inj h
          exact FinP.fin (.inr rfl) [] [vi (1 : Int)] [] (by kernel_rfl) trivial (.one (.rfl _ rfl))
        · have h := ift_f b21 h
          refine XW.skip (by kernel_rfl) ?_
          refine hK19 _ _ ?_
          refine XW.seq (x := cd Try.f89 [1,1,1,1,1,1,0]) (y := cd Try.f89 [1,1,1,1,1,1,1]) (by kernel_rfl) fun K23 hK23 => ?_
          refine XW.reg (by kernel_rfl) ?_
          refine XO.go [] 1 [4] [] [(4, vi (0 : Int))] [] [] (by kernel_rfl) trivial ?_
          refine XO.done (by kernel_rfl) ?_
          refine hK23 _ _ ?_
          refine XW.ret (by kernel_rfl) ?_
          obtain rfl := Option.some.inj h
          exact FinP.fin (.inr rfl) [] [vi (0 : Int)] [] (by kernel_rfl) trivial (.one (.rfl _ rfl))
    refine XW.seq (x := cd Try.f89 [1,1,1,0,0]) (y := cd Try.f89 [1,1,1,0,1]) (by kernel_rfl) fun K13 hK13 => ?_
    refine XW.reg (by kernel_rfl) ?_
    refine XO.go [] 2 [5,19] [[.s (.bool p1.below), .ro (eI.els p1.d)]] [(5, vi r1), (19, vb p1.below)] [] [([[.s (.bool p1.below), .ro (eI.els p1.d)]] : List (List PV))[0]? = some [.s (.bool p1.below), .ro (eI.els p1.d)]] (by kernel_rfl) (⟨rfl, trivial⟩) ?_
    refine XO.done (by kernel_rfl) ?_
    refine hK13 _ _ ?_
    refine XW.cond (x := .tmp 19) (a := cd Try.f89 [1,1,1,0,1,0]) (b := cd Try.f89 [1,1,1,0,1,1]) (t := p1.below) (by kernel_rfl) (by kernel_rfl) (fun b14 => ?_) (fun b14 => ?_)
    · have h := ift_t b14 h
      refine XW.reg (by kernel_rfl) ?_
      refine XO.go [] 3 [5] [] [(5, vi (IntKind.i64.wrap (0 - r1)))] [] [] (by kernel_rfl) trivial ?_
      refine XO.done (by kernel_rfl) ?_
      exact hJ1 (IntKind.i64.wrap (0 - r1)) h _ _ (Sub.pick [5] (by kernel_rfl))
    · have h := ift_f b14 h
      refine XW.skip (by kernel_rfl) ?_
      exact hJ1 r1 h _ _ (Sub.pick [5] (by kernel_rfl))

def ref1_decimals (p1 : GValue) (p2 : GValue) : Option Int :=
    bnd (ref1_within p1.scale (0 : Int) (12 : Int)) fun r1 =>
    bnd (ref1_within p2.scale (0 : Int) (12 : Int)) fun r2 =>
    ift (!(r1 == r2))
      (ift r1
         (some (-1 : Int))
         (some (1 : Int)))
      (ift r1
         (bnd (ref1_twelve p1) fun r3 =>
          bnd (ref1_twelve p2) fun r4 =>
          bnd (ref1_compareWide r3 r4) fun r5 =>
          ift (r5 != (0 : Int))
            (some r5)
            (bnd (ref1_order p1.scale p2.scale) fun r6 =>
             some r6))
         (ift (p1.n != p2.n)
            (bnd (ref1_order p1.n p2.n) fun r7 =>
             some r7)
            (bnd (ref1_order p1.scale p2.scale) fun r8 =>
             some r8)))


theorem c_ref1_decimals (p1 : GValue) (p2 : GValue) (r : Int) (h : ref1_decimals p1 p2 = some r) : PC Try.prog 55 [.ag [ci p1.kind, ci p1.n, ci p1.scale, cst p1.s, cl eValue p1.items], .ag [ci p2.kind, ci p2.n, ci p2.scale, cst p2.s, cl eValue p2.items]] (vi r) := by
  unfold ref1_decimals at h
  refine PC.of (n := 47) (fn := Try.f55) (c := cd Try.f55 []) (by kernel_rfl) (by kernel_rfl) (by kernel_rfl) (Nat.le_of_ble_eq_true rfl) ?_
  refine XW.seq (x := cd Try.f55 [0]) (y := cd Try.f55 [1]) (by kernel_rfl) fun K1 hK1 => ?_
  refine XW.reg (by kernel_rfl) ?_
  refine XO.go [] 3 [2,3] [] [(2, .one (.pv (.rp [[pi p1.kind, pi p1.n, pi p1.scale, .s (.string p1.s), .ro (eValue.els p1.items)]] 0 0))), (3, .one (.pv (.rp [[pi p2.kind, pi p2.n, pi p2.scale, .s (.string p2.s), .ro (eValue.els p2.items)]] 0 0)))] [] [] (by kernel_rfl) trivial ?_
  refine XO.done (by kernel_rfl) ?_
  refine hK1 _ _ ?_
  refine XW.seq (x := cd Try.f55 [1,0]) (y := cd Try.f55 [1,1]) (by kernel_rfl) fun K2 hK2 => ?_
  obtain ⟨r1, c3, h⟩ := bnd_some h
  obtain ⟨r2, c4, h⟩ := bnd_some h
  refine XW.drwS 5 [(12, vi p2.scale), (11, .one (.pv (.rp [[pi p2.kind, pi p2.n, pi p2.scale, .s (.string p2.s), .ro (eValue.els p2.items)]] 0 2))), (10, vb r1), (9, vi p1.scale), (8, .one (.pv (.rp [[pi p1.kind, pi p1.n, pi p1.scale, .s (.string p1.s), .ro (eValue.els p1.items)]] 0 2))), (2, .one (.pv (.rp [[pi p1.kind, pi p1.n, pi p1.scale, .s (.string p1.s), .ro (eValue.els p1.items)]] 0 0))), (3, .one (.pv (.rp [[pi p2.kind, pi p2.n, pi p2.scale, .s (.string p2.s), .ro (eValue.els p2.items)]] 0 0)))] (by kernel_rfl) (by kernel_rfl) ?_ ?_
  · refine DX.go 2 [[pi p1.kind, pi p1.n, pi p1.scale, .s (.string p1.s), .ro (eValue.els p1.items)]] [(9, vi p1.scale), (8, .one (.pv (.rp [[pi p1.kind, pi p1.n, pi p1.scale, .s (.string p1.s), .ro (eValue.els p1.items)]] 0 2))), (2, .one (.pv (.rp [[pi p1.kind, pi p1.n, pi p1.scale, .s (.string p1.s), .ro (eValue.els p1.items)]] 0 0))), (3, .one (.pv (.rp [[pi p2.kind, pi p2.n, pi p2.scale, .s (.string p2.s), .ro (eValue.els p2.items)]] 0 0)))] [([[pi p1.kind, pi p1.n, pi p1.scale, .s (.string p1.s), .ro (eValue.els p1.items)]] : List (List PV))[0]? = some [pi p1.kind, pi p1.n, pi p1.scale, .s (.string p1.s), .ro (eValue.els p1.items)]] (by kernel_rfl) (⟨rfl, trivial⟩) ?_
    refine DX.cal 58 [vi p1.scale, vi (0 : Int), vi (12 : Int)] (vb r1) [(10, vb r1), (9, vi p1.scale), (8, .one (.pv (.rp [[pi p1.kind, pi p1.n, pi p1.scale, .s (.string p1.s), .ro (eValue.els p1.items)]] 0 2))), (2, .one (.pv (.rp [[pi p1.kind, pi p1.n, pi p1.scale, .s (.string p1.s), .ro (eValue.els p1.items)]] 0 0))), (3, .one (.pv (.rp [[pi p2.kind, pi p2.n, pi p2.scale, .s (.string p2.s), .ro (eValue.els p2.items)]] 0 0)))] (by kernel_rfl) (c_ref1_within _ _ _ _ c3) rfl rfl (by kernel_rfl) ?_
    refine DX.go 2 [[pi p2.kind, pi p2.n, pi p2.scale, .s (.string p2.s), .ro (eValue.els p2.items)]] [(12, vi p2.scale), (11, .one (.pv (.rp [[pi p2.kind, pi p2.n, pi p2.scale, .s (.string p2.s), .ro (eValue.els p2.items)]] 0 2))), (10, vb r1), (9, vi p1.scale), (8, .one (.pv (.rp [[pi p1.kind, pi p1.n, pi p1.scale, .s (.string p1.s), .ro (eValue.els p1.items)]] 0 2))), (2, .one (.pv (.rp [[pi p1.kind, pi p1.n, pi p1.scale, .s (.string p1.s), .ro (eValue.els p1.items)]] 0 0))), (3, .one (.pv (.rp [[pi p2.kind, pi p2.n, pi p2.scale, .s (.string p2.s), .ro (eValue.els p2.items)]] 0 0)))] [([[pi p2.kind, pi p2.n, pi p2.scale, .s (.string p2.s), .ro (eValue.els p2.items)]] : List (List PV))[0]? = some [pi p2.kind, pi p2.n, pi p2.scale, .s (.string p2.s), .ro (eValue.els p2.items)]] (by kernel_rfl) (⟨rfl, trivial⟩) ?_
    exact DX.done (by kernel_rfl)
  refine XO.cal 58 [vi p2.scale, vi (0 : Int), vi (12 : Int)] (vb r2) [(13, vb r2), (12, vi p2.scale), (11, .one (.pv (.rp [[pi p2.kind, pi p2.n, pi p2.scale, .s (.string p2.s), .ro (eValue.els p2.items)]] 0 2))), (10, vb r1), (9, vi p1.scale), (8, .one (.pv (.rp [[pi p1.kind, pi p1.n, pi p1.scale, .s (.string p1.s), .ro (eValue.els p1.items)]] 0 2))), (2, .one (.pv (.rp [[pi p1.kind, pi p1.n, pi p1.scale, .s (.string p1.s), .ro (eValue.els p1.items)]] 0 0))), (3, .one (.pv (.rp [[pi p2.kind, pi p2.n, pi p2.scale, .s (.string p2.s), .ro (eValue.els p2.items)]] 0 0)))] (by kernel_rfl) (c_ref1_within _ _ _ _ c4) rfl rfl (by kernel_rfl) ?_
  refine XO.go [] 2 [2,3,5,6] [] [(2, .one (.pv (.rp [[pi p1.kind, pi p1.n, pi p1.scale, .s (.string p1.s), .ro (eValue.els p1.items)]] 0 0))), (3, .one (.pv (.rp [[pi p2.kind, pi p2.n, pi p2.scale, .s (.string p2.s), .ro (eValue.els p2.items)]] 0 0))), (5, vb r1), (6, vb r2)] [] [] (by kernel_rfl) trivial ?_
  refine XO.done (by kernel_rfl) ?_
  refine hK2 _ _ ?_
  refine XW.seq (x := cd Try.f55 [1,1,0]) (y := cd Try.f55 [1,1,1]) (by kernel_rfl) fun K5 hK5 => ?_
  refine XW.seq (x := cd Try.f55 [1,1,0,0]) (y := cd Try.f55 [1,1,0,1]) (by kernel_rfl) fun K6 hK6 => ?_
  refine XW.reg (by kernel_rfl) ?_
  refine XO.go [] 3 [2,3,5,16] [] [(2, .one (.pv (.rp [[pi p1.kind, pi p1.n, pi p1.scale, .s (.string p1.s), .ro (eValue.els p1.items)]] 0 0))), (3, .one (.pv (.rp [[pi p2.kind, pi p2.n, pi p2.scale, .s (.string p2.s), .ro (eValue.els p2.items)]] 0 0))), (5, vb r1), (16, vb (!(r1 == r2)))] [] [] (by kernel_rfl) trivial ?_
  refine XO.done (by kernel_rfl) ?_
  refine hK6 _ _ ?_
  refine XW.cond (x := .tmp 16) (a := cd Try.f55 [1,1,0,1,0]) (b := cd Try.f55 [1,1,0,1,1]) (t := (!(r1 == r2))) (by kernel_rfl) (by kernel_rfl) (fun b7 => ?_) (fun b7 => ?_)
  · have h := ift_t b7 h
    refine XW.seq (x := cd Try.f55 [1,1,0,1,0,0]) (y := cd Try.f55 [1,1,0,1,0,1]) (by kernel_rfl) fun K8 hK8 => ?_
    refine XW.seq (x := cd Try.f55 [1,1,0,1,0,0,0]) (y := cd Try.f55 [1,1,0,1,0,0,1]) (by kernel_rfl) fun K9 hK9 => ?_
    refine XW.reg (by kernel_rfl) ?_
    refine XO.go [] 1 [17] [] [(17, vb r1)] [] [] (by kernel_rfl) trivial ?_
    refine XO.done (by kernel_rfl) ?_
    refine hK9 _ _ ?_
    refine XW.cond (x := .tmp 17) (a := cd Try.f55 [1,1,0,1,0,0,1,0]) (b := cd Try.f55 [1,1,0,1,0,0,1,1]) (t := r1) (by kernel_rfl) (by kernel_rfl) (fun b10 => ?_) (fun b10 => ?_)
    · have h := ift_t b10 h
      refine XW.seq (x := cd Try.f55 [1,1,0,1,0,0,1,0,0]) (y := cd Try.f55 [1,1,0,1,0,0,1,0,1]) (by kernel_rfl) fun K11 hK11 => ?_
      refine XW.reg (by kernel_rfl) ?_
      refine XO.go [] 1 [4] [] [(4, vi (-1 : Int))] [] [] (by kernel_rfl) trivial ?_
      refine XO.done (by kernel_rfl) ?_
      refine hK11 _ _ ?_
      refine XW.ret (by kernel_rfl) ?_
      obtain rfl := Option.some.inj h
      exact FinP.fin (.inr rfl) [] [vi (-1 : Int)] [] (by kernel_rfl) trivial (.one (.rfl _ rfl))
    · have h := ift_f b10 h
      refine XW.skip (by kernel_rfl) ?_
      refine hK8 _ _ ?_
      refine XW.seq (x := cd Try.f55 [1,1,0,1,0,1,0]) (y := cd Try.f55 [1,1,0,1,0,1,1]) (by kernel_rfl) fun K12 hK12 => ?_
      refine XW.reg (by kernel_rfl) ?_
      refine XO.go [] 1 [4] [] [(4, vi (1 : Int))] [] [] (by kernel_rfl) trivial ?_
      refine XO.done (by kernel_rfl) ?_
      refine hK12 _ _ ?_
      refine XW.ret (by kernel_rfl) ?_
      obtain rfl := Option.some.inj h
      exact FinP.fin (.inr rfl) [] [vi (1 : Int)] [] (by kernel_rfl) trivial (.one (.rfl _ rfl))
  · have h := ift_f b7 h
    refine XW.skip (by kernel_rfl) ?_
    refine hK5 _ _ ?_
    refine XW.seq (x := cd Try.f55 [1,1,1,0]) (y := cd Try.f55 [1,1,1,1]) (by kernel_rfl) fun K13 hK13 => ?_
    refine XW.seq (x := cd Try.f55 [1,1,1,0,0]) (y := cd Try.f55 [1,1,1,0,1]) (by kernel_rfl) fun K14 hK14 => ?_
    refine XW.reg (by kernel_rfl) ?_
    refine XO.go [] 1 [2,3,18] [] [(2, .one (.pv (.rp [[pi p1.kind, pi p1.n, pi p1.scale, .s (.string p1.s), .ro (eValue.els p1.items)]] 0 0))), (3, .one (.pv (.rp [[pi p2.kind, pi p2.n, pi p2.scale, .s (.string p2.s), .ro (eValue.els p2.items)]] 0 0))), (18, vb r1)] [] [] (by kernel_rfl) trivial ?_
    refine XO.done (by kernel_rfl) ?_
    refine hK14 _ _ ?_
    refine XW.cond (x := .tmp 18) (a := cd Try.f55 [1,1,1,0,1,0]) (b := cd Try.f55 [1,1,1,0,1,1]) (t := r1) (by kernel_rfl) (by kernel_rfl) (fun b15 => ?_) (fun b15 => ?_)
    · have h := ift_t b15 h
      refine XW.seq (x := cd Try.f55 [1,1,1,0,1,0,0]) (y := cd Try.f55 [1,1,1,0,1,0,1]) (by kernel_rfl) fun K16 hK16 => ?_
      refine XW.seq (x := cd Try.f55 [1,1,1,0,1,0,0,0]) (y := cd Try.f55 [1,1,1,0,1,0,0,1]) (by kernel_rfl) fun K17 hK17 => ?_
      obtain ⟨r3, c18, h⟩ := bnd_some h
      obtain ⟨r4, c19, h⟩ := bnd_some h
      obtain ⟨r5, c20, h⟩ := bnd_some h
      refine XW.drwS 3 [(21, .ag [ci p2.kind, ci p2.n, ci p2.scale, cst p2.s, cl eValue p2.items]), (20, .ag [cb r3.below, cl eI r3.d]), (19, .ag [ci p1.kind, ci p1.n, ci p1.scale, cst p1.s, cl eValue p1.items]), (2, .one (.pv (.rp [[pi p1.kind, pi p1.n, pi p1.scale, .s (.string p1.s), .ro (eValue.els p1.items)]] 0 0))), (3, .one (.pv (.rp [[pi p2.kind, pi p2.n, pi p2.scale, .s (.string p2.s), .ro (eValue.els p2.items)]] 0 0))), (18, vb r1)] (by kernel_rfl) (by kernel_rfl) ?_ ?_
      · refine DX.go 1 [[pi p1.kind, pi p1.n, pi p1.scale, .s (.string p1.s), .ro (eValue.els p1.items)]] [(19, .ag [ci p1.kind, ci p1.n, ci p1.scale, cst p1.s, cl eValue p1.items]), (2, .one (.pv (.rp [[pi p1.kind, pi p1.n, pi p1.scale, .s (.string p1.s), .ro (eValue.els p1.items)]] 0 0))), (3, .one (.pv (.rp [[pi p2.kind, pi p2.n, pi p2.scale, .s (.string p2.s), .ro (eValue.els p2.items)]] 0 0))), (18, vb r1)] [([[pi p1.kind, pi p1.n, pi p1.scale, .s (.string p1.s), .ro (eValue.els p1.items)]] : List (List PV))[0]? = some [pi p1.kind, pi p1.n, pi p1.scale, .s (.string p1.s), .ro (eValue.els p1.items)]] (by kernel_rfl) (⟨rfl, trivial⟩) ?_
        refine DX.cal 90 [.ag [ci p1.kind, ci p1.n, ci p1.scale, cst p1.s, cl eValue p1.items]] (.ag [cb r3.below, cl eI r3.d]) [(20, .ag [cb r3.below, cl eI r3.d]), (19, .ag [ci p1.kind, ci p1.n, ci p1.scale, cst p1.s, cl eValue p1.items]), (2, .one (.pv (.rp [[pi p1.kind, pi p1.n, pi p1.scale, .s (.string p1.s), .ro (eValue.els p1.items)]] 0 0))), (3, .one (.pv (.rp [[pi p2.kind, pi p2.n, pi p2.scale, .s (.string p2.s), .ro (eValue.els p2.items)]] 0 0))), (18, vb r1)] (by kernel_rfl) (c_ref1_twelve _ _ c18) rfl rfl (by kernel_rfl) ?_
        refine DX.go 1 [[pi p2.kind, pi p2.n, pi p2.scale, .s (.string p2.s), .ro (eValue.els p2.items)]] [(21, .ag [ci p2.kind, ci p2.n, ci p2.scale, cst p2.s, cl eValue p2.items]), (20, .ag [cb r3.below, cl eI r3.d]), (19, .ag [ci p1.kind, ci p1.n, ci p1.scale, cst p1.s, cl eValue p1.items]), (2, .one (.pv (.rp [[pi p1.kind, pi p1.n, pi p1.scale, .s (.string p1.s), .ro (eValue.els p1.items)]] 0 0))), (3, .one (.pv (.rp [[pi p2.kind, pi p2.n, pi p2.scale, .s (.string p2.s), .ro (eValue.els p2.items)]] 0 0))), (18, vb r1)] [([[pi p2.kind, pi p2.n, pi p2.scale, .s (.string p2.s), .ro (eValue.els p2.items)]] : List (List PV))[0]? = some [pi p2.kind, pi p2.n, pi p2.scale, .s (.string p2.s), .ro (eValue.els p2.items)]] (by kernel_rfl) (⟨rfl, trivial⟩) ?_
        exact DX.done (by kernel_rfl)
      refine XO.cal 90 [.ag [ci p2.kind, ci p2.n, ci p2.scale, cst p2.s, cl eValue p2.items]] (.ag [cb r4.below, cl eI r4.d]) [(22, .ag [cb r4.below, cl eI r4.d]), (21, .ag [ci p2.kind, ci p2.n, ci p2.scale, cst p2.s, cl eValue p2.items]), (20, .ag [cb r3.below, cl eI r3.d]), (19, .ag [ci p1.kind, ci p1.n, ci p1.scale, cst p1.s, cl eValue p1.items]), (2, .one (.pv (.rp [[pi p1.kind, pi p1.n, pi p1.scale, .s (.string p1.s), .ro (eValue.els p1.items)]] 0 0))), (3, .one (.pv (.rp [[pi p2.kind, pi p2.n, pi p2.scale, .s (.string p2.s), .ro (eValue.els p2.items)]] 0 0))), (18, vb r1)] (by kernel_rfl) (c_ref1_twelve _ _ c19) rfl rfl (by kernel_rfl) ?_
      refine XO.cal 89 [.ag [cb r3.below, cl eI r3.d], .ag [cb r4.below, cl eI r4.d]] (vi r5) [(23, vi r5), (22, .ag [cb r4.below, cl eI r4.d]), (21, .ag [ci p2.kind, ci p2.n, ci p2.scale, cst p2.s, cl eValue p2.items]), (20, .ag [cb r3.below, cl eI r3.d]), (19, .ag [ci p1.kind, ci p1.n, ci p1.scale, cst p1.s, cl eValue p1.items]), (2, .one (.pv (.rp [[pi p1.kind, pi p1.n, pi p1.scale, .s (.string p1.s), .ro (eValue.els p1.items)]] 0 0))), (3, .one (.pv (.rp [[pi p2.kind, pi p2.n, pi p2.scale, .s (.string p2.s), .ro (eValue.els p2.items)]] 0 0))), (18, vb r1)] (by kernel_rfl) (c_ref1_compareWide _ _ _ c20) rfl rfl (by kernel_rfl) ?_
      refine XO.go [] 1 [2,3,7] [] [(2, .one (.pv (.rp [[pi p1.kind, pi p1.n, pi p1.scale, .s (.string p1.s), .ro (eValue.els p1.items)]] 0 0))), (3, .one (.pv (.rp [[pi p2.kind, pi p2.n, pi p2.scale, .s (.string p2.s), .ro (eValue.els p2.items)]] 0 0))), (7, vi r5)] [] [] (by kernel_rfl) trivial ?_
      refine XO.done (by kernel_rfl) ?_
      refine hK17 _ _ ?_
      refine XW.seq (x := cd Try.f55 [1,1,1,0,1,0,0,1,0]) (y := cd Try.f55 [1,1,1,0,1,0,0,1,1]) (by kernel_rfl) fun K21 hK21 => ?_
      refine XW.reg (by kernel_rfl) ?_
      refine XO.go [] 2 [2,3,7,25] [] [(2, .one (.pv (.rp [[pi p1.kind, pi p1.n, pi p1.scale, .s (.string p1.s), .ro (eValue.els p1.items)]] 0 0))), (3, .one (.pv (.rp [[pi p2.kind, pi p2.n, pi p2.scale, .s (.string p2.s), .ro (eValue.els p2.items)]] 0 0))), (7, vi r5), (25, vb (r5 != (0 : Int)))] [] [] (by kernel_rfl) trivial ?_
      refine XO.done (by kernel_rfl) ?_
      refine hK21 _ _ ?_
      refine XW.cond (x := .tmp 25) (a := cd Try.f55 [1,1,1,0,1,0,0,1,1,0]) (b := cd Try.f55 [1,1,1,0,1,0,0,1,1,1]) (t := (r5 != (0 : Int))) (by kernel_rfl) (by kernel_rfl) (fun b22 => ?_) (fun b22 => ?_)
      · have h := ift_t b22 h
        refine XW.seq (x := cd Try.f55 [1,1,1,0,1,0,0,1,1,0,0]) (y := cd Try.f55 [1,1,1,0,1,0,0,1,1,0,1]) (by kernel_rfl) fun K23 hK23 => ?_
        refine XW.reg (by kernel_rfl) ?_
        refine XO.go [] 2 [4] [] [(4, vi r5)] [] [] (by kernel_rfl) trivial ?_
        refine XO.done (by kernel_rfl) ?_
        refine hK23 _ _ ?_
        refine XW.ret (by kernel_rfl) ?_
        obtain rfl := Option.some.inj h
        exact FinP.fin (.inr rfl) [] [vi r5] [] (by kernel_rfl) trivial (.one (.rfl _ rfl))
      · have h := ift_f b22 h
        refine XW.skip (by kernel_rfl) ?_
        refine hK16 _ _ ?_
        refine XW.seq (x := cd Try.f55 [1,1,1,0,1,0,1,0]) (y := cd Try.f55 [1,1,1,0,1,0,1,1]) (by kernel_rfl) fun K24 hK24 => ?_
        obtain ⟨r6, c25, h⟩ := bnd_some h
        refine XW.reg (by kernel_rfl) ?_
        refine XO.go [] 4 [28,30] [[pi p1.kind, pi p1.n, pi p1.scale, .s (.string p1.s), .ro (eValue.els p1.items)], [pi p2.kind, pi p2.n, pi p2.scale, .s (.string p2.s), .ro (eValue.els p2.items)]] [(28, vi p1.scale), (30, vi p2.scale)] [] [([[pi p1.kind, pi p1.n, pi p1.scale, .s (.string p1.s), .ro (eValue.els p1.items)]] : List (List PV))[0]? = some [pi p1.kind, pi p1.n, pi p1.scale, .s (.string p1.s), .ro (eValue.els p1.items)], ([[pi p2.kind, pi p2.n, pi p2.scale, .s (.string p2.s), .ro (eValue.els p2.items)]] : List (List PV))[0]? = some [pi p2.kind, pi p2.n, pi p2.scale, .s (.string p2.s), .ro (eValue.els p2.items)]] (by kernel_rfl) (⟨rfl, rfl, trivial⟩) ?_
        refine XO.cal 54 [vi p1.scale, vi p2.scale] (vi r6) [(31, vi r6), (28, vi p1.scale), (30, vi p2.scale)] (by kernel_rfl) (c_ref1_order _ _ _ c25) rfl rfl (by kernel_rfl) ?_
        refine XO.go [] 1 [4] [] [(4, vi r6)] [] [] (by kernel_rfl) trivial ?_
        refine XO.done (by kernel_rfl) ?_
        refine hK24 _ _ ?_
        refine XW.ret (by kernel_rfl) ?_
        obtain rfl := Option.some.inj h
        exact FinP.fin (.inr rfl) [] [vi r6] [] (by kernel_rfl) trivial (.one (.rfl _ rfl))
    · have h := ift_f b15 h
      refine XW.skip (by kernel_rfl) ?_
      refine hK13 _ _ ?_
      refine XW.seq (x := cd Try.f55 [1,1,1,1,0]) (y := cd Try.f55 [1,1,1,1,1]) (by kernel_rfl) fun K26 hK26 => ?_
      refine XW.seq (x := cd Try.f55 [1,1,1,1,0,0]) (y := cd Try.f55 [1,1,1,1,0,1]) (by kernel_rfl) fun K27 hK27 => ?_
      refine XW.reg (by kernel_rfl) ?_
      refine XO.go [] 5 [2,3,36] [[pi p1.kind, pi p1.n, pi p1.scale, .s (.string p1.s), .ro (eValue.els p1.items)], [pi p2.kind, pi p2.n, pi p2.scale, .s (.string p2.s), .ro (eValue.els p2.items)]] [(2, .one (.pv (.rp [[pi p1.kind, pi p1.n, pi p1.scale, .s (.string p1.s), .ro (eValue.els p1.items)]] 0 0))), (3, .one (.pv (.rp [[pi p2.kind, pi p2.n, pi p2.scale, .s (.string p2.s), .ro (eValue.els p2.items)]] 0 0))), (36, vb (p1.n != p2.n))] [] [([[pi p1.kind, pi p1.n, pi p1.scale, .s (.string p1.s), .ro (eValue.els p1.items)]] : List (List PV))[0]? = some [pi p1.kind, pi p1.n, pi p1.scale, .s (.string p1.s), .ro (eValue.els p1.items)], ([[pi p2.kind, pi p2.n, pi p2.scale, .s (.string p2.s), .ro (eValue.els p2.items)]] : List (List PV))[0]? = some [pi p2.kind, pi p2.n, pi p2.scale, .s (.string p2.s), .ro (eValue.els p2.items)]] (by kernel_rfl) (⟨rfl, rfl, trivial⟩) ?_
      refine XO.done (by kernel_rfl) ?_
      refine hK27 _ _ ?_
      refine XW.cond (x := .tmp 36) (a := cd Try.f55 [1,1,1,1,0,1,0]) (b := cd Try.f55 [1,1,1,1,0,1,1]) (t := (p1.n != p2.n)) (by kernel_rfl) (by kernel_rfl) (fun b28 => ?_) (fun b28 => ?_)
      · have h := ift_t b28 h
        refine XW.seq (x := cd Try.f55 [1,1,1,1,0,1,0,0]) (y := cd Try.f55 [1,1,1,1,0,1,0,1]) (by kernel_rfl) fun K29 hK29 => ?_
        obtain ⟨r7, c30, h⟩ := bnd_some h
        refine XW.reg (by kernel_rfl) ?_
        refine XO.go [] 4 [38,40] [[pi p1.kind, pi p1.n, pi p1.scale, .s (.string p1.s), .ro (eValue.els p1.items)], [pi p2.kind, pi p2.n, pi p2.scale, .s (.string p2.s), .ro (eValue.els p2.items)]] [(38, vi p1.n), (40, vi p2.n)] [] [([[pi p1.kind, pi p1.n, pi p1.scale, .s (.string p1.s), .ro (eValue.els p1.items)]] : List (List PV))[0]? = some [pi p1.kind, pi p1.n, pi p1.scale, .s (.string p1.s), .ro (eValue.els p1.items)], ([[pi p2.kind, pi p2.n, pi p2.scale, .s (.string p2.s), .ro (eValue.els p2.items)]] : List (List PV))[0]? = some [pi p2.kind, pi p2.n, pi p2.scale, .s (.string p2.s), .ro (eValue.els p2.items)]] (by kernel_rfl) (⟨rfl, rfl, trivial⟩) ?_
        refine XO.cal 54 [vi p1.n, vi p2.n] (vi r7) [(41, vi r7), (38, vi p1.n), (40, vi p2.n)] (by kernel_rfl) (c_ref1_order _ _ _ c30) rfl rfl (by kernel_rfl) ?_
        refine XO.go [] 1 [4] [] [(4, vi r7)] [] [] (by kernel_rfl) trivial ?_
        refine XO.done (by kernel_rfl) ?_
        refine hK29 _ _ ?_
        refine XW.ret (by kernel_rfl) ?_
        obtain rfl := Option.some.inj h
        exact FinP.fin (.inr rfl) [] [vi r7] [] (by kernel_rfl) trivial (.one (.rfl _ rfl))
      · have h := ift_f b28 h
        refine XW.skip (by kernel_rfl) ?_
        refine hK26 _ _ ?_
        refine XW.seq (x := cd Try.f55 [1,1,1,1,1,0]) (y := cd Try.f55 [1,1,1,1,1,1]) (by kernel_rfl) fun K31 hK31 => ?_
        obtain ⟨r8, c32, h⟩ := bnd_some h
        refine XW.reg (by kernel_rfl) ?_
        refine XO.go [] 4 [43,45] [[pi p1.kind, pi p1.n, pi p1.scale, .s (.string p1.s), .ro (eValue.els p1.items)], [pi p2.kind, pi p2.n, pi p2.scale, .s (.string p2.s), .ro (eValue.els p2.items)]] [(43, vi p1.scale), (45, vi p2.scale)] [] [([[pi p1.kind, pi p1.n, pi p1.scale, .s (.string p1.s), .ro (eValue.els p1.items)]] : List (List PV))[0]? = some [pi p1.kind, pi p1.n, pi p1.scale, .s (.string p1.s), .ro (eValue.els p1.items)], ([[pi p2.kind, pi p2.n, pi p2.scale, .s (.string p2.s), .ro (eValue.els p2.items)]] : List (List PV))[0]? = some [pi p2.kind, pi p2.n, pi p2.scale, .s (.string p2.s), .ro (eValue.els p2.items)]] (by kernel_rfl) (⟨rfl, rfl, trivial⟩) ?_
        refine XO.cal 54 [vi p1.scale, vi p2.scale] (vi r8) [(46, vi r8), (43, vi p1.scale), (45, vi p2.scale)] (by kernel_rfl) (c_ref1_order _ _ _ c32) rfl rfl (by kernel_rfl) ?_
        refine XO.go [] 1 [4] [] [(4, vi r8)] [] [] (by kernel_rfl) trivial ?_
        refine XO.done (by kernel_rfl) ?_
        refine hK31 _ _ ?_
        refine XW.ret (by kernel_rfl) ?_
        obtain rfl := Option.some.inj h
        exact FinP.fin (.inr rfl) [] [vi r8] [] (by kernel_rfl) trivial (.one (.rfl _ rfl))

def ref1_texts_j2 (p1 : ByteArray) (p2 : ByteArray) : Option Int :=
    bnd (ref1_order (p1.size : Int) (p2.size : Int)) fun r2 =>
    some r2

def ref1_texts_j1 (rec1 : Int → Option Int) (p1 : ByteArray) (p2 : ByteArray) (x1 : Int) (x2 : Bool) : Option Int :=
    ift x2
      (grd (0 ≤ x1 ∧ x1 < (p1.size : Int)) <|
       grd (0 ≤ x1 ∧ x1 < (p2.size : Int)) <|
       bnd (some (((p1.data.toList.getD x1.toNat 0).toNat : Int) != ((p2.data.toList.getD x1.toNat 0).toNat : Int))) fun y1 =>
       ift y1
         (grd (0 ≤ x1 ∧ x1 < (p1.size : Int)) <|
          grd (0 ≤ x1 ∧ x1 < (p2.size : Int)) <|
          bnd (ref1_order (IntKind.i64.wrap ((p1.data.toList.getD x1.toNat 0).toNat : Int)) (IntKind.i64.wrap ((p2.data.toList.getD x1.toNat 0).toNat : Int))) fun r1 =>
          some r1)
         (rec1 (IntKind.i64.wrap (x1 + (1 : Int)))))
      (ref1_texts_j2 p1 p2)

def ref1_texts_l1 (p1 : ByteArray) (p2 : ByteArray) : Nat → Int → Option Int
  | 0, _ => none
  | k1 + 1, x1 =>
    ift (decide (x1 < (p1.size : Int)))
      (ref1_texts_j1 (ref1_texts_l1 p1 p2 k1) p1 p2 x1 (decide (x1 < (p2.size : Int))))
      (ref1_texts_j1 (ref1_texts_l1 p1 p2 k1) p1 p2 x1 false)

def ref1_texts (p1 : ByteArray) (p2 : ByteArray) : Option Int :=
    ref1_texts_l1 p1 p2 BIG (0 : Int)


theorem c_ref1_texts (p1 : ByteArray) (p2 : ByteArray) (r : Int) (h : ref1_texts p1 p2 = some r) : PC Try.prog 56 [vs p1, vs p2] (vi r) := by
  unfold ref1_texts at h
  refine PC.of (n := 39) (fn := Try.f56) (c := cd Try.f56 []) (by kernel_rfl) (by kernel_rfl) (by kernel_rfl) (Nat.le_of_ble_eq_true rfl) ?_
  refine XW.seq (x := cd Try.f56 [0]) (y := cd Try.f56 [1]) (by kernel_rfl) fun K1 hK1 => ?_
  refine XW.reg (by kernel_rfl) ?_
  refine XO.go [] 1 [0,1] [] [(0, vs p1), (1, vs p2)] [] [] (by kernel_rfl) trivial ?_
  refine XO.done (by kernel_rfl) ?_
  refine hK1 _ _ ?_
  refine XW.seq (x := cd Try.f56 [1,0]) (y := cd Try.f56 [1,1]) (by kernel_rfl) fun K2 hK2 => ?_
  have hJ2 : ∀ (_ : Unit), ref1_texts_j2 p1 p2 = some r → ∀ fr1 st1, Sub 39 0 [] fr1 st1 [(0, vs p1), (1, vs p2)] [] → K2 fr1 st1 := by
    intro _ h fr1 st1 hS
    unfold ref1_texts_j2 at h
    refine hK2 _ _ (XW.sub hS ?_)
    refine XW.seq (x := cd Try.f56 [1,1,0]) (y := cd Try.f56 [1,1,1]) (by kernel_rfl) fun K18 hK18 => ?_
    obtain ⟨r2, c19, h⟩ := bnd_some h
    refine XW.reg (by kernel_rfl) ?_
    refine XO.go [] 4 [35,37] [] [(35, vi (p1.size : Int)), (37, vi (p2.size : Int))] [] [] (by kernel_rfl) trivial ?_
    refine XO.cal 54 [vi (p1.size : Int), vi (p2.size : Int)] (vi r2) [(38, vi r2), (35, vi (p1.size : Int)), (37, vi (p2.size : Int))] (by kernel_rfl) (c_ref1_order _ _ _ c19) rfl rfl (by kernel_rfl) ?_
    refine XO.go [] 1 [4] [] [(4, vi r2)] [] [] (by kernel_rfl) trivial ?_
    refine XO.done (by kernel_rfl) ?_
    refine hK18 _ _ ?_
    refine XW.ret (by kernel_rfl) ?_
    obtain rfl := Option.some.inj h
    exact FinP.fin (.inr rfl) [] [vi r2] [] (by kernel_rfl) trivial (.one (.rfl _ rfl))
  refine XW.seq (x := cd Try.f56 [1,0,0]) (y := cd Try.f56 [1,0,1]) (by kernel_rfl) fun K3 hK3 => ?_
  refine XW.reg (by kernel_rfl) ?_
  refine XO.go [] 1 [0,1,5] [] [(0, vs p1), (1, vs p2), (5, vi (0 : Int))] [] [] (by kernel_rfl) trivial ?_
  refine XO.done (by kernel_rfl) ?_
  refine hK3 _ _ ?_
  refine XW.block (id := 0) (x := cd Try.f56 [1,0,1,0]) (by kernel_rfl) ?_
  refine XW.rounds' BIG (x := cd Try.f56 [1,0,1,0,0]) (by kernel_rfl) fun Q1 hQ1 => ?_
  have hL1 : ∀ (k1 : Nat) (x1 : Int), ref1_texts_l1 p1 p2 k1 x1 = some r → XR Try.prog 39 0 [] (cd Try.f56 [1,0,1,0,0]) Q1 k1 [(0, vs p1), (1, vs p2), (5, vi x1)] [] := by
    intro k1
    induction k1 with
    | zero => intro x1 h; rw [ref1_texts_l1.eq_1] at h; cases h
    | succ k1 ih1 =>
      intro x1 h
      rw [ref1_texts_l1.eq_2] at h
      refine XW.seq (x := cd Try.f56 [1,0,1,0,0,0]) (y := cd Try.f56 [1,0,1,0,0,1]) (by kernel_rfl) fun K4 hK4 => ?_
      refine XW.seq (x := cd Try.f56 [1,0,1,0,0,0,0]) (y := cd Try.f56 [1,0,1,0,0,0,1]) (by kernel_rfl) fun K5 hK5 => ?_
      have hJ1 : ∀ (x2 : Bool), ref1_texts_j1 (ref1_texts_l1 p1 p2 k1) p1 p2 x1 x2 = some r → ∀ fr1 st1, Sub 39 0 [] fr1 st1 [(0, vs p1), (1, vs p2), (5, vi x1), (15, vb x2)] [] → K5 fr1 st1 := by
        intro x2 h fr1 st1 hS
        unfold ref1_texts_j1 at h
        refine hK5 _ _ (XW.sub hS ?_)
        refine XW.cond (x := .tmp 15) (a := cd Try.f56 [1,0,1,0,0,0,1,0]) (b := cd Try.f56 [1,0,1,0,0,0,1,1]) (t := x2) (by kernel_rfl) (by kernel_rfl) (fun b7 => ?_) (fun b7 => ?_)
        · have h := ift_t b7 h
          refine XW.skip (by kernel_rfl) ?_
          refine hK4 _ _ ?_
          refine XW.seq (x := cd Try.f56 [1,0,1,0,0,1,0]) (y := cd Try.f56 [1,0,1,0,0,1,1]) (by kernel_rfl) fun K8 hK8 => ?_
          refine XW.block (id := 1) (x := cd Try.f56 [1,0,1,0,0,1,0,0]) (by kernel_rfl) ?_
          refine XW.seq (x := cd Try.f56 [1,0,1,0,0,1,0,0,0]) (y := cd Try.f56 [1,0,1,0,0,1,0,0,1]) (by kernel_rfl) fun K9 hK9 => ?_
          obtain ⟨g10, h⟩ := grd_some h
          obtain ⟨g11, h⟩ := grd_some h
          obtain ⟨y1, y12, h⟩ := bnd_some h
          refine XW.drwS 6 [(23, vk .u8 ((p2.data.toList.getD x1.toNat 0).toNat : Int)), (22, vi x1), (21, vs p2), (20, vk .u8 ((p1.data.toList.getD x1.toNat 0).toNat : Int)), (19, vi x1), (18, vs p1), (0, vs p1), (1, vs p2), (5, vi x1), (15, vb x2)] (by kernel_rfl) (by kernel_rfl) ?_ ?_
          · refine DX.go 6 [] [(23, vk .u8 ((p2.data.toList.getD x1.toNat 0).toNat : Int)), (22, vi x1), (21, vs p2), (20, vk .u8 ((p1.data.toList.getD x1.toNat 0).toNat : Int)), (19, vi x1), (18, vs p1), (0, vs p1), (1, vs p2), (5, vi x1), (15, vb x2)] [0 ≤ x1 ∧ x1 < (p1.size : Int), 0 ≤ x1 ∧ x1 < (p2.size : Int)] (by kernel_rfl) (⟨g10, g11, trivial⟩) ?_
            exact DX.done (by kernel_rfl)
          refine XO.go [] 1 [0,1,5,24] [] [(0, vs p1), (1, vs p2), (5, vi x1), (24, vb (((p1.data.toList.getD x1.toNat 0).toNat : Int) != ((p2.data.toList.getD x1.toNat 0).toNat : Int)))] [] [] (by kernel_rfl) trivial ?_
          rw [show (((p1.data.toList.getD x1.toNat 0).toNat : Int) != ((p2.data.toList.getD x1.toNat 0).toNat : Int)) = y1 from Option.some.inj y12]
          refine XO.done (by kernel_rfl) ?_
          refine hK9 _ _ ?_
          refine XW.cond (x := .tmp 24) (a := cd Try.f56 [1,0,1,0,0,1,0,0,1,0]) (b := cd Try.f56 [1,0,1,0,0,1,0,0,1,1]) (t := y1) (by kernel_rfl) (by kernel_rfl) (fun b13 => ?_) (fun b13 => ?_)
          · have h := ift_t b13 h
            refine XW.seq (x := cd Try.f56 [1,0,1,0,0,1,0,0,1,0,0]) (y := cd Try.f56 [1,0,1,0,0,1,0,0,1,0,1]) (by kernel_rfl) fun K14 hK14 => ?_
            obtain ⟨g15, h⟩ := grd_some h
            obtain ⟨g16, h⟩ := grd_some h
            obtain ⟨r1, c17, h⟩ := bnd_some h
            refine XW.drwS 8 [(32, vi (IntKind.i64.wrap ((p2.data.toList.getD x1.toNat 0).toNat : Int))), (31, vk .u8 ((p2.data.toList.getD x1.toNat 0).toNat : Int)), (30, vi x1), (29, vs p2), (28, vi (IntKind.i64.wrap ((p1.data.toList.getD x1.toNat 0).toNat : Int))), (27, vk .u8 ((p1.data.toList.getD x1.toNat 0).toNat : Int)), (26, vi x1), (25, vs p1), (0, vs p1), (1, vs p2), (5, vi x1), (24, vb y1)] (by kernel_rfl) (by kernel_rfl) ?_ ?_
            · refine DX.go 8 [] [(32, vi (IntKind.i64.wrap ((p2.data.toList.getD x1.toNat 0).toNat : Int))), (31, vk .u8 ((p2.data.toList.getD x1.toNat 0).toNat : Int)), (30, vi x1), (29, vs p2), (28, vi (IntKind.i64.wrap ((p1.data.toList.getD x1.toNat 0).toNat : Int))), (27, vk .u8 ((p1.data.toList.getD x1.toNat 0).toNat : Int)), (26, vi x1), (25, vs p1), (0, vs p1), (1, vs p2), (5, vi x1), (24, vb y1)] [0 ≤ x1 ∧ x1 < (p1.size : Int), 0 ≤ x1 ∧ x1 < (p2.size : Int)] (by kernel_rfl) (⟨g15, g16, trivial⟩) ?_
              exact DX.done (by kernel_rfl)
            refine XO.cal 54 [vi (IntKind.i64.wrap ((p1.data.toList.getD x1.toNat 0).toNat : Int)), vi (IntKind.i64.wrap ((p2.data.toList.getD x1.toNat 0).toNat : Int))] (vi r1) [(33, vi r1), (32, vi (IntKind.i64.wrap ((p2.data.toList.getD x1.toNat 0).toNat : Int))), (31, vk .u8 ((p2.data.toList.getD x1.toNat 0).toNat : Int)), (30, vi x1), (29, vs p2), (28, vi (IntKind.i64.wrap ((p1.data.toList.getD x1.toNat 0).toNat : Int))), (27, vk .u8 ((p1.data.toList.getD x1.toNat 0).toNat : Int)), (26, vi x1), (25, vs p1), (0, vs p1), (1, vs p2), (5, vi x1), (24, vb y1)] (by kernel_rfl) (c_ref1_order _ _ _ c17) rfl rfl (by kernel_rfl) ?_
            refine XO.go [] 1 [4] [] [(4, vi r1)] [] [] (by kernel_rfl) trivial ?_
            refine XO.done (by kernel_rfl) ?_
            refine hK14 _ _ ?_
            refine XW.ret (by kernel_rfl) ?_
            refine hQ1 _ _ _ ?_
            obtain rfl := Option.some.inj h
            exact FinP.fin (.inr rfl) [] [vi r1] [] (by kernel_rfl) trivial (.one (.rfl _ rfl))
          · have h := ift_f b13 h
            refine XW.skip (by kernel_rfl) ?_
            refine hK8 _ _ ?_
            refine XW.reg (by kernel_rfl) ?_
            refine XO.go [] 3 [0,1,5] [] [(0, vs p1), (1, vs p2), (5, vi (IntKind.i64.wrap (x1 + (1 : Int))))] [] [] (by kernel_rfl) trivial ?_
            refine XO.done (by kernel_rfl) ?_
            exact XR.sub (Sub.pick [0,1,5] (by kernel_rfl)) (ih1 (IntKind.i64.wrap (x1 + (1 : Int))) h)
        · have h := ift_f b7 h
          refine XW.exit (id := 0) (by kernel_rfl) ?_
          refine hQ1 _ _ _ ?_
          exact hJ2 () h _ _ (Sub.pick [0,1] (by kernel_rfl))
      rcases Bool.eq_false_or_eq_true (decide (x1 < (p1.size : Int))) with b6 | b6
      · have h := ift_t b6 h
        refine XW.reg (by kernel_rfl) ?_
        refine XO.go [] 5 [0,1,5,10] [] [(0, vs p1), (1, vs p2), (5, vi x1), (10, vb (decide (x1 < (p1.size : Int))))] [] [] (by kernel_rfl) trivial ?_
        refine XO.setb 10 true (B := (decide (x1 < (p1.size : Int)))) rfl b6 ?_
        refine XO.go [] 5 [0,1,5,15] [] [(0, vs p1), (1, vs p2), (5, vi x1), (15, vb (decide (x1 < (p2.size : Int))))] [] [] (by kernel_rfl) trivial ?_
        refine XO.done (by kernel_rfl) ?_
        exact hJ1 (decide (x1 < (p2.size : Int))) h _ _ (Sub.pick [0,1,5,15] (by kernel_rfl))
      · have h := ift_f b6 h
        refine XW.reg (by kernel_rfl) ?_
        refine XO.go [] 5 [0,1,5,10] [] [(0, vs p1), (1, vs p2), (5, vi x1), (10, vb (decide (x1 < (p1.size : Int))))] [] [] (by kernel_rfl) trivial ?_
        refine XO.setb 10 false (B := (decide (x1 < (p1.size : Int)))) rfl b6 ?_
        refine XO.go [] 5 [0,1,5,15] [] [(0, vs p1), (1, vs p2), (5, vi x1), (15, vb false)] [] [] (by kernel_rfl) trivial ?_
        refine XO.done (by kernel_rfl) ?_
        exact hJ1 false h _ _ (Sub.pick [0,1,5,15] (by kernel_rfl))
  exact XR.sub (Sub.pick [0,1,5] (by kernel_rfl)) (hL1 BIG (0 : Int) h)

def ref1_Compare_j4 (p1 : GValue) (p2 : GValue) : Option Int :=
    bnd (ref1_order (p1.items.length : Int) (p2.items.length : Int)) fun r7 =>
    some r7

def ref1_Compare_j3 (rec1 : Int → Option Int) (q_ref1_Compare : GValue → GValue → Option Int) (p1 : GValue) (p2 : GValue) (x2 : Int) (x3 : Bool) : Option Int :=
    ift x3
      (bnd (at? p1.items x2) fun e1 =>
       bnd (at? p2.items x2) fun e2 =>
       bnd (q_ref1_Compare e1 e2) fun r6 =>
       ift (r6 != (0 : Int))
         (some r6)
         (rec1 (IntKind.i64.wrap (x2 + (1 : Int)))))
      (ref1_Compare_j4 p1 p2)

def ref1_Compare_l1 (q_ref1_Compare : GValue → GValue → Option Int) (p1 : GValue) (p2 : GValue) : Nat → Int → Option Int
  | 0, _ => none
  | k1 + 1, x2 =>
    ift (decide (x2 < (p1.items.length : Int)))
      (ref1_Compare_j3 (ref1_Compare_l1 q_ref1_Compare p1 p2 k1) q_ref1_Compare p1 p2 x2 (decide (x2 < (p2.items.length : Int))))
      (ref1_Compare_j3 (ref1_Compare_l1 q_ref1_Compare p1 p2 k1) q_ref1_Compare p1 p2 x2 false)

def ref1_Compare_j2 (q_ref1_Compare : GValue → GValue → Option Int) (p1 : GValue) (p2 : GValue) (x1 : Bool) : Option Int :=
    ift x1
      (bnd (ref1_order p1.n p2.n) fun r3 =>
       some r3)
      (ift (p1.scale != p2.scale)
         (bnd (ref1_order p1.scale p2.scale) fun r4 =>
          some r4)
         (bnd (ref1_texts p1.s p2.s) fun r5 =>
          ift (r5 != (0 : Int))
            (some r5)
            (ref1_Compare_l1 q_ref1_Compare p1 p2 BIG (0 : Int))))

def ref1_Compare_j1 (q_ref1_Compare : GValue → GValue → Option Int) (p1 : GValue) (p2 : GValue) : Option Int :=
    ift (p1.n != p2.n)
      (ref1_Compare_j2 q_ref1_Compare p1 p2 (p1.kind != (3 : Int)))
      (ref1_Compare_j2 q_ref1_Compare p1 p2 false)

def ref1_Compare : Nat → GValue → GValue → Option Int
  | 0, _, _ => none
  | k0 + 1, p1, p2 =>
    ift (!((p1.kind == (0 : Int)) == (p2.kind == (0 : Int))))
      (ift (p1.kind == (0 : Int))
         (some (1 : Int))
         (some (-1 : Int)))
      (ift (p1.kind == (0 : Int))
         (some (0 : Int))
         (ift (p1.kind != p2.kind)
            (bnd (ref1_order p1.kind p2.kind) fun r1 =>
             some r1)
            (ift (p1.kind == (3 : Int))
               (bnd (ref1_decimals p1 p2) fun r2 =>
                ift (r2 != (0 : Int))
                  (some r2)
                  (ref1_Compare_j1 (ref1_Compare k0) p1 p2))
               (ref1_Compare_j1 (ref1_Compare k0) p1 p2))))


theorem c_ref1_Compare : ∀ (k0 : Nat) (p1 : GValue) (p2 : GValue) (r : Int), ref1_Compare k0 p1 p2 = some r → PC Try.prog 23 [.ag [ci p1.kind, ci p1.n, ci p1.scale, cst p1.s, cl eValue p1.items], .ag [ci p2.kind, ci p2.n, ci p2.scale, cst p2.s, cl eValue p2.items]] (vi r)
  | 0, _, _, r, h => by rw [ref1_Compare.eq_1] at h; cases h
  | k0 + 1, p1, p2, r, h => by
    rw [ref1_Compare.eq_2] at h
    refine PC.of (n := 109) (fn := Try.f23) (c := cd Try.f23 []) (by kernel_rfl) (by kernel_rfl) (by kernel_rfl) (Nat.le_of_ble_eq_true rfl) ?_
    refine XW.seq (x := cd Try.f23 [0]) (y := cd Try.f23 [1]) (by kernel_rfl) fun K1 hK1 => ?_
    refine XW.reg (by kernel_rfl) ?_
    refine XO.go [] 3 [2,3] [] [(2, .one (.pv (.rp [[pi p1.kind, pi p1.n, pi p1.scale, .s (.string p1.s), .ro (eValue.els p1.items)]] 0 0))), (3, .one (.pv (.rp [[pi p2.kind, pi p2.n, pi p2.scale, .s (.string p2.s), .ro (eValue.els p2.items)]] 0 0)))] [] [] (by kernel_rfl) trivial ?_
    refine XO.done (by kernel_rfl) ?_
    refine hK1 _ _ ?_
    refine XW.seq (x := cd Try.f23 [1,0]) (y := cd Try.f23 [1,1]) (by kernel_rfl) fun K2 hK2 => ?_
    refine XW.seq (x := cd Try.f23 [1,0,0]) (y := cd Try.f23 [1,0,1]) (by kernel_rfl) fun K3 hK3 => ?_
    refine XW.reg (by kernel_rfl) ?_
    refine XO.go [] 7 [2,3,15] [[pi p1.kind, pi p1.n, pi p1.scale, .s (.string p1.s), .ro (eValue.els p1.items)], [pi p2.kind, pi p2.n, pi p2.scale, .s (.string p2.s), .ro (eValue.els p2.items)]] [(2, .one (.pv (.rp [[pi p1.kind, pi p1.n, pi p1.scale, .s (.string p1.s), .ro (eValue.els p1.items)]] 0 0))), (3, .one (.pv (.rp [[pi p2.kind, pi p2.n, pi p2.scale, .s (.string p2.s), .ro (eValue.els p2.items)]] 0 0))), (15, vb (!((p1.kind == (0 : Int)) == (p2.kind == (0 : Int)))))] [] [([[pi p1.kind, pi p1.n, pi p1.scale, .s (.string p1.s), .ro (eValue.els p1.items)]] : List (List PV))[0]? = some [pi p1.kind, pi p1.n, pi p1.scale, .s (.string p1.s), .ro (eValue.els p1.items)], ([[pi p2.kind, pi p2.n, pi p2.scale, .s (.string p2.s), .ro (eValue.els p2.items)]] : List (List PV))[0]? = some [pi p2.kind, pi p2.n, pi p2.scale, .s (.string p2.s), .ro (eValue.els p2.items)]] (by kernel_rfl) (⟨rfl, rfl, trivial⟩) ?_
    refine XO.done (by kernel_rfl) ?_
    refine hK3 _ _ ?_
    refine XW.cond (x := .tmp 15) (a := cd Try.f23 [1,0,1,0]) (b := cd Try.f23 [1,0,1,1]) (t := (!((p1.kind == (0 : Int)) == (p2.kind == (0 : Int))))) (by kernel_rfl) (by kernel_rfl) (fun b4 => ?_) (fun b4 => ?_)
    · have h := ift_t b4 h
      refine XW.seq (x := cd Try.f23 [1,0,1,0,0]) (y := cd Try.f23 [1,0,1,0,1]) (by kernel_rfl) fun K5 hK5 => ?_
      refine XW.seq (x := cd Try.f23 [1,0,1,0,0,0]) (y := cd Try.f23 [1,0,1,0,0,1]) (by kernel_rfl) fun K6 hK6 => ?_
      refine XW.reg (by kernel_rfl) ?_
      refine XO.go [] 3 [18] [[pi p1.kind, pi p1.n, pi p1.scale, .s (.string p1.s), .ro (eValue.els p1.items)]] [(18, vb (p1.kind == (0 : Int)))] [] [([[pi p1.kind, pi p1.n, pi p1.scale, .s (.string p1.s), .ro (eValue.els p1.items)]] : List (List PV))[0]? = some [pi p1.kind, pi p1.n, pi p1.scale, .s (.string p1.s), .ro (eValue.els p1.items)]] (by kernel_rfl) (⟨rfl, trivial⟩) ?_
      refine XO.done (by kernel_rfl) ?_
      refine hK6 _ _ ?_
      refine XW.cond (x := .tmp 18) (a := cd Try.f23 [1,0,1,0,0,1,0]) (b := cd Try.f23 [1,0,1,0,0,1,1]) (t := (p1.kind == (0 : Int))) (by kernel_rfl) (by kernel_rfl) (fun b7 => ?_) (fun b7 => ?_)
      · have h := ift_t b7 h
        refine XW.seq (x := cd Try.f23 [1,0,1,0,0,1,0,0]) (y := cd Try.f23 [1,0,1,0,0,1,0,1]) (by kernel_rfl) fun K8 hK8 => ?_
        refine XW.reg (by kernel_rfl) ?_
        refine XO.go [] 1 [4] [] [(4, vi (1 : Int))] [] [] (by kernel_rfl) trivial ?_
        refine XO.done (by kernel_rfl) ?_
        refine hK8 _ _ ?_
        refine XW.ret (by kernel_rfl) ?_
        obtain rfl := Option.some.inj h
        exact FinP.fin (.inr rfl) [] [vi (1 : Int)] [] (by kernel_rfl) trivial (.one (.rfl _ rfl))
      · have h := ift_f b7 h
        refine XW.skip (by kernel_rfl) ?_
        refine hK5 _ _ ?_
        refine XW.seq (x := cd Try.f23 [1,0,1,0,1,0]) (y := cd Try.f23 [1,0,1,0,1,1]) (by kernel_rfl) fun K9 hK9 => ?_
        refine XW.reg (by kernel_rfl) ?_
        refine XO.go [] 1 [4] [] [(4, vi (-1 : Int))] [] [] (by kernel_rfl) trivial ?_
        refine XO.done (by kernel_rfl) ?_
        refine hK9 _ _ ?_
        refine XW.ret (by kernel_rfl) ?_
        obtain rfl := Option.some.inj h
        exact FinP.fin (.inr rfl) [] [vi (-1 : Int)] [] (by kernel_rfl) trivial (.one (.rfl _ rfl))
    · have h := ift_f b4 h
      refine XW.skip (by kernel_rfl) ?_
      refine hK2 _ _ ?_
      refine XW.seq (x := cd Try.f23 [1,1,0]) (y := cd Try.f23 [1,1,1]) (by kernel_rfl) fun K10 hK10 => ?_
      refine XW.seq (x := cd Try.f23 [1,1,0,0]) (y := cd Try.f23 [1,1,0,1]) (by kernel_rfl) fun K11 hK11 => ?_
      refine XW.reg (by kernel_rfl) ?_
      refine XO.go [] 3 [2,3,21] [[pi p1.kind, pi p1.n, pi p1.scale, .s (.string p1.s), .ro (eValue.els p1.items)]] [(2, .one (.pv (.rp [[pi p1.kind, pi p1.n, pi p1.scale, .s (.string p1.s), .ro (eValue.els p1.items)]] 0 0))), (3, .one (.pv (.rp [[pi p2.kind, pi p2.n, pi p2.scale, .s (.string p2.s), .ro (eValue.els p2.items)]] 0 0))), (21, vb (p1.kind == (0 : Int)))] [] [([[pi p1.kind, pi p1.n, pi p1.scale, .s (.string p1.s), .ro (eValue.els p1.items)]] : List (List PV))[0]? = some [pi p1.kind, pi p1.n, pi p1.scale, .s (.string p1.s), .ro (eValue.els p1.items)]] (by kernel_rfl) (⟨rfl, trivial⟩) ?_
      refine XO.done (by kernel_rfl) ?_
      refine hK11 _ _ ?_
      refine XW.cond (x := .tmp 21) (a := cd Try.f23 [1,1,0,1,0]) (b := cd Try.f23 [1,1,0,1,1]) (t := (p1.kind == (0 : Int))) (by kernel_rfl) (by kernel_rfl) (fun b12 => ?_) (fun b12 => ?_)
      · have h := ift_t b12 h
        refine XW.seq (x := cd Try.f23 [1,1,0,1,0,0]) (y := cd Try.f23 [1,1,0,1,0,1]) (by kernel_rfl) fun K13 hK13 => ?_
        refine XW.reg (by kernel_rfl) ?_
        refine XO.go [] 1 [4] [] [(4, vi (0 : Int))] [] [] (by kernel_rfl) trivial ?_
        refine XO.done (by kernel_rfl) ?_
        refine hK13 _ _ ?_
        refine XW.ret (by kernel_rfl) ?_
        obtain rfl := Option.some.inj h
        exact FinP.fin (.inr rfl) [] [vi (0 : Int)] [] (by kernel_rfl) trivial (.one (.rfl _ rfl))
      · have h := ift_f b12 h
        refine XW.skip (by kernel_rfl) ?_
        refine hK10 _ _ ?_
        refine XW.seq (x := cd Try.f23 [1,1,1,0]) (y := cd Try.f23 [1,1,1,1]) (by kernel_rfl) fun K14 hK14 => ?_
        refine XW.seq (x := cd Try.f23 [1,1,1,0,0]) (y := cd Try.f23 [1,1,1,0,1]) (by kernel_rfl) fun K15 hK15 => ?_
        refine XW.reg (by kernel_rfl) ?_
        refine XO.go [] 5 [2,3,26] [[pi p1.kind, pi p1.n, pi p1.scale, .s (.string p1.s), .ro (eValue.els p1.items)], [pi p2.kind, pi p2.n, pi p2.scale, .s (.string p2.s), .ro (eValue.els p2.items)]] [(2, .one (.pv (.rp [[pi p1.kind, pi p1.n, pi p1.scale, .s (.string p1.s), .ro (eValue.els p1.items)]] 0 0))), (3, .one (.pv (.rp [[pi p2.kind, pi p2.n, pi p2.scale, .s (.string p2.s), .ro (eValue.els p2.items)]] 0 0))), (26, vb (p1.kind != p2.kind))] [] [([[pi p1.kind, pi p1.n, pi p1.scale, .s (.string p1.s), .ro (eValue.els p1.items)]] : List (List PV))[0]? = some [pi p1.kind, pi p1.n, pi p1.scale, .s (.string p1.s), .ro (eValue.els p1.items)], ([[pi p2.kind, pi p2.n, pi p2.scale, .s (.string p2.s), .ro (eValue.els p2.items)]] : List (List PV))[0]? = some [pi p2.kind, pi p2.n, pi p2.scale, .s (.string p2.s), .ro (eValue.els p2.items)]] (by kernel_rfl) (⟨rfl, rfl, trivial⟩) ?_
        refine XO.done (by kernel_rfl) ?_
        refine hK15 _ _ ?_
        refine XW.cond (x := .tmp 26) (a := cd Try.f23 [1,1,1,0,1,0]) (b := cd Try.f23 [1,1,1,0,1,1]) (t := (p1.kind != p2.kind)) (by kernel_rfl) (by kernel_rfl) (fun b16 => ?_) (fun b16 => ?_)
        · have h := ift_t b16 h
          refine XW.seq (x := cd Try.f23 [1,1,1,0,1,0,0]) (y := cd Try.f23 [1,1,1,0,1,0,1]) (by kernel_rfl) fun K17 hK17 => ?_
          obtain ⟨r1, c18, h⟩ := bnd_some h
          refine XW.reg (by kernel_rfl) ?_
          refine XO.go [] 4 [28,30] [[pi p1.kind, pi p1.n, pi p1.scale, .s (.string p1.s), .ro (eValue.els p1.items)], [pi p2.kind, pi p2.n, pi p2.scale, .s (.string p2.s), .ro (eValue.els p2.items)]] [(28, vi p1.kind), (30, vi p2.kind)] [] [([[pi p1.kind, pi p1.n, pi p1.scale, .s (.string p1.s), .ro (eValue.els p1.items)]] : List (List PV))[0]? = some [pi p1.kind, pi p1.n, pi p1.scale, .s (.string p1.s), .ro (eValue.els p1.items)], ([[pi p2.kind, pi p2.n, pi p2.scale, .s (.string p2.s), .ro (eValue.els p2.items)]] : List (List PV))[0]? = some [pi p2.kind, pi p2.n, pi p2.scale, .s (.string p2.s), .ro (eValue.els p2.items)]] (by kernel_rfl) (⟨rfl, rfl, trivial⟩) ?_
          refine XO.cal 54 [vi p1.kind, vi p2.kind] (vi r1) [(31, vi r1), (28, vi p1.kind), (30, vi p2.kind)] (by kernel_rfl) (c_ref1_order _ _ _ c18) rfl rfl (by kernel_rfl) ?_
          refine XO.go [] 1 [4] [] [(4, vi r1)] [] [] (by kernel_rfl) trivial ?_
          refine XO.done (by kernel_rfl) ?_
          refine hK17 _ _ ?_
          refine XW.ret (by kernel_rfl) ?_
          obtain rfl := Option.some.inj h
          exact FinP.fin (.inr rfl) [] [vi r1] [] (by kernel_rfl) trivial (.one (.rfl _ rfl))
        · have h := ift_f b16 h
          refine XW.skip (by kernel_rfl) ?_
          refine hK14 _ _ ?_
          refine XW.seq (x := cd Try.f23 [1,1,1,1,0]) (y := cd Try.f23 [1,1,1,1,1]) (by kernel_rfl) fun K19 hK19 => ?_
          have hJ1 : ∀ (_ : Unit), ref1_Compare_j1 (ref1_Compare k0) p1 p2 = some r → ∀ fr1 st1, Sub 109 0 [] fr1 st1 [(2, .one (.pv (.rp [[pi p1.kind, pi p1.n, pi p1.scale, .s (.string p1.s), .ro (eValue.els p1.items)]] 0 0))), (3, .one (.pv (.rp [[pi p2.kind, pi p2.n, pi p2.scale, .s (.string p2.s), .ro (eValue.els p2.items)]] 0 0)))] [] → K19 fr1 st1 := by
            intro _ h fr1 st1 hS
            unfold ref1_Compare_j1 at h
            refine hK19 _ _ (XW.sub hS ?_)
            refine XW.seq (x := cd Try.f23 [1,1,1,1,1,0]) (y := cd Try.f23 [1,1,1,1,1,1]) (by kernel_rfl) fun K27 hK27 => ?_
            refine XW.seq (x := cd Try.f23 [1,1,1,1,1,0,0]) (y := cd Try.f23 [1,1,1,1,1,0,1]) (by kernel_rfl) fun K28 hK28 => ?_
            have hJ2 : ∀ (x1 : Bool), ref1_Compare_j2 (ref1_Compare k0) p1 p2 x1 = some r → ∀ fr1 st1, Sub 109 0 [] fr1 st1 [(2, .one (.pv (.rp [[pi p1.kind, pi p1.n, pi p1.scale, .s (.string p1.s), .ro (eValue.els p1.items)]] 0 0))), (3, .one (.pv (.rp [[pi p2.kind, pi p2.n, pi p2.scale, .s (.string p2.s), .ro (eValue.els p2.items)]] 0 0))), (50, vb x1)] [] → K28 fr1 st1 := by
              intro x1 h fr1 st1 hS
              unfold ref1_Compare_j2 at h
              refine hK28 _ _ (XW.sub hS ?_)
              refine XW.cond (x := .tmp 50) (a := cd Try.f23 [1,1,1,1,1,0,1,0]) (b := cd Try.f23 [1,1,1,1,1,0,1,1]) (t := x1) (by kernel_rfl) (by kernel_rfl) (fun b30 => ?_) (fun b30 => ?_)
              · have h := ift_t b30 h
                refine XW.seq (x := cd Try.f23 [1,1,1,1,1,0,1,0,0]) (y := cd Try.f23 [1,1,1,1,1,0,1,0,1]) (by kernel_rfl) fun K31 hK31 => ?_
                obtain ⟨r3, c32, h⟩ := bnd_some h
                refine XW.reg (by kernel_rfl) ?_
                refine XO.go [] 4 [52,54] [[pi p1.kind, pi p1.n, pi p1.scale, .s (.string p1.s), .ro (eValue.els p1.items)], [pi p2.kind, pi p2.n, pi p2.scale, .s (.string p2.s), .ro (eValue.els p2.items)]] [(52, vi p1.n), (54, vi p2.n)] [] [([[pi p1.kind, pi p1.n, pi p1.scale, .s (.string p1.s), .ro (eValue.els p1.items)]] : List (List PV))[0]? = some [pi p1.kind, pi p1.n, pi p1.scale, .s (.string p1.s), .ro (eValue.els p1.items)], ([[pi p2.kind, pi p2.n, pi p2.scale, .s (.string p2.s), .ro (eValue.els p2.items)]] : List (List PV))[0]? = some [pi p2.kind, pi p2.n, pi p2.scale, .s (.string p2.s), .ro (eValue.els p2.items)]] (by kernel_rfl) (⟨rfl, rfl, trivial⟩) ?_
                refine XO.cal 54 [vi p1.n, vi p2.n] (vi r3) [(55, vi r3), (52, vi p1.n), (54, vi p2.n)] (by kernel_rfl) (c_ref1_order _ _ _ c32) rfl rfl (by kernel_rfl) ?_
                refine XO.go [] 1 [4] [] [(4, vi r3)] [] [] (by kernel_rfl) trivial ?_
                refine XO.done (by kernel_rfl) ?_
                refine hK31 _ _ ?_
                refine XW.ret (by kernel_rfl) ?_
                obtain rfl := Option.some.inj h
                exact FinP.fin (.inr rfl) [] [vi r3] [] (by kernel_rfl) trivial (.one (.rfl _ rfl))
              · have h := ift_f b30 h
                refine XW.skip (by kernel_rfl) ?_
                refine hK27 _ _ ?_
                refine XW.seq (x := cd Try.f23 [1,1,1,1,1,1,0]) (y := cd Try.f23 [1,1,1,1,1,1,1]) (by kernel_rfl) fun K33 hK33 => ?_
                refine XW.seq (x := cd Try.f23 [1,1,1,1,1,1,0,0]) (y := cd Try.f23 [1,1,1,1,1,1,0,1]) (by kernel_rfl) fun K34 hK34 => ?_
                refine XW.reg (by kernel_rfl) ?_
                refine XO.go [] 5 [2,3,60] [[pi p1.kind, pi p1.n, pi p1.scale, .s (.string p1.s), .ro (eValue.els p1.items)], [pi p2.kind, pi p2.n, pi p2.scale, .s (.string p2.s), .ro (eValue.els p2.items)]] [(2, .one (.pv (.rp [[pi p1.kind, pi p1.n, pi p1.scale, .s (.string p1.s), .ro (eValue.els p1.items)]] 0 0))), (3, .one (.pv (.rp [[pi p2.kind, pi p2.n, pi p2.scale, .s (.string p2.s), .ro (eValue.els p2.items)]] 0 0))), (60, vb (p1.scale != p2.scale))] [] [([[pi p1.kind, pi p1.n, pi p1.scale, .s (.string p1.s), .ro (eValue.els p1.items)]] : List (List PV))[0]? = some [pi p1.kind, pi p1.n, pi p1.scale, .s (.string p1.s), .ro (eValue.els p1.items)], ([[pi p2.kind, pi p2.n, pi p2.scale, .s (.string p2.s), .ro (eValue.els p2.items)]] : List (List PV))[0]? = some [pi p2.kind, pi p2.n, pi p2.scale, .s (.string p2.s), .ro (eValue.els p2.items)]] (by kernel_rfl) (⟨rfl, rfl, trivial⟩) ?_
                refine XO.done (by kernel_rfl) ?_
                refine hK34 _ _ ?_
                refine XW.cond (x := .tmp 60) (a := cd Try.f23 [1,1,1,1,1,1,0,1,0]) (b := cd Try.f23 [1,1,1,1,1,1,0,1,1]) (t := (p1.scale != p2.scale)) (by kernel_rfl) (by kernel_rfl) (fun b35 => ?_) (fun b35 => ?_)
                · have h := ift_t b35 h
                  refine XW.seq (x := cd Try.f23 [1,1,1,1,1,1,0,1,0,0]) (y := cd Try.f23 [1,1,1,1,1,1,0,1,0,1]) (by kernel_rfl) fun K36 hK36 => ?_
                  obtain ⟨r4, c37, h⟩ := bnd_some h
                  refine XW.reg (by kernel_rfl) ?_
                  refine XO.go [] 4 [62,64] [[pi p1.kind, pi p1.n, pi p1.scale, .s (.string p1.s), .ro (eValue.els p1.items)], [pi p2.kind, pi p2.n, pi p2.scale, .s (.string p2.s), .ro (eValue.els p2.items)]] [(62, vi p1.scale), (64, vi p2.scale)] [] [([[pi p1.kind, pi p1.n, pi p1.scale, .s (.string p1.s), .ro (eValue.els p1.items)]] : List (List PV))[0]? = some [pi p1.kind, pi p1.n, pi p1.scale, .s (.string p1.s), .ro (eValue.els p1.items)], ([[pi p2.kind, pi p2.n, pi p2.scale, .s (.string p2.s), .ro (eValue.els p2.items)]] : List (List PV))[0]? = some [pi p2.kind, pi p2.n, pi p2.scale, .s (.string p2.s), .ro (eValue.els p2.items)]] (by kernel_rfl) (⟨rfl, rfl, trivial⟩) ?_
                  refine XO.cal 54 [vi p1.scale, vi p2.scale] (vi r4) [(65, vi r4), (62, vi p1.scale), (64, vi p2.scale)] (by kernel_rfl) (c_ref1_order _ _ _ c37) rfl rfl (by kernel_rfl) ?_
                  refine XO.go [] 1 [4] [] [(4, vi r4)] [] [] (by kernel_rfl) trivial ?_
                  refine XO.done (by kernel_rfl) ?_
                  refine hK36 _ _ ?_
                  refine XW.ret (by kernel_rfl) ?_
                  obtain rfl := Option.some.inj h
                  exact FinP.fin (.inr rfl) [] [vi r4] [] (by kernel_rfl) trivial (.one (.rfl _ rfl))
                · have h := ift_f b35 h
                  refine XW.skip (by kernel_rfl) ?_
                  refine hK33 _ _ ?_
                  refine XW.seq (x := cd Try.f23 [1,1,1,1,1,1,1,0]) (y := cd Try.f23 [1,1,1,1,1,1,1,1]) (by kernel_rfl) fun K38 hK38 => ?_
                  refine XW.seq (x := cd Try.f23 [1,1,1,1,1,1,1,0,0]) (y := cd Try.f23 [1,1,1,1,1,1,1,0,1]) (by kernel_rfl) fun K39 hK39 => ?_
                  obtain ⟨r5, c40, h⟩ := bnd_some h
                  refine XW.reg (by kernel_rfl) ?_
                  refine XO.go [] 4 [2,3,67,69] [[pi p1.kind, pi p1.n, pi p1.scale, .s (.string p1.s), .ro (eValue.els p1.items)], [pi p2.kind, pi p2.n, pi p2.scale, .s (.string p2.s), .ro (eValue.els p2.items)]] [(2, .one (.pv (.rp [[pi p1.kind, pi p1.n, pi p1.scale, .s (.string p1.s), .ro (eValue.els p1.items)]] 0 0))), (3, .one (.pv (.rp [[pi p2.kind, pi p2.n, pi p2.scale, .s (.string p2.s), .ro (eValue.els p2.items)]] 0 0))), (67, vs p1.s), (69, vs p2.s)] [] [([[pi p1.kind, pi p1.n, pi p1.scale, .s (.string p1.s), .ro (eValue.els p1.items)]] : List (List PV))[0]? = some [pi p1.kind, pi p1.n, pi p1.scale, .s (.string p1.s), .ro (eValue.els p1.items)], ([[pi p2.kind, pi p2.n, pi p2.scale, .s (.string p2.s), .ro (eValue.els p2.items)]] : List (List PV))[0]? = some [pi p2.kind, pi p2.n, pi p2.scale, .s (.string p2.s), .ro (eValue.els p2.items)]] (by kernel_rfl) (⟨rfl, rfl, trivial⟩) ?_
                  refine XO.cal 56 [vs p1.s, vs p2.s] (vi r5) [(70, vi r5), (2, .one (.pv (.rp [[pi p1.kind, pi p1.n, pi p1.scale, .s (.string p1.s), .ro (eValue.els p1.items)]] 0 0))), (3, .one (.pv (.rp [[pi p2.kind, pi p2.n, pi p2.scale, .s (.string p2.s), .ro (eValue.els p2.items)]] 0 0))), (67, vs p1.s), (69, vs p2.s)] (by kernel_rfl) (c_ref1_texts _ _ _ c40) rfl rfl (by kernel_rfl) ?_
                  refine XO.go [] 1 [2,3,6] [] [(2, .one (.pv (.rp [[pi p1.kind, pi p1.n, pi p1.scale, .s (.string p1.s), .ro (eValue.els p1.items)]] 0 0))), (3, .one (.pv (.rp [[pi p2.kind, pi p2.n, pi p2.scale, .s (.string p2.s), .ro (eValue.els p2.items)]] 0 0))), (6, vi r5)] [] [] (by kernel_rfl) trivial ?_
                  refine XO.done (by kernel_rfl) ?_
                  refine hK39 _ _ ?_
                  refine XW.seq (x := cd Try.f23 [1,1,1,1,1,1,1,0,1,0]) (y := cd Try.f23 [1,1,1,1,1,1,1,0,1,1]) (by kernel_rfl) fun K41 hK41 => ?_
                  refine XW.reg (by kernel_rfl) ?_
                  refine XO.go [] 2 [2,3,6,72] [] [(2, .one (.pv (.rp [[pi p1.kind, pi p1.n, pi p1.scale, .s (.string p1.s), .ro (eValue.els p1.items)]] 0 0))), (3, .one (.pv (.rp [[pi p2.kind, pi p2.n, pi p2.scale, .s (.string p2.s), .ro (eValue.els p2.items)]] 0 0))), (6, vi r5), (72, vb (r5 != (0 : Int)))] [] [] (by kernel_rfl) trivial ?_
                  refine XO.done (by kernel_rfl) ?_
                  refine hK41 _ _ ?_
                  refine XW.cond (x := .tmp 72) (a := cd Try.f23 [1,1,1,1,1,1,1,0,1,1,0]) (b := cd Try.f23 [1,1,1,1,1,1,1,0,1,1,1]) (t := (r5 != (0 : Int))) (by kernel_rfl) (by kernel_rfl) (fun b42 => ?_) (fun b42 => ?_)
                  · have h := ift_t b42 h
                    refine XW.seq (x := cd Try.f23 [1,1,1,1,1,1,1,0,1,1,0,0]) (y := cd Try.f23 [1,1,1,1,1,1,1,0,1,1,0,1]) (by kernel_rfl) fun K43 hK43 => ?_
                    refine XW.reg (by kernel_rfl) ?_
                    refine XO.go [] 2 [4] [] [(4, vi r5)] [] [] (by kernel_rfl) trivial ?_
                    refine XO.done (by kernel_rfl) ?_
                    refine hK43 _ _ ?_
                    refine XW.ret (by kernel_rfl) ?_
                    obtain rfl := Option.some.inj h
                    exact FinP.fin (.inr rfl) [] [vi r5] [] (by kernel_rfl) trivial (.one (.rfl _ rfl))
                  · have h := ift_f b42 h
                    refine XW.skip (by kernel_rfl) ?_
                    refine hK38 _ _ ?_
                    refine XW.seq (x := cd Try.f23 [1,1,1,1,1,1,1,1,0]) (y := cd Try.f23 [1,1,1,1,1,1,1,1,1]) (by kernel_rfl) fun K44 hK44 => ?_
                    have hJ4 : ∀ (_ : Unit), ref1_Compare_j4 p1 p2 = some r → ∀ fr1 st1, Sub 109 0 [] fr1 st1 [(2, .one (.pv (.rp [[pi p1.kind, pi p1.n, pi p1.scale, .s (.string p1.s), .ro (eValue.els p1.items)]] 0 0))), (3, .one (.pv (.rp [[pi p2.kind, pi p2.n, pi p2.scale, .s (.string p2.s), .ro (eValue.els p2.items)]] 0 0)))] [] → K44 fr1 st1 := by
                      intro _ h fr1 st1 hS
                      unfold ref1_Compare_j4 at h
                      refine hK44 _ _ (XW.sub hS ?_)
                      refine XW.seq (x := cd Try.f23 [1,1,1,1,1,1,1,1,1,0]) (y := cd Try.f23 [1,1,1,1,1,1,1,1,1,1]) (by kernel_rfl) fun K58 hK58 => ?_
                      obtain ⟨r7, c59, h⟩ := bnd_some h
                      refine XW.reg (by kernel_rfl) ?_
                      refine XO.go [] 3 [3,104] [[pi p1.kind, pi p1.n, pi p1.scale, .s (.string p1.s), .ro (eValue.els p1.items)]] [(3, .one (.pv (.rp [[pi p2.kind, pi p2.n, pi p2.scale, .s (.string p2.s), .ro (eValue.els p2.items)]] 0 0))), (104, vi ((eValue.els p1.items).length : Int))] [] [([[pi p1.kind, pi p1.n, pi p1.scale, .s (.string p1.s), .ro (eValue.els p1.items)]] : List (List PV))[0]? = some [pi p1.kind, pi p1.n, pi p1.scale, .s (.string p1.s), .ro (eValue.els p1.items)]] (by kernel_rfl) (⟨rfl, trivial⟩) ?_
                      rw [eValue.len p1.items]
                      refine XO.go [] 3 [104,107] [[pi p2.kind, pi p2.n, pi p2.scale, .s (.string p2.s), .ro (eValue.els p2.items)]] [(104, vi (p1.items.length : Int)), (107, vi ((eValue.els p2.items).length : Int))] [] [([[pi p2.kind, pi p2.n, pi p2.scale, .s (.string p2.s), .ro (eValue.els p2.items)]] : List (List PV))[0]? = some [pi p2.kind, pi p2.n, pi p2.scale, .s (.string p2.s), .ro (eValue.els p2.items)]] (by kernel_rfl) (⟨rfl, trivial⟩) ?_
                      rw [eValue.len p2.items]
                      refine XO.cal 54 [vi (p1.items.length : Int), vi (p2.items.length : Int)] (vi r7) [(108, vi r7), (104, vi (p1.items.length : Int)), (107, vi (p2.items.length : Int))] (by kernel_rfl) (c_ref1_order _ _ _ c59) rfl rfl (by kernel_rfl) ?_
                      refine XO.go [] 1 [4] [] [(4, vi r7)] [] [] (by kernel_rfl) trivial ?_
                      refine XO.done (by kernel_rfl) ?_
                      refine hK58 _ _ ?_
                      refine XW.ret (by kernel_rfl) ?_
                      obtain rfl := Option.some.inj h
                      exact FinP.fin (.inr rfl) [] [vi r7] [] (by kernel_rfl) trivial (.one (.rfl _ rfl))
                    refine XW.seq (x := cd Try.f23 [1,1,1,1,1,1,1,1,0,0]) (y := cd Try.f23 [1,1,1,1,1,1,1,1,0,1]) (by kernel_rfl) fun K45 hK45 => ?_
                    refine XW.reg (by kernel_rfl) ?_
                    refine XO.go [] 1 [2,3,7] [] [(2, .one (.pv (.rp [[pi p1.kind, pi p1.n, pi p1.scale, .s (.string p1.s), .ro (eValue.els p1.items)]] 0 0))), (3, .one (.pv (.rp [[pi p2.kind, pi p2.n, pi p2.scale, .s (.string p2.s), .ro (eValue.els p2.items)]] 0 0))), (7, vi (0 : Int))] [] [] (by kernel_rfl) trivial ?_
                    refine XO.done (by kernel_rfl) ?_
                    refine hK45 _ _ ?_
                    refine XW.block (id := 0) (x := cd Try.f23 [1,1,1,1,1,1,1,1,0,1,0]) (by kernel_rfl) ?_
                    refine XW.rounds' BIG (x := cd Try.f23 [1,1,1,1,1,1,1,1,0,1,0,0]) (by kernel_rfl) fun Q1 hQ1 => ?_
                    have hL1 : ∀ (k1 : Nat) (x2 : Int), ref1_Compare_l1 (ref1_Compare k0) p1 p2 k1 x2 = some r → XR Try.prog 109 0 [] (cd Try.f23 [1,1,1,1,1,1,1,1,0,1,0,0]) Q1 k1 [(2, .one (.pv (.rp [[pi p1.kind, pi p1.n, pi p1.scale, .s (.string p1.s), .ro (eValue.els p1.items)]] 0 0))), (3, .one (.pv (.rp [[pi p2.kind, pi p2.n, pi p2.scale, .s (.string p2.s), .ro (eValue.els p2.items)]] 0 0))), (7, vi x2)] [] := by
                      intro k1
                      induction k1 with
                      | zero => intro x2 h; rw [ref1_Compare_l1.eq_1] at h; cases h
                      | succ k1 ih1 =>
                        intro x2 h
                        rw [ref1_Compare_l1.eq_2] at h
                        refine XW.seq (x := cd Try.f23 [1,1,1,1,1,1,1,1,0,1,0,0,0]) (y := cd Try.f23 [1,1,1,1,1,1,1,1,0,1,0,0,1]) (by kernel_rfl) fun K46 hK46 => ?_
                        refine XW.seq (x := cd Try.f23 [1,1,1,1,1,1,1,1,0,1,0,0,0,0]) (y := cd Try.f23 [1,1,1,1,1,1,1,1,0,1,0,0,0,1]) (by kernel_rfl) fun K47 hK47 => ?_
                        have hJ3 : ∀ (x3 : Bool), ref1_Compare_j3 (ref1_Compare_l1 (ref1_Compare k0) p1 p2 k1) (ref1_Compare k0) p1 p2 x2 x3 = some r → ∀ fr1 st1, Sub 109 0 [] fr1 st1 [(2, .one (.pv (.rp [[pi p1.kind, pi p1.n, pi p1.scale, .s (.string p1.s), .ro (eValue.els p1.items)]] 0 0))), (3, .one (.pv (.rp [[pi p2.kind, pi p2.n, pi p2.scale, .s (.string p2.s), .ro (eValue.els p2.items)]] 0 0))), (7, vi x2), (85, vb x3)] [] → K47 fr1 st1 := by
                          intro x3 h fr1 st1 hS
                          unfold ref1_Compare_j3 at h
                          refine hK47 _ _ (XW.sub hS ?_)
                          refine XW.cond (x := .tmp 85) (a := cd Try.f23 [1,1,1,1,1,1,1,1,0,1,0,0,0,1,0]) (b := cd Try.f23 [1,1,1,1,1,1,1,1,0,1,0,0,0,1,1]) (t := x3) (by kernel_rfl) (by kernel_rfl) (fun b49 => ?_) (fun b49 => ?_)
                          · have h := ift_t b49 h
                            refine XW.skip (by kernel_rfl) ?_
                            refine hK46 _ _ ?_
                            refine XW.seq (x := cd Try.f23 [1,1,1,1,1,1,1,1,0,1,0,0,1,0]) (y := cd Try.f23 [1,1,1,1,1,1,1,1,0,1,0,0,1,1]) (by kernel_rfl) fun K50 hK50 => ?_
                            refine XW.block (id := 1) (x := cd Try.f23 [1,1,1,1,1,1,1,1,0,1,0,0,1,0,0]) (by kernel_rfl) ?_
                            refine XW.seq (x := cd Try.f23 [1,1,1,1,1,1,1,1,0,1,0,0,1,0,0,0]) (y := cd Try.f23 [1,1,1,1,1,1,1,1,0,1,0,0,1,0,0,1]) (by kernel_rfl) fun K51 hK51 => ?_
                            obtain ⟨e1, a52, h⟩ := bnd_some h
                            obtain ⟨e2, a53, h⟩ := bnd_some h
                            obtain ⟨r6, c54, h⟩ := bnd_some h
                            refine XW.drwS 10 [(97, .ag [ci e2.kind, ci e2.n, ci e2.scale, cst e2.s, cl eValue e2.items]), (96, .one (.pv (.rp (eValue.els p2.items) x2.toNat 0))), (95, vi x2), (94, vl eValue p2.items), (93, .one (.pv (.rp [[pi p2.kind, pi p2.n, pi p2.scale, .s (.string p2.s), .ro (eValue.els p2.items)]] 0 4))), (92, .ag [ci e1.kind, ci e1.n, ci e1.scale, cst e1.s, cl eValue e1.items]), (91, .one (.pv (.rp (eValue.els p1.items) x2.toNat 0))), (90, vi x2), (89, vl eValue p1.items), (88, .one (.pv (.rp [[pi p1.kind, pi p1.n, pi p1.scale, .s (.string p1.s), .ro (eValue.els p1.items)]] 0 4))), (2, .one (.pv (.rp [[pi p1.kind, pi p1.n, pi p1.scale, .s (.string p1.s), .ro (eValue.els p1.items)]] 0 0))), (3, .one (.pv (.rp [[pi p2.kind, pi p2.n, pi p2.scale, .s (.string p2.s), .ro (eValue.els p2.items)]] 0 0))), (7, vi x2), (85, vb x3)] (by kernel_rfl) (by kernel_rfl) ?_ ?_
                            · refine DX.go 10 [[pi p1.kind, pi p1.n, pi p1.scale, .s (.string p1.s), .ro (eValue.els p1.items)], [pi e1.kind, pi e1.n, pi e1.scale, .s (.string e1.s), .ro (eValue.els e1.items)], [pi p2.kind, pi p2.n, pi p2.scale, .s (.string p2.s), .ro (eValue.els p2.items)], [pi e2.kind, pi e2.n, pi e2.scale, .s (.string e2.s), .ro (eValue.els e2.items)]] [(97, .ag [ci e2.kind, ci e2.n, ci e2.scale, cst e2.s, cl eValue e2.items]), (96, .one (.pv (.rp (eValue.els p2.items) x2.toNat 0))), (95, vi x2), (94, vl eValue p2.items), (93, .one (.pv (.rp [[pi p2.kind, pi p2.n, pi p2.scale, .s (.string p2.s), .ro (eValue.els p2.items)]] 0 4))), (92, .ag [ci e1.kind, ci e1.n, ci e1.scale, cst e1.s, cl eValue e1.items]), (91, .one (.pv (.rp (eValue.els p1.items) x2.toNat 0))), (90, vi x2), (89, vl eValue p1.items), (88, .one (.pv (.rp [[pi p1.kind, pi p1.n, pi p1.scale, .s (.string p1.s), .ro (eValue.els p1.items)]] 0 4))), (2, .one (.pv (.rp [[pi p1.kind, pi p1.n, pi p1.scale, .s (.string p1.s), .ro (eValue.els p1.items)]] 0 0))), (3, .one (.pv (.rp [[pi p2.kind, pi p2.n, pi p2.scale, .s (.string p2.s), .ro (eValue.els p2.items)]] 0 0))), (7, vi x2), (85, vb x3)] [([[pi p1.kind, pi p1.n, pi p1.scale, .s (.string p1.s), .ro (eValue.els p1.items)]] : List (List PV))[0]? = some [pi p1.kind, pi p1.n, pi p1.scale, .s (.string p1.s), .ro (eValue.els p1.items)], 0 ≤ x2 ∧ x2 < ((eValue.els p1.items).length : Int) ∧ elemsOk 5 (eValue.els p1.items), (eValue.els p1.items)[x2.toNat]? = some [pi e1.kind, pi e1.n, pi e1.scale, .s (.string e1.s), .ro (eValue.els e1.items)], ([[pi p2.kind, pi p2.n, pi p2.scale, .s (.string p2.s), .ro (eValue.els p2.items)]] : List (List PV))[0]? = some [pi p2.kind, pi p2.n, pi p2.scale, .s (.string p2.s), .ro (eValue.els p2.items)], 0 ≤ x2 ∧ x2 < ((eValue.els p2.items).length : Int) ∧ elemsOk 5 (eValue.els p2.items), (eValue.els p2.items)[x2.toNat]? = some [pi e2.kind, pi e2.n, pi e2.scale, .s (.string e2.s), .ro (eValue.els e2.items)]] (by kernel_rfl) (⟨rfl, eValue.inb a52, ((eValue.get a52).trans (by cases e1; rfl)), rfl, eValue.inb a53, ((eValue.get a53).trans (by cases e2; rfl)), trivial⟩) ?_
                              exact DX.done (by kernel_rfl)
                            refine XO.cal 23 [.ag [ci e1.kind, ci e1.n, ci e1.scale, cst e1.s, cl eValue e1.items], .ag [ci e2.kind, ci e2.n, ci e2.scale, cst e2.s, cl eValue e2.items]] (vi r6) [(98, vi r6), (97, .ag [ci e2.kind, ci e2.n, ci e2.scale, cst e2.s, cl eValue e2.items]), (96, .one (.pv (.rp (eValue.els p2.items) x2.toNat 0))), (95, vi x2), (94, vl eValue p2.items), (93, .one (.pv (.rp [[pi p2.kind, pi p2.n, pi p2.scale, .s (.string p2.s), .ro (eValue.els p2.items)]] 0 4))), (92, .ag [ci e1.kind, ci e1.n, ci e1.scale, cst e1.s, cl eValue e1.items]), (91, .one (.pv (.rp (eValue.els p1.items) x2.toNat 0))), (90, vi x2), (89, vl eValue p1.items), (88, .one (.pv (.rp [[pi p1.kind, pi p1.n, pi p1.scale, .s (.string p1.s), .ro (eValue.els p1.items)]] 0 4))), (2, .one (.pv (.rp [[pi p1.kind, pi p1.n, pi p1.scale, .s (.string p1.s), .ro (eValue.els p1.items)]] 0 0))), (3, .one (.pv (.rp [[pi p2.kind, pi p2.n, pi p2.scale, .s (.string p2.s), .ro (eValue.els p2.items)]] 0 0))), (7, vi x2), (85, vb x3)] (by kernel_rfl) (c_ref1_Compare k0 _ _ _ c54) rfl rfl (by kernel_rfl) ?_
                            refine XO.go [] 1 [2,3,7,8] [] [(2, .one (.pv (.rp [[pi p1.kind, pi p1.n, pi p1.scale, .s (.string p1.s), .ro (eValue.els p1.items)]] 0 0))), (3, .one (.pv (.rp [[pi p2.kind, pi p2.n, pi p2.scale, .s (.string p2.s), .ro (eValue.els p2.items)]] 0 0))), (7, vi x2), (8, vi r6)] [] [] (by kernel_rfl) trivial ?_
                            refine XO.done (by kernel_rfl) ?_
                            refine hK51 _ _ ?_
                            refine XW.seq (x := cd Try.f23 [1,1,1,1,1,1,1,1,0,1,0,0,1,0,0,1,0]) (y := cd Try.f23 [1,1,1,1,1,1,1,1,0,1,0,0,1,0,0,1,1]) (by kernel_rfl) fun K55 hK55 => ?_
                            refine XW.reg (by kernel_rfl) ?_
                            refine XO.go [] 2 [2,3,7,8,100] [] [(2, .one (.pv (.rp [[pi p1.kind, pi p1.n, pi p1.scale, .s (.string p1.s), .ro (eValue.els p1.items)]] 0 0))), (3, .one (.pv (.rp [[pi p2.kind, pi p2.n, pi p2.scale, .s (.string p2.s), .ro (eValue.els p2.items)]] 0 0))), (7, vi x2), (8, vi r6), (100, vb (r6 != (0 : Int)))] [] [] (by kernel_rfl) trivial ?_
                            refine XO.done (by kernel_rfl) ?_
                            refine hK55 _ _ ?_
                            refine XW.cond (x := .tmp 100) (a := cd Try.f23 [1,1,1,1,1,1,1,1,0,1,0,0,1,0,0,1,1,0]) (b := cd Try.f23 [1,1,1,1,1,1,1,1,0,1,0,0,1,0,0,1,1,1]) (t := (r6 != (0 : Int))) (by kernel_rfl) (by kernel_rfl) (fun b56 => ?_) (fun b56 => ?_)
                            · have h := ift_t b56 h
                              refine XW.seq (x := cd Try.f23 [1,1,1,1,1,1,1,1,0,1,0,0,1,0,0,1,1,0,0]) (y := cd Try.f23 [1,1,1,1,1,1,1,1,0,1,0,0,1,0,0,1,1,0,1]) (by kernel_rfl) fun K57 hK57 => ?_
                              refine XW.reg (by kernel_rfl) ?_
                              refine XO.go [] 2 [4] [] [(4, vi r6)] [] [] (by kernel_rfl) trivial ?_
                              refine XO.done (by kernel_rfl) ?_
                              refine hK57 _ _ ?_
                              refine XW.ret (by kernel_rfl) ?_
                              refine hQ1 _ _ _ ?_
                              obtain rfl := Option.some.inj h
                              exact FinP.fin (.inr rfl) [] [vi r6] [] (by kernel_rfl) trivial (.one (.rfl _ rfl))
                            · have h := ift_f b56 h
                              refine XW.skip (by kernel_rfl) ?_
                              refine hK50 _ _ ?_
                              refine XW.reg (by kernel_rfl) ?_
                              refine XO.go [] 3 [2,3,7] [] [(2, .one (.pv (.rp [[pi p1.kind, pi p1.n, pi p1.scale, .s (.string p1.s), .ro (eValue.els p1.items)]] 0 0))), (3, .one (.pv (.rp [[pi p2.kind, pi p2.n, pi p2.scale, .s (.string p2.s), .ro (eValue.els p2.items)]] 0 0))), (7, vi (IntKind.i64.wrap (x2 + (1 : Int))))] [] [] (by kernel_rfl) trivial ?_
                              refine XO.done (by kernel_rfl) ?_
                              exact XR.sub (Sub.pick [2,3,7] (by kernel_rfl)) (ih1 (IntKind.i64.wrap (x2 + (1 : Int))) h)
                          · have h := ift_f b49 h
                            refine XW.exit (id := 0) (by kernel_rfl) ?_
                            refine hQ1 _ _ _ ?_
                            exact hJ4 () h _ _ (Sub.pick [2,3] (by kernel_rfl))
                        rcases Bool.eq_false_or_eq_true (decide (x2 < (p1.items.length : Int))) with b48 | b48
                        · have h := ift_t b48 h
                          refine XW.reg (by kernel_rfl) ?_
                          refine XO.go [] 4 [2,3,7,74,77] [[pi p1.kind, pi p1.n, pi p1.scale, .s (.string p1.s), .ro (eValue.els p1.items)]] [(2, .one (.pv (.rp [[pi p1.kind, pi p1.n, pi p1.scale, .s (.string p1.s), .ro (eValue.els p1.items)]] 0 0))), (3, .one (.pv (.rp [[pi p2.kind, pi p2.n, pi p2.scale, .s (.string p2.s), .ro (eValue.els p2.items)]] 0 0))), (7, vi x2), (74, vi x2), (77, vi ((eValue.els p1.items).length : Int))] [] [([[pi p1.kind, pi p1.n, pi p1.scale, .s (.string p1.s), .ro (eValue.els p1.items)]] : List (List PV))[0]? = some [pi p1.kind, pi p1.n, pi p1.scale, .s (.string p1.s), .ro (eValue.els p1.items)]] (by kernel_rfl) (⟨rfl, trivial⟩) ?_
                          rw [eValue.len p1.items]
                          refine XO.go [] 2 [2,3,7,79] [] [(2, .one (.pv (.rp [[pi p1.kind, pi p1.n, pi p1.scale, .s (.string p1.s), .ro (eValue.els p1.items)]] 0 0))), (3, .one (.pv (.rp [[pi p2.kind, pi p2.n, pi p2.scale, .s (.string p2.s), .ro (eValue.els p2.items)]] 0 0))), (7, vi x2), (79, vb (decide (x2 < (p1.items.length : Int))))] [] [] (by kernel_rfl) trivial ?_
                          refine XO.setb 79 true (B := (decide (x2 < (p1.items.length : Int)))) rfl b48 ?_
                          refine XO.go [] 4 [2,3,7,79,80,83] [[pi p2.kind, pi p2.n, pi p2.scale, .s (.string p2.s), .ro (eValue.els p2.items)]] [(2, .one (.pv (.rp [[pi p1.kind, pi p1.n, pi p1.scale, .s (.string p1.s), .ro (eValue.els p1.items)]] 0 0))), (3, .one (.pv (.rp [[pi p2.kind, pi p2.n, pi p2.scale, .s (.string p2.s), .ro (eValue.els p2.items)]] 0 0))), (7, vi x2), (79, vb true), (80, vi x2), (83, vi ((eValue.els p2.items).length : Int))] [] [([[pi p2.kind, pi p2.n, pi p2.scale, .s (.string p2.s), .ro (eValue.els p2.items)]] : List (List PV))[0]? = some [pi p2.kind, pi p2.n, pi p2.scale, .s (.string p2.s), .ro (eValue.els p2.items)]] (by kernel_rfl) (⟨rfl, trivial⟩) ?_
                          rw [eValue.len p2.items]
                          refine XO.go [] 2 [2,3,7,85] [] [(2, .one (.pv (.rp [[pi p1.kind, pi p1.n, pi p1.scale, .s (.string p1.s), .ro (eValue.els p1.items)]] 0 0))), (3, .one (.pv (.rp [[pi p2.kind, pi p2.n, pi p2.scale, .s (.string p2.s), .ro (eValue.els p2.items)]] 0 0))), (7, vi x2), (85, vb (decide (x2 < (p2.items.length : Int))))] [] [] (by kernel_rfl) trivial ?_
                          refine XO.done (by kernel_rfl) ?_
                          exact hJ3 (decide (x2 < (p2.items.length : Int))) h _ _ (Sub.pick [2,3,7,85] (by kernel_rfl))
                        · have h := ift_f b48 h
                          refine XW.reg (by kernel_rfl) ?_
                          refine XO.go [] 4 [2,3,7,74,77] [[pi p1.kind, pi p1.n, pi p1.scale, .s (.string p1.s), .ro (eValue.els p1.items)]] [(2, .one (.pv (.rp [[pi p1.kind, pi p1.n, pi p1.scale, .s (.string p1.s), .ro (eValue.els p1.items)]] 0 0))), (3, .one (.pv (.rp [[pi p2.kind, pi p2.n, pi p2.scale, .s (.string p2.s), .ro (eValue.els p2.items)]] 0 0))), (7, vi x2), (74, vi x2), (77, vi ((eValue.els p1.items).length : Int))] [] [([[pi p1.kind, pi p1.n, pi p1.scale, .s (.string p1.s), .ro (eValue.els p1.items)]] : List (List PV))[0]? = some [pi p1.kind, pi p1.n, pi p1.scale, .s (.string p1.s), .ro (eValue.els p1.items)]] (by kernel_rfl) (⟨rfl, trivial⟩) ?_
                          rw [eValue.len p1.items]
                          refine XO.go [] 2 [2,3,7,79] [] [(2, .one (.pv (.rp [[pi p1.kind, pi p1.n, pi p1.scale, .s (.string p1.s), .ro (eValue.els p1.items)]] 0 0))), (3, .one (.pv (.rp [[pi p2.kind, pi p2.n, pi p2.scale, .s (.string p2.s), .ro (eValue.els p2.items)]] 0 0))), (7, vi x2), (79, vb (decide (x2 < (p1.items.length : Int))))] [] [] (by kernel_rfl) trivial ?_
                          refine XO.setb 79 false (B := (decide (x2 < (p1.items.length : Int)))) rfl b48 ?_
                          refine XO.go [] 6 [2,3,7,85] [] [(2, .one (.pv (.rp [[pi p1.kind, pi p1.n, pi p1.scale, .s (.string p1.s), .ro (eValue.els p1.items)]] 0 0))), (3, .one (.pv (.rp [[pi p2.kind, pi p2.n, pi p2.scale, .s (.string p2.s), .ro (eValue.els p2.items)]] 0 0))), (7, vi x2), (85, vb false)] [] [] (by kernel_rfl) trivial ?_
                          refine XO.done (by kernel_rfl) ?_
                          exact hJ3 false h _ _ (Sub.pick [2,3,7,85] (by kernel_rfl))
                    exact XR.sub (Sub.pick [2,3,7] (by kernel_rfl)) (hL1 BIG (0 : Int) h)
            rcases Bool.eq_false_or_eq_true (p1.n != p2.n) with b29 | b29
            · have h := ift_t b29 h
              refine XW.reg (by kernel_rfl) ?_
              refine XO.go [] 6 [2,3,46] [[pi p1.kind, pi p1.n, pi p1.scale, .s (.string p1.s), .ro (eValue.els p1.items)], [pi p2.kind, pi p2.n, pi p2.scale, .s (.string p2.s), .ro (eValue.els p2.items)]] [(2, .one (.pv (.rp [[pi p1.kind, pi p1.n, pi p1.scale, .s (.string p1.s), .ro (eValue.els p1.items)]] 0 0))), (3, .one (.pv (.rp [[pi p2.kind, pi p2.n, pi p2.scale, .s (.string p2.s), .ro (eValue.els p2.items)]] 0 0))), (46, vb (p1.n != p2.n))] [] [([[pi p1.kind, pi p1.n, pi p1.scale, .s (.string p1.s), .ro (eValue.els p1.items)]] : List (List PV))[0]? = some [pi p1.kind, pi p1.n, pi p1.scale, .s (.string p1.s), .ro (eValue.els p1.items)], ([[pi p2.kind, pi p2.n, pi p2.scale, .s (.string p2.s), .ro (eValue.els p2.items)]] : List (List PV))[0]? = some [pi p2.kind, pi p2.n, pi p2.scale, .s (.string p2.s), .ro (eValue.els p2.items)]] (by kernel_rfl) (⟨rfl, rfl, trivial⟩) ?_
              refine XO.setb 46 true (B := (p1.n != p2.n)) rfl b29 ?_
              refine XO.go [] 4 [2,3,50] [[pi p1.kind, pi p1.n, pi p1.scale, .s (.string p1.s), .ro (eValue.els p1.items)]] [(2, .one (.pv (.rp [[pi p1.kind, pi p1.n, pi p1.scale, .s (.string p1.s), .ro (eValue.els p1.items)]] 0 0))), (3, .one (.pv (.rp [[pi p2.kind, pi p2.n, pi p2.scale, .s (.string p2.s), .ro (eValue.els p2.items)]] 0 0))), (50, vb (p1.kind != (3 : Int)))] [] [([[pi p1.kind, pi p1.n, pi p1.scale, .s (.string p1.s), .ro (eValue.els p1.items)]] : List (List PV))[0]? = some [pi p1.kind, pi p1.n, pi p1.scale, .s (.string p1.s), .ro (eValue.els p1.items)]] (by kernel_rfl) (⟨rfl, trivial⟩) ?_
              refine XO.done (by kernel_rfl) ?_
              exact hJ2 (p1.kind != (3 : Int)) h _ _ (Sub.pick [2,3,50] (by kernel_rfl))
            · have h := ift_f b29 h
              refine XW.reg (by kernel_rfl) ?_
              refine XO.go [] 6 [2,3,46] [[pi p1.kind, pi p1.n, pi p1.scale, .s (.string p1.s), .ro (eValue.els p1.items)], [pi p2.kind, pi p2.n, pi p2.scale, .s (.string p2.s), .ro (eValue.els p2.items)]] [(2, .one (.pv (.rp [[pi p1.kind, pi p1.n, pi p1.scale, .s (.string p1.s), .ro (eValue.els p1.items)]] 0 0))), (3, .one (.pv (.rp [[pi p2.kind, pi p2.n, pi p2.scale, .s (.string p2.s), .ro (eValue.els p2.items)]] 0 0))), (46, vb (p1.n != p2.n))] [] [([[pi p1.kind, pi p1.n, pi p1.scale, .s (.string p1.s), .ro (eValue.els p1.items)]] : List (List PV))[0]? = some [pi p1.kind, pi p1.n, pi p1.scale, .s (.string p1.s), .ro (eValue.els p1.items)], ([[pi p2.kind, pi p2.n, pi p2.scale, .s (.string p2.s), .ro (eValue.els p2.items)]] : List (List PV))[0]? = some [pi p2.kind, pi p2.n, pi p2.scale, .s (.string p2.s), .ro (eValue.els p2.items)]] (by kernel_rfl) (⟨rfl, rfl, trivial⟩) ?_
              refine XO.setb 46 false (B := (p1.n != p2.n)) rfl b29 ?_
              refine XO.go [] 4 [2,3,50] [] [(2, .one (.pv (.rp [[pi p1.kind, pi p1.n, pi p1.scale, .s (.string p1.s), .ro (eValue.els p1.items)]] 0 0))), (3, .one (.pv (.rp [[pi p2.kind, pi p2.n, pi p2.scale, .s (.string p2.s), .ro (eValue.els p2.items)]] 0 0))), (50, vb false)] [] [] (by kernel_rfl) trivial ?_
              refine XO.done (by kernel_rfl) ?_
              exact hJ2 false h _ _ (Sub.pick [2,3,50] (by kernel_rfl))
          refine XW.seq (x := cd Try.f23 [1,1,1,1,0,0]) (y := cd Try.f23 [1,1,1,1,0,1]) (by kernel_rfl) fun K20 hK20 => ?_
          refine XW.reg (by kernel_rfl) ?_
          refine XO.go [] 3 [2,3,34] [[pi p1.kind, pi p1.n, pi p1.scale, .s (.string p1.s), .ro (eValue.els p1.items)]] [(2, .one (.pv (.rp [[pi p1.kind, pi p1.n, pi p1.scale, .s (.string p1.s), .ro (eValue.els p1.items)]] 0 0))), (3, .one (.pv (.rp [[pi p2.kind, pi p2.n, pi p2.scale, .s (.string p2.s), .ro (eValue.els p2.items)]] 0 0))), (34, vb (p1.kind == (3 : Int)))] [] [([[pi p1.kind, pi p1.n, pi p1.scale, .s (.string p1.s), .ro (eValue.els p1.items)]] : List (List PV))[0]? = some [pi p1.kind, pi p1.n, pi p1.scale, .s (.string p1.s), .ro (eValue.els p1.items)]] (by kernel_rfl) (⟨rfl, trivial⟩) ?_
          refine XO.done (by kernel_rfl) ?_
          refine hK20 _ _ ?_
          refine XW.cond (x := .tmp 34) (a := cd Try.f23 [1,1,1,1,0,1,0]) (b := cd Try.f23 [1,1,1,1,0,1,1]) (t := (p1.kind == (3 : Int))) (by kernel_rfl) (by kernel_rfl) (fun b21 => ?_) (fun b21 => ?_)
          · have h := ift_t b21 h
            refine XW.seq (x := cd Try.f23 [1,1,1,1,0,1,0,0]) (y := cd Try.f23 [1,1,1,1,0,1,0,1]) (by kernel_rfl) fun K22 hK22 => ?_
            obtain ⟨r2, c23, h⟩ := bnd_some h
            refine XW.reg (by kernel_rfl) ?_
            refine XO.go [] 2 [2,3,35,36] [[pi p1.kind, pi p1.n, pi p1.scale, .s (.string p1.s), .ro (eValue.els p1.items)], [pi p2.kind, pi p2.n, pi p2.scale, .s (.string p2.s), .ro (eValue.els p2.items)]] [(2, .one (.pv (.rp [[pi p1.kind, pi p1.n, pi p1.scale, .s (.string p1.s), .ro (eValue.els p1.items)]] 0 0))), (3, .one (.pv (.rp [[pi p2.kind, pi p2.n, pi p2.scale, .s (.string p2.s), .ro (eValue.els p2.items)]] 0 0))), (35, .ag [ci p1.kind, ci p1.n, ci p1.scale, cst p1.s, cl eValue p1.items]), (36, .ag [ci p2.kind, ci p2.n, ci p2.scale, cst p2.s, cl eValue p2.items])] [] [([[pi p1.kind, pi p1.n, pi p1.scale, .s (.string p1.s), .ro (eValue.els p1.items)]] : List (List PV))[0]? = some [pi p1.kind, pi p1.n, pi p1.scale, .s (.string p1.s), .ro (eValue.els p1.items)], ([[pi p2.kind, pi p2.n, pi p2.scale, .s (.string p2.s), .ro (eValue.els p2.items)]] : List (List PV))[0]? = some [pi p2.kind, pi p2.n, pi p2.scale, .s (.string p2.s), .ro (eValue.els p2.items)]] (by kernel_rfl) (⟨rfl, rfl, trivial⟩) ?_
            refine XO.cal 55 [.ag [ci p1.kind, ci p1.n, ci p1.scale, cst p1.s, cl eValue p1.items], .ag [ci p2.kind, ci p2.n, ci p2.scale, cst p2.s, cl eValue p2.items]] (vi r2) [(37, vi r2), (2, .one (.pv (.rp [[pi p1.kind, pi p1.n, pi p1.scale, .s (.string p1.s), .ro (eValue.els p1.items)]] 0 0))), (3, .one (.pv (.rp [[pi p2.kind, pi p2.n, pi p2.scale, .s (.string p2.s), .ro (eValue.els p2.items)]] 0 0))), (35, .ag [ci p1.kind, ci p1.n, ci p1.scale, cst p1.s, cl eValue p1.items]), (36, .ag [ci p2.kind, ci p2.n, ci p2.scale, cst p2.s, cl eValue p2.items])] (by kernel_rfl) (c_ref1_decimals _ _ _ c23) rfl rfl (by kernel_rfl) ?_
            refine XO.go [] 1 [2,3,5] [] [(2, .one (.pv (.rp [[pi p1.kind, pi p1.n, pi p1.scale, .s (.string p1.s), .ro (eValue.els p1.items)]] 0 0))), (3, .one (.pv (.rp [[pi p2.kind, pi p2.n, pi p2.scale, .s (.string p2.s), .ro (eValue.els p2.items)]] 0 0))), (5, vi r2)] [] [] (by kernel_rfl) trivial ?_
            refine XO.done (by kernel_rfl) ?_
            refine hK22 _ _ ?_
            refine XW.seq (x := cd Try.f23 [1,1,1,1,0,1,0,1,0]) (y := cd Try.f23 [1,1,1,1,0,1,0,1,1]) (by kernel_rfl) fun K24 hK24 => ?_
            refine XW.reg (by kernel_rfl) ?_
            refine XO.go [] 2 [2,3,5,39] [] [(2, .one (.pv (.rp [[pi p1.kind, pi p1.n, pi p1.scale, .s (.string p1.s), .ro (eValue.els p1.items)]] 0 0))), (3, .one (.pv (.rp [[pi p2.kind, pi p2.n, pi p2.scale, .s (.string p2.s), .ro (eValue.els p2.items)]] 0 0))), (5, vi r2), (39, vb (r2 != (0 : Int)))] [] [] (by kernel_rfl) trivial ?_
            refine XO.done (by kernel_rfl) ?_
            refine hK24 _ _ ?_
            refine XW.cond (x := .tmp 39) (a := cd Try.f23 [1,1,1,1,0,1,0,1,1,0]) (b := cd Try.f23 [1,1,1,1,0,1,0,1,1,1]) (t := (r2 != (0 : Int))) (by kernel_rfl) (by kernel_rfl) (fun b25 => ?_) (fun b25 => ?_)
            · have h := ift_t b25 h
              refine XW.seq (x := cd Try.f23 [1,1,1,1,0,1,0,1,1,0,0]) (y := cd Try.f23 [1,1,1,1,0,1,0,1,1,0,1]) (by kernel_rfl) fun K26 hK26 => ?_
              refine XW.reg (by kernel_rfl) ?_
              refine XO.go [] 2 [4] [] [(4, vi r2)] [] [] (by kernel_rfl) trivial ?_
              refine XO.done (by kernel_rfl) ?_
              refine hK26 _ _ ?_
              refine XW.ret (by kernel_rfl) ?_
              obtain rfl := Option.some.inj h
              exact FinP.fin (.inr rfl) [] [vi r2] [] (by kernel_rfl) trivial (.one (.rfl _ rfl))
            · have h := ift_f b25 h
              refine XW.skip (by kernel_rfl) ?_
              exact hJ1 () h _ _ (Sub.pick [2,3] (by kernel_rfl))
          · have h := ift_f b21 h
            refine XW.skip (by kernel_rfl) ?_
            exact hJ1 () h _ _ (Sub.pick [2,3] (by kernel_rfl))

def law1_ValueOrderMatchesSpec_j1 (x1 : Bool) : Option Bool :=
    some x1

def law1_ValueOrderMatchesSpec (p1 : GValue) (p2 : GValue) : Option Bool :=
    bnd (law1_number (1 : Int)) fun r1 =>
    bnd (law1_number (2 : Int)) fun r2 =>
    bnd (value_Compare BIG r1 r2) fun r3 =>
    ift (r3 == (-1 : Int))
      (bnd (value_Compare BIG p1 p2) fun r4 =>
       bnd (ref1_Compare BIG p1 p2) fun r5 =>
       law1_ValueOrderMatchesSpec_j1 (r4 == r5))
      (law1_ValueOrderMatchesSpec_j1 false)


theorem c_law1_ValueOrderMatchesSpec (p1 : GValue) (p2 : GValue) (r : Bool) (h : law1_ValueOrderMatchesSpec p1 p2 = some r) : PC Try.prog 6 [.ag [ci p1.kind, ci p1.n, ci p1.scale, cst p1.s, cl eValue p1.items], .ag [ci p2.kind, ci p2.n, ci p2.scale, cst p2.s, cl eValue p2.items]] (vb r) := by
  unfold law1_ValueOrderMatchesSpec at h
  refine PC.of (n := 18) (fn := Try.f6) (c := cd Try.f6 []) (by kernel_rfl) (by kernel_rfl) (by kernel_rfl) (Nat.le_of_ble_eq_true rfl) ?_
  refine XW.seq (x := cd Try.f6 [0]) (y := cd Try.f6 [1]) (by kernel_rfl) fun K1 hK1 => ?_
  refine XW.reg (by kernel_rfl) ?_
  refine XO.go [] 3 [2,3] [] [(2, .one (.pv (.rp [[pi p1.kind, pi p1.n, pi p1.scale, .s (.string p1.s), .ro (eValue.els p1.items)]] 0 0))), (3, .one (.pv (.rp [[pi p2.kind, pi p2.n, pi p2.scale, .s (.string p2.s), .ro (eValue.els p2.items)]] 0 0)))] [] [] (by kernel_rfl) trivial ?_
  refine XO.done (by kernel_rfl) ?_
  refine hK1 _ _ ?_
  refine XW.seq (x := cd Try.f6 [1,0]) (y := cd Try.f6 [1,1]) (by kernel_rfl) fun K2 hK2 => ?_
  have hJ1 : ∀ (x1 : Bool), law1_ValueOrderMatchesSpec_j1 x1 = some r → ∀ fr1 st1, Sub 18 0 [] fr1 st1 [(4, vb x1)] [] → K2 fr1 st1 := by
    intro x1 h fr1 st1 hS
    unfold law1_ValueOrderMatchesSpec_j1 at h
    refine hK2 _ _ (XW.sub hS ?_)
    refine XW.ret (by kernel_rfl) ?_
    obtain rfl := Option.some.inj h
    exact FinP.fin (.inr rfl) [] [vb x1] [] (by kernel_rfl) trivial (.one (.rfl _ rfl))
  obtain ⟨r1, c3, h⟩ := bnd_some h
  obtain ⟨r2, c4, h⟩ := bnd_some h
  obtain ⟨r3, c5, h⟩ := bnd_some h
  rcases Bool.eq_false_or_eq_true (r3 == (-1 : Int)) with b6 | b6
  · have h := ift_t b6 h
    obtain ⟨r4, c7, h⟩ := bnd_some h
    obtain ⟨r5, c8, h⟩ := bnd_some h
    refine XW.drwS 10 [(14, .ag [ci p2.kind, ci p2.n, ci p2.scale, cst p2.s, cl eValue p2.items]), (13, .ag [ci p1.kind, ci p1.n, ci p1.scale, cst p1.s, cl eValue p1.items]), (12, vi r4), (11, .ag [ci p2.kind, ci p2.n, ci p2.scale, cst p2.s, cl eValue p2.items]), (10, .ag [ci p1.kind, ci p1.n, ci p1.scale, cst p1.s, cl eValue p1.items]), (9, vb true), (8, vb (r3 == (-1 : Int))), (7, vi r3), (6, .ag [ci r2.kind, ci r2.n, ci r2.scale, cst r2.s, cl eValue r2.items]), (5, .ag [ci r1.kind, ci r1.n, ci r1.scale, cst r1.s, cl eValue r1.items]), (2, .one (.pv (.rp [[pi p1.kind, pi p1.n, pi p1.scale, .s (.string p1.s), .ro (eValue.els p1.items)]] 0 0))), (3, .one (.pv (.rp [[pi p2.kind, pi p2.n, pi p2.scale, .s (.string p2.s), .ro (eValue.els p2.items)]] 0 0)))] (by kernel_rfl) (by kernel_rfl) ?_ ?_
    · refine DX.cal 22 [vi (1 : Int)] (.ag [ci r1.kind, ci r1.n, ci r1.scale, cst r1.s, cl eValue r1.items]) [(5, .ag [ci r1.kind, ci r1.n, ci r1.scale, cst r1.s, cl eValue r1.items]), (2, .one (.pv (.rp [[pi p1.kind, pi p1.n, pi p1.scale, .s (.string p1.s), .ro (eValue.els p1.items)]] 0 0))), (3, .one (.pv (.rp [[pi p2.kind, pi p2.n, pi p2.scale, .s (.string p2.s), .ro (eValue.els p2.items)]] 0 0)))] (by kernel_rfl) (c_law1_number _ _ c3) rfl rfl (by kernel_rfl) ?_
      refine DX.cal 22 [vi (2 : Int)] (.ag [ci r2.kind, ci r2.n, ci r2.scale, cst r2.s, cl eValue r2.items]) [(6, .ag [ci r2.kind, ci r2.n, ci r2.scale, cst r2.s, cl eValue r2.items]), (5, .ag [ci r1.kind, ci r1.n, ci r1.scale, cst r1.s, cl eValue r1.items]), (2, .one (.pv (.rp [[pi p1.kind, pi p1.n, pi p1.scale, .s (.string p1.s), .ro (eValue.els p1.items)]] 0 0))), (3, .one (.pv (.rp [[pi p2.kind, pi p2.n, pi p2.scale, .s (.string p2.s), .ro (eValue.els p2.items)]] 0 0)))] (by kernel_rfl) (c_law1_number _ _ c4) rfl rfl (by kernel_rfl) ?_
      refine DX.cal 21 [.ag [ci r1.kind, ci r1.n, ci r1.scale, cst r1.s, cl eValue r1.items], .ag [ci r2.kind, ci r2.n, ci r2.scale, cst r2.s, cl eValue r2.items]] (vi r3) [(7, vi r3), (6, .ag [ci r2.kind, ci r2.n, ci r2.scale, cst r2.s, cl eValue r2.items]), (5, .ag [ci r1.kind, ci r1.n, ci r1.scale, cst r1.s, cl eValue r1.items]), (2, .one (.pv (.rp [[pi p1.kind, pi p1.n, pi p1.scale, .s (.string p1.s), .ro (eValue.els p1.items)]] 0 0))), (3, .one (.pv (.rp [[pi p2.kind, pi p2.n, pi p2.scale, .s (.string p2.s), .ro (eValue.els p2.items)]] 0 0)))] (by kernel_rfl) (c_value_Compare BIG _ _ _ c5) rfl rfl (by kernel_rfl) ?_
      refine DX.go 2 [] [(9, vb (r3 == (-1 : Int))), (8, vb (r3 == (-1 : Int))), (7, vi r3), (6, .ag [ci r2.kind, ci r2.n, ci r2.scale, cst r2.s, cl eValue r2.items]), (5, .ag [ci r1.kind, ci r1.n, ci r1.scale, cst r1.s, cl eValue r1.items]), (2, .one (.pv (.rp [[pi p1.kind, pi p1.n, pi p1.scale, .s (.string p1.s), .ro (eValue.els p1.items)]] 0 0))), (3, .one (.pv (.rp [[pi p2.kind, pi p2.n, pi p2.scale, .s (.string p2.s), .ro (eValue.els p2.items)]] 0 0)))] [] (by kernel_rfl) trivial ?_
      refine DX.eq (fr1 := [(9, vb true), (8, vb (r3 == (-1 : Int))), (7, vi r3), (6, .ag [ci r2.kind, ci r2.n, ci r2.scale, cst r2.s, cl eValue r2.items]), (5, .ag [ci r1.kind, ci r1.n, ci r1.scale, cst r1.s, cl eValue r1.items]), (2, .one (.pv (.rp [[pi p1.kind, pi p1.n, pi p1.scale, .s (.string p1.s), .ro (eValue.els p1.items)]] 0 0))), (3, .one (.pv (.rp [[pi p2.kind, pi p2.n, pi p2.scale, .s (.string p2.s), .ro (eValue.els p2.items)]] 0 0)))]) (by rw [b6]) ?_
      refine DX.go 2 [[pi p1.kind, pi p1.n, pi p1.scale, .s (.string p1.s), .ro (eValue.els p1.items)], [pi p2.kind, pi p2.n, pi p2.scale, .s (.string p2.s), .ro (eValue.els p2.items)]] [(11, .ag [ci p2.kind, ci p2.n, ci p2.scale, cst p2.s, cl eValue p2.items]), (10, .ag [ci p1.kind, ci p1.n, ci p1.scale, cst p1.s, cl eValue p1.items]), (9, vb true), (8, vb (r3 == (-1 : Int))), (7, vi r3), (6, .ag [ci r2.kind, ci r2.n, ci r2.scale, cst r2.s, cl eValue r2.items]), (5, .ag [ci r1.kind, ci r1.n, ci r1.scale, cst r1.s, cl eValue r1.items]), (2, .one (.pv (.rp [[pi p1.kind, pi p1.n, pi p1.scale, .s (.string p1.s), .ro (eValue.els p1.items)]] 0 0))), (3, .one (.pv (.rp [[pi p2.kind, pi p2.n, pi p2.scale, .s (.string p2.s), .ro (eValue.els p2.items)]] 0 0)))] [([[pi p1.kind, pi p1.n, pi p1.scale, .s (.string p1.s), .ro (eValue.els p1.items)]] : List (List PV))[0]? = some [pi p1.kind, pi p1.n, pi p1.scale, .s (.string p1.s), .ro (eValue.els p1.items)], ([[pi p2.kind, pi p2.n, pi p2.scale, .s (.string p2.s), .ro (eValue.els p2.items)]] : List (List PV))[0]? = some [pi p2.kind, pi p2.n, pi p2.scale, .s (.string p2.s), .ro (eValue.els p2.items)]] (by kernel_rfl) (⟨rfl, rfl, trivial⟩) ?_
      refine DX.cal 21 [.ag [ci p1.kind, ci p1.n, ci p1.scale, cst p1.s, cl eValue p1.items], .ag [ci p2.kind, ci p2.n, ci p2.scale, cst p2.s, cl eValue p2.items]] (vi r4) [(12, vi r4), (11, .ag [ci p2.kind, ci p2.n, ci p2.scale, cst p2.s, cl eValue p2.items]), (10, .ag [ci p1.kind, ci p1.n, ci p1.scale, cst p1.s, cl eValue p1.items]), (9, vb true), (8, vb (r3 == (-1 : Int))), (7, vi r3), (6, .ag [ci r2.kind, ci r2.n, ci r2.scale, cst r2.s, cl eValue r2.items]), (5, .ag [ci r1.kind, ci r1.n, ci r1.scale, cst r1.s, cl eValue r1.items]), (2, .one (.pv (.rp [[pi p1.kind, pi p1.n, pi p1.scale, .s (.string p1.s), .ro (eValue.els p1.items)]] 0 0))), (3, .one (.pv (.rp [[pi p2.kind, pi p2.n, pi p2.scale, .s (.string p2.s), .ro (eValue.els p2.items)]] 0 0)))] (by kernel_rfl) (c_value_Compare BIG _ _ _ c7) rfl rfl (by kernel_rfl) ?_
      refine DX.go 2 [[pi p1.kind, pi p1.n, pi p1.scale, .s (.string p1.s), .ro (eValue.els p1.items)], [pi p2.kind, pi p2.n, pi p2.scale, .s (.string p2.s), .ro (eValue.els p2.items)]] [(14, .ag [ci p2.kind, ci p2.n, ci p2.scale, cst p2.s, cl eValue p2.items]), (13, .ag [ci p1.kind, ci p1.n, ci p1.scale, cst p1.s, cl eValue p1.items]), (12, vi r4), (11, .ag [ci p2.kind, ci p2.n, ci p2.scale, cst p2.s, cl eValue p2.items]), (10, .ag [ci p1.kind, ci p1.n, ci p1.scale, cst p1.s, cl eValue p1.items]), (9, vb true), (8, vb (r3 == (-1 : Int))), (7, vi r3), (6, .ag [ci r2.kind, ci r2.n, ci r2.scale, cst r2.s, cl eValue r2.items]), (5, .ag [ci r1.kind, ci r1.n, ci r1.scale, cst r1.s, cl eValue r1.items]), (2, .one (.pv (.rp [[pi p1.kind, pi p1.n, pi p1.scale, .s (.string p1.s), .ro (eValue.els p1.items)]] 0 0))), (3, .one (.pv (.rp [[pi p2.kind, pi p2.n, pi p2.scale, .s (.string p2.s), .ro (eValue.els p2.items)]] 0 0)))] [([[pi p1.kind, pi p1.n, pi p1.scale, .s (.string p1.s), .ro (eValue.els p1.items)]] : List (List PV))[0]? = some [pi p1.kind, pi p1.n, pi p1.scale, .s (.string p1.s), .ro (eValue.els p1.items)], ([[pi p2.kind, pi p2.n, pi p2.scale, .s (.string p2.s), .ro (eValue.els p2.items)]] : List (List PV))[0]? = some [pi p2.kind, pi p2.n, pi p2.scale, .s (.string p2.s), .ro (eValue.els p2.items)]] (by kernel_rfl) (⟨rfl, rfl, trivial⟩) ?_
      exact DX.done (by kernel_rfl)
    refine XO.cal 23 [.ag [ci p1.kind, ci p1.n, ci p1.scale, cst p1.s, cl eValue p1.items], .ag [ci p2.kind, ci p2.n, ci p2.scale, cst p2.s, cl eValue p2.items]] (vi r5) [(15, vi r5), (14, .ag [ci p2.kind, ci p2.n, ci p2.scale, cst p2.s, cl eValue p2.items]), (13, .ag [ci p1.kind, ci p1.n, ci p1.scale, cst p1.s, cl eValue p1.items]), (12, vi r4), (11, .ag [ci p2.kind, ci p2.n, ci p2.scale, cst p2.s, cl eValue p2.items]), (10, .ag [ci p1.kind, ci p1.n, ci p1.scale, cst p1.s, cl eValue p1.items]), (9, vb true), (8, vb (r3 == (-1 : Int))), (7, vi r3), (6, .ag [ci r2.kind, ci r2.n, ci r2.scale, cst r2.s, cl eValue r2.items]), (5, .ag [ci r1.kind, ci r1.n, ci r1.scale, cst r1.s, cl eValue r1.items]), (2, .one (.pv (.rp [[pi p1.kind, pi p1.n, pi p1.scale, .s (.string p1.s), .ro (eValue.els p1.items)]] 0 0))), (3, .one (.pv (.rp [[pi p2.kind, pi p2.n, pi p2.scale, .s (.string p2.s), .ro (eValue.els p2.items)]] 0 0)))] (by kernel_rfl) (c_ref1_Compare BIG _ _ _ c8) rfl rfl (by kernel_rfl) ?_
    refine XO.go [] 3 [4] [] [(4, vb (r4 == r5))] [] [] (by kernel_rfl) trivial ?_
    refine XO.done (by kernel_rfl) ?_
    exact hJ1 (r4 == r5) h _ _ (Sub.pick [4] (by kernel_rfl))
  · have h := ift_f b6 h
    refine XW.drwS 10 [(14, .tp []), (13, .tp []), (12, .tp []), (11, .tp []), (10, .tp []), (9, vb false), (8, vb (r3 == (-1 : Int))), (7, vi r3), (6, .ag [ci r2.kind, ci r2.n, ci r2.scale, cst r2.s, cl eValue r2.items]), (5, .ag [ci r1.kind, ci r1.n, ci r1.scale, cst r1.s, cl eValue r1.items]), (2, .one (.pv (.rp [[pi p1.kind, pi p1.n, pi p1.scale, .s (.string p1.s), .ro (eValue.els p1.items)]] 0 0))), (3, .one (.pv (.rp [[pi p2.kind, pi p2.n, pi p2.scale, .s (.string p2.s), .ro (eValue.els p2.items)]] 0 0)))] (by kernel_rfl) (by kernel_rfl) ?_ ?_
    · refine DX.cal 22 [vi (1 : Int)] (.ag [ci r1.kind, ci r1.n, ci r1.scale, cst r1.s, cl eValue r1.items]) [(5, .ag [ci r1.kind, ci r1.n, ci r1.scale, cst r1.s, cl eValue r1.items]), (2, .one (.pv (.rp [[pi p1.kind, pi p1.n, pi p1.scale, .s (.string p1.s), .ro (eValue.els p1.items)]] 0 0))), (3, .one (.pv (.rp [[pi p2.kind, pi p2.n, pi p2.scale, .s (.string p2.s), .ro (eValue.els p2.items)]] 0 0)))] (by kernel_rfl) (c_law1_number _ _ c3) rfl rfl (by kernel_rfl) ?_
      refine DX.cal 22 [vi (2 : Int)] (.ag [ci r2.kind, ci r2.n, ci r2.scale, cst r2.s, cl eValue r2.items]) [(6, .ag [ci r2.kind, ci r2.n, ci r2.scale, cst r2.s, cl eValue r2.items]), (5, .ag [ci r1.kind, ci r1.n, ci r1.scale, cst r1.s, cl eValue r1.items]), (2, .one (.pv (.rp [[pi p1.kind, pi p1.n, pi p1.scale, .s (.string p1.s), .ro (eValue.els p1.items)]] 0 0))), (3, .one (.pv (.rp [[pi p2.kind, pi p2.n, pi p2.scale, .s (.string p2.s), .ro (eValue.els p2.items)]] 0 0)))] (by kernel_rfl) (c_law1_number _ _ c4) rfl rfl (by kernel_rfl) ?_
      refine DX.cal 21 [.ag [ci r1.kind, ci r1.n, ci r1.scale, cst r1.s, cl eValue r1.items], .ag [ci r2.kind, ci r2.n, ci r2.scale, cst r2.s, cl eValue r2.items]] (vi r3) [(7, vi r3), (6, .ag [ci r2.kind, ci r2.n, ci r2.scale, cst r2.s, cl eValue r2.items]), (5, .ag [ci r1.kind, ci r1.n, ci r1.scale, cst r1.s, cl eValue r1.items]), (2, .one (.pv (.rp [[pi p1.kind, pi p1.n, pi p1.scale, .s (.string p1.s), .ro (eValue.els p1.items)]] 0 0))), (3, .one (.pv (.rp [[pi p2.kind, pi p2.n, pi p2.scale, .s (.string p2.s), .ro (eValue.els p2.items)]] 0 0)))] (by kernel_rfl) (c_value_Compare BIG _ _ _ c5) rfl rfl (by kernel_rfl) ?_
      refine DX.go 2 [] [(9, vb (r3 == (-1 : Int))), (8, vb (r3 == (-1 : Int))), (7, vi r3), (6, .ag [ci r2.kind, ci r2.n, ci r2.scale, cst r2.s, cl eValue r2.items]), (5, .ag [ci r1.kind, ci r1.n, ci r1.scale, cst r1.s, cl eValue r1.items]), (2, .one (.pv (.rp [[pi p1.kind, pi p1.n, pi p1.scale, .s (.string p1.s), .ro (eValue.els p1.items)]] 0 0))), (3, .one (.pv (.rp [[pi p2.kind, pi p2.n, pi p2.scale, .s (.string p2.s), .ro (eValue.els p2.items)]] 0 0)))] [] (by kernel_rfl) trivial ?_
      refine DX.eq (fr1 := [(9, vb false), (8, vb (r3 == (-1 : Int))), (7, vi r3), (6, .ag [ci r2.kind, ci r2.n, ci r2.scale, cst r2.s, cl eValue r2.items]), (5, .ag [ci r1.kind, ci r1.n, ci r1.scale, cst r1.s, cl eValue r1.items]), (2, .one (.pv (.rp [[pi p1.kind, pi p1.n, pi p1.scale, .s (.string p1.s), .ro (eValue.els p1.items)]] 0 0))), (3, .one (.pv (.rp [[pi p2.kind, pi p2.n, pi p2.scale, .s (.string p2.s), .ro (eValue.els p2.items)]] 0 0)))]) (by rw [b6]) ?_
      refine DX.go 5 [] [(14, .tp []), (13, .tp []), (12, .tp []), (11, .tp []), (10, .tp []), (9, vb false), (8, vb (r3 == (-1 : Int))), (7, vi r3), (6, .ag [ci r2.kind, ci r2.n, ci r2.scale, cst r2.s, cl eValue r2.items]), (5, .ag [ci r1.kind, ci r1.n, ci r1.scale, cst r1.s, cl eValue r1.items]), (2, .one (.pv (.rp [[pi p1.kind, pi p1.n, pi p1.scale, .s (.string p1.s), .ro (eValue.els p1.items)]] 0 0))), (3, .one (.pv (.rp [[pi p2.kind, pi p2.n, pi p2.scale, .s (.string p2.s), .ro (eValue.els p2.items)]] 0 0)))] [] (by kernel_rfl) trivial ?_
      exact DX.done (by kernel_rfl)
    refine XO.go [] 4 [4] [] [(4, vb false)] [] [] (by kernel_rfl) trivial ?_
    refine XO.done (by kernel_rfl) ?_
    exact hJ1 false h _ _ (Sub.pick [4] (by kernel_rfl))

def law1_ValueOrderIsTotal_j3 (x3 : Bool) : Option Bool :=
    some x3

def law1_ValueOrderIsTotal_j2 (x2 : Bool) : Option Bool :=
    ift x2
      (some false)
      (bnd (value_Compare BIG (GValue.mk (0 : Int) (0 : Int) (0 : Int) ByteArray.empty []) (GValue.mk (2 : Int) (1 : Int) (0 : Int) ByteArray.empty [])) fun r7 =>
       ift (r7 == (1 : Int))
         (bnd (value_Compare BIG (GValue.mk (2 : Int) (1 : Int) (0 : Int) ByteArray.empty []) (GValue.mk (0 : Int) (0 : Int) (0 : Int) ByteArray.empty [])) fun r8 =>
          law1_ValueOrderIsTotal_j3 (r8 == (-1 : Int)))
         (law1_ValueOrderIsTotal_j3 false))

def law1_ValueOrderIsTotal_j1 (p1 : GValue) (p2 : GValue) (p3 : GValue) (x1 : Bool) : Option Bool :=
    ift x1
      (some false)
      (bnd (value_Compare BIG p1 p2) fun r4 =>
       ift (decide (r4 ≤ (0 : Int)))
         (bnd (value_Compare BIG p2 p3) fun r5 =>
          ift (decide (r5 ≤ (0 : Int)))
            (bnd (value_Compare BIG p1 p3) fun r6 =>
             law1_ValueOrderIsTotal_j2 (decide ((0 : Int) < r6)))
            (law1_ValueOrderIsTotal_j2 false))
         (law1_ValueOrderIsTotal_j2 false))

def law1_ValueOrderIsTotal (p1 : GValue) (p2 : GValue) (p3 : GValue) : Option Bool :=
    bnd (value_Compare BIG p1 p1) fun r1 =>
    ift (r1 != (0 : Int))
      (law1_ValueOrderIsTotal_j1 p1 p2 p3 true)
      (bnd (value_Compare BIG p1 p2) fun r2 =>
       bnd (value_Compare BIG p2 p1) fun r3 =>
       law1_ValueOrderIsTotal_j1 p1 p2 p3 (r2 != (IntKind.i64.wrap (0 - r3))))


theorem c_law1_ValueOrderIsTotal (p1 : GValue) (p2 : GValue) (p3 : GValue) (r : Bool) (h : law1_ValueOrderIsTotal p1 p2 p3 = some r) : PC Try.prog 7 [.ag [ci p1.kind, ci p1.n, ci p1.scale, cst p1.s, cl eValue p1.items], .ag [ci p2.kind, ci p2.n, ci p2.scale, cst p2.s, cl eValue p2.items], .ag [ci p3.kind, ci p3.n, ci p3.scale, cst p3.s, cl eValue p3.items]] (vb r) := by
  unfold law1_ValueOrderIsTotal at h
  refine PC.of (n := 51) (fn := Try.f7) (c := cd Try.f7 []) (by kernel_rfl) (by kernel_rfl) (by kernel_rfl) (Nat.le_of_ble_eq_true rfl) ?_
  refine XW.seq (x := cd Try.f7 [0]) (y := cd Try.f7 [1]) (by kernel_rfl) fun K1 hK1 => ?_
  refine XW.reg (by kernel_rfl) ?_
  refine XO.go [7, 8] 4 [3,4,5] [] [(3, .one (.pv (.rp [[pi p1.kind, pi p1.n, pi p1.scale, .s (.string p1.s), .ro (eValue.els p1.items)]] 0 0))), (4, .one (.pv (.rp [[pi p2.kind, pi p2.n, pi p2.scale, .s (.string p2.s), .ro (eValue.els p2.items)]] 0 0))), (5, .one (.pv (.rp [[pi p3.kind, pi p3.n, pi p3.scale, .s (.string p3.s), .ro (eValue.els p3.items)]] 0 0)))] [] [] (by kernel_rfl) trivial ?_
  refine XO.done (by kernel_rfl) ?_
  refine hK1 _ _ ?_
  refine XW.seq (x := cd Try.f7 [1,0]) (y := cd Try.f7 [1,1]) (by kernel_rfl) fun K2 hK2 => ?_
  refine XW.seq (x := cd Try.f7 [1,0,0]) (y := cd Try.f7 [1,0,1]) (by kernel_rfl) fun K3 hK3 => ?_
  have hJ1 : ∀ (x1 : Bool), law1_ValueOrderIsTotal_j1 p1 p2 p3 x1 = some r → ∀ fr1 st1, Sub 51 0 [] fr1 st1 [(3, .one (.pv (.rp [[pi p1.kind, pi p1.n, pi p1.scale, .s (.string p1.s), .ro (eValue.els p1.items)]] 0 0))), (4, .one (.pv (.rp [[pi p2.kind, pi p2.n, pi p2.scale, .s (.string p2.s), .ro (eValue.els p2.items)]] 0 0))), (5, .one (.pv (.rp [[pi p3.kind, pi p3.n, pi p3.scale, .s (.string p3.s), .ro (eValue.els p3.items)]] 0 0))), (22, vb x1)] [] → K3 fr1 st1 := by
    intro x1 h fr1 st1 hS
    unfold law1_ValueOrderIsTotal_j1 at h
    refine hK3 _ _ (XW.sub hS ?_)
    refine XW.cond (x := .tmp 22) (a := cd Try.f7 [1,0,1,0]) (b := cd Try.f7 [1,0,1,1]) (t := x1) (by kernel_rfl) (by kernel_rfl) (fun b8 => ?_) (fun b8 => ?_)
    · have h := ift_t b8 h
      refine XW.seq (x := cd Try.f7 [1,0,1,0,0]) (y := cd Try.f7 [1,0,1,0,1]) (by kernel_rfl) fun K9 hK9 => ?_
      refine XW.reg (by kernel_rfl) ?_
      refine XO.go [7, 8] 1 [6] [] [(6, vb false)] [] [] (by kernel_rfl) trivial ?_
      refine XO.done (by kernel_rfl) ?_
      refine hK9 _ _ ?_
      refine XW.ret (by kernel_rfl) ?_
      obtain rfl := Option.some.inj h
      exact FinP.fin (.inr rfl) [] [vb false] [] (by kernel_rfl) trivial (.one (.rfl _ rfl))
    · have h := ift_f b8 h
      refine XW.skip (by kernel_rfl) ?_
      refine hK2 _ _ ?_
      refine XW.seq (x := cd Try.f7 [1,1,0]) (y := cd Try.f7 [1,1,1]) (by kernel_rfl) fun K10 hK10 => ?_
      refine XW.seq (x := cd Try.f7 [1,1,0,0]) (y := cd Try.f7 [1,1,0,1]) (by kernel_rfl) fun K11 hK11 => ?_
      have hJ2 : ∀ (x2 : Bool), law1_ValueOrderIsTotal_j2 x2 = some r → ∀ fr1 st1, Sub 51 0 [] fr1 st1 [(38, vb x2)] [] → K11 fr1 st1 := by
        intro x2 h fr1 st1 hS
        unfold law1_ValueOrderIsTotal_j2 at h
        refine hK11 _ _ (XW.sub hS ?_)
        refine XW.cond (x := .tmp 38) (a := cd Try.f7 [1,1,0,1,0]) (b := cd Try.f7 [1,1,0,1,1]) (t := x2) (by kernel_rfl) (by kernel_rfl) (fun b17 => ?_) (fun b17 => ?_)
        · have h := ift_t b17 h
          refine XW.seq (x := cd Try.f7 [1,1,0,1,0,0]) (y := cd Try.f7 [1,1,0,1,0,1]) (by kernel_rfl) fun K18 hK18 => ?_
          refine XW.reg (by kernel_rfl) ?_
          refine XO.go [7, 8] 1 [6] [] [(6, vb false)] [] [] (by kernel_rfl) trivial ?_
          refine XO.done (by kernel_rfl) ?_
          refine hK18 _ _ ?_
          refine XW.ret (by kernel_rfl) ?_
          obtain rfl := Option.some.inj h
          exact FinP.fin (.inr rfl) [] [vb false] [] (by kernel_rfl) trivial (.one (.rfl _ rfl))
        · have h := ift_f b17 h
          refine XW.skip (by kernel_rfl) ?_
          refine hK10 _ _ ?_
          refine XW.seq (x := cd Try.f7 [1,1,1,0]) (y := cd Try.f7 [1,1,1,1]) (by kernel_rfl) fun K19 hK19 => ?_
          refine XW.reg (by kernel_rfl) ?_
          refine XO.go [7, 8] 3 [7] [] [(7, .one (.pt 0 0 0 0))] [.box [ci (0 : Int), ci (0 : Int), ci (0 : Int), cst ByteArray.empty, .pv (.s (.slice none 0 0))]] [] (by kernel_rfl) trivial ?_
          refine XO.done (by kernel_rfl) ?_
          refine hK19 _ _ ?_
          refine XW.seq (x := cd Try.f7 [1,1,1,1,0]) (y := cd Try.f7 [1,1,1,1,1]) (by kernel_rfl) fun K20 hK20 => ?_
          refine XW.reg (by kernel_rfl) ?_
          refine XO.go [7, 8] 3 [7,8] [] [(7, .one (.pt 0 0 0 0)), (8, .one (.pt 1 0 0 0))] [.box [ci (0 : Int), ci (0 : Int), ci (0 : Int), cst ByteArray.empty, .pv (.s (.slice none 0 0))], .box [ci (2 : Int), ci (1 : Int), ci (0 : Int), cst ByteArray.empty, .pv (.s (.slice none 0 0))]] [] (by kernel_rfl) trivial ?_
          refine XO.done (by kernel_rfl) ?_
          refine hK20 _ _ ?_
          refine XW.seq (x := cd Try.f7 [1,1,1,1,1,0]) (y := cd Try.f7 [1,1,1,1,1,1]) (by kernel_rfl) fun K21 hK21 => ?_
          have hJ3 : ∀ (x3 : Bool), law1_ValueOrderIsTotal_j3 x3 = some r → ∀ fr1 st1, Sub 51 0 [] fr1 st1 [(6, vb x3)] [.box [ci (0 : Int), ci (0 : Int), ci (0 : Int), cst ByteArray.empty, .pv (.s (.slice none 0 0))], .box [ci (2 : Int), ci (1 : Int), ci (0 : Int), cst ByteArray.empty, .pv (.s (.slice none 0 0))]] → K21 fr1 st1 := by
            intro x3 h fr1 st1 hS
            unfold law1_ValueOrderIsTotal_j3 at h
            refine hK21 _ _ (XW.sub hS ?_)
            refine XW.ret (by kernel_rfl) ?_
            obtain rfl := Option.some.inj h
            exact FinP.fin (.inr rfl) [] [vb x3] [] (by kernel_rfl) trivial (.one (.rfl _ rfl))
          obtain ⟨r7, c22, h⟩ := bnd_some h
          rcases Bool.eq_false_or_eq_true (r7 == (1 : Int)) with b23 | b23
          · have h := ift_t b23 h
            obtain ⟨r8, c24, h⟩ := bnd_some h
            refine XW.reg (by kernel_rfl) ?_
            refine XO.go [7, 8] 2 [7,8,41,42] [] [(7, .one (.pt 0 0 0 0)), (8, .one (.pt 1 0 0 0)), (41, .ag [ci (0 : Int), ci (0 : Int), ci (0 : Int), cst ByteArray.empty, .pv (.s (.slice none 0 0))]), (42, .ag [ci (2 : Int), ci (1 : Int), ci (0 : Int), cst ByteArray.empty, .pv (.s (.slice none 0 0))])] [.box [ci (0 : Int), ci (0 : Int), ci (0 : Int), cst ByteArray.empty, .pv (.s (.slice none 0 0))], .box [ci (2 : Int), ci (1 : Int), ci (0 : Int), cst ByteArray.empty, .pv (.s (.slice none 0 0))]] [] (by kernel_rfl) trivial ?_
            refine XO.cal 21 [.ag [ci (0 : Int), ci (0 : Int), ci (0 : Int), cst ByteArray.empty, .pv (.s (.slice none 0 0))], .ag [ci (2 : Int), ci (1 : Int), ci (0 : Int), cst ByteArray.empty, .pv (.s (.slice none 0 0))]] (vi r7) [(43, vi r7), (7, .one (.pt 0 0 0 0)), (8, .one (.pt 1 0 0 0)), (41, .ag [ci (0 : Int), ci (0 : Int), ci (0 : Int), cst ByteArray.empty, .pv (.s (.slice none 0 0))]), (42, .ag [ci (2 : Int), ci (1 : Int), ci (0 : Int), cst ByteArray.empty, .pv (.s (.slice none 0 0))])] (by kernel_rfl) (PC.le (c_value_Compare BIG _ _ _ c22) ⟨ALe.agc ⟨.rfl _, .rfl _, .rfl _, .rfl _, .nl, trivial⟩, ALe.agc ⟨.rfl _, .rfl _, .rfl _, .rfl _, .nl, trivial⟩, trivial⟩) rfl rfl (by kernel_rfl) ?_
            refine XO.go [7, 8] 2 [7,8,45] [] [(7, .one (.pt 0 0 0 0)), (8, .one (.pt 1 0 0 0)), (45, vb (r7 == (1 : Int)))] [.box [ci (0 : Int), ci (0 : Int), ci (0 : Int), cst ByteArray.empty, .pv (.s (.slice none 0 0))], .box [ci (2 : Int), ci (1 : Int), ci (0 : Int), cst ByteArray.empty, .pv (.s (.slice none 0 0))]] [] (by kernel_rfl) trivial ?_
            refine XO.setb 45 true (B := (r7 == (1 : Int))) rfl b23 ?_
            refine XO.go [7, 8] 2 [45,46,47] [] [(45, vb true), (46, .ag [ci (2 : Int), ci (1 : Int), ci (0 : Int), cst ByteArray.empty, .pv (.s (.slice none 0 0))]), (47, .ag [ci (0 : Int), ci (0 : Int), ci (0 : Int), cst ByteArray.empty, .pv (.s (.slice none 0 0))])] [.box [ci (0 : Int), ci (0 : Int), ci (0 : Int), cst ByteArray.empty, .pv (.s (.slice none 0 0))], .box [ci (2 : Int), ci (1 : Int), ci (0 : Int), cst ByteArray.empty, .pv (.s (.slice none 0 0))]] [] (by kernel_rfl) trivial ?_
            refine XO.cal 21 [.ag [ci (2 : Int), ci (1 : Int), ci (0 : Int), cst ByteArray.empty, .pv (.s (.slice none 0 0))], .ag [ci (0 : Int), ci (0 : Int), ci (0 : Int), cst ByteArray.empty, .pv (.s (.slice none 0 0))]] (vi r8) [(48, vi r8), (45, vb true), (46, .ag [ci (2 : Int), ci (1 : Int), ci (0 : Int), cst ByteArray.empty, .pv (.s (.slice none 0 0))]), (47, .ag [ci (0 : Int), ci (0 : Int), ci (0 : Int), cst ByteArray.empty, .pv (.s (.slice none 0 0))])] (by kernel_rfl) (PC.le (c_value_Compare BIG _ _ _ c24) ⟨ALe.agc ⟨.rfl _, .rfl _, .rfl _, .rfl _, .nl, trivial⟩, ALe.agc ⟨.rfl _, .rfl _, .rfl _, .rfl _, .nl, trivial⟩, trivial⟩) rfl rfl (by kernel_rfl) ?_
            refine XO.go [7, 8] 3 [6] [] [(6, vb (r8 == (-1 : Int)))] [.box [ci (0 : Int), ci (0 : Int), ci (0 : Int), cst ByteArray.empty, .pv (.s (.slice none 0 0))], .box [ci (2 : Int), ci (1 : Int), ci (0 : Int), cst ByteArray.empty, .pv (.s (.slice none 0 0))]] [] (by kernel_rfl) trivial ?_
            refine XO.done (by kernel_rfl) ?_
            exact hJ3 (r8 == (-1 : Int)) h _ _ (Sub.pick [6] (by kernel_rfl))
          · have h := ift_f b23 h
            refine XW.reg (by kernel_rfl) ?_
            refine XO.go [7, 8] 2 [7,8,41,42] [] [(7, .one (.pt 0 0 0 0)), (8, .one (.pt 1 0 0 0)), (41, .ag [ci (0 : Int), ci (0 : Int), ci (0 : Int), cst ByteArray.empty, .pv (.s (.slice none 0 0))]), (42, .ag [ci (2 : Int), ci (1 : Int), ci (0 : Int), cst ByteArray.empty, .pv (.s (.slice none 0 0))])] [.box [ci (0 : Int), ci (0 : Int), ci (0 : Int), cst ByteArray.empty, .pv (.s (.slice none 0 0))], .box [ci (2 : Int), ci (1 : Int), ci (0 : Int), cst ByteArray.empty, .pv (.s (.slice none 0 0))]] [] (by kernel_rfl) trivial ?_
            refine XO.cal 21 [.ag [ci (0 : Int), ci (0 : Int), ci (0 : Int), cst ByteArray.empty, .pv (.s (.slice none 0 0))], .ag [ci (2 : Int), ci (1 : Int), ci (0 : Int), cst ByteArray.empty, .pv (.s (.slice none 0 0))]] (vi r7) [(43, vi r7), (7, .one (.pt 0 0 0 0)), (8, .one (.pt 1 0 0 0)), (41, .ag [ci (0 : Int), ci (0 : Int), ci (0 : Int), cst ByteArray.empty, .pv (.s (.slice none 0 0))]), (42, .ag [ci (2 : Int), ci (1 : Int), ci (0 : Int), cst ByteArray.empty, .pv (.s (.slice none 0 0))])] (by kernel_rfl) (PC.le (c_value_Compare BIG _ _ _ c22) ⟨ALe.agc ⟨.rfl _, .rfl _, .rfl _, .rfl _, .nl, trivial⟩, ALe.agc ⟨.rfl _, .rfl _, .rfl _, .rfl _, .nl, trivial⟩, trivial⟩) rfl rfl (by kernel_rfl) ?_
            refine XO.go [7, 8] 2 [7,8,45] [] [(7, .one (.pt 0 0 0 0)), (8, .one (.pt 1 0 0 0)), (45, vb (r7 == (1 : Int)))] [.box [ci (0 : Int), ci (0 : Int), ci (0 : Int), cst ByteArray.empty, .pv (.s (.slice none 0 0))], .box [ci (2 : Int), ci (1 : Int), ci (0 : Int), cst ByteArray.empty, .pv (.s (.slice none 0 0))]] [] (by kernel_rfl) trivial ?_
            refine XO.setb 45 false (B := (r7 == (1 : Int))) rfl b23 ?_
            refine XO.go [7, 8] 6 [6] [] [(6, vb false)] [.box [ci (0 : Int), ci (0 : Int), ci (0 : Int), cst ByteArray.empty, .pv (.s (.slice none 0 0))], .box [ci (2 : Int), ci (1 : Int), ci (0 : Int), cst ByteArray.empty, .pv (.s (.slice none 0 0))]] [] (by kernel_rfl) trivial ?_
            refine XO.done (by kernel_rfl) ?_
            exact hJ3 false h _ _ (Sub.pick [6] (by kernel_rfl))
      obtain ⟨r4, c12, h⟩ := bnd_some h
      rcases Bool.eq_false_or_eq_true (decide (r4 ≤ (0 : Int))) with b13 | b13
      · have h := ift_t b13 h
        obtain ⟨r5, c14, h⟩ := bnd_some h
        rcases Bool.eq_false_or_eq_true (decide (r5 ≤ (0 : Int))) with b15 | b15
        · have h := ift_t b15 h
          obtain ⟨r6, c16, h⟩ := bnd_some h
          refine XW.reg (by kernel_rfl) ?_
          refine XO.go [7, 8] 2 [3,4,5,23,24] [[pi p1.kind, pi p1.n, pi p1.scale, .s (.string p1.s), .ro (eValue.els p1.items)], [pi p2.kind, pi p2.n, pi p2.scale, .s (.string p2.s), .ro (eValue.els p2.items)]] [(3, .one (.pv (.rp [[pi p1.kind, pi p1.n, pi p1.scale, .s (.string p1.s), .ro (eValue.els p1.items)]] 0 0))), (4, .one (.pv (.rp [[pi p2.kind, pi p2.n, pi p2.scale, .s (.string p2.s), .ro (eValue.els p2.items)]] 0 0))), (5, .one (.pv (.rp [[pi p3.kind, pi p3.n, pi p3.scale, .s (.string p3.s), .ro (eValue.els p3.items)]] 0 0))), (23, .ag [ci p1.kind, ci p1.n, ci p1.scale, cst p1.s, cl eValue p1.items]), (24, .ag [ci p2.kind, ci p2.n, ci p2.scale, cst p2.s, cl eValue p2.items])] [] [([[pi p1.kind, pi p1.n, pi p1.scale, .s (.string p1.s), .ro (eValue.els p1.items)]] : List (List PV))[0]? = some [pi p1.kind, pi p1.n, pi p1.scale, .s (.string p1.s), .ro (eValue.els p1.items)], ([[pi p2.kind, pi p2.n, pi p2.scale, .s (.string p2.s), .ro (eValue.els p2.items)]] : List (List PV))[0]? = some [pi p2.kind, pi p2.n, pi p2.scale, .s (.string p2.s), .ro (eValue.els p2.items)]] (by kernel_rfl) (⟨rfl, rfl, trivial⟩) ?_
          refine XO.cal 21 [.ag [ci p1.kind, ci p1.n, ci p1.scale, cst p1.s, cl eValue p1.items], .ag [ci p2.kind, ci p2.n, ci p2.scale, cst p2.s, cl eValue p2.items]] (vi r4) [(25, vi r4), (3, .one (.pv (.rp [[pi p1.kind, pi p1.n, pi p1.scale, .s (.string p1.s), .ro (eValue.els p1.items)]] 0 0))), (4, .one (.pv (.rp [[pi p2.kind, pi p2.n, pi p2.scale, .s (.string p2.s), .ro (eValue.els p2.items)]] 0 0))), (5, .one (.pv (.rp [[pi p3.kind, pi p3.n, pi p3.scale, .s (.string p3.s), .ro (eValue.els p3.items)]] 0 0))), (23, .ag [ci p1.kind, ci p1.n, ci p1.scale, cst p1.s, cl eValue p1.items]), (24, .ag [ci p2.kind, ci p2.n, ci p2.scale, cst p2.s, cl eValue p2.items])] (by kernel_rfl) (c_value_Compare BIG _ _ _ c12) rfl rfl (by kernel_rfl) ?_
          refine XO.go [7, 8] 2 [3,4,5,27] [] [(3, .one (.pv (.rp [[pi p1.kind, pi p1.n, pi p1.scale, .s (.string p1.s), .ro (eValue.els p1.items)]] 0 0))), (4, .one (.pv (.rp [[pi p2.kind, pi p2.n, pi p2.scale, .s (.string p2.s), .ro (eValue.els p2.items)]] 0 0))), (5, .one (.pv (.rp [[pi p3.kind, pi p3.n, pi p3.scale, .s (.string p3.s), .ro (eValue.els p3.items)]] 0 0))), (27, vb (decide (r4 ≤ (0 : Int))))] [] [] (by kernel_rfl) trivial ?_
          refine XO.setb 27 true (B := (decide (r4 ≤ (0 : Int)))) rfl b13 ?_
          refine XO.go [7, 8] 2 [3,5,27,28,29] [[pi p2.kind, pi p2.n, pi p2.scale, .s (.string p2.s), .ro (eValue.els p2.items)], [pi p3.kind, pi p3.n, pi p3.scale, .s (.string p3.s), .ro (eValue.els p3.items)]] [(3, .one (.pv (.rp [[pi p1.kind, pi p1.n, pi p1.scale, .s (.string p1.s), .ro (eValue.els p1.items)]] 0 0))), (5, .one (.pv (.rp [[pi p3.kind, pi p3.n, pi p3.scale, .s (.string p3.s), .ro (eValue.els p3.items)]] 0 0))), (27, vb true), (28, .ag [ci p2.kind, ci p2.n, ci p2.scale, cst p2.s, cl eValue p2.items]), (29, .ag [ci p3.kind, ci p3.n, ci p3.scale, cst p3.s, cl eValue p3.items])] [] [([[pi p2.kind, pi p2.n, pi p2.scale, .s (.string p2.s), .ro (eValue.els p2.items)]] : List (List PV))[0]? = some [pi p2.kind, pi p2.n, pi p2.scale, .s (.string p2.s), .ro (eValue.els p2.items)], ([[pi p3.kind, pi p3.n, pi p3.scale, .s (.string p3.s), .ro (eValue.els p3.items)]] : List (List PV))[0]? = some [pi p3.kind, pi p3.n, pi p3.scale, .s (.string p3.s), .ro (eValue.els p3.items)]] (by kernel_rfl) (⟨rfl, rfl, trivial⟩) ?_
          refine XO.cal 21 [.ag [ci p2.kind, ci p2.n, ci p2.scale, cst p2.s, cl eValue p2.items], .ag [ci p3.kind, ci p3.n, ci p3.scale, cst p3.s, cl eValue p3.items]] (vi r5) [(30, vi r5), (3, .one (.pv (.rp [[pi p1.kind, pi p1.n, pi p1.scale, .s (.string p1.s), .ro (eValue.els p1.items)]] 0 0))), (5, .one (.pv (.rp [[pi p3.kind, pi p3.n, pi p3.scale, .s (.string p3.s), .ro (eValue.els p3.items)]] 0 0))), (27, vb true), (28, .ag [ci p2.kind, ci p2.n, ci p2.scale, cst p2.s, cl eValue p2.items]), (29, .ag [ci p3.kind, ci p3.n, ci p3.scale, cst p3.s, cl eValue p3.items])] (by kernel_rfl) (c_value_Compare BIG _ _ _ c14) rfl rfl (by kernel_rfl) ?_
          refine XO.go [7, 8] 3 [3,5,33] [] [(3, .one (.pv (.rp [[pi p1.kind, pi p1.n, pi p1.scale, .s (.string p1.s), .ro (eValue.els p1.items)]] 0 0))), (5, .one (.pv (.rp [[pi p3.kind, pi p3.n, pi p3.scale, .s (.string p3.s), .ro (eValue.els p3.items)]] 0 0))), (33, vb (decide (r5 ≤ (0 : Int))))] [] [] (by kernel_rfl) trivial ?_
          refine XO.setb 33 true (B := (decide (r5 ≤ (0 : Int)))) rfl b15 ?_
          refine XO.go [7, 8] 2 [33,34,35] [[pi p1.kind, pi p1.n, pi p1.scale, .s (.string p1.s), .ro (eValue.els p1.items)], [pi p3.kind, pi p3.n, pi p3.scale, .s (.string p3.s), .ro (eValue.els p3.items)]] [(33, vb true), (34, .ag [ci p1.kind, ci p1.n, ci p1.scale, cst p1.s, cl eValue p1.items]), (35, .ag [ci p3.kind, ci p3.n, ci p3.scale, cst p3.s, cl eValue p3.items])] [] [([[pi p1.kind, pi p1.n, pi p1.scale, .s (.string p1.s), .ro (eValue.els p1.items)]] : List (List PV))[0]? = some [pi p1.kind, pi p1.n, pi p1.scale, .s (.string p1.s), .ro (eValue.els p1.items)], ([[pi p3.kind, pi p3.n, pi p3.scale, .s (.string p3.s), .ro (eValue.els p3.items)]] : List (List PV))[0]? = some [pi p3.kind, pi p3.n, pi p3.scale, .s (.string p3.s), .ro (eValue.els p3.items)]] (by kernel_rfl) (⟨rfl, rfl, trivial⟩) ?_
          refine XO.cal 21 [.ag [ci p1.kind, ci p1.n, ci p1.scale, cst p1.s, cl eValue p1.items], .ag [ci p3.kind, ci p3.n, ci p3.scale, cst p3.s, cl eValue p3.items]] (vi r6) [(36, vi r6), (33, vb true), (34, .ag [ci p1.kind, ci p1.n, ci p1.scale, cst p1.s, cl eValue p1.items]), (35, .ag [ci p3.kind, ci p3.n, ci p3.scale, cst p3.s, cl eValue p3.items])] (by kernel_rfl) (c_value_Compare BIG _ _ _ c16) rfl rfl (by kernel_rfl) ?_
          refine XO.go [7, 8] 2 [38] [] [(38, vb (decide ((0 : Int) < r6)))] [] [] (by kernel_rfl) trivial ?_
          refine XO.done (by kernel_rfl) ?_
          exact hJ2 (decide ((0 : Int) < r6)) h _ _ (Sub.pick [38] (by kernel_rfl))
        · have h := ift_f b15 h
          refine XW.reg (by kernel_rfl) ?_
          refine XO.go [7, 8] 2 [3,4,5,23,24] [[pi p1.kind, pi p1.n, pi p1.scale, .s (.string p1.s), .ro (eValue.els p1.items)], [pi p2.kind, pi p2.n, pi p2.scale, .s (.string p2.s), .ro (eValue.els p2.items)]] [(3, .one (.pv (.rp [[pi p1.kind, pi p1.n, pi p1.scale, .s (.string p1.s), .ro (eValue.els p1.items)]] 0 0))), (4, .one (.pv (.rp [[pi p2.kind, pi p2.n, pi p2.scale, .s (.string p2.s), .ro (eValue.els p2.items)]] 0 0))), (5, .one (.pv (.rp [[pi p3.kind, pi p3.n, pi p3.scale, .s (.string p3.s), .ro (eValue.els p3.items)]] 0 0))), (23, .ag [ci p1.kind, ci p1.n, ci p1.scale, cst p1.s, cl eValue p1.items]), (24, .ag [ci p2.kind, ci p2.n, ci p2.scale, cst p2.s, cl eValue p2.items])] [] [([[pi p1.kind, pi p1.n, pi p1.scale, .s (.string p1.s), .ro (eValue.els p1.items)]] : List (List PV))[0]? = some [pi p1.kind, pi p1.n, pi p1.scale, .s (.string p1.s), .ro (eValue.els p1.items)], ([[pi p2.kind, pi p2.n, pi p2.scale, .s (.string p2.s), .ro (eValue.els p2.items)]] : List (List PV))[0]? = some [pi p2.kind, pi p2.n, pi p2.scale, .s (.string p2.s), .ro (eValue.els p2.items)]] (by kernel_rfl) (⟨rfl, rfl, trivial⟩) ?_
          refine XO.cal 21 [.ag [ci p1.kind, ci p1.n, ci p1.scale, cst p1.s, cl eValue p1.items], .ag [ci p2.kind, ci p2.n, ci p2.scale, cst p2.s, cl eValue p2.items]] (vi r4) [(25, vi r4), (3, .one (.pv (.rp [[pi p1.kind, pi p1.n, pi p1.scale, .s (.string p1.s), .ro (eValue.els p1.items)]] 0 0))), (4, .one (.pv (.rp [[pi p2.kind, pi p2.n, pi p2.scale, .s (.string p2.s), .ro (eValue.els p2.items)]] 0 0))), (5, .one (.pv (.rp [[pi p3.kind, pi p3.n, pi p3.scale, .s (.string p3.s), .ro (eValue.els p3.items)]] 0 0))), (23, .ag [ci p1.kind, ci p1.n, ci p1.scale, cst p1.s, cl eValue p1.items]), (24, .ag [ci p2.kind, ci p2.n, ci p2.scale, cst p2.s, cl eValue p2.items])] (by kernel_rfl) (c_value_Compare BIG _ _ _ c12) rfl rfl (by kernel_rfl) ?_
          refine XO.go [7, 8] 2 [3,4,5,27] [] [(3, .one (.pv (.rp [[pi p1.kind, pi p1.n, pi p1.scale, .s (.string p1.s), .ro (eValue.els p1.items)]] 0 0))), (4, .one (.pv (.rp [[pi p2.kind, pi p2.n, pi p2.scale, .s (.string p2.s), .ro (eValue.els p2.items)]] 0 0))), (5, .one (.pv (.rp [[pi p3.kind, pi p3.n, pi p3.scale, .s (.string p3.s), .ro (eValue.els p3.items)]] 0 0))), (27, vb (decide (r4 ≤ (0 : Int))))] [] [] (by kernel_rfl) trivial ?_
          refine XO.setb 27 true (B := (decide (r4 ≤ (0 : Int)))) rfl b13 ?_
          refine XO.go [7, 8] 2 [3,5,27,28,29] [[pi p2.kind, pi p2.n, pi p2.scale, .s (.string p2.s), .ro (eValue.els p2.items)], [pi p3.kind, pi p3.n, pi p3.scale, .s (.string p3.s), .ro (eValue.els p3.items)]] [(3, .one (.pv (.rp [[pi p1.kind, pi p1.n, pi p1.scale, .s (.string p1.s), .ro (eValue.els p1.items)]] 0 0))), (5, .one (.pv (.rp [[pi p3.kind, pi p3.n, pi p3.scale, .s (.string p3.s), .ro (eValue.els p3.items)]] 0 0))), (27, vb true), (28, .ag [ci p2.kind, ci p2.n, ci p2.scale, cst p2.s, cl eValue p2.items]), (29, .ag [ci p3.kind, ci p3.n, ci p3.scale, cst p3.s, cl eValue p3.items])] [] [([[pi p2.kind, pi p2.n, pi p2.scale, .s (.string p2.s), .ro (eValue.els p2.items)]] : List (List PV))[0]? = some [pi p2.kind, pi p2.n, pi p2.scale, .s (.string p2.s), .ro (eValue.els p2.items)], ([[pi p3.kind, pi p3.n, pi p3.scale, .s (.string p3.s), .ro (eValue.els p3.items)]] : List (List PV))[0]? = some [pi p3.kind, pi p3.n, pi p3.scale, .s (.string p3.s), .ro (eValue.els p3.items)]] (by kernel_rfl) (⟨rfl, rfl, trivial⟩) ?_
          refine XO.cal 21 [.ag [ci p2.kind, ci p2.n, ci p2.scale, cst p2.s, cl eValue p2.items], .ag [ci p3.kind, ci p3.n, ci p3.scale, cst p3.s, cl eValue p3.items]] (vi r5) [(30, vi r5), (3, .one (.pv (.rp [[pi p1.kind, pi p1.n, pi p1.scale, .s (.string p1.s), .ro (eValue.els p1.items)]] 0 0))), (5, .one (.pv (.rp [[pi p3.kind, pi p3.n, pi p3.scale, .s (.string p3.s), .ro (eValue.els p3.items)]] 0 0))), (27, vb true), (28, .ag [ci p2.kind, ci p2.n, ci p2.scale, cst p2.s, cl eValue p2.items]), (29, .ag [ci p3.kind, ci p3.n, ci p3.scale, cst p3.s, cl eValue p3.items])] (by kernel_rfl) (c_value_Compare BIG _ _ _ c14) rfl rfl (by kernel_rfl) ?_
          refine XO.go [7, 8] 3 [3,5,33] [] [(3, .one (.pv (.rp [[pi p1.kind, pi p1.n, pi p1.scale, .s (.string p1.s), .ro (eValue.els p1.items)]] 0 0))), (5, .one (.pv (.rp [[pi p3.kind, pi p3.n, pi p3.scale, .s (.string p3.s), .ro (eValue.els p3.items)]] 0 0))), (33, vb (decide (r5 ≤ (0 : Int))))] [] [] (by kernel_rfl) trivial ?_
          refine XO.setb 33 false (B := (decide (r5 ≤ (0 : Int)))) rfl b15 ?_
          refine XO.go [7, 8] 5 [38] [] [(38, vb false)] [] [] (by kernel_rfl) trivial ?_
          refine XO.done (by kernel_rfl) ?_
          exact hJ2 false h _ _ (Sub.pick [38] (by kernel_rfl))
      · have h := ift_f b13 h
        refine XW.reg (by kernel_rfl) ?_
        refine XO.go [7, 8] 2 [3,4,5,23,24] [[pi p1.kind, pi p1.n, pi p1.scale, .s (.string p1.s), .ro (eValue.els p1.items)], [pi p2.kind, pi p2.n, pi p2.scale, .s (.string p2.s), .ro (eValue.els p2.items)]] [(3, .one (.pv (.rp [[pi p1.kind, pi p1.n, pi p1.scale, .s (.string p1.s), .ro (eValue.els p1.items)]] 0 0))), (4, .one (.pv (.rp [[pi p2.kind, pi p2.n, pi p2.scale, .s (.string p2.s), .ro (eValue.els p2.items)]] 0 0))), (5, .one (.pv (.rp [[pi p3.kind, pi p3.n, pi p3.scale, .s (.string p3.s), .ro (eValue.els p3.items)]] 0 0))), (23, .ag [ci p1.kind, ci p1.n, ci p1.scale, cst p1.s, cl eValue p1.items]), (24, .ag [ci p2.kind, ci p2.n, ci p2.scale, cst p2.s, cl eValue p2.items])] [] [([[pi p1.kind, pi p1.n, pi p1.scale, .s (.string p1.s), .ro (eValue.els p1.items)]] : List (List PV))[0]? = some [pi p1.kind, pi p1.n, pi p1.scale, .s (.string p1.s), .ro (eValue.els p1.items)], ([[pi p2.kind, pi p2.n, pi p2.scale, .s (.string p2.s), .ro (eValue.els p2.items)]] : List (List PV))[0]? = some [pi p2.kind, pi p2.n, pi p2.scale, .s (.string p2.s), .ro (eValue.els p2.items)]] (by kernel_rfl) (⟨rfl, rfl, trivial⟩) ?_
        refine XO.cal 21 [.ag [ci p1.kind, ci p1.n, ci p1.scale, cst p1.s, cl eValue p1.items], .ag [ci p2.kind, ci p2.n, ci p2.scale, cst p2.s, cl eValue p2.items]] (vi r4) [(25, vi r4), (3, .one (.pv (.rp [[pi p1.kind, pi p1.n, pi p1.scale, .s (.string p1.s), .ro (eValue.els p1.items)]] 0 0))), (4, .one (.pv (.rp [[pi p2.kind, pi p2.n, pi p2.scale, .s (.string p2.s), .ro (eValue.els p2.items)]] 0 0))), (5, .one (.pv (.rp [[pi p3.kind, pi p3.n, pi p3.scale, .s (.string p3.s), .ro (eValue.els p3.items)]] 0 0))), (23, .ag [ci p1.kind, ci p1.n, ci p1.scale, cst p1.s, cl eValue p1.items]), (24, .ag [ci p2.kind, ci p2.n, ci p2.scale, cst p2.s, cl eValue p2.items])] (by kernel_rfl) (c_value_Compare BIG _ _ _ c12) rfl rfl (by kernel_rfl) ?_
        refine XO.go [7, 8] 2 [3,4,5,27] [] [(3, .one (.pv (.rp [[pi p1.kind, pi p1.n, pi p1.scale, .s (.string p1.s), .ro (eValue.els p1.items)]] 0 0))), (4, .one (.pv (.rp [[pi p2.kind, pi p2.n, pi p2.scale, .s (.string p2.s), .ro (eValue.els p2.items)]] 0 0))), (5, .one (.pv (.rp [[pi p3.kind, pi p3.n, pi p3.scale, .s (.string p3.s), .ro (eValue.els p3.items)]] 0 0))), (27, vb (decide (r4 ≤ (0 : Int))))] [] [] (by kernel_rfl) trivial ?_
        refine XO.setb 27 false (B := (decide (r4 ≤ (0 : Int)))) rfl b13 ?_
        refine XO.go [7, 8] 11 [38] [] [(38, vb false)] [] [] (by kernel_rfl) trivial ?_
        refine XO.done (by kernel_rfl) ?_
        exact hJ2 false h _ _ (Sub.pick [38] (by kernel_rfl))
  obtain ⟨r1, c4, h⟩ := bnd_some h
  rcases Bool.eq_false_or_eq_true (r1 != (0 : Int)) with b5 | b5
  · have h := ift_t b5 h
    refine XW.drwS 10 [(18, .tp []), (17, .tp []), (16, .tp []), (15, .tp []), (14, .tp []), (13, vb true), (12, vb (r1 != (0 : Int))), (11, vi r1), (10, .ag [ci p1.kind, ci p1.n, ci p1.scale, cst p1.s, cl eValue p1.items]), (9, .ag [ci p1.kind, ci p1.n, ci p1.scale, cst p1.s, cl eValue p1.items]), (3, .one (.pv (.rp [[pi p1.kind, pi p1.n, pi p1.scale, .s (.string p1.s), .ro (eValue.els p1.items)]] 0 0))), (4, .one (.pv (.rp [[pi p2.kind, pi p2.n, pi p2.scale, .s (.string p2.s), .ro (eValue.els p2.items)]] 0 0))), (5, .one (.pv (.rp [[pi p3.kind, pi p3.n, pi p3.scale, .s (.string p3.s), .ro (eValue.els p3.items)]] 0 0)))] (by kernel_rfl) (by kernel_rfl) ?_ ?_
    · refine DX.go 2 [[pi p1.kind, pi p1.n, pi p1.scale, .s (.string p1.s), .ro (eValue.els p1.items)], [pi p1.kind, pi p1.n, pi p1.scale, .s (.string p1.s), .ro (eValue.els p1.items)]] [(10, .ag [ci p1.kind, ci p1.n, ci p1.scale, cst p1.s, cl eValue p1.items]), (9, .ag [ci p1.kind, ci p1.n, ci p1.scale, cst p1.s, cl eValue p1.items]), (3, .one (.pv (.rp [[pi p1.kind, pi p1.n, pi p1.scale, .s (.string p1.s), .ro (eValue.els p1.items)]] 0 0))), (4, .one (.pv (.rp [[pi p2.kind, pi p2.n, pi p2.scale, .s (.string p2.s), .ro (eValue.els p2.items)]] 0 0))), (5, .one (.pv (.rp [[pi p3.kind, pi p3.n, pi p3.scale, .s (.string p3.s), .ro (eValue.els p3.items)]] 0 0)))] [([[pi p1.kind, pi p1.n, pi p1.scale, .s (.string p1.s), .ro (eValue.els p1.items)]] : List (List PV))[0]? = some [pi p1.kind, pi p1.n, pi p1.scale, .s (.string p1.s), .ro (eValue.els p1.items)], ([[pi p1.kind, pi p1.n, pi p1.scale, .s (.string p1.s), .ro (eValue.els p1.items)]] : List (List PV))[0]? = some [pi p1.kind, pi p1.n, pi p1.scale, .s (.string p1.s), .ro (eValue.els p1.items)]] (by kernel_rfl) (⟨rfl, rfl, trivial⟩) ?_
      refine DX.cal 21 [.ag [ci p1.kind, ci p1.n, ci p1.scale, cst p1.s, cl eValue p1.items], .ag [ci p1.kind, ci p1.n, ci p1.scale, cst p1.s, cl eValue p1.items]] (vi r1) [(11, vi r1), (10, .ag [ci p1.kind, ci p1.n, ci p1.scale, cst p1.s, cl eValue p1.items]), (9, .ag [ci p1.kind, ci p1.n, ci p1.scale, cst p1.s, cl eValue p1.items]), (3, .one (.pv (.rp [[pi p1.kind, pi p1.n, pi p1.scale, .s (.string p1.s), .ro (eValue.els p1.items)]] 0 0))), (4, .one (.pv (.rp [[pi p2.kind, pi p2.n, pi p2.scale, .s (.string p2.s), .ro (eValue.els p2.items)]] 0 0))), (5, .one (.pv (.rp [[pi p3.kind, pi p3.n, pi p3.scale, .s (.string p3.s), .ro (eValue.els p3.items)]] 0 0)))] (by kernel_rfl) (c_value_Compare BIG _ _ _ c4) rfl rfl (by kernel_rfl) ?_
      refine DX.go 2 [] [(13, vb (r1 != (0 : Int))), (12, vb (r1 != (0 : Int))), (11, vi r1), (10, .ag [ci p1.kind, ci p1.n, ci p1.scale, cst p1.s, cl eValue p1.items]), (9, .ag [ci p1.kind, ci p1.n, ci p1.scale, cst p1.s, cl eValue p1.items]), (3, .one (.pv (.rp [[pi p1.kind, pi p1.n, pi p1.scale, .s (.string p1.s), .ro (eValue.els p1.items)]] 0 0))), (4, .one (.pv (.rp [[pi p2.kind, pi p2.n, pi p2.scale, .s (.string p2.s), .ro (eValue.els p2.items)]] 0 0))), (5, .one (.pv (.rp [[pi p3.kind, pi p3.n, pi p3.scale, .s (.string p3.s), .ro (eValue.els p3.items)]] 0 0)))] [] (by kernel_rfl) trivial ?_
      refine DX.eq (fr1 := [(13, vb true), (12, vb (r1 != (0 : Int))), (11, vi r1), (10, .ag [ci p1.kind, ci p1.n, ci p1.scale, cst p1.s, cl eValue p1.items]), (9, .ag [ci p1.kind, ci p1.n, ci p1.scale, cst p1.s, cl eValue p1.items]), (3, .one (.pv (.rp [[pi p1.kind, pi p1.n, pi p1.scale, .s (.string p1.s), .ro (eValue.els p1.items)]] 0 0))), (4, .one (.pv (.rp [[pi p2.kind, pi p2.n, pi p2.scale, .s (.string p2.s), .ro (eValue.els p2.items)]] 0 0))), (5, .one (.pv (.rp [[pi p3.kind, pi p3.n, pi p3.scale, .s (.string p3.s), .ro (eValue.els p3.items)]] 0 0)))]) (by rw [b5]) ?_
      refine DX.go 5 [] [(18, .tp []), (17, .tp []), (16, .tp []), (15, .tp []), (14, .tp []), (13, vb true), (12, vb (r1 != (0 : Int))), (11, vi r1), (10, .ag [ci p1.kind, ci p1.n, ci p1.scale, cst p1.s, cl eValue p1.items]), (9, .ag [ci p1.kind, ci p1.n, ci p1.scale, cst p1.s, cl eValue p1.items]), (3, .one (.pv (.rp [[pi p1.kind, pi p1.n, pi p1.scale, .s (.string p1.s), .ro (eValue.els p1.items)]] 0 0))), (4, .one (.pv (.rp [[pi p2.kind, pi p2.n, pi p2.scale, .s (.string p2.s), .ro (eValue.els p2.items)]] 0 0))), (5, .one (.pv (.rp [[pi p3.kind, pi p3.n, pi p3.scale, .s (.string p3.s), .ro (eValue.els p3.items)]] 0 0)))] [] (by kernel_rfl) trivial ?_
      exact DX.done (by kernel_rfl)
    refine XO.go [7, 8] 4 [3,4,5,22] [] [(3, .one (.pv (.rp [[pi p1.kind, pi p1.n, pi p1.scale, .s (.string p1.s), .ro (eValue.els p1.items)]] 0 0))), (4, .one (.pv (.rp [[pi p2.kind, pi p2.n, pi p2.scale, .s (.string p2.s), .ro (eValue.els p2.items)]] 0 0))), (5, .one (.pv (.rp [[pi p3.kind, pi p3.n, pi p3.scale, .s (.string p3.s), .ro (eValue.els p3.items)]] 0 0))), (22, vb true)] [] [] (by kernel_rfl) trivial ?_
    refine XO.done (by kernel_rfl) ?_
    exact hJ1 true h _ _ (Sub.pick [3,4,5,22] (by kernel_rfl))
  · have h := ift_f b5 h
    obtain ⟨r2, c6, h⟩ := bnd_some h
    obtain ⟨r3, c7, h⟩ := bnd_some h
    refine XW.drwS 10 [(18, .ag [ci p1.kind, ci p1.n, ci p1.scale, cst p1.s, cl eValue p1.items]), (17, .ag [ci p2.kind, ci p2.n, ci p2.scale, cst p2.s, cl eValue p2.items]), (16, vi r2), (15, .ag [ci p2.kind, ci p2.n, ci p2.scale, cst p2.s, cl eValue p2.items]), (14, .ag [ci p1.kind, ci p1.n, ci p1.scale, cst p1.s, cl eValue p1.items]), (13, vb false), (12, vb (r1 != (0 : Int))), (11, vi r1), (10, .ag [ci p1.kind, ci p1.n, ci p1.scale, cst p1.s, cl eValue p1.items]), (9, .ag [ci p1.kind, ci p1.n, ci p1.scale, cst p1.s, cl eValue p1.items]), (3, .one (.pv (.rp [[pi p1.kind, pi p1.n, pi p1.scale, .s (.string p1.s), .ro (eValue.els p1.items)]] 0 0))), (4, .one (.pv (.rp [[pi p2.kind, pi p2.n, pi p2.scale, .s (.string p2.s), .ro (eValue.els p2.items)]] 0 0))), (5, .one (.pv (.rp [[pi p3.kind, pi p3.n, pi p3.scale, .s (.string p3.s), .ro (eValue.els p3.items)]] 0 0)))] (by kernel_rfl) (by kernel_rfl) ?_ ?_
    · refine DX.go 2 [[pi p1.kind, pi p1.n, pi p1.scale, .s (.string p1.s), .ro (eValue.els p1.items)], [pi p1.kind, pi p1.n, pi p1.scale, .s (.string p1.s), .ro (eValue.els p1.items)]] [(10, .ag [ci p1.kind, ci p1.n, ci p1.scale, cst p1.s, cl eValue p1.items]), (9, .ag [ci p1.kind, ci p1.n, ci p1.scale, cst p1.s, cl eValue p1.items]), (3, .one (.pv (.rp [[pi p1.kind, pi p1.n, pi p1.scale, .s (.string p1.s), .ro (eValue.els p1.items)]] 0 0))), (4, .one (.pv (.rp [[pi p2.kind, pi p2.n, pi p2.scale, .s (.string p2.s), .ro (eValue.els p2.items)]] 0 0))), (5, .one (.pv (.rp [[pi p3.kind, pi p3.n, pi p3.scale, .s (.string p3.s), .ro (eValue.els p3.items)]] 0 0)))] [([[pi p1.kind, pi p1.n, pi p1.scale, .s (.string p1.s), .ro (eValue.els p1.items)]] : List (List PV))[0]? = some [pi p1.kind, pi p1.n, pi p1.scale, .s (.string p1.s), .ro (eValue.els p1.items)], ([[pi p1.kind, pi p1.n, pi p1.scale, .s (.string p1.s), .ro (eValue.els p1.items)]] : List (List PV))[0]? = some [pi p1.kind, pi p1.n, pi p1.scale, .s (.string p1.s), .ro (eValue.els p1.items)]] (by kernel_rfl) (⟨rfl, rfl, trivial⟩) ?_
      refine DX.cal 21 [.ag [ci p1.kind, ci p1.n, ci p1.scale, cst p1.s, cl eValue p1.items], .ag [ci p1.kind, ci p1.n, ci p1.scale, cst p1.s, cl eValue p1.items]] (vi r1) [(11, vi r1), (10, .ag [ci p1.kind, ci p1.n, ci p1.scale, cst p1.s, cl eValue p1.items]), (9, .ag [ci p1.kind, ci p1.n, ci p1.scale, cst p1.s, cl eValue p1.items]), (3, .one (.pv (.rp [[pi p1.kind, pi p1.n, pi p1.scale, .s (.string p1.s), .ro (eValue.els p1.items)]] 0 0))), (4, .one (.pv (.rp [[pi p2.kind, pi p2.n, pi p2.scale, .s (.string p2.s), .ro (eValue.els p2.items)]] 0 0))), (5, .one (.pv (.rp [[pi p3.kind, pi p3.n, pi p3.scale, .s (.string p3.s), .ro (eValue.els p3.items)]] 0 0)))] (by kernel_rfl) (c_value_Compare BIG _ _ _ c4) rfl rfl (by kernel_rfl) ?_
      refine DX.go 2 [] [(13, vb (r1 != (0 : Int))), (12, vb (r1 != (0 : Int))), (11, vi r1), (10, .ag [ci p1.kind, ci p1.n, ci p1.scale, cst p1.s, cl eValue p1.items]), (9, .ag [ci p1.kind, ci p1.n, ci p1.scale, cst p1.s, cl eValue p1.items]), (3, .one (.pv (.rp [[pi p1.kind, pi p1.n, pi p1.scale, .s (.string p1.s), .ro (eValue.els p1.items)]] 0 0))), (4, .one (.pv (.rp [[pi p2.kind, pi p2.n, pi p2.scale, .s (.string p2.s), .ro (eValue.els p2.items)]] 0 0))), (5, .one (.pv (.rp [[pi p3.kind, pi p3.n, pi p3.scale, .s (.string p3.s), .ro (eValue.els p3.items)]] 0 0)))] [] (by kernel_rfl) trivial ?_
      refine DX.eq (fr1 := [(13, vb false), (12, vb (r1 != (0 : Int))), (11, vi r1), (10, .ag [ci p1.kind, ci p1.n, ci p1.scale, cst p1.s, cl eValue p1.items]), (9, .ag [ci p1.kind, ci p1.n, ci p1.scale, cst p1.s, cl eValue p1.items]), (3, .one (.pv (.rp [[pi p1.kind, pi p1.n, pi p1.scale, .s (.string p1.s), .ro (eValue.els p1.items)]] 0 0))), (4, .one (.pv (.rp [[pi p2.kind, pi p2.n, pi p2.scale, .s (.string p2.s), .ro (eValue.els p2.items)]] 0 0))), (5, .one (.pv (.rp [[pi p3.kind, pi p3.n, pi p3.scale, .s (.string p3.s), .ro (eValue.els p3.items)]] 0 0)))]) (by rw [b5]) ?_
      refine DX.go 2 [[pi p1.kind, pi p1.n, pi p1.scale, .s (.string p1.s), .ro (eValue.els p1.items)], [pi p2.kind, pi p2.n, pi p2.scale, .s (.string p2.s), .ro (eValue.els p2.items)]] [(15, .ag [ci p2.kind, ci p2.n, ci p2.scale, cst p2.s, cl eValue p2.items]), (14, .ag [ci p1.kind, ci p1.n, ci p1.scale, cst p1.s, cl eValue p1.items]), (13, vb false), (12, vb (r1 != (0 : Int))), (11, vi r1), (10, .ag [ci p1.kind, ci p1.n, ci p1.scale, cst p1.s, cl eValue p1.items]), (9, .ag [ci p1.kind, ci p1.n, ci p1.scale, cst p1.s, cl eValue p1.items]), (3, .one (.pv (.rp [[pi p1.kind, pi p1.n, pi p1.scale, .s (.string p1.s), .ro (eValue.els p1.items)]] 0 0))), (4, .one (.pv (.rp [[pi p2.kind, pi p2.n, pi p2.scale, .s (.string p2.s), .ro (eValue.els p2.items)]] 0 0))), (5, .one (.pv (.rp [[pi p3.kind, pi p3.n, pi p3.scale, .s (.string p3.s), .ro (eValue.els p3.items)]] 0 0)))] [([[pi p1.kind, pi p1.n, pi p1.scale, .s (.string p1.s), .ro (eValue.els p1.items)]] : List (List PV))[0]? = some [pi p1.kind, pi p1.n, pi p1.scale, .s (.string p1.s), .ro (eValue.els p1.items)], ([[pi p2.kind, pi p2.n, pi p2.scale, .s (.string p2.s), .ro (eValue.els p2.items)]] : List (List PV))[0]? = some [pi p2.kind, pi p2.n, pi p2.scale, .s (.string p2.s), .ro (eValue.els p2.items)]] (by kernel_rfl) (⟨rfl, rfl, trivial⟩) ?_
      refine DX.cal 21 [.ag [ci p1.kind, ci p1.n, ci p1.scale, cst p1.s, cl eValue p1.items], .ag [ci p2.kind, ci p2.n, ci p2.scale, cst p2.s, cl eValue p2.items]] (vi r2) [(16, vi r2), (15, .ag [ci p2.kind, ci p2.n, ci p2.scale, cst p2.s, cl eValue p2.items]), (14, .ag [ci p1.kind, ci p1.n, ci p1.scale, cst p1.s, cl eValue p1.items]), (13, vb false), (12, vb (r1 != (0 : Int))), (11, vi r1), (10, .ag [ci p1.kind, ci p1.n, ci p1.scale, cst p1.s, cl eValue p1.items]), (9, .ag [ci p1.kind, ci p1.n, ci p1.scale, cst p1.s, cl eValue p1.items]), (3, .one (.pv (.rp [[pi p1.kind, pi p1.n, pi p1.scale, .s (.string p1.s), .ro (eValue.els p1.items)]] 0 0))), (4, .one (.pv (.rp [[pi p2.kind, pi p2.n, pi p2.scale, .s (.string p2.s), .ro (eValue.els p2.items)]] 0 0))), (5, .one (.pv (.rp [[pi p3.kind, pi p3.n, pi p3.scale, .s (.string p3.s), .ro (eValue.els p3.items)]] 0 0)))] (by kernel_rfl) (c_value_Compare BIG _ _ _ c6) rfl rfl (by kernel_rfl) ?_
      refine DX.go 2 [[pi p2.kind, pi p2.n, pi p2.scale, .s (.string p2.s), .ro (eValue.els p2.items)], [pi p1.kind, pi p1.n, pi p1.scale, .s (.string p1.s), .ro (eValue.els p1.items)]] [(18, .ag [ci p1.kind, ci p1.n, ci p1.scale, cst p1.s, cl eValue p1.items]), (17, .ag [ci p2.kind, ci p2.n, ci p2.scale, cst p2.s, cl eValue p2.items]), (16, vi r2), (15, .ag [ci p2.kind, ci p2.n, ci p2.scale, cst p2.s, cl eValue p2.items]), (14, .ag [ci p1.kind, ci p1.n, ci p1.scale, cst p1.s, cl eValue p1.items]), (13, vb false), (12, vb (r1 != (0 : Int))), (11, vi r1), (10, .ag [ci p1.kind, ci p1.n, ci p1.scale, cst p1.s, cl eValue p1.items]), (9, .ag [ci p1.kind, ci p1.n, ci p1.scale, cst p1.s, cl eValue p1.items]), (3, .one (.pv (.rp [[pi p1.kind, pi p1.n, pi p1.scale, .s (.string p1.s), .ro (eValue.els p1.items)]] 0 0))), (4, .one (.pv (.rp [[pi p2.kind, pi p2.n, pi p2.scale, .s (.string p2.s), .ro (eValue.els p2.items)]] 0 0))), (5, .one (.pv (.rp [[pi p3.kind, pi p3.n, pi p3.scale, .s (.string p3.s), .ro (eValue.els p3.items)]] 0 0)))] [([[pi p2.kind, pi p2.n, pi p2.scale, .s (.string p2.s), .ro (eValue.els p2.items)]] : List (List PV))[0]? = some [pi p2.kind, pi p2.n, pi p2.scale, .s (.string p2.s), .ro (eValue.els p2.items)], ([[pi p1.kind, pi p1.n, pi p1.scale, .s (.string p1.s), .ro (eValue.els p1.items)]] : List (List PV))[0]? = some [pi p1.kind, pi p1.n, pi p1.scale, .s (.string p1.s), .ro (eValue.els p1.items)]] (by kernel_rfl) (⟨rfl, rfl, trivial⟩) ?_
      exact DX.done (by kernel_rfl)
    refine XO.cal 21 [.ag [ci p2.kind, ci p2.n, ci p2.scale, cst p2.s, cl eValue p2.items], .ag [ci p1.kind, ci p1.n, ci p1.scale, cst p1.s, cl eValue p1.items]] (vi r3) [(19, vi r3), (18, .ag [ci p1.kind, ci p1.n, ci p1.scale, cst p1.s, cl eValue p1.items]), (17, .ag [ci p2.kind, ci p2.n, ci p2.scale, cst p2.s, cl eValue p2.items]), (16, vi r2), (15, .ag [ci p2.kind, ci p2.n, ci p2.scale, cst p2.s, cl eValue p2.items]), (14, .ag [ci p1.kind, ci p1.n, ci p1.scale, cst p1.s, cl eValue p1.items]), (13, vb false), (12, vb (r1 != (0 : Int))), (11, vi r1), (10, .ag [ci p1.kind, ci p1.n, ci p1.scale, cst p1.s, cl eValue p1.items]), (9, .ag [ci p1.kind, ci p1.n, ci p1.scale, cst p1.s, cl eValue p1.items]), (3, .one (.pv (.rp [[pi p1.kind, pi p1.n, pi p1.scale, .s (.string p1.s), .ro (eValue.els p1.items)]] 0 0))), (4, .one (.pv (.rp [[pi p2.kind, pi p2.n, pi p2.scale, .s (.string p2.s), .ro (eValue.els p2.items)]] 0 0))), (5, .one (.pv (.rp [[pi p3.kind, pi p3.n, pi p3.scale, .s (.string p3.s), .ro (eValue.els p3.items)]] 0 0)))] (by kernel_rfl) (c_value_Compare BIG _ _ _ c7) rfl rfl (by kernel_rfl) ?_
    refine XO.go [7, 8] 3 [3,4,5,22] [] [(3, .one (.pv (.rp [[pi p1.kind, pi p1.n, pi p1.scale, .s (.string p1.s), .ro (eValue.els p1.items)]] 0 0))), (4, .one (.pv (.rp [[pi p2.kind, pi p2.n, pi p2.scale, .s (.string p2.s), .ro (eValue.els p2.items)]] 0 0))), (5, .one (.pv (.rp [[pi p3.kind, pi p3.n, pi p3.scale, .s (.string p3.s), .ro (eValue.els p3.items)]] 0 0))), (22, vb (r2 != (IntKind.i64.wrap (0 - r3))))] [] [] (by kernel_rfl) trivial ?_
    refine XO.done (by kernel_rfl) ?_
    exact hJ1 (r2 != (IntKind.i64.wrap (0 - r3))) h _ _ (Sub.pick [3,4,5,22] (by kernel_rfl))


end Go.Proofs.Ytdkmclmdemngfaa
