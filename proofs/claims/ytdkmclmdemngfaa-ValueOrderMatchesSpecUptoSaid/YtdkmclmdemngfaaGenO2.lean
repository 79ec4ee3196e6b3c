/- Printed by a program: what the functions compute, and the proofs of their contracts. -/
import Derived.Test.YtdkmclmdemngfaaGenO1
namespace Go.Proofs.Ytdkmclmdemngfaa
open Go.SX Go
set_option linter.unusedVariables false
set_option linter.unusedSimpArgs false
set_option maxRecDepth 100000

def value_wide_minus_j1 (b1 : Bool) (b2 : Int) (b3 : Int) (b4 : Int) (b5 : Int) (b6 : Bool) (b7 : Int) (b8 : Int) (b9 : Int) (b10 : Int) : Option GWide :=
    grd (0 ≤ b2 ∧ 0 ≤ b7 ∧ b7 < 18446744073709551616 ∧ 0 ≤ (0 : Int) ∧ (0 : Int) ≤ 1) <|
    grd (0 ≤ b3 ∧ 0 ≤ b8 ∧ b8 < 18446744073709551616 ∧ 0 ≤ (if b2 < b7 + (0 : Int) then (1 : Int) else (0 : Int)) ∧ (if b2 < b7 + (0 : Int) then (1 : Int) else (0 : Int)) ≤ 1) <|
    bnd (some ((b3 - b8 - (if b2 < b7 + (0 : Int) then (1 : Int) else (0 : Int))) % 18446744073709551616)) fun y1 =>
    bnd (some (if b3 < b8 + (if b2 < b7 + (0 : Int) then (1 : Int) else (0 : Int)) then (1 : Int) else (0 : Int))) fun y2 =>
    grd (0 ≤ b4 ∧ 0 ≤ b9 ∧ b9 < 18446744073709551616 ∧ 0 ≤ y2 ∧ y2 ≤ 1) <|
    grd (0 ≤ b5 ∧ 0 ≤ b10 ∧ b10 < 18446744073709551616 ∧ 0 ≤ (if b4 < b9 + y2 then (1 : Int) else (0 : Int)) ∧ (if b4 < b9 + y2 then (1 : Int) else (0 : Int)) ≤ 1) <|
    bnd (some ((b5 - b10 - (if b4 < b9 + y2 then (1 : Int) else (0 : Int))) % 18446744073709551616)) fun y3 =>
    bnd (some (if b5 < b10 + (if b4 < b9 + y2 then (1 : Int) else (0 : Int)) then (1 : Int) else (0 : Int))) fun y4 =>
    some (GWide.mk b1 (((b2 - b7 - (0 : Int)) % 18446744073709551616), y1, ((b4 - b9 - y2) % 18446744073709551616), y3))

mutual

def value_wide_minus : Nat → GWide → GWide → Option GWide
  | 0, _, _ => none
  | k0 + 1, p1, p2 =>
    ift (!(p1.neg == p2.neg))
      (bnd (value_wide_negated (GWide.mk p2.neg (p2.size.1, p2.size.2.1, p2.size.2.2.1, p2.size.2.2.2))) fun r1 =>
       bnd ((value_wide_plus k0) (GWide.mk p1.neg (p1.size.1, p1.size.2.1, p1.size.2.2.1, p1.size.2.2.2)) (GWide.mk r1.neg (r1.size.1, r1.size.2.1, r1.size.2.2.1, r1.size.2.2.2))) fun r2 =>
       some (GWide.mk r2.neg (r2.size.1, r2.size.2.1, r2.size.2.2.1, r2.size.2.2.2)))
      (bnd (value_compareSize (GWide.mk p1.neg (p1.size.1, p1.size.2.1, p1.size.2.2.1, p1.size.2.2.2)) (GWide.mk p2.neg (p2.size.1, p2.size.2.1, p2.size.2.2.1, p2.size.2.2.2))) fun r3 =>
       ift (decide (r3 < (0 : Int)))
         (bnd (value_wide_negated (GWide.mk p2.neg (p2.size.1, p2.size.2.1, p2.size.2.2.1, p2.size.2.2.2))) fun r4 =>
          value_wide_minus_j1 r4.neg r4.size.1 r4.size.2.1 r4.size.2.2.1 r4.size.2.2.2 p1.neg p1.size.1 p1.size.2.1 p1.size.2.2.1 p1.size.2.2.2)
         (value_wide_minus_j1 p1.neg p1.size.1 p1.size.2.1 p1.size.2.2.1 p1.size.2.2.2 p2.neg p2.size.1 p2.size.2.1 p2.size.2.2.1 p2.size.2.2.2))

def value_wide_plus : Nat → GWide → GWide → Option GWide
  | 0, _, _ => none
  | k0 + 1, p1, p2 =>
    ift (!(p1.neg == p2.neg))
      (bnd (value_wide_negated (GWide.mk p2.neg (p2.size.1, p2.size.2.1, p2.size.2.2.1, p2.size.2.2.2))) fun r1 =>
       bnd ((value_wide_minus k0) (GWide.mk p1.neg (p1.size.1, p1.size.2.1, p1.size.2.2.1, p1.size.2.2.2)) (GWide.mk r1.neg (r1.size.1, r1.size.2.1, r1.size.2.2.1, r1.size.2.2.2))) fun r2 =>
       some (GWide.mk r2.neg (r2.size.1, r2.size.2.1, r2.size.2.2.1, r2.size.2.2.2)))
      (grd (0 ≤ p1.size.1 ∧ 0 ≤ p2.size.1 ∧ 0 ≤ (0 : Int) ∧ (0 : Int) ≤ 1) <|
       grd (0 ≤ p1.size.2.1 ∧ 0 ≤ p2.size.2.1 ∧ 0 ≤ ((p1.size.1 + p2.size.1 + (0 : Int)) / 18446744073709551616) ∧ ((p1.size.1 + p2.size.1 + (0 : Int)) / 18446744073709551616) ≤ 1) <|
       bnd (some ((p1.size.2.1 + p2.size.2.1 + ((p1.size.1 + p2.size.1 + (0 : Int)) / 18446744073709551616)) % 18446744073709551616)) fun y1 =>
       bnd (some ((p1.size.2.1 + p2.size.2.1 + ((p1.size.1 + p2.size.1 + (0 : Int)) / 18446744073709551616)) / 18446744073709551616)) fun y2 =>
       grd (0 ≤ p1.size.2.2.1 ∧ 0 ≤ p2.size.2.2.1 ∧ 0 ≤ y2 ∧ y2 ≤ 1) <|
       grd (0 ≤ p1.size.2.2.2 ∧ 0 ≤ p2.size.2.2.2 ∧ 0 ≤ ((p1.size.2.2.1 + p2.size.2.2.1 + y2) / 18446744073709551616) ∧ ((p1.size.2.2.1 + p2.size.2.2.1 + y2) / 18446744073709551616) ≤ 1) <|
       bnd (some ((p1.size.2.2.2 + p2.size.2.2.2 + ((p1.size.2.2.1 + p2.size.2.2.1 + y2) / 18446744073709551616)) % 18446744073709551616)) fun y3 =>
       bnd (some ((p1.size.2.2.2 + p2.size.2.2.2 + ((p1.size.2.2.1 + p2.size.2.2.1 + y2) / 18446744073709551616)) / 18446744073709551616)) fun y4 =>
       some (GWide.mk p1.neg (((p1.size.1 + p2.size.1 + (0 : Int)) % 18446744073709551616), y1, ((p1.size.2.2.1 + p2.size.2.2.1 + y2) % 18446744073709551616), y3)))

end


mutual

theorem c_value_wide_minus : ∀ (k0 : Nat) (p1 : GWide) (p2 : GWide) (r : GWide), value_wide_minus k0 p1 p2 = some r → PC Try.prog 85 [.ag [cb p1.neg, ck .u64 p1.size.1, ck .u64 p1.size.2.1, ck .u64 p1.size.2.2.1, ck .u64 p1.size.2.2.2], .ag [cb p2.neg, ck .u64 p2.size.1, ck .u64 p2.size.2.1, ck .u64 p2.size.2.2.1, ck .u64 p2.size.2.2.2]] (.ag [cb r.neg, ck .u64 r.size.1, ck .u64 r.size.2.1, ck .u64 r.size.2.2.1, ck .u64 r.size.2.2.2])
  | 0, _, _, r, h => by rw [value_wide_minus.eq_1] at h; cases h
  | k0 + 1, p1, p2, r, h => by
    rw [value_wide_minus.eq_2] at h
    refine PC.of (n := 44) (fn := Try.f85) (c := cd Try.f85 []) (by kernel_rfl) (by kernel_rfl) (by kernel_rfl) (Nat.le_of_ble_eq_true rfl) ?_
    refine XW.seq (x := cd Try.f85 [0]) (y := cd Try.f85 [1]) (by kernel_rfl) fun K1 hK1 => ?_
    refine XW.reg (by kernel_rfl) ?_
    refine XO.go [2, 3, 4] 3 [2,3,4] [] [(2, .one (.pt 0 0 0 0)), (3, .one (.pt 1 0 0 0)), (4, .one (.pt 2 0 0 0))] [.box [cb p1.neg, ck .u64 p1.size.1, ck .u64 p1.size.2.1, ck .u64 p1.size.2.2.1, ck .u64 p1.size.2.2.2], .box [cb p2.neg, ck .u64 p2.size.1, ck .u64 p2.size.2.1, ck .u64 p2.size.2.2.1, ck .u64 p2.size.2.2.2], .box [cb false, ck .u64 (0 : Int), ck .u64 (0 : Int), ck .u64 (0 : Int), ck .u64 (0 : Int)]] [] (by kernel_rfl) trivial ?_
    refine XO.done (by kernel_rfl) ?_
    refine hK1 _ _ ?_
    refine XW.seq (x := cd Try.f85 [1,0]) (y := cd Try.f85 [1,1]) (by kernel_rfl) fun K2 hK2 => ?_
    refine XW.seq (x := cd Try.f85 [1,0,0]) (y := cd Try.f85 [1,0,1]) (by kernel_rfl) fun K3 hK3 => ?_
    refine XW.reg (by kernel_rfl) ?_
    refine XO.go [2, 3, 4] 5 [2,3,4,11] [] [(2, .one (.pt 0 0 0 0)), (3, .one (.pt 1 0 0 0)), (4, .one (.pt 2 0 0 0)), (11, vb (!(p1.neg == p2.neg)))] [.box [cb p1.neg, ck .u64 p1.size.1, ck .u64 p1.size.2.1, ck .u64 p1.size.2.2.1, ck .u64 p1.size.2.2.2], .box [cb p2.neg, ck .u64 p2.size.1, ck .u64 p2.size.2.1, ck .u64 p2.size.2.2.1, ck .u64 p2.size.2.2.2], .box [cb false, ck .u64 (0 : Int), ck .u64 (0 : Int), ck .u64 (0 : Int), ck .u64 (0 : Int)]] [] (by kernel_rfl) trivial ?_
    refine XO.done (by kernel_rfl) ?_
    refine hK3 _ _ ?_
    refine XW.cond (x := .tmp 11) (a := cd Try.f85 [1,0,1,0]) (b := cd Try.f85 [1,0,1,1]) (t := (!(p1.neg == p2.neg))) (by kernel_rfl) (by kernel_rfl) (fun b4 => ?_) (fun b4 => ?_)
    · have h := ift_t b4 h
      refine XW.seq (x := cd Try.f85 [1,0,1,0,0]) (y := cd Try.f85 [1,0,1,0,1]) (by kernel_rfl) fun K5 hK5 => ?_
      obtain ⟨r1, c6, h⟩ := bnd_some h
      obtain ⟨r2, c7, h⟩ := bnd_some h
      refine XW.drwS 3 [(14, .ag [cb r1.neg, ck .u64 r1.size.1, ck .u64 r1.size.2.1, ck .u64 r1.size.2.2.1, ck .u64 r1.size.2.2.2]), (13, .ag [cb p2.neg, ck .u64 p2.size.1, ck .u64 p2.size.2.1, ck .u64 p2.size.2.2.1, ck .u64 p2.size.2.2.2]), (12, .ag [cb p1.neg, ck .u64 p1.size.1, ck .u64 p1.size.2.1, ck .u64 p1.size.2.2.1, ck .u64 p1.size.2.2.2]), (2, .one (.pt 0 0 0 0)), (3, .one (.pt 1 0 0 0)), (4, .one (.pt 2 0 0 0)), (11, vb (!(p1.neg == p2.neg)))] (by kernel_rfl) (by kernel_rfl) ?_ ?_
      · refine DX.go 2 [] [(13, .ag [cb p2.neg, ck .u64 p2.size.1, ck .u64 p2.size.2.1, ck .u64 p2.size.2.2.1, ck .u64 p2.size.2.2.2]), (12, .ag [cb p1.neg, ck .u64 p1.size.1, ck .u64 p1.size.2.1, ck .u64 p1.size.2.2.1, ck .u64 p1.size.2.2.2]), (2, .one (.pt 0 0 0 0)), (3, .one (.pt 1 0 0 0)), (4, .one (.pt 2 0 0 0)), (11, vb (!(p1.neg == p2.neg)))] [] (by kernel_rfl) trivial ?_
        refine DX.cal 101 [.ag [cb p2.neg, ck .u64 p2.size.1, ck .u64 p2.size.2.1, ck .u64 p2.size.2.2.1, ck .u64 p2.size.2.2.2]] (.ag [cb r1.neg, ck .u64 r1.size.1, ck .u64 r1.size.2.1, ck .u64 r1.size.2.2.1, ck .u64 r1.size.2.2.2]) [(14, .ag [cb r1.neg, ck .u64 r1.size.1, ck .u64 r1.size.2.1, ck .u64 r1.size.2.2.1, ck .u64 r1.size.2.2.2]), (13, .ag [cb p2.neg, ck .u64 p2.size.1, ck .u64 p2.size.2.1, ck .u64 p2.size.2.2.1, ck .u64 p2.size.2.2.2]), (12, .ag [cb p1.neg, ck .u64 p1.size.1, ck .u64 p1.size.2.1, ck .u64 p1.size.2.2.1, ck .u64 p1.size.2.2.2]), (2, .one (.pt 0 0 0 0)), (3, .one (.pt 1 0 0 0)), (4, .one (.pt 2 0 0 0)), (11, vb (!(p1.neg == p2.neg)))] (by kernel_rfl) (c_value_wide_negated _ _ c6) rfl rfl (by kernel_rfl) ?_
        exact DX.done (by kernel_rfl)
      refine XO.cal 100 [.ag [cb p1.neg, ck .u64 p1.size.1, ck .u64 p1.size.2.1, ck .u64 p1.size.2.2.1, ck .u64 p1.size.2.2.2], .ag [cb r1.neg, ck .u64 r1.size.1, ck .u64 r1.size.2.1, ck .u64 r1.size.2.2.1, ck .u64 r1.size.2.2.2]] (.ag [cb r2.neg, ck .u64 r2.size.1, ck .u64 r2.size.2.1, ck .u64 r2.size.2.2.1, ck .u64 r2.size.2.2.2]) [(15, .ag [cb r2.neg, ck .u64 r2.size.1, ck .u64 r2.size.2.1, ck .u64 r2.size.2.2.1, ck .u64 r2.size.2.2.2]), (14, .ag [cb r1.neg, ck .u64 r1.size.1, ck .u64 r1.size.2.1, ck .u64 r1.size.2.2.1, ck .u64 r1.size.2.2.2]), (13, .ag [cb p2.neg, ck .u64 p2.size.1, ck .u64 p2.size.2.1, ck .u64 p2.size.2.2.1, ck .u64 p2.size.2.2.2]), (12, .ag [cb p1.neg, ck .u64 p1.size.1, ck .u64 p1.size.2.1, ck .u64 p1.size.2.2.1, ck .u64 p1.size.2.2.2]), (2, .one (.pt 0 0 0 0)), (3, .one (.pt 1 0 0 0)), (4, .one (.pt 2 0 0 0)), (11, vb (!(p1.neg == p2.neg)))] (by kernel_rfl) (c_value_wide_plus k0 _ _ _ c7) rfl rfl (by kernel_rfl) ?_
      refine XO.go [2, 3, 4] 1 [4] [] [(4, .one (.pt 2 0 0 0))] [.box [cb p1.neg, ck .u64 p1.size.1, ck .u64 p1.size.2.1, ck .u64 p1.size.2.2.1, ck .u64 p1.size.2.2.2], .box [cb p2.neg, ck .u64 p2.size.1, ck .u64 p2.size.2.1, ck .u64 p2.size.2.2.1, ck .u64 p2.size.2.2.2], .box [cb r2.neg, ck .u64 r2.size.1, ck .u64 r2.size.2.1, ck .u64 r2.size.2.2.1, ck .u64 r2.size.2.2.2]] [] (by kernel_rfl) trivial ?_
      refine XO.done (by kernel_rfl) ?_
      refine hK5 _ _ ?_
      refine XW.ret (by kernel_rfl) ?_
      obtain rfl := Option.some.inj h
      exact FinP.fin (.inr rfl) [] [.ag [cb r2.neg, ck .u64 r2.size.1, ck .u64 r2.size.2.1, ck .u64 r2.size.2.2.1, ck .u64 r2.size.2.2.2]] [] (by kernel_rfl) trivial (.ag (.cons (.rfl _ rfl) (.cons (.rfl _ rfl) (.cons (.rfl _ rfl) (.cons (.rfl _ rfl) (.cons (.rfl _ rfl) .nil))))))
    · have h := ift_f b4 h
      refine XW.skip (by kernel_rfl) ?_
      refine hK2 _ _ ?_
      refine XW.seq (x := cd Try.f85 [1,1,0]) (y := cd Try.f85 [1,1,1]) (by kernel_rfl) fun K8 hK8 => ?_
      have hJ1 : ∀ (b1 : Bool) (b2 : Int) (b3 : Int) (b4 : Int) (b5 : Int) (b6 : Bool) (b7 : Int) (b8 : Int) (b9 : Int) (b10 : Int), value_wide_minus_j1 b1 b2 b3 b4 b5 b6 b7 b8 b9 b10 = some r → ∀ fr1 st1, Sub 44 0 [] fr1 st1 [(2, .one (.pt 0 0 0 0)), (3, .one (.pt 1 0 0 0)), (4, .one (.pt 2 0 0 0))] [.box [cb b1, ck .u64 b2, ck .u64 b3, ck .u64 b4, ck .u64 b5], .box [cb b6, ck .u64 b7, ck .u64 b8, ck .u64 b9, ck .u64 b10], .box [cb false, ck .u64 (0 : Int), ck .u64 (0 : Int), ck .u64 (0 : Int), ck .u64 (0 : Int)]] → K8 fr1 st1 := by
        intro b1 b2 b3 b4 b5 b6 b7 b8 b9 b10 h fr1 st1 hS
        unfold value_wide_minus_j1 at h
        refine hK8 _ _ (XW.sub hS ?_)
        refine XW.seq (x := cd Try.f85 [1,1,1,0]) (y := cd Try.f85 [1,1,1,1]) (by kernel_rfl) fun K13 hK13 => ?_
        refine XW.reg (by kernel_rfl) ?_
        refine XO.go [2, 3, 4] 1 [2,3,4,5] [] [(2, .one (.pt 0 0 0 0)), (3, .one (.pt 1 0 0 0)), (4, .one (.pt 2 0 0 0)), (5, vk .u64 (0 : Int))] [.box [cb b1, ck .u64 b2, ck .u64 b3, ck .u64 b4, ck .u64 b5], .box [cb b6, ck .u64 b7, ck .u64 b8, ck .u64 b9, ck .u64 b10], .box [cb false, ck .u64 (0 : Int), ck .u64 (0 : Int), ck .u64 (0 : Int), ck .u64 (0 : Int)]] [] (by kernel_rfl) trivial ?_
        refine XO.done (by kernel_rfl) ?_
        refine hK13 _ _ ?_
        refine XW.seq (x := cd Try.f85 [1,1,1,1,0]) (y := cd Try.f85 [1,1,1,1,1]) (by kernel_rfl) fun K14 hK14 => ?_
        refine XW.seq (x := cd Try.f85 [1,1,1,1,0,0]) (y := cd Try.f85 [1,1,1,1,0,1]) (by kernel_rfl) fun K15 hK15 => ?_
        refine XW.reg (by kernel_rfl) ?_
        refine XO.go [2, 3, 4] 1 [2,3,4,5,23] [] [(2, .one (.pt 0 0 0 0)), (3, .one (.pt 1 0 0 0)), (4, .one (.pt 2 0 0 0)), (5, vk .u64 (0 : Int)), (23, vi (0 : Int))] [.box [cb b1, ck .u64 b2, ck .u64 b3, ck .u64 b4, ck .u64 b5], .box [cb b6, ck .u64 b7, ck .u64 b8, ck .u64 b9, ck .u64 b10], .box [cb false, ck .u64 (0 : Int), ck .u64 (0 : Int), ck .u64 (0 : Int), ck .u64 (0 : Int)]] [] (by kernel_rfl) trivial ?_
        refine XO.done (by kernel_rfl) ?_
        refine hK15 _ _ ?_
        refine XW.block (id := 0) (x := cd Try.f85 [1,1,1,1,0,1,0]) (by kernel_rfl) ?_
        refine XW.rounds' 5 (x := cd Try.f85 [1,1,1,1,0,1,0,0]) (by kernel_rfl) fun Q1 hQ1 => ?_
        refine XR.one ?_
        refine XW.seq (x := cd Try.f85 [1,1,1,1,0,1,0,0,0]) (y := cd Try.f85 [1,1,1,1,0,1,0,0,1]) (by kernel_rfl) fun K16 hK16 => ?_
        refine XW.reg (by kernel_rfl) ?_
        refine XO.go [2, 3, 4] 1 [2,3,4,5,23,24] [] [(2, .one (.pt 0 0 0 0)), (3, .one (.pt 1 0 0 0)), (4, .one (.pt 2 0 0 0)), (5, vk .u64 (0 : Int)), (23, vi (0 : Int)), (24, vb true)] [.box [cb b1, ck .u64 b2, ck .u64 b3, ck .u64 b4, ck .u64 b5], .box [cb b6, ck .u64 b7, ck .u64 b8, ck .u64 b9, ck .u64 b10], .box [cb false, ck .u64 (0 : Int), ck .u64 (0 : Int), ck .u64 (0 : Int), ck .u64 (0 : Int)]] [] (by kernel_rfl) trivial ?_
        refine XO.done (by kernel_rfl) ?_
        refine hK16 _ _ ?_
        refine XW.seq (x := cd Try.f85 [1,1,1,1,0,1,0,0,1,0]) (y := cd Try.f85 [1,1,1,1,0,1,0,0,1,1]) (by kernel_rfl) fun K17 hK17 => ?_
        refine XW.cond (x := .tmp 24) (a := cd Try.f85 [1,1,1,1,0,1,0,0,1,0,0]) (b := cd Try.f85 [1,1,1,1,0,1,0,0,1,0,1]) (t := true) (by kernel_rfl) (by kernel_rfl) (fun _ => ?_) (fun hx => by cases hx)
        refine XW.skip (by kernel_rfl) ?_
        refine hK17 _ _ ?_
        refine XW.seq (x := cd Try.f85 [1,1,1,1,0,1,0,0,1,1,0]) (y := cd Try.f85 [1,1,1,1,0,1,0,0,1,1,1]) (by kernel_rfl) fun K18 hK18 => ?_
        refine XW.block (id := 1) (x := cd Try.f85 [1,1,1,1,0,1,0,0,1,1,0,0]) (by kernel_rfl) ?_
        refine XW.seq (x := cd Try.f85 [1,1,1,1,0,1,0,0,1,1,0,0,0]) (y := cd Try.f85 [1,1,1,1,0,1,0,0,1,1,0,0,1]) (by kernel_rfl) fun K19 hK19 => ?_
        refine XW.reg (by kernel_rfl) ?_
        refine XO.go [2, 3, 4] 2 [2,3,4,5,6,23] [] [(2, .one (.pt 0 0 0 0)), (3, .one (.pt 1 0 0 0)), (4, .one (.pt 2 0 0 0)), (5, vk .u64 (0 : Int)), (6, vi (0 : Int)), (23, vi (0 : Int))] [.box [cb b1, ck .u64 b2, ck .u64 b3, ck .u64 b4, ck .u64 b5], .box [cb b6, ck .u64 b7, ck .u64 b8, ck .u64 b9, ck .u64 b10], .box [cb false, ck .u64 (0 : Int), ck .u64 (0 : Int), ck .u64 (0 : Int), ck .u64 (0 : Int)]] [] (by kernel_rfl) trivial ?_
        refine XO.done (by kernel_rfl) ?_
        refine hK19 _ _ ?_
        obtain ⟨g20, h⟩ := grd_some h
        refine XW.drwG 17 [3] [([], []), ([], []), ([0], []), ([0], []), ([0], []), ([], []), ([1], []), ([1], []), ([1], []), ([], []), ([], []), ([], []), ([], []), ([], []), ([0], []), ([0], []), ([0], [0])] [(41, .one (.pt 0 0 0 1)), (40, .one (.pt 0 0 0 1)), (39, vk .u64 (if b2 < b7 + (0 : Int) then (1 : Int) else (0 : Int))), (38, vk .u64 ((b2 - b7 - (0 : Int)) % 18446744073709551616)), (26, .tp [vk .u64 ((b2 - b7 - (0 : Int)) % 18446744073709551616), vk .u64 (if b2 < b7 + (0 : Int) then (1 : Int) else (0 : Int))]), (37, .tp [vk .u64 ((b2 - b7 - (0 : Int)) % 18446744073709551616), vk .u64 (if b2 < b7 + (0 : Int) then (1 : Int) else (0 : Int))]), (36, vk .u64 (0 : Int)), (35, vk .u64 b7), (34, .one (.pt 1 0 0 1)), (33, .one (.pt 1 0 0 1)), (32, vi (0 : Int)), (31, vk .u64 b2), (30, .one (.pt 0 0 0 1)), (29, .one (.pt 0 0 0 1)), (28, vi (0 : Int)), (27, vi (0 : Int)), (2, .one (.pt 0 0 0 0)), (3, .one (.pt 1 0 0 0)), (4, .one (.pt 2 0 0 0)), (5, vk .u64 (0 : Int)), (6, vi (0 : Int)), (23, vi (0 : Int))] [.box [cb b1, ck .u64 ((b2 - b7 - (0 : Int)) % 18446744073709551616), ck .u64 b3, ck .u64 b4, ck .u64 b5], .box [cb b6, ck .u64 b7, ck .u64 b8, ck .u64 b9, ck .u64 b10], .box [cb false, ck .u64 (0 : Int), ck .u64 (0 : Int), ck .u64 (0 : Int), ck .u64 (0 : Int)]] (by kernel_rfl) (by kernel_rfl) ?_ ?_
        · refine GY.go 10 [] [(36, vk .u64 (0 : Int)), (35, vk .u64 b7), (34, .one (.pt 1 0 0 1)), (33, .one (.pt 1 0 0 1)), (32, vi (0 : Int)), (31, vk .u64 b2), (30, .one (.pt 0 0 0 1)), (29, .one (.pt 0 0 0 1)), (28, vi (0 : Int)), (27, vi (0 : Int)), (2, .one (.pt 0 0 0 0)), (3, .one (.pt 1 0 0 0)), (4, .one (.pt 2 0 0 0)), (5, vk .u64 (0 : Int)), (6, vi (0 : Int)), (23, vi (0 : Int))] [0 ≤ (0 : Int) ∧ (0 : Int) < 4, 0 ≤ (0 : Int) ∧ (0 : Int) < 4] (by kernel_rfl) (⟨by decide, by decide, trivial⟩) ?_
          refine GY.ext 103 [.int .u64 b2, .int .u64 b7, .int .u64 (0 : Int)] [.int .u64 ((b2 - b7 - (0 : Int)) % 18446744073709551616), .int .u64 (if b2 < b7 + (0 : Int) then (1 : Int) else (0 : Int))] [(37, .tp [vk .u64 ((b2 - b7 - (0 : Int)) % 18446744073709551616), vk .u64 (if b2 < b7 + (0 : Int) then (1 : Int) else (0 : Int))]), (36, vk .u64 (0 : Int)), (35, vk .u64 b7), (34, .one (.pt 1 0 0 1)), (33, .one (.pt 1 0 0 1)), (32, vi (0 : Int)), (31, vk .u64 b2), (30, .one (.pt 0 0 0 1)), (29, .one (.pt 0 0 0 1)), (28, vi (0 : Int)), (27, vi (0 : Int)), (2, .one (.pt 0 0 0 0)), (3, .one (.pt 1 0 0 0)), (4, .one (.pt 2 0 0 0)), (5, vk .u64 (0 : Int)), (6, vi (0 : Int)), (23, vi (0 : Int))] [] (by kernel_rfl) (by kernel_rfl) (ext_Sub64 (fn := Try.f103) (by kernel_rfl) (by kernel_rfl) (by kernel_rfl) (by kernel_rfl) (by kernel_rfl) g20.1 g20.2.1 g20.2.2.1 g20.2.2.2.1 g20.2.2.2.2) rfl (by kernel_rfl) (by kernel_rfl) (by kernel_rfl) ?_
          refine GY.go 5 [] [(41, .one (.pt 0 0 0 1)), (40, .one (.pt 0 0 0 1)), (39, vk .u64 (if b2 < b7 + (0 : Int) then (1 : Int) else (0 : Int))), (38, vk .u64 ((b2 - b7 - (0 : Int)) % 18446744073709551616)), (26, .tp [vk .u64 ((b2 - b7 - (0 : Int)) % 18446744073709551616), vk .u64 (if b2 < b7 + (0 : Int) then (1 : Int) else (0 : Int))]), (37, .tp [vk .u64 ((b2 - b7 - (0 : Int)) % 18446744073709551616), vk .u64 (if b2 < b7 + (0 : Int) then (1 : Int) else (0 : Int))]), (36, vk .u64 (0 : Int)), (35, vk .u64 b7), (34, .one (.pt 1 0 0 1)), (33, .one (.pt 1 0 0 1)), (32, vi (0 : Int)), (31, vk .u64 b2), (30, .one (.pt 0 0 0 1)), (29, .one (.pt 0 0 0 1)), (28, vi (0 : Int)), (27, vi (0 : Int)), (2, .one (.pt 0 0 0 0)), (3, .one (.pt 1 0 0 0)), (4, .one (.pt 2 0 0 0)), (5, vk .u64 (0 : Int)), (6, vi (0 : Int)), (23, vi (0 : Int))] [0 ≤ (0 : Int) ∧ (0 : Int) < 4] (by kernel_rfl) (⟨by decide, trivial⟩) ?_
          refine GY.wr [] [(41, .one (.pt 0 0 0 1)), (40, .one (.pt 0 0 0 1)), (39, vk .u64 (if b2 < b7 + (0 : Int) then (1 : Int) else (0 : Int))), (38, vk .u64 ((b2 - b7 - (0 : Int)) % 18446744073709551616)), (26, .tp [vk .u64 ((b2 - b7 - (0 : Int)) % 18446744073709551616), vk .u64 (if b2 < b7 + (0 : Int) then (1 : Int) else (0 : Int))]), (37, .tp [vk .u64 ((b2 - b7 - (0 : Int)) % 18446744073709551616), vk .u64 (if b2 < b7 + (0 : Int) then (1 : Int) else (0 : Int))]), (36, vk .u64 (0 : Int)), (35, vk .u64 b7), (34, .one (.pt 1 0 0 1)), (33, .one (.pt 1 0 0 1)), (32, vi (0 : Int)), (31, vk .u64 b2), (30, .one (.pt 0 0 0 1)), (29, .one (.pt 0 0 0 1)), (28, vi (0 : Int)), (27, vi (0 : Int)), (2, .one (.pt 0 0 0 0)), (3, .one (.pt 1 0 0 0)), (4, .one (.pt 2 0 0 0)), (5, vk .u64 (0 : Int)), (6, vi (0 : Int)), (23, vi (0 : Int))] [0] [.box [cb b1, ck .u64 ((b2 - b7 - (0 : Int)) % 18446744073709551616), ck .u64 b3, ck .u64 b4, ck .u64 b5], .box [cb b6, ck .u64 b7, ck .u64 b8, ck .u64 b9, ck .u64 b10], .box [cb false, ck .u64 (0 : Int), ck .u64 (0 : Int), ck .u64 (0 : Int), ck .u64 (0 : Int)]] [] (by kernel_rfl) (by kernel_rfl) trivial ?_
          exact GY.done (by kernel_rfl) (by kernel_rfl)
        refine XO.go [2, 3, 4] 1 [2,3,4,5,23] [] [(2, .one (.pt 0 0 0 0)), (3, .one (.pt 1 0 0 0)), (4, .one (.pt 2 0 0 0)), (5, vk .u64 (if b2 < b7 + (0 : Int) then (1 : Int) else (0 : Int))), (23, vi (0 : Int))] [.box [cb b1, ck .u64 ((b2 - b7 - (0 : Int)) % 18446744073709551616), ck .u64 b3, ck .u64 b4, ck .u64 b5], .box [cb b6, ck .u64 b7, ck .u64 b8, ck .u64 b9, ck .u64 b10], .box [cb false, ck .u64 (0 : Int), ck .u64 (0 : Int), ck .u64 (0 : Int), ck .u64 (0 : Int)]] [] (by kernel_rfl) trivial ?_
        refine XO.done (by kernel_rfl) ?_
        refine hK18 _ _ ?_
        refine XW.reg (by kernel_rfl) ?_
        refine XO.go [2, 3, 4] 2 [2,3,4,5,23] [] [(2, .one (.pt 0 0 0 0)), (3, .one (.pt 1 0 0 0)), (4, .one (.pt 2 0 0 0)), (5, vk .u64 (if b2 < b7 + (0 : Int) then (1 : Int) else (0 : Int))), (23, vi (1 : Int))] [.box [cb b1, ck .u64 ((b2 - b7 - (0 : Int)) % 18446744073709551616), ck .u64 b3, ck .u64 b4, ck .u64 b5], .box [cb b6, ck .u64 b7, ck .u64 b8, ck .u64 b9, ck .u64 b10], .box [cb false, ck .u64 (0 : Int), ck .u64 (0 : Int), ck .u64 (0 : Int), ck .u64 (0 : Int)]] [] (by kernel_rfl) trivial ?_
        refine XO.done (by kernel_rfl) ?_
        refine XR.one ?_
        refine XW.seq (x := cd Try.f85 [1,1,1,1,0,1,0,0,0]) (y := cd Try.f85 [1,1,1,1,0,1,0,0,1]) (by kernel_rfl) fun K21 hK21 => ?_
        refine XW.reg (by kernel_rfl) ?_
        refine XO.go [2, 3, 4] 1 [2,3,4,5,23,24] [] [(2, .one (.pt 0 0 0 0)), (3, .one (.pt 1 0 0 0)), (4, .one (.pt 2 0 0 0)), (5, vk .u64 (if b2 < b7 + (0 : Int) then (1 : Int) else (0 : Int))), (23, vi (1 : Int)), (24, vb true)] [.box [cb b1, ck .u64 ((b2 - b7 - (0 : Int)) % 18446744073709551616), ck .u64 b3, ck .u64 b4, ck .u64 b5], .box [cb b6, ck .u64 b7, ck .u64 b8, ck .u64 b9, ck .u64 b10], .box [cb false, ck .u64 (0 : Int), ck .u64 (0 : Int), ck .u64 (0 : Int), ck .u64 (0 : Int)]] [] (by kernel_rfl) trivial ?_
        refine XO.done (by kernel_rfl) ?_
        refine hK21 _ _ ?_
        refine XW.seq (x := cd Try.f85 [1,1,1,1,0,1,0,0,1,0]) (y := cd Try.f85 [1,1,1,1,0,1,0,0,1,1]) (by kernel_rfl) fun K22 hK22 => ?_
        refine XW.cond (x := .tmp 24) (a := cd Try.f85 [1,1,1,1,0,1,0,0,1,0,0]) (b := cd Try.f85 [1,1,1,1,0,1,0,0,1,0,1]) (t := true) (by kernel_rfl) (by kernel_rfl) (fun _ => ?_) (fun hx => by cases hx)
        refine XW.skip (by kernel_rfl) ?_
        refine hK22 _ _ ?_
        refine XW.seq (x := cd Try.f85 [1,1,1,1,0,1,0,0,1,1,0]) (y := cd Try.f85 [1,1,1,1,0,1,0,0,1,1,1]) (by kernel_rfl) fun K23 hK23 => ?_
        refine XW.block (id := 1) (x := cd Try.f85 [1,1,1,1,0,1,0,0,1,1,0,0]) (by kernel_rfl) ?_
        refine XW.seq (x := cd Try.f85 [1,1,1,1,0,1,0,0,1,1,0,0,0]) (y := cd Try.f85 [1,1,1,1,0,1,0,0,1,1,0,0,1]) (by kernel_rfl) fun K24 hK24 => ?_
        refine XW.reg (by kernel_rfl) ?_
        refine XO.go [2, 3, 4] 2 [2,3,4,5,6,23] [] [(2, .one (.pt 0 0 0 0)), (3, .one (.pt 1 0 0 0)), (4, .one (.pt 2 0 0 0)), (5, vk .u64 (if b2 < b7 + (0 : Int) then (1 : Int) else (0 : Int))), (6, vi (1 : Int)), (23, vi (1 : Int))] [.box [cb b1, ck .u64 ((b2 - b7 - (0 : Int)) % 18446744073709551616), ck .u64 b3, ck .u64 b4, ck .u64 b5], .box [cb b6, ck .u64 b7, ck .u64 b8, ck .u64 b9, ck .u64 b10], .box [cb false, ck .u64 (0 : Int), ck .u64 (0 : Int), ck .u64 (0 : Int), ck .u64 (0 : Int)]] [] (by kernel_rfl) trivial ?_
        refine XO.done (by kernel_rfl) ?_
        refine hK24 _ _ ?_
        obtain ⟨g25, h⟩ := grd_some h
        obtain ⟨y1, y26, h⟩ := bnd_some h
        obtain ⟨y2, y27, h⟩ := bnd_some h
        refine XW.drwG 17 [3] [([], []), ([], []), ([0], []), ([0], []), ([0], []), ([], []), ([1], []), ([1], []), ([1], []), ([], []), ([], []), ([], []), ([], []), ([], []), ([0], []), ([0], []), ([0], [0])] [(41, .one (.pt 0 0 0 2)), (40, .one (.pt 0 0 0 1)), (39, vk .u64 y2), (38, vk .u64 y1), (26, .tp [vk .u64 y1, vk .u64 y2]), (37, .tp [vk .u64 y1, vk .u64 y2]), (36, vk .u64 (if b2 < b7 + (0 : Int) then (1 : Int) else (0 : Int))), (35, vk .u64 b8), (34, .one (.pt 1 0 0 2)), (33, .one (.pt 1 0 0 1)), (32, vi (1 : Int)), (31, vk .u64 b3), (30, .one (.pt 0 0 0 2)), (29, .one (.pt 0 0 0 1)), (28, vi (1 : Int)), (27, vi (1 : Int)), (2, .one (.pt 0 0 0 0)), (3, .one (.pt 1 0 0 0)), (4, .one (.pt 2 0 0 0)), (5, vk .u64 (if b2 < b7 + (0 : Int) then (1 : Int) else (0 : Int))), (6, vi (1 : Int)), (23, vi (1 : Int))] [.box [cb b1, ck .u64 ((b2 - b7 - (0 : Int)) % 18446744073709551616), ck .u64 y1, ck .u64 b4, ck .u64 b5], .box [cb b6, ck .u64 b7, ck .u64 b8, ck .u64 b9, ck .u64 b10], .box [cb false, ck .u64 (0 : Int), ck .u64 (0 : Int), ck .u64 (0 : Int), ck .u64 (0 : Int)]] (by kernel_rfl) (by kernel_rfl) ?_ ?_
        · refine GY.go 10 [] [(36, vk .u64 (if b2 < b7 + (0 : Int) then (1 : Int) else (0 : Int))), (35, vk .u64 b8), (34, .one (.pt 1 0 0 2)), (33, .one (.pt 1 0 0 1)), (32, vi (1 : Int)), (31, vk .u64 b3), (30, .one (.pt 0 0 0 2)), (29, .one (.pt 0 0 0 1)), (28, vi (1 : Int)), (27, vi (1 : Int)), (2, .one (.pt 0 0 0 0)), (3, .one (.pt 1 0 0 0)), (4, .one (.pt 2 0 0 0)), (5, vk .u64 (if b2 < b7 + (0 : Int) then (1 : Int) else (0 : Int))), (6, vi (1 : Int)), (23, vi (1 : Int))] [0 ≤ (1 : Int) ∧ (1 : Int) < 4, 0 ≤ (1 : Int) ∧ (1 : Int) < 4] (by kernel_rfl) (⟨by decide, by decide, trivial⟩) ?_
          refine GY.ext 103 [.int .u64 b3, .int .u64 b8, .int .u64 (if b2 < b7 + (0 : Int) then (1 : Int) else (0 : Int))] [.int .u64 ((b3 - b8 - (if b2 < b7 + (0 : Int) then (1 : Int) else (0 : Int))) % 18446744073709551616), .int .u64 (if b3 < b8 + (if b2 < b7 + (0 : Int) then (1 : Int) else (0 : Int)) then (1 : Int) else (0 : Int))] [(37, .tp [vk .u64 ((b3 - b8 - (if b2 < b7 + (0 : Int) then (1 : Int) else (0 : Int))) % 18446744073709551616), vk .u64 (if b3 < b8 + (if b2 < b7 + (0 : Int) then (1 : Int) else (0 : Int)) then (1 : Int) else (0 : Int))]), (36, vk .u64 (if b2 < b7 + (0 : Int) then (1 : Int) else (0 : Int))), (35, vk .u64 b8), (34, .one (.pt 1 0 0 2)), (33, .one (.pt 1 0 0 1)), (32, vi (1 : Int)), (31, vk .u64 b3), (30, .one (.pt 0 0 0 2)), (29, .one (.pt 0 0 0 1)), (28, vi (1 : Int)), (27, vi (1 : Int)), (2, .one (.pt 0 0 0 0)), (3, .one (.pt 1 0 0 0)), (4, .one (.pt 2 0 0 0)), (5, vk .u64 (if b2 < b7 + (0 : Int) then (1 : Int) else (0 : Int))), (6, vi (1 : Int)), (23, vi (1 : Int))] [] (by kernel_rfl) (by kernel_rfl) (ext_Sub64 (fn := Try.f103) (by kernel_rfl) (by kernel_rfl) (by kernel_rfl) (by kernel_rfl) (by kernel_rfl) g25.1 g25.2.1 g25.2.2.1 g25.2.2.2.1 g25.2.2.2.2) rfl (by kernel_rfl) (by kernel_rfl) (by kernel_rfl) ?_
          refine GY.go 2 [] [(38, vk .u64 ((b3 - b8 - (if b2 < b7 + (0 : Int) then (1 : Int) else (0 : Int))) % 18446744073709551616)), (26, .tp [vk .u64 ((b3 - b8 - (if b2 < b7 + (0 : Int) then (1 : Int) else (0 : Int))) % 18446744073709551616), vk .u64 (if b3 < b8 + (if b2 < b7 + (0 : Int) then (1 : Int) else (0 : Int)) then (1 : Int) else (0 : Int))]), (37, .tp [vk .u64 ((b3 - b8 - (if b2 < b7 + (0 : Int) then (1 : Int) else (0 : Int))) % 18446744073709551616), vk .u64 (if b3 < b8 + (if b2 < b7 + (0 : Int) then (1 : Int) else (0 : Int)) then (1 : Int) else (0 : Int))]), (36, vk .u64 (if b2 < b7 + (0 : Int) then (1 : Int) else (0 : Int))), (35, vk .u64 b8), (34, .one (.pt 1 0 0 2)), (33, .one (.pt 1 0 0 1)), (32, vi (1 : Int)), (31, vk .u64 b3), (30, .one (.pt 0 0 0 2)), (29, .one (.pt 0 0 0 1)), (28, vi (1 : Int)), (27, vi (1 : Int)), (2, .one (.pt 0 0 0 0)), (3, .one (.pt 1 0 0 0)), (4, .one (.pt 2 0 0 0)), (5, vk .u64 (if b2 < b7 + (0 : Int) then (1 : Int) else (0 : Int))), (6, vi (1 : Int)), (23, vi (1 : Int))] [] (by kernel_rfl) trivial ?_
          rw [show ((b3 - b8 - (if b2 < b7 + (0 : Int) then (1 : Int) else (0 : Int))) % 18446744073709551616) = y1 from Option.some.inj y26]
          refine GY.go 1 [] [(39, vk .u64 (if b3 < b8 + (if b2 < b7 + (0 : Int) then (1 : Int) else (0 : Int)) then (1 : Int) else (0 : Int))), (38, vk .u64 y1), (26, .tp [vk .u64 y1, vk .u64 (if b3 < b8 + (if b2 < b7 + (0 : Int) then (1 : Int) else (0 : Int)) then (1 : Int) else (0 : Int))]), (37, .tp [vk .u64 y1, vk .u64 (if b3 < b8 + (if b2 < b7 + (0 : Int) then (1 : Int) else (0 : Int)) then (1 : Int) else (0 : Int))]), (36, vk .u64 (if b2 < b7 + (0 : Int) then (1 : Int) else (0 : Int))), (35, vk .u64 b8), (34, .one (.pt 1 0 0 2)), (33, .one (.pt 1 0 0 1)), (32, vi (1 : Int)), (31, vk .u64 b3), (30, .one (.pt 0 0 0 2)), (29, .one (.pt 0 0 0 1)), (28, vi (1 : Int)), (27, vi (1 : Int)), (2, .one (.pt 0 0 0 0)), (3, .one (.pt 1 0 0 0)), (4, .one (.pt 2 0 0 0)), (5, vk .u64 (if b2 < b7 + (0 : Int) then (1 : Int) else (0 : Int))), (6, vi (1 : Int)), (23, vi (1 : Int))] [] (by kernel_rfl) trivial ?_
          rw [show (if b3 < b8 + (if b2 < b7 + (0 : Int) then (1 : Int) else (0 : Int)) then (1 : Int) else (0 : Int)) = y2 from Option.some.inj y27]
          refine GY.go 2 [] [(41, .one (.pt 0 0 0 2)), (40, .one (.pt 0 0 0 1)), (39, vk .u64 y2), (38, vk .u64 y1), (26, .tp [vk .u64 y1, vk .u64 y2]), (37, .tp [vk .u64 y1, vk .u64 y2]), (36, vk .u64 (if b2 < b7 + (0 : Int) then (1 : Int) else (0 : Int))), (35, vk .u64 b8), (34, .one (.pt 1 0 0 2)), (33, .one (.pt 1 0 0 1)), (32, vi (1 : Int)), (31, vk .u64 b3), (30, .one (.pt 0 0 0 2)), (29, .one (.pt 0 0 0 1)), (28, vi (1 : Int)), (27, vi (1 : Int)), (2, .one (.pt 0 0 0 0)), (3, .one (.pt 1 0 0 0)), (4, .one (.pt 2 0 0 0)), (5, vk .u64 (if b2 < b7 + (0 : Int) then (1 : Int) else (0 : Int))), (6, vi (1 : Int)), (23, vi (1 : Int))] [0 ≤ (1 : Int) ∧ (1 : Int) < 4] (by kernel_rfl) (⟨by decide, trivial⟩) ?_
          refine GY.wr [] [(41, .one (.pt 0 0 0 2)), (40, .one (.pt 0 0 0 1)), (39, vk .u64 y2), (38, vk .u64 y1), (26, .tp [vk .u64 y1, vk .u64 y2]), (37, .tp [vk .u64 y1, vk .u64 y2]), (36, vk .u64 (if b2 < b7 + (0 : Int) then (1 : Int) else (0 : Int))), (35, vk .u64 b8), (34, .one (.pt 1 0 0 2)), (33, .one (.pt 1 0 0 1)), (32, vi (1 : Int)), (31, vk .u64 b3), (30, .one (.pt 0 0 0 2)), (29, .one (.pt 0 0 0 1)), (28, vi (1 : Int)), (27, vi (1 : Int)), (2, .one (.pt 0 0 0 0)), (3, .one (.pt 1 0 0 0)), (4, .one (.pt 2 0 0 0)), (5, vk .u64 (if b2 < b7 + (0 : Int) then (1 : Int) else (0 : Int))), (6, vi (1 : Int)), (23, vi (1 : Int))] [0] [.box [cb b1, ck .u64 ((b2 - b7 - (0 : Int)) % 18446744073709551616), ck .u64 y1, ck .u64 b4, ck .u64 b5], .box [cb b6, ck .u64 b7, ck .u64 b8, ck .u64 b9, ck .u64 b10], .box [cb false, ck .u64 (0 : Int), ck .u64 (0 : Int), ck .u64 (0 : Int), ck .u64 (0 : Int)]] [] (by kernel_rfl) (by kernel_rfl) trivial ?_
          exact GY.done (by kernel_rfl) (by kernel_rfl)
        refine XO.go [2, 3, 4] 1 [2,3,4,5,23] [] [(2, .one (.pt 0 0 0 0)), (3, .one (.pt 1 0 0 0)), (4, .one (.pt 2 0 0 0)), (5, vk .u64 y2), (23, vi (1 : Int))] [.box [cb b1, ck .u64 ((b2 - b7 - (0 : Int)) % 18446744073709551616), ck .u64 y1, ck .u64 b4, ck .u64 b5], .box [cb b6, ck .u64 b7, ck .u64 b8, ck .u64 b9, ck .u64 b10], .box [cb false, ck .u64 (0 : Int), ck .u64 (0 : Int), ck .u64 (0 : Int), ck .u64 (0 : Int)]] [] (by kernel_rfl) trivial ?_
        refine XO.done (by kernel_rfl) ?_
        refine hK23 _ _ ?_
        refine XW.reg (by kernel_rfl) ?_
        refine XO.go [2, 3, 4] 2 [2,3,4,5,23] [] [(2, .one (.pt 0 0 0 0)), (3, .one (.pt 1 0 0 0)), (4, .one (.pt 2 0 0 0)), (5, vk .u64 y2), (23, vi (2 : Int))] [.box [cb b1, ck .u64 ((b2 - b7 - (0 : Int)) % 18446744073709551616), ck .u64 y1, ck .u64 b4, ck .u64 b5], .box [cb b6, ck .u64 b7, ck .u64 b8, ck .u64 b9, ck .u64 b10], .box [cb false, ck .u64 (0 : Int), ck .u64 (0 : Int), ck .u64 (0 : Int), ck .u64 (0 : Int)]] [] (by kernel_rfl) trivial ?_
        refine XO.done (by kernel_rfl) ?_
        refine XR.one ?_
        refine XW.seq (x := cd Try.f85 [1,1,1,1,0,1,0,0,0]) (y := cd Try.f85 [1,1,1,1,0,1,0,0,1]) (by kernel_rfl) fun K28 hK28 => ?_
        refine XW.reg (by kernel_rfl) ?_
        refine XO.go [2, 3, 4] 1 [2,3,4,5,23,24] [] [(2, .one (.pt 0 0 0 0)), (3, .one (.pt 1 0 0 0)), (4, .one (.pt 2 0 0 0)), (5, vk .u64 y2), (23, vi (2 : Int)), (24, vb true)] [.box [cb b1, ck .u64 ((b2 - b7 - (0 : Int)) % 18446744073709551616), ck .u64 y1, ck .u64 b4, ck .u64 b5], .box [cb b6, ck .u64 b7, ck .u64 b8, ck .u64 b9, ck .u64 b10], .box [cb false, ck .u64 (0 : Int), ck .u64 (0 : Int), ck .u64 (0 : Int), ck .u64 (0 : Int)]] [] (by kernel_rfl) trivial ?_
        refine XO.done (by kernel_rfl) ?_
        refine hK28 _ _ ?_
        refine XW.seq (x := cd Try.f85 [1,1,1,1,0,1,0,0,1,0]) (y := cd Try.f85 [1,1,1,1,0,1,0,0,1,1]) (by kernel_rfl) fun K29 hK29 => ?_
        refine XW.cond (x := .tmp 24) (a := cd Try.f85 [1,1,1,1,0,1,0,0,1,0,0]) (b := cd Try.f85 [1,1,1,1,0,1,0,0,1,0,1]) (t := true) (by kernel_rfl) (by kernel_rfl) (fun _ => ?_) (fun hx => by cases hx)
        refine XW.skip (by kernel_rfl) ?_
        refine hK29 _ _ ?_
        refine XW.seq (x := cd Try.f85 [1,1,1,1,0,1,0,0,1,1,0]) (y := cd Try.f85 [1,1,1,1,0,1,0,0,1,1,1]) (by kernel_rfl) fun K30 hK30 => ?_
        refine XW.block (id := 1) (x := cd Try.f85 [1,1,1,1,0,1,0,0,1,1,0,0]) (by kernel_rfl) ?_
        refine XW.seq (x := cd Try.f85 [1,1,1,1,0,1,0,0,1,1,0,0,0]) (y := cd Try.f85 [1,1,1,1,0,1,0,0,1,1,0,0,1]) (by kernel_rfl) fun K31 hK31 => ?_
        refine XW.reg (by kernel_rfl) ?_
        refine XO.go [2, 3, 4] 2 [2,3,4,5,6,23] [] [(2, .one (.pt 0 0 0 0)), (3, .one (.pt 1 0 0 0)), (4, .one (.pt 2 0 0 0)), (5, vk .u64 y2), (6, vi (2 : Int)), (23, vi (2 : Int))] [.box [cb b1, ck .u64 ((b2 - b7 - (0 : Int)) % 18446744073709551616), ck .u64 y1, ck .u64 b4, ck .u64 b5], .box [cb b6, ck .u64 b7, ck .u64 b8, ck .u64 b9, ck .u64 b10], .box [cb false, ck .u64 (0 : Int), ck .u64 (0 : Int), ck .u64 (0 : Int), ck .u64 (0 : Int)]] [] (by kernel_rfl) trivial ?_
        refine XO.done (by kernel_rfl) ?_
        refine hK31 _ _ ?_
        obtain ⟨g32, h⟩ := grd_some h
        refine XW.drwG 17 [3] [([], []), ([], []), ([0], []), ([0], []), ([0], []), ([], []), ([1], []), ([1], []), ([1], []), ([], []), ([], []), ([], []), ([], []), ([], []), ([0], []), ([0], []), ([0], [0])] [(41, .one (.pt 0 0 0 3)), (40, .one (.pt 0 0 0 1)), (39, vk .u64 (if b4 < b9 + y2 then (1 : Int) else (0 : Int))), (38, vk .u64 ((b4 - b9 - y2) % 18446744073709551616)), (26, .tp [vk .u64 ((b4 - b9 - y2) % 18446744073709551616), vk .u64 (if b4 < b9 + y2 then (1 : Int) else (0 : Int))]), (37, .tp [vk .u64 ((b4 - b9 - y2) % 18446744073709551616), vk .u64 (if b4 < b9 + y2 then (1 : Int) else (0 : Int))]), (36, vk .u64 y2), (35, vk .u64 b9), (34, .one (.pt 1 0 0 3)), (33, .one (.pt 1 0 0 1)), (32, vi (2 : Int)), (31, vk .u64 b4), (30, .one (.pt 0 0 0 3)), (29, .one (.pt 0 0 0 1)), (28, vi (2 : Int)), (27, vi (2 : Int)), (2, .one (.pt 0 0 0 0)), (3, .one (.pt 1 0 0 0)), (4, .one (.pt 2 0 0 0)), (5, vk .u64 y2), (6, vi (2 : Int)), (23, vi (2 : Int))] [.box [cb b1, ck .u64 ((b2 - b7 - (0 : Int)) % 18446744073709551616), ck .u64 y1, ck .u64 ((b4 - b9 - y2) % 18446744073709551616), ck .u64 b5], .box [cb b6, ck .u64 b7, ck .u64 b8, ck .u64 b9, ck .u64 b10], .box [cb false, ck .u64 (0 : Int), ck .u64 (0 : Int), ck .u64 (0 : Int), ck .u64 (0 : Int)]] (by kernel_rfl) (by kernel_rfl) ?_ ?_
        · refine GY.go 10 [] [(36, vk .u64 y2), (35, vk .u64 b9), (34, .one (.pt 1 0 0 3)), (33, .one (.pt 1 0 0 1)), (32, vi (2 : Int)), (31, vk .u64 b4), (30, .one (.pt 0 0 0 3)), (29, .one (.pt 0 0 0 1)), (28, vi (2 : Int)), (27, vi (2 : Int)), (2, .one (.pt 0 0 0 0)), (3, .one (.pt 1 0 0 0)), (4, .one (.pt 2 0 0 0)), (5, vk .u64 y2), (6, vi (2 : Int)), (23, vi (2 : Int))] [0 ≤ (2 : Int) ∧ (2 : Int) < 4, 0 ≤ (2 : Int) ∧ (2 : Int) < 4] (by kernel_rfl) (⟨by decide, by decide, trivial⟩) ?_
          refine GY.ext 103 [.int .u64 b4, .int .u64 b9, .int .u64 y2] [.int .u64 ((b4 - b9 - y2) % 18446744073709551616), .int .u64 (if b4 < b9 + y2 then (1 : Int) else (0 : Int))] [(37, .tp [vk .u64 ((b4 - b9 - y2) % 18446744073709551616), vk .u64 (if b4 < b9 + y2 then (1 : Int) else (0 : Int))]), (36, vk .u64 y2), (35, vk .u64 b9), (34, .one (.pt 1 0 0 3)), (33, .one (.pt 1 0 0 1)), (32, vi (2 : Int)), (31, vk .u64 b4), (30, .one (.pt 0 0 0 3)), (29, .one (.pt 0 0 0 1)), (28, vi (2 : Int)), (27, vi (2 : Int)), (2, .one (.pt 0 0 0 0)), (3, .one (.pt 1 0 0 0)), (4, .one (.pt 2 0 0 0)), (5, vk .u64 y2), (6, vi (2 : Int)), (23, vi (2 : Int))] [] (by kernel_rfl) (by kernel_rfl) (ext_Sub64 (fn := Try.f103) (by kernel_rfl) (by kernel_rfl) (by kernel_rfl) (by kernel_rfl) (by kernel_rfl) g32.1 g32.2.1 g32.2.2.1 g32.2.2.2.1 g32.2.2.2.2) rfl (by kernel_rfl) (by kernel_rfl) (by kernel_rfl) ?_
          refine GY.go 5 [] [(41, .one (.pt 0 0 0 3)), (40, .one (.pt 0 0 0 1)), (39, vk .u64 (if b4 < b9 + y2 then (1 : Int) else (0 : Int))), (38, vk .u64 ((b4 - b9 - y2) % 18446744073709551616)), (26, .tp [vk .u64 ((b4 - b9 - y2) % 18446744073709551616), vk .u64 (if b4 < b9 + y2 then (1 : Int) else (0 : Int))]), (37, .tp [vk .u64 ((b4 - b9 - y2) % 18446744073709551616), vk .u64 (if b4 < b9 + y2 then (1 : Int) else (0 : Int))]), (36, vk .u64 y2), (35, vk .u64 b9), (34, .one (.pt 1 0 0 3)), (33, .one (.pt 1 0 0 1)), (32, vi (2 : Int)), (31, vk .u64 b4), (30, .one (.pt 0 0 0 3)), (29, .one (.pt 0 0 0 1)), (28, vi (2 : Int)), (27, vi (2 : Int)), (2, .one (.pt 0 0 0 0)), (3, .one (.pt 1 0 0 0)), (4, .one (.pt 2 0 0 0)), (5, vk .u64 y2), (6, vi (2 : Int)), (23, vi (2 : Int))] [0 ≤ (2 : Int) ∧ (2 : Int) < 4] (by kernel_rfl) (⟨by decide, trivial⟩) ?_
          refine GY.wr [] [(41, .one (.pt 0 0 0 3)), (40, .one (.pt 0 0 0 1)), (39, vk .u64 (if b4 < b9 + y2 then (1 : Int) else (0 : Int))), (38, vk .u64 ((b4 - b9 - y2) % 18446744073709551616)), (26, .tp [vk .u64 ((b4 - b9 - y2) % 18446744073709551616), vk .u64 (if b4 < b9 + y2 then (1 : Int) else (0 : Int))]), (37, .tp [vk .u64 ((b4 - b9 - y2) % 18446744073709551616), vk .u64 (if b4 < b9 + y2 then (1 : Int) else (0 : Int))]), (36, vk .u64 y2), (35, vk .u64 b9), (34, .one (.pt 1 0 0 3)), (33, .one (.pt 1 0 0 1)), (32, vi (2 : Int)), (31, vk .u64 b4), (30, .one (.pt 0 0 0 3)), (29, .one (.pt 0 0 0 1)), (28, vi (2 : Int)), (27, vi (2 : Int)), (2, .one (.pt 0 0 0 0)), (3, .one (.pt 1 0 0 0)), (4, .one (.pt 2 0 0 0)), (5, vk .u64 y2), (6, vi (2 : Int)), (23, vi (2 : Int))] [0] [.box [cb b1, ck .u64 ((b2 - b7 - (0 : Int)) % 18446744073709551616), ck .u64 y1, ck .u64 ((b4 - b9 - y2) % 18446744073709551616), ck .u64 b5], .box [cb b6, ck .u64 b7, ck .u64 b8, ck .u64 b9, ck .u64 b10], .box [cb false, ck .u64 (0 : Int), ck .u64 (0 : Int), ck .u64 (0 : Int), ck .u64 (0 : Int)]] [] (by kernel_rfl) (by kernel_rfl) trivial ?_
          exact GY.done (by kernel_rfl) (by kernel_rfl)
        refine XO.go [2, 3, 4] 1 [2,3,4,5,23] [] [(2, .one (.pt 0 0 0 0)), (3, .one (.pt 1 0 0 0)), (4, .one (.pt 2 0 0 0)), (5, vk .u64 (if b4 < b9 + y2 then (1 : Int) else (0 : Int))), (23, vi (2 : Int))] [.box [cb b1, ck .u64 ((b2 - b7 - (0 : Int)) % 18446744073709551616), ck .u64 y1, ck .u64 ((b4 - b9 - y2) % 18446744073709551616), ck .u64 b5], .box [cb b6, ck .u64 b7, ck .u64 b8, ck .u64 b9, ck .u64 b10], .box [cb false, ck .u64 (0 : Int), ck .u64 (0 : Int), ck .u64 (0 : Int), ck .u64 (0 : Int)]] [] (by kernel_rfl) trivial ?_
        refine XO.done (by kernel_rfl) ?_
        refine hK30 _ _ ?_
        refine XW.reg (by kernel_rfl) ?_
        refine XO.go [2, 3, 4] 2 [2,3,4,5,23] [] [(2, .one (.pt 0 0 0 0)), (3, .one (.pt 1 0 0 0)), (4, .one (.pt 2 0 0 0)), (5, vk .u64 (if b4 < b9 + y2 then (1 : Int) else (0 : Int))), (23, vi (3 : Int))] [.box [cb b1, ck .u64 ((b2 - b7 - (0 : Int)) % 18446744073709551616), ck .u64 y1, ck .u64 ((b4 - b9 - y2) % 18446744073709551616), ck .u64 b5], .box [cb b6, ck .u64 b7, ck .u64 b8, ck .u64 b9, ck .u64 b10], .box [cb false, ck .u64 (0 : Int), ck .u64 (0 : Int), ck .u64 (0 : Int), ck .u64 (0 : Int)]] [] (by kernel_rfl) trivial ?_
        refine XO.done (by kernel_rfl) ?_
        refine XR.one ?_
        refine XW.seq (x := cd Try.f85 [1,1,1,1,0,1,0,0,0]) (y := cd Try.f85 [1,1,1,1,0,1,0,0,1]) (by kernel_rfl) fun K33 hK33 => ?_
        refine XW.reg (by kernel_rfl) ?_
        refine XO.go [2, 3, 4] 1 [2,3,4,5,23,24] [] [(2, .one (.pt 0 0 0 0)), (3, .one (.pt 1 0 0 0)), (4, .one (.pt 2 0 0 0)), (5, vk .u64 (if b4 < b9 + y2 then (1 : Int) else (0 : Int))), (23, vi (3 : Int)), (24, vb true)] [.box [cb b1, ck .u64 ((b2 - b7 - (0 : Int)) % 18446744073709551616), ck .u64 y1, ck .u64 ((b4 - b9 - y2) % 18446744073709551616), ck .u64 b5], .box [cb b6, ck .u64 b7, ck .u64 b8, ck .u64 b9, ck .u64 b10], .box [cb false, ck .u64 (0 : Int), ck .u64 (0 : Int), ck .u64 (0 : Int), ck .u64 (0 : Int)]] [] (by kernel_rfl) trivial ?_
        refine XO.done (by kernel_rfl) ?_
        refine hK33 _ _ ?_
        refine XW.seq (x := cd Try.f85 [1,1,1,1,0,1,0,0,1,0]) (y := cd Try.f85 [1,1,1,1,0,1,0,0,1,1]) (by kernel_rfl) fun K34 hK34 => ?_
        refine XW.cond (x := .tmp 24) (a := cd Try.f85 [1,1,1,1,0,1,0,0,1,0,0]) (b := cd Try.f85 [1,1,1,1,0,1,0,0,1,0,1]) (t := true) (by kernel_rfl) (by kernel_rfl) (fun _ => ?_) (fun hx => by cases hx)
        refine XW.skip (by kernel_rfl) ?_
        refine hK34 _ _ ?_
        refine XW.seq (x := cd Try.f85 [1,1,1,1,0,1,0,0,1,1,0]) (y := cd Try.f85 [1,1,1,1,0,1,0,0,1,1,1]) (by kernel_rfl) fun K35 hK35 => ?_
        refine XW.block (id := 1) (x := cd Try.f85 [1,1,1,1,0,1,0,0,1,1,0,0]) (by kernel_rfl) ?_
        refine XW.seq (x := cd Try.f85 [1,1,1,1,0,1,0,0,1,1,0,0,0]) (y := cd Try.f85 [1,1,1,1,0,1,0,0,1,1,0,0,1]) (by kernel_rfl) fun K36 hK36 => ?_
        refine XW.reg (by kernel_rfl) ?_
        refine XO.go [2, 3, 4] 2 [2,3,4,5,6,23] [] [(2, .one (.pt 0 0 0 0)), (3, .one (.pt 1 0 0 0)), (4, .one (.pt 2 0 0 0)), (5, vk .u64 (if b4 < b9 + y2 then (1 : Int) else (0 : Int))), (6, vi (3 : Int)), (23, vi (3 : Int))] [.box [cb b1, ck .u64 ((b2 - b7 - (0 : Int)) % 18446744073709551616), ck .u64 y1, ck .u64 ((b4 - b9 - y2) % 18446744073709551616), ck .u64 b5], .box [cb b6, ck .u64 b7, ck .u64 b8, ck .u64 b9, ck .u64 b10], .box [cb false, ck .u64 (0 : Int), ck .u64 (0 : Int), ck .u64 (0 : Int), ck .u64 (0 : Int)]] [] (by kernel_rfl) trivial ?_
        refine XO.done (by kernel_rfl) ?_
        refine hK36 _ _ ?_
        obtain ⟨g37, h⟩ := grd_some h
        obtain ⟨y3, y38, h⟩ := bnd_some h
        obtain ⟨y4, y39, h⟩ := bnd_some h
        refine XW.drwG 17 [3] [([], []), ([], []), ([0], []), ([0], []), ([0], []), ([], []), ([1], []), ([1], []), ([1], []), ([], []), ([], []), ([], []), ([], []), ([], []), ([0], []), ([0], []), ([0], [0])] [(41, .one (.pt 0 0 0 4)), (40, .one (.pt 0 0 0 1)), (39, vk .u64 y4), (38, vk .u64 y3), (26, .tp [vk .u64 y3, vk .u64 y4]), (37, .tp [vk .u64 y3, vk .u64 y4]), (36, vk .u64 (if b4 < b9 + y2 then (1 : Int) else (0 : Int))), (35, vk .u64 b10), (34, .one (.pt 1 0 0 4)), (33, .one (.pt 1 0 0 1)), (32, vi (3 : Int)), (31, vk .u64 b5), (30, .one (.pt 0 0 0 4)), (29, .one (.pt 0 0 0 1)), (28, vi (3 : Int)), (27, vi (3 : Int)), (2, .one (.pt 0 0 0 0)), (3, .one (.pt 1 0 0 0)), (4, .one (.pt 2 0 0 0)), (5, vk .u64 (if b4 < b9 + y2 then (1 : Int) else (0 : Int))), (6, vi (3 : Int)), (23, vi (3 : Int))] [.box [cb b1, ck .u64 ((b2 - b7 - (0 : Int)) % 18446744073709551616), ck .u64 y1, ck .u64 ((b4 - b9 - y2) % 18446744073709551616), ck .u64 y3], .box [cb b6, ck .u64 b7, ck .u64 b8, ck .u64 b9, ck .u64 b10], .box [cb false, ck .u64 (0 : Int), ck .u64 (0 : Int), ck .u64 (0 : Int), ck .u64 (0 : Int)]] (by kernel_rfl) (by kernel_rfl) ?_ ?_
        · refine GY.go 10 [] [(36, vk .u64 (if b4 < b9 + y2 then (1 : Int) else (0 : Int))), (35, vk .u64 b10), (34, .one (.pt 1 0 0 4)), (33, .one (.pt 1 0 0 1)), (32, vi (3 : Int)), (31, vk .u64 b5), (30, .one (.pt 0 0 0 4)), (29, .one (.pt 0 0 0 1)), (28, vi (3 : Int)), (27, vi (3 : Int)), (2, .one (.pt 0 0 0 0)), (3, .one (.pt 1 0 0 0)), (4, .one (.pt 2 0 0 0)), (5, vk .u64 (if b4 < b9 + y2 then (1 : Int) else (0 : Int))), (6, vi (3 : Int)), (23, vi (3 : Int))] [0 ≤ (3 : Int) ∧ (3 : Int) < 4, 0 ≤ (3 : Int) ∧ (3 : Int) < 4] (by kernel_rfl) (⟨by decide, by decide, trivial⟩) ?_
          refine GY.ext 103 [.int .u64 b5, .int .u64 b10, .int .u64 (if b4 < b9 + y2 then (1 : Int) else (0 : Int))] [.int .u64 ((b5 - b10 - (if b4 < b9 + y2 then (1 : Int) else (0 : Int))) % 18446744073709551616), .int .u64 (if b5 < b10 + (if b4 < b9 + y2 then (1 : Int) else (0 : Int)) then (1 : Int) else (0 : Int))] [(37, .tp [vk .u64 ((b5 - b10 - (if b4 < b9 + y2 then (1 : Int) else (0 : Int))) % 18446744073709551616), vk .u64 (if b5 < b10 + (if b4 < b9 + y2 then (1 : Int) else (0 : Int)) then (1 : Int) else (0 : Int))]), (36, vk .u64 (if b4 < b9 + y2 then (1 : Int) else (0 : Int))), (35, vk .u64 b10), (34, .one (.pt 1 0 0 4)), (33, .one (.pt 1 0 0 1)), (32, vi (3 : Int)), (31, vk .u64 b5), (30, .one (.pt 0 0 0 4)), (29, .one (.pt 0 0 0 1)), (28, vi (3 : Int)), (27, vi (3 : Int)), (2, .one (.pt 0 0 0 0)), (3, .one (.pt 1 0 0 0)), (4, .one (.pt 2 0 0 0)), (5, vk .u64 (if b4 < b9 + y2 then (1 : Int) else (0 : Int))), (6, vi (3 : Int)), (23, vi (3 : Int))] [] (by kernel_rfl) (by kernel_rfl) (ext_Sub64 (fn := Try.f103) (by kernel_rfl) (by kernel_rfl) (by kernel_rfl) (by kernel_rfl) (by kernel_rfl) g37.1 g37.2.1 g37.2.2.1 g37.2.2.2.1 g37.2.2.2.2) rfl (by kernel_rfl) (by kernel_rfl) (by kernel_rfl) ?_
          refine GY.go 2 [] [(38, vk .u64 ((b5 - b10 - (if b4 < b9 + y2 then (1 : Int) else (0 : Int))) % 18446744073709551616)), (26, .tp [vk .u64 ((b5 - b10 - (if b4 < b9 + y2 then (1 : Int) else (0 : Int))) % 18446744073709551616), vk .u64 (if b5 < b10 + (if b4 < b9 + y2 then (1 : Int) else (0 : Int)) then (1 : Int) else (0 : Int))]), (37, .tp [vk .u64 ((b5 - b10 - (if b4 < b9 + y2 then (1 : Int) else (0 : Int))) % 18446744073709551616), vk .u64 (if b5 < b10 + (if b4 < b9 + y2 then (1 : Int) else (0 : Int)) then (1 : Int) else (0 : Int))]), (36, vk .u64 (if b4 < b9 + y2 then (1 : Int) else (0 : Int))), (35, vk .u64 b10), (34, .one (.pt 1 0 0 4)), (33, .one (.pt 1 0 0 1)), (32, vi (3 : Int)), (31, vk .u64 b5), (30, .one (.pt 0 0 0 4)), (29, .one (.pt 0 0 0 1)), (28, vi (3 : Int)), (27, vi (3 : Int)), (2, .one (.pt 0 0 0 0)), (3, .one (.pt 1 0 0 0)), (4, .one (.pt 2 0 0 0)), (5, vk .u64 (if b4 < b9 + y2 then (1 : Int) else (0 : Int))), (6, vi (3 : Int)), (23, vi (3 : Int))] [] (by kernel_rfl) trivial ?_
          rw [show ((b5 - b10 - (if b4 < b9 + y2 then (1 : Int) else (0 : Int))) % 18446744073709551616) = y3 from Option.some.inj y38]
          refine GY.go 1 [] [(39, vk .u64 (if b5 < b10 + (if b4 < b9 + y2 then (1 : Int) else (0 : Int)) then (1 : Int) else (0 : Int))), (38, vk .u64 y3), (26, .tp [vk .u64 y3, vk .u64 (if b5 < b10 + (if b4 < b9 + y2 then (1 : Int) else (0 : Int)) then (1 : Int) else (0 : Int))]), (37, .tp [vk .u64 y3, vk .u64 (if b5 < b10 + (if b4 < b9 + y2 then (1 : Int) else (0 : Int)) then (1 : Int) else (0 : Int))]), (36, vk .u64 (if b4 < b9 + y2 then (1 : Int) else (0 : Int))), (35, vk .u64 b10), (34, .one (.pt 1 0 0 4)), (33, .one (.pt 1 0 0 1)), (32, vi (3 : Int)), (31, vk .u64 b5), (30, .one (.pt 0 0 0 4)), (29, .one (.pt 0 0 0 1)), (28, vi (3 : Int)), (27, vi (3 : Int)), (2, .one (.pt 0 0 0 0)), (3, .one (.pt 1 0 0 0)), (4, .one (.pt 2 0 0 0)), (5, vk .u64 (if b4 < b9 + y2 then (1 : Int) else (0 : Int))), (6, vi (3 : Int)), (23, vi (3 : Int))] [] (by kernel_rfl) trivial ?_
          rw [show (if b5 < b10 + (if b4 < b9 + y2 then (1 : Int) else (0 : Int)) then (1 : Int) else (0 : Int)) = y4 from Option.some.inj y39]
          refine GY.go 2 [] [(41, .one (.pt 0 0 0 4)), (40, .one (.pt 0 0 0 1)), (39, vk .u64 y4), (38, vk .u64 y3), (26, .tp [vk .u64 y3, vk .u64 y4]), (37, .tp [vk .u64 y3, vk .u64 y4]), (36, vk .u64 (if b4 < b9 + y2 then (1 : Int) else (0 : Int))), (35, vk .u64 b10), (34, .one (.pt 1 0 0 4)), (33, .one (.pt 1 0 0 1)), (32, vi (3 : Int)), (31, vk .u64 b5), (30, .one (.pt 0 0 0 4)), (29, .one (.pt 0 0 0 1)), (28, vi (3 : Int)), (27, vi (3 : Int)), (2, .one (.pt 0 0 0 0)), (3, .one (.pt 1 0 0 0)), (4, .one (.pt 2 0 0 0)), (5, vk .u64 (if b4 < b9 + y2 then (1 : Int) else (0 : Int))), (6, vi (3 : Int)), (23, vi (3 : Int))] [0 ≤ (3 : Int) ∧ (3 : Int) < 4] (by kernel_rfl) (⟨by decide, trivial⟩) ?_
          refine GY.wr [] [(41, .one (.pt 0 0 0 4)), (40, .one (.pt 0 0 0 1)), (39, vk .u64 y4), (38, vk .u64 y3), (26, .tp [vk .u64 y3, vk .u64 y4]), (37, .tp [vk .u64 y3, vk .u64 y4]), (36, vk .u64 (if b4 < b9 + y2 then (1 : Int) else (0 : Int))), (35, vk .u64 b10), (34, .one (.pt 1 0 0 4)), (33, .one (.pt 1 0 0 1)), (32, vi (3 : Int)), (31, vk .u64 b5), (30, .one (.pt 0 0 0 4)), (29, .one (.pt 0 0 0 1)), (28, vi (3 : Int)), (27, vi (3 : Int)), (2, .one (.pt 0 0 0 0)), (3, .one (.pt 1 0 0 0)), (4, .one (.pt 2 0 0 0)), (5, vk .u64 (if b4 < b9 + y2 then (1 : Int) else (0 : Int))), (6, vi (3 : Int)), (23, vi (3 : Int))] [0] [.box [cb b1, ck .u64 ((b2 - b7 - (0 : Int)) % 18446744073709551616), ck .u64 y1, ck .u64 ((b4 - b9 - y2) % 18446744073709551616), ck .u64 y3], .box [cb b6, ck .u64 b7, ck .u64 b8, ck .u64 b9, ck .u64 b10], .box [cb false, ck .u64 (0 : Int), ck .u64 (0 : Int), ck .u64 (0 : Int), ck .u64 (0 : Int)]] [] (by kernel_rfl) (by kernel_rfl) trivial ?_
          exact GY.done (by kernel_rfl) (by kernel_rfl)
        refine XO.go [2, 3, 4] 1 [2,3,4,5,23] [] [(2, .one (.pt 0 0 0 0)), (3, .one (.pt 1 0 0 0)), (4, .one (.pt 2 0 0 0)), (5, vk .u64 y4), (23, vi (3 : Int))] [.box [cb b1, ck .u64 ((b2 - b7 - (0 : Int)) % 18446744073709551616), ck .u64 y1, ck .u64 ((b4 - b9 - y2) % 18446744073709551616), ck .u64 y3], .box [cb b6, ck .u64 b7, ck .u64 b8, ck .u64 b9, ck .u64 b10], .box [cb false, ck .u64 (0 : Int), ck .u64 (0 : Int), ck .u64 (0 : Int), ck .u64 (0 : Int)]] [] (by kernel_rfl) trivial ?_
        refine XO.done (by kernel_rfl) ?_
        refine hK35 _ _ ?_
        refine XW.reg (by kernel_rfl) ?_
        refine XO.go [2, 3, 4] 2 [2,3,4,5,23] [] [(2, .one (.pt 0 0 0 0)), (3, .one (.pt 1 0 0 0)), (4, .one (.pt 2 0 0 0)), (5, vk .u64 y4), (23, vi (4 : Int))] [.box [cb b1, ck .u64 ((b2 - b7 - (0 : Int)) % 18446744073709551616), ck .u64 y1, ck .u64 ((b4 - b9 - y2) % 18446744073709551616), ck .u64 y3], .box [cb b6, ck .u64 b7, ck .u64 b8, ck .u64 b9, ck .u64 b10], .box [cb false, ck .u64 (0 : Int), ck .u64 (0 : Int), ck .u64 (0 : Int), ck .u64 (0 : Int)]] [] (by kernel_rfl) trivial ?_
        refine XO.done (by kernel_rfl) ?_
        refine XR.one ?_
        refine XW.seq (x := cd Try.f85 [1,1,1,1,0,1,0,0,0]) (y := cd Try.f85 [1,1,1,1,0,1,0,0,1]) (by kernel_rfl) fun K40 hK40 => ?_
        refine XW.reg (by kernel_rfl) ?_
        refine XO.go [2, 3, 4] 1 [2,3,4,5,23,24] [] [(2, .one (.pt 0 0 0 0)), (3, .one (.pt 1 0 0 0)), (4, .one (.pt 2 0 0 0)), (5, vk .u64 y4), (23, vi (4 : Int)), (24, vb false)] [.box [cb b1, ck .u64 ((b2 - b7 - (0 : Int)) % 18446744073709551616), ck .u64 y1, ck .u64 ((b4 - b9 - y2) % 18446744073709551616), ck .u64 y3], .box [cb b6, ck .u64 b7, ck .u64 b8, ck .u64 b9, ck .u64 b10], .box [cb false, ck .u64 (0 : Int), ck .u64 (0 : Int), ck .u64 (0 : Int), ck .u64 (0 : Int)]] [] (by kernel_rfl) trivial ?_
        refine XO.done (by kernel_rfl) ?_
        refine hK40 _ _ ?_
        refine XW.seq (x := cd Try.f85 [1,1,1,1,0,1,0,0,1,0]) (y := cd Try.f85 [1,1,1,1,0,1,0,0,1,1]) (by kernel_rfl) fun K41 hK41 => ?_
        refine XW.cond (x := .tmp 24) (a := cd Try.f85 [1,1,1,1,0,1,0,0,1,0,0]) (b := cd Try.f85 [1,1,1,1,0,1,0,0,1,0,1]) (t := false) (by kernel_rfl) (by kernel_rfl) (fun hx => by cases hx) (fun _ => ?_)
        refine XW.exit (id := 0) (by kernel_rfl) ?_
        refine hQ1 _ _ _ ?_
        refine hK14 _ _ ?_
        refine XW.seq (x := cd Try.f85 [1,1,1,1,1,0]) (y := cd Try.f85 [1,1,1,1,1,1]) (by kernel_rfl) fun K42 hK42 => ?_
        refine XW.reg (by kernel_rfl) ?_
        refine XO.go [2, 3, 4] 2 [4] [] [(4, .one (.pt 2 0 0 0))] [.box [cb b1, ck .u64 ((b2 - b7 - (0 : Int)) % 18446744073709551616), ck .u64 y1, ck .u64 ((b4 - b9 - y2) % 18446744073709551616), ck .u64 y3], .box [cb b6, ck .u64 b7, ck .u64 b8, ck .u64 b9, ck .u64 b10], .box [cb b1, ck .u64 ((b2 - b7 - (0 : Int)) % 18446744073709551616), ck .u64 y1, ck .u64 ((b4 - b9 - y2) % 18446744073709551616), ck .u64 y3]] [] (by kernel_rfl) trivial ?_
        refine XO.done (by kernel_rfl) ?_
        refine hK42 _ _ ?_
        refine XW.ret (by kernel_rfl) ?_
        obtain rfl := Option.some.inj h
        exact FinP.fin (.inr rfl) [] [.ag [cb b1, ck .u64 ((b2 - b7 - (0 : Int)) % 18446744073709551616), ck .u64 y1, ck .u64 ((b4 - b9 - y2) % 18446744073709551616), ck .u64 y3]] [] (by kernel_rfl) trivial (.ag (.cons (.rfl _ rfl) (.cons (.rfl _ rfl) (.cons (.rfl _ rfl) (.cons (.rfl _ rfl) (.cons (.rfl _ rfl) .nil))))))
      refine XW.seq (x := cd Try.f85 [1,1,0,0]) (y := cd Try.f85 [1,1,0,1]) (by kernel_rfl) fun K9 hK9 => ?_
      obtain ⟨r3, c10, h⟩ := bnd_some h
      refine XW.reg (by kernel_rfl) ?_
      refine XO.go [2, 3, 4] 2 [2,3,4,16,17] [] [(2, .one (.pt 0 0 0 0)), (3, .one (.pt 1 0 0 0)), (4, .one (.pt 2 0 0 0)), (16, .ag [cb p1.neg, ck .u64 p1.size.1, ck .u64 p1.size.2.1, ck .u64 p1.size.2.2.1, ck .u64 p1.size.2.2.2]), (17, .ag [cb p2.neg, ck .u64 p2.size.1, ck .u64 p2.size.2.1, ck .u64 p2.size.2.2.1, ck .u64 p2.size.2.2.2])] [.box [cb p1.neg, ck .u64 p1.size.1, ck .u64 p1.size.2.1, ck .u64 p1.size.2.2.1, ck .u64 p1.size.2.2.2], .box [cb p2.neg, ck .u64 p2.size.1, ck .u64 p2.size.2.1, ck .u64 p2.size.2.2.1, ck .u64 p2.size.2.2.2], .box [cb false, ck .u64 (0 : Int), ck .u64 (0 : Int), ck .u64 (0 : Int), ck .u64 (0 : Int)]] [] (by kernel_rfl) trivial ?_
      refine XO.cal 102 [.ag [cb p1.neg, ck .u64 p1.size.1, ck .u64 p1.size.2.1, ck .u64 p1.size.2.2.1, ck .u64 p1.size.2.2.2], .ag [cb p2.neg, ck .u64 p2.size.1, ck .u64 p2.size.2.1, ck .u64 p2.size.2.2.1, ck .u64 p2.size.2.2.2]] (vi r3) [(18, vi r3), (2, .one (.pt 0 0 0 0)), (3, .one (.pt 1 0 0 0)), (4, .one (.pt 2 0 0 0)), (16, .ag [cb p1.neg, ck .u64 p1.size.1, ck .u64 p1.size.2.1, ck .u64 p1.size.2.2.1, ck .u64 p1.size.2.2.2]), (17, .ag [cb p2.neg, ck .u64 p2.size.1, ck .u64 p2.size.2.1, ck .u64 p2.size.2.2.1, ck .u64 p2.size.2.2.2])] (by kernel_rfl) (c_value_compareSize _ _ _ c10) rfl rfl (by kernel_rfl) ?_
      refine XO.go [2, 3, 4] 1 [2,3,4,19] [] [(2, .one (.pt 0 0 0 0)), (3, .one (.pt 1 0 0 0)), (4, .one (.pt 2 0 0 0)), (19, vb (decide (r3 < (0 : Int))))] [.box [cb p1.neg, ck .u64 p1.size.1, ck .u64 p1.size.2.1, ck .u64 p1.size.2.2.1, ck .u64 p1.size.2.2.2], .box [cb p2.neg, ck .u64 p2.size.1, ck .u64 p2.size.2.1, ck .u64 p2.size.2.2.1, ck .u64 p2.size.2.2.2], .box [cb false, ck .u64 (0 : Int), ck .u64 (0 : Int), ck .u64 (0 : Int), ck .u64 (0 : Int)]] [] (by kernel_rfl) trivial ?_
      refine XO.done (by kernel_rfl) ?_
      refine hK9 _ _ ?_
      refine XW.cond (x := .tmp 19) (a := cd Try.f85 [1,1,0,1,0]) (b := cd Try.f85 [1,1,0,1,1]) (t := (decide (r3 < (0 : Int)))) (by kernel_rfl) (by kernel_rfl) (fun b11 => ?_) (fun b11 => ?_)
      · have h := ift_t b11 h
        obtain ⟨r4, c12, h⟩ := bnd_some h
        refine XW.drwS 3 [(22, .ag [cb p1.neg, ck .u64 p1.size.1, ck .u64 p1.size.2.1, ck .u64 p1.size.2.2.1, ck .u64 p1.size.2.2.2]), (21, .ag [cb r4.neg, ck .u64 r4.size.1, ck .u64 r4.size.2.1, ck .u64 r4.size.2.2.1, ck .u64 r4.size.2.2.2]), (20, .ag [cb p2.neg, ck .u64 p2.size.1, ck .u64 p2.size.2.1, ck .u64 p2.size.2.2.1, ck .u64 p2.size.2.2.2]), (2, .one (.pt 0 0 0 0)), (3, .one (.pt 1 0 0 0)), (4, .one (.pt 2 0 0 0)), (19, vb (decide (r3 < (0 : Int))))] (by kernel_rfl) (by kernel_rfl) ?_ ?_
        · refine DX.go 1 [] [(20, .ag [cb p2.neg, ck .u64 p2.size.1, ck .u64 p2.size.2.1, ck .u64 p2.size.2.2.1, ck .u64 p2.size.2.2.2]), (2, .one (.pt 0 0 0 0)), (3, .one (.pt 1 0 0 0)), (4, .one (.pt 2 0 0 0)), (19, vb (decide (r3 < (0 : Int))))] [] (by kernel_rfl) trivial ?_
          refine DX.cal 101 [.ag [cb p2.neg, ck .u64 p2.size.1, ck .u64 p2.size.2.1, ck .u64 p2.size.2.2.1, ck .u64 p2.size.2.2.2]] (.ag [cb r4.neg, ck .u64 r4.size.1, ck .u64 r4.size.2.1, ck .u64 r4.size.2.2.1, ck .u64 r4.size.2.2.2]) [(21, .ag [cb r4.neg, ck .u64 r4.size.1, ck .u64 r4.size.2.1, ck .u64 r4.size.2.2.1, ck .u64 r4.size.2.2.2]), (20, .ag [cb p2.neg, ck .u64 p2.size.1, ck .u64 p2.size.2.1, ck .u64 p2.size.2.2.1, ck .u64 p2.size.2.2.2]), (2, .one (.pt 0 0 0 0)), (3, .one (.pt 1 0 0 0)), (4, .one (.pt 2 0 0 0)), (19, vb (decide (r3 < (0 : Int))))] (by kernel_rfl) (c_value_wide_negated _ _ c12) rfl rfl (by kernel_rfl) ?_
          refine DX.go 1 [] [(22, .ag [cb p1.neg, ck .u64 p1.size.1, ck .u64 p1.size.2.1, ck .u64 p1.size.2.2.1, ck .u64 p1.size.2.2.2]), (21, .ag [cb r4.neg, ck .u64 r4.size.1, ck .u64 r4.size.2.1, ck .u64 r4.size.2.2.1, ck .u64 r4.size.2.2.2]), (20, .ag [cb p2.neg, ck .u64 p2.size.1, ck .u64 p2.size.2.1, ck .u64 p2.size.2.2.1, ck .u64 p2.size.2.2.2]), (2, .one (.pt 0 0 0 0)), (3, .one (.pt 1 0 0 0)), (4, .one (.pt 2 0 0 0)), (19, vb (decide (r3 < (0 : Int))))] [] (by kernel_rfl) trivial ?_
          exact DX.done (by kernel_rfl)
        refine XO.go [2, 3, 4] 2 [2,3,4] [] [(2, .one (.pt 0 0 0 0)), (3, .one (.pt 1 0 0 0)), (4, .one (.pt 2 0 0 0))] [.box [cb r4.neg, ck .u64 r4.size.1, ck .u64 r4.size.2.1, ck .u64 r4.size.2.2.1, ck .u64 r4.size.2.2.2], .box [cb p1.neg, ck .u64 p1.size.1, ck .u64 p1.size.2.1, ck .u64 p1.size.2.2.1, ck .u64 p1.size.2.2.2], .box [cb false, ck .u64 (0 : Int), ck .u64 (0 : Int), ck .u64 (0 : Int), ck .u64 (0 : Int)]] [] (by kernel_rfl) trivial ?_
        refine XO.done (by kernel_rfl) ?_
        exact hJ1 r4.neg r4.size.1 r4.size.2.1 r4.size.2.2.1 r4.size.2.2.2 p1.neg p1.size.1 p1.size.2.1 p1.size.2.2.1 p1.size.2.2.2 h _ _ (Sub.pick [2,3,4] (by kernel_rfl))
      · have h := ift_f b11 h
        refine XW.skip (by kernel_rfl) ?_
        exact hJ1 p1.neg p1.size.1 p1.size.2.1 p1.size.2.2.1 p1.size.2.2.2 p2.neg p2.size.1 p2.size.2.1 p2.size.2.2.1 p2.size.2.2.2 h _ _ (Sub.pick [2,3,4] (by kernel_rfl))

theorem c_value_wide_plus : ∀ (k0 : Nat) (p1 : GWide) (p2 : GWide) (r : GWide), value_wide_plus k0 p1 p2 = some r → PC Try.prog 100 [.ag [cb p1.neg, ck .u64 p1.size.1, ck .u64 p1.size.2.1, ck .u64 p1.size.2.2.1, ck .u64 p1.size.2.2.2], .ag [cb p2.neg, ck .u64 p2.size.1, ck .u64 p2.size.2.1, ck .u64 p2.size.2.2.1, ck .u64 p2.size.2.2.2]] (.ag [cb r.neg, ck .u64 r.size.1, ck .u64 r.size.2.1, ck .u64 r.size.2.2.1, ck .u64 r.size.2.2.2])
  | 0, _, _, r, h => by rw [value_wide_plus.eq_1] at h; cases h
  | k0 + 1, p1, p2, r, h => by
    rw [value_wide_plus.eq_2] at h
    refine PC.of (n := 37) (fn := Try.f100) (c := cd Try.f100 []) (by kernel_rfl) (by kernel_rfl) (by kernel_rfl) (Nat.le_of_ble_eq_true rfl) ?_
    refine XW.seq (x := cd Try.f100 [0]) (y := cd Try.f100 [1]) (by kernel_rfl) fun K1 hK1 => ?_
    refine XW.reg (by kernel_rfl) ?_
    refine XO.go [2, 4] 3 [2,3,4] [] [(2, .one (.pt 0 0 0 0)), (3, .one (.pv (.rp [[.s (.bool p2.neg), .s (.int .u64 p2.size.1), .s (.int .u64 p2.size.2.1), .s (.int .u64 p2.size.2.2.1), .s (.int .u64 p2.size.2.2.2)]] 0 0))), (4, .one (.pt 1 0 0 0))] [.box [cb p1.neg, ck .u64 p1.size.1, ck .u64 p1.size.2.1, ck .u64 p1.size.2.2.1, ck .u64 p1.size.2.2.2], .box [cb false, ck .u64 (0 : Int), ck .u64 (0 : Int), ck .u64 (0 : Int), ck .u64 (0 : Int)]] [] (by kernel_rfl) trivial ?_
    refine XO.done (by kernel_rfl) ?_
    refine hK1 _ _ ?_
    refine XW.seq (x := cd Try.f100 [1,0]) (y := cd Try.f100 [1,1]) (by kernel_rfl) fun K2 hK2 => ?_
    refine XW.seq (x := cd Try.f100 [1,0,0]) (y := cd Try.f100 [1,0,1]) (by kernel_rfl) fun K3 hK3 => ?_
    refine XW.reg (by kernel_rfl) ?_
    refine XO.go [2, 4] 5 [2,3,4,11] [[.s (.bool p2.neg), .s (.int .u64 p2.size.1), .s (.int .u64 p2.size.2.1), .s (.int .u64 p2.size.2.2.1), .s (.int .u64 p2.size.2.2.2)]] [(2, .one (.pt 0 0 0 0)), (3, .one (.pv (.rp [[.s (.bool p2.neg), .s (.int .u64 p2.size.1), .s (.int .u64 p2.size.2.1), .s (.int .u64 p2.size.2.2.1), .s (.int .u64 p2.size.2.2.2)]] 0 0))), (4, .one (.pt 1 0 0 0)), (11, vb (!(p1.neg == p2.neg)))] [.box [cb p1.neg, ck .u64 p1.size.1, ck .u64 p1.size.2.1, ck .u64 p1.size.2.2.1, ck .u64 p1.size.2.2.2], .box [cb false, ck .u64 (0 : Int), ck .u64 (0 : Int), ck .u64 (0 : Int), ck .u64 (0 : Int)]] [([[.s (.bool p2.neg), .s (.int .u64 p2.size.1), .s (.int .u64 p2.size.2.1), .s (.int .u64 p2.size.2.2.1), .s (.int .u64 p2.size.2.2.2)]] : List (List PV))[0]? = some [.s (.bool p2.neg), .s (.int .u64 p2.size.1), .s (.int .u64 p2.size.2.1), .s (.int .u64 p2.size.2.2.1), .s (.int .u64 p2.size.2.2.2)]] (by kernel_rfl) (⟨rfl, trivial⟩) ?_
    refine XO.done (by kernel_rfl) ?_
    refine hK3 _ _ ?_
    refine XW.cond (x := .tmp 11) (a := cd Try.f100 [1,0,1,0]) (b := cd Try.f100 [1,0,1,1]) (t := (!(p1.neg == p2.neg))) (by kernel_rfl) (by kernel_rfl) (fun b4 => ?_) (fun b4 => ?_)
    · have h := ift_t b4 h
      refine XW.seq (x := cd Try.f100 [1,0,1,0,0]) (y := cd Try.f100 [1,0,1,0,1]) (by kernel_rfl) fun K5 hK5 => ?_
      obtain ⟨r1, c6, h⟩ := bnd_some h
      obtain ⟨r2, c7, h⟩ := bnd_some h
      refine XW.drwS 3 [(14, .ag [cb r1.neg, ck .u64 r1.size.1, ck .u64 r1.size.2.1, ck .u64 r1.size.2.2.1, ck .u64 r1.size.2.2.2]), (13, .ag [cb p2.neg, ck .u64 p2.size.1, ck .u64 p2.size.2.1, ck .u64 p2.size.2.2.1, ck .u64 p2.size.2.2.2]), (12, .ag [cb p1.neg, ck .u64 p1.size.1, ck .u64 p1.size.2.1, ck .u64 p1.size.2.2.1, ck .u64 p1.size.2.2.2]), (2, .one (.pt 0 0 0 0)), (3, .one (.pv (.rp [[.s (.bool p2.neg), .s (.int .u64 p2.size.1), .s (.int .u64 p2.size.2.1), .s (.int .u64 p2.size.2.2.1), .s (.int .u64 p2.size.2.2.2)]] 0 0))), (4, .one (.pt 1 0 0 0)), (11, vb (!(p1.neg == p2.neg)))] (by kernel_rfl) (by kernel_rfl) ?_ ?_
      · refine DX.go 2 [[.s (.bool p2.neg), .s (.int .u64 p2.size.1), .s (.int .u64 p2.size.2.1), .s (.int .u64 p2.size.2.2.1), .s (.int .u64 p2.size.2.2.2)]] [(13, .ag [cb p2.neg, ck .u64 p2.size.1, ck .u64 p2.size.2.1, ck .u64 p2.size.2.2.1, ck .u64 p2.size.2.2.2]), (12, .ag [cb p1.neg, ck .u64 p1.size.1, ck .u64 p1.size.2.1, ck .u64 p1.size.2.2.1, ck .u64 p1.size.2.2.2]), (2, .one (.pt 0 0 0 0)), (3, .one (.pv (.rp [[.s (.bool p2.neg), .s (.int .u64 p2.size.1), .s (.int .u64 p2.size.2.1), .s (.int .u64 p2.size.2.2.1), .s (.int .u64 p2.size.2.2.2)]] 0 0))), (4, .one (.pt 1 0 0 0)), (11, vb (!(p1.neg == p2.neg)))] [([[.s (.bool p2.neg), .s (.int .u64 p2.size.1), .s (.int .u64 p2.size.2.1), .s (.int .u64 p2.size.2.2.1), .s (.int .u64 p2.size.2.2.2)]] : List (List PV))[0]? = some [.s (.bool p2.neg), .s (.int .u64 p2.size.1), .s (.int .u64 p2.size.2.1), .s (.int .u64 p2.size.2.2.1), .s (.int .u64 p2.size.2.2.2)]] (by kernel_rfl) (⟨rfl, trivial⟩) ?_
        refine DX.cal 101 [.ag [cb p2.neg, ck .u64 p2.size.1, ck .u64 p2.size.2.1, ck .u64 p2.size.2.2.1, ck .u64 p2.size.2.2.2]] (.ag [cb r1.neg, ck .u64 r1.size.1, ck .u64 r1.size.2.1, ck .u64 r1.size.2.2.1, ck .u64 r1.size.2.2.2]) [(14, .ag [cb r1.neg, ck .u64 r1.size.1, ck .u64 r1.size.2.1, ck .u64 r1.size.2.2.1, ck .u64 r1.size.2.2.2]), (13, .ag [cb p2.neg, ck .u64 p2.size.1, ck .u64 p2.size.2.1, ck .u64 p2.size.2.2.1, ck .u64 p2.size.2.2.2]), (12, .ag [cb p1.neg, ck .u64 p1.size.1, ck .u64 p1.size.2.1, ck .u64 p1.size.2.2.1, ck .u64 p1.size.2.2.2]), (2, .one (.pt 0 0 0 0)), (3, .one (.pv (.rp [[.s (.bool p2.neg), .s (.int .u64 p2.size.1), .s (.int .u64 p2.size.2.1), .s (.int .u64 p2.size.2.2.1), .s (.int .u64 p2.size.2.2.2)]] 0 0))), (4, .one (.pt 1 0 0 0)), (11, vb (!(p1.neg == p2.neg)))] (by kernel_rfl) (c_value_wide_negated _ _ c6) rfl rfl (by kernel_rfl) ?_
        exact DX.done (by kernel_rfl)
      refine XO.cal 85 [.ag [cb p1.neg, ck .u64 p1.size.1, ck .u64 p1.size.2.1, ck .u64 p1.size.2.2.1, ck .u64 p1.size.2.2.2], .ag [cb r1.neg, ck .u64 r1.size.1, ck .u64 r1.size.2.1, ck .u64 r1.size.2.2.1, ck .u64 r1.size.2.2.2]] (.ag [cb r2.neg, ck .u64 r2.size.1, ck .u64 r2.size.2.1, ck .u64 r2.size.2.2.1, ck .u64 r2.size.2.2.2]) [(15, .ag [cb r2.neg, ck .u64 r2.size.1, ck .u64 r2.size.2.1, ck .u64 r2.size.2.2.1, ck .u64 r2.size.2.2.2]), (14, .ag [cb r1.neg, ck .u64 r1.size.1, ck .u64 r1.size.2.1, ck .u64 r1.size.2.2.1, ck .u64 r1.size.2.2.2]), (13, .ag [cb p2.neg, ck .u64 p2.size.1, ck .u64 p2.size.2.1, ck .u64 p2.size.2.2.1, ck .u64 p2.size.2.2.2]), (12, .ag [cb p1.neg, ck .u64 p1.size.1, ck .u64 p1.size.2.1, ck .u64 p1.size.2.2.1, ck .u64 p1.size.2.2.2]), (2, .one (.pt 0 0 0 0)), (3, .one (.pv (.rp [[.s (.bool p2.neg), .s (.int .u64 p2.size.1), .s (.int .u64 p2.size.2.1), .s (.int .u64 p2.size.2.2.1), .s (.int .u64 p2.size.2.2.2)]] 0 0))), (4, .one (.pt 1 0 0 0)), (11, vb (!(p1.neg == p2.neg)))] (by kernel_rfl) (c_value_wide_minus k0 _ _ _ c7) rfl rfl (by kernel_rfl) ?_
      refine XO.go [2, 4] 1 [4] [] [(4, .one (.pt 1 0 0 0))] [.box [cb p1.neg, ck .u64 p1.size.1, ck .u64 p1.size.2.1, ck .u64 p1.size.2.2.1, ck .u64 p1.size.2.2.2], .box [cb r2.neg, ck .u64 r2.size.1, ck .u64 r2.size.2.1, ck .u64 r2.size.2.2.1, ck .u64 r2.size.2.2.2]] [] (by kernel_rfl) trivial ?_
      refine XO.done (by kernel_rfl) ?_
      refine hK5 _ _ ?_
      refine XW.ret (by kernel_rfl) ?_
      obtain rfl := Option.some.inj h
      exact FinP.fin (.inr rfl) [] [.ag [cb r2.neg, ck .u64 r2.size.1, ck .u64 r2.size.2.1, ck .u64 r2.size.2.2.1, ck .u64 r2.size.2.2.2]] [] (by kernel_rfl) trivial (.ag (.cons (.rfl _ rfl) (.cons (.rfl _ rfl) (.cons (.rfl _ rfl) (.cons (.rfl _ rfl) (.cons (.rfl _ rfl) .nil))))))
    · have h := ift_f b4 h
      refine XW.skip (by kernel_rfl) ?_
      refine hK2 _ _ ?_
      refine XW.seq (x := cd Try.f100 [1,1,0]) (y := cd Try.f100 [1,1,1]) (by kernel_rfl) fun K8 hK8 => ?_
      refine XW.reg (by kernel_rfl) ?_
      refine XO.go [2, 4] 1 [2,3,4,5] [] [(2, .one (.pt 0 0 0 0)), (3, .one (.pv (.rp [[.s (.bool p2.neg), .s (.int .u64 p2.size.1), .s (.int .u64 p2.size.2.1), .s (.int .u64 p2.size.2.2.1), .s (.int .u64 p2.size.2.2.2)]] 0 0))), (4, .one (.pt 1 0 0 0)), (5, vk .u64 (0 : Int))] [.box [cb p1.neg, ck .u64 p1.size.1, ck .u64 p1.size.2.1, ck .u64 p1.size.2.2.1, ck .u64 p1.size.2.2.2], .box [cb false, ck .u64 (0 : Int), ck .u64 (0 : Int), ck .u64 (0 : Int), ck .u64 (0 : Int)]] [] (by kernel_rfl) trivial ?_
      refine XO.done (by kernel_rfl) ?_
      refine hK8 _ _ ?_
      refine XW.seq (x := cd Try.f100 [1,1,1,0]) (y := cd Try.f100 [1,1,1,1]) (by kernel_rfl) fun K9 hK9 => ?_
      refine XW.seq (x := cd Try.f100 [1,1,1,0,0]) (y := cd Try.f100 [1,1,1,0,1]) (by kernel_rfl) fun K10 hK10 => ?_
      refine XW.reg (by kernel_rfl) ?_
      refine XO.go [2, 4] 1 [2,3,4,5,16] [] [(2, .one (.pt 0 0 0 0)), (3, .one (.pv (.rp [[.s (.bool p2.neg), .s (.int .u64 p2.size.1), .s (.int .u64 p2.size.2.1), .s (.int .u64 p2.size.2.2.1), .s (.int .u64 p2.size.2.2.2)]] 0 0))), (4, .one (.pt 1 0 0 0)), (5, vk .u64 (0 : Int)), (16, vi (0 : Int))] [.box [cb p1.neg, ck .u64 p1.size.1, ck .u64 p1.size.2.1, ck .u64 p1.size.2.2.1, ck .u64 p1.size.2.2.2], .box [cb false, ck .u64 (0 : Int), ck .u64 (0 : Int), ck .u64 (0 : Int), ck .u64 (0 : Int)]] [] (by kernel_rfl) trivial ?_
      refine XO.done (by kernel_rfl) ?_
      refine hK10 _ _ ?_
      refine XW.block (id := 0) (x := cd Try.f100 [1,1,1,0,1,0]) (by kernel_rfl) ?_
      refine XW.rounds' 5 (x := cd Try.f100 [1,1,1,0,1,0,0]) (by kernel_rfl) fun Q1 hQ1 => ?_
      refine XR.one ?_
      refine XW.seq (x := cd Try.f100 [1,1,1,0,1,0,0,0]) (y := cd Try.f100 [1,1,1,0,1,0,0,1]) (by kernel_rfl) fun K11 hK11 => ?_
      refine XW.reg (by kernel_rfl) ?_
      refine XO.go [2, 4] 1 [2,3,4,5,16,17] [] [(2, .one (.pt 0 0 0 0)), (3, .one (.pv (.rp [[.s (.bool p2.neg), .s (.int .u64 p2.size.1), .s (.int .u64 p2.size.2.1), .s (.int .u64 p2.size.2.2.1), .s (.int .u64 p2.size.2.2.2)]] 0 0))), (4, .one (.pt 1 0 0 0)), (5, vk .u64 (0 : Int)), (16, vi (0 : Int)), (17, vb true)] [.box [cb p1.neg, ck .u64 p1.size.1, ck .u64 p1.size.2.1, ck .u64 p1.size.2.2.1, ck .u64 p1.size.2.2.2], .box [cb false, ck .u64 (0 : Int), ck .u64 (0 : Int), ck .u64 (0 : Int), ck .u64 (0 : Int)]] [] (by kernel_rfl) trivial ?_
      refine XO.done (by kernel_rfl) ?_
      refine hK11 _ _ ?_
      refine XW.seq (x := cd Try.f100 [1,1,1,0,1,0,0,1,0]) (y := cd Try.f100 [1,1,1,0,1,0,0,1,1]) (by kernel_rfl) fun K12 hK12 => ?_
      refine XW.cond (x := .tmp 17) (a := cd Try.f100 [1,1,1,0,1,0,0,1,0,0]) (b := cd Try.f100 [1,1,1,0,1,0,0,1,0,1]) (t := true) (by kernel_rfl) (by kernel_rfl) (fun _ => ?_) (fun hx => by cases hx)
      refine XW.skip (by kernel_rfl) ?_
      refine hK12 _ _ ?_
      refine XW.seq (x := cd Try.f100 [1,1,1,0,1,0,0,1,1,0]) (y := cd Try.f100 [1,1,1,0,1,0,0,1,1,1]) (by kernel_rfl) fun K13 hK13 => ?_
      refine XW.block (id := 1) (x := cd Try.f100 [1,1,1,0,1,0,0,1,1,0,0]) (by kernel_rfl) ?_
      refine XW.seq (x := cd Try.f100 [1,1,1,0,1,0,0,1,1,0,0,0]) (y := cd Try.f100 [1,1,1,0,1,0,0,1,1,0,0,1]) (by kernel_rfl) fun K14 hK14 => ?_
      refine XW.reg (by kernel_rfl) ?_
      refine XO.go [2, 4] 2 [2,3,4,5,6,16] [] [(2, .one (.pt 0 0 0 0)), (3, .one (.pv (.rp [[.s (.bool p2.neg), .s (.int .u64 p2.size.1), .s (.int .u64 p2.size.2.1), .s (.int .u64 p2.size.2.2.1), .s (.int .u64 p2.size.2.2.2)]] 0 0))), (4, .one (.pt 1 0 0 0)), (5, vk .u64 (0 : Int)), (6, vi (0 : Int)), (16, vi (0 : Int))] [.box [cb p1.neg, ck .u64 p1.size.1, ck .u64 p1.size.2.1, ck .u64 p1.size.2.2.1, ck .u64 p1.size.2.2.2], .box [cb false, ck .u64 (0 : Int), ck .u64 (0 : Int), ck .u64 (0 : Int), ck .u64 (0 : Int)]] [] (by kernel_rfl) trivial ?_
      refine XO.done (by kernel_rfl) ?_
      refine hK14 _ _ ?_
      obtain ⟨g15, h⟩ := grd_some h
      refine XW.drwG 17 [2] [([], []), ([], []), ([0], []), ([0], []), ([0], []), ([], []), ([], []), ([], []), ([], []), ([], []), ([], []), ([], []), ([], []), ([], []), ([0], []), ([0], []), ([0], [0])] [(34, .one (.pt 0 0 0 1)), (33, .one (.pt 0 0 0 1)), (32, vk .u64 ((p1.size.1 + p2.size.1 + (0 : Int)) / 18446744073709551616)), (31, vk .u64 ((p1.size.1 + p2.size.1 + (0 : Int)) % 18446744073709551616)), (19, .tp [vk .u64 ((p1.size.1 + p2.size.1 + (0 : Int)) % 18446744073709551616), vk .u64 ((p1.size.1 + p2.size.1 + (0 : Int)) / 18446744073709551616)]), (30, .tp [vk .u64 ((p1.size.1 + p2.size.1 + (0 : Int)) % 18446744073709551616), vk .u64 ((p1.size.1 + p2.size.1 + (0 : Int)) / 18446744073709551616)]), (29, vk .u64 (0 : Int)), (28, vk .u64 p2.size.1), (27, .one (.pv (.rp [[.s (.bool p2.neg), .s (.int .u64 p2.size.1), .s (.int .u64 p2.size.2.1), .s (.int .u64 p2.size.2.2.1), .s (.int .u64 p2.size.2.2.2)]] 0 1))), (26, .one (.pv (.rp [[.s (.bool p2.neg), .s (.int .u64 p2.size.1), .s (.int .u64 p2.size.2.1), .s (.int .u64 p2.size.2.2.1), .s (.int .u64 p2.size.2.2.2)]] 0 1))), (25, vi (0 : Int)), (24, vk .u64 p1.size.1), (23, .one (.pt 0 0 0 1)), (22, .one (.pt 0 0 0 1)), (21, vi (0 : Int)), (20, vi (0 : Int)), (2, .one (.pt 0 0 0 0)), (3, .one (.pv (.rp [[.s (.bool p2.neg), .s (.int .u64 p2.size.1), .s (.int .u64 p2.size.2.1), .s (.int .u64 p2.size.2.2.1), .s (.int .u64 p2.size.2.2.2)]] 0 0))), (4, .one (.pt 1 0 0 0)), (5, vk .u64 (0 : Int)), (6, vi (0 : Int)), (16, vi (0 : Int))] [.box [cb p1.neg, ck .u64 ((p1.size.1 + p2.size.1 + (0 : Int)) % 18446744073709551616), ck .u64 p1.size.2.1, ck .u64 p1.size.2.2.1, ck .u64 p1.size.2.2.2], .box [cb false, ck .u64 (0 : Int), ck .u64 (0 : Int), ck .u64 (0 : Int), ck .u64 (0 : Int)]] (by kernel_rfl) (by kernel_rfl) ?_ ?_
      · refine GY.go 10 [[.s (.bool p2.neg), .s (.int .u64 p2.size.1), .s (.int .u64 p2.size.2.1), .s (.int .u64 p2.size.2.2.1), .s (.int .u64 p2.size.2.2.2)]] [(29, vk .u64 (0 : Int)), (28, vk .u64 p2.size.1), (27, .one (.pv (.rp [[.s (.bool p2.neg), .s (.int .u64 p2.size.1), .s (.int .u64 p2.size.2.1), .s (.int .u64 p2.size.2.2.1), .s (.int .u64 p2.size.2.2.2)]] 0 1))), (26, .one (.pv (.rp [[.s (.bool p2.neg), .s (.int .u64 p2.size.1), .s (.int .u64 p2.size.2.1), .s (.int .u64 p2.size.2.2.1), .s (.int .u64 p2.size.2.2.2)]] 0 1))), (25, vi (0 : Int)), (24, vk .u64 p1.size.1), (23, .one (.pt 0 0 0 1)), (22, .one (.pt 0 0 0 1)), (21, vi (0 : Int)), (20, vi (0 : Int)), (2, .one (.pt 0 0 0 0)), (3, .one (.pv (.rp [[.s (.bool p2.neg), .s (.int .u64 p2.size.1), .s (.int .u64 p2.size.2.1), .s (.int .u64 p2.size.2.2.1), .s (.int .u64 p2.size.2.2.2)]] 0 0))), (4, .one (.pt 1 0 0 0)), (5, vk .u64 (0 : Int)), (6, vi (0 : Int)), (16, vi (0 : Int))] [0 ≤ (0 : Int) ∧ (0 : Int) < 4, 0 ≤ (0 : Int) ∧ (0 : Int) < 4, ([[.s (.bool p2.neg), .s (.int .u64 p2.size.1), .s (.int .u64 p2.size.2.1), .s (.int .u64 p2.size.2.2.1), .s (.int .u64 p2.size.2.2.2)]] : List (List PV))[0]? = some [.s (.bool p2.neg), .s (.int .u64 p2.size.1), .s (.int .u64 p2.size.2.1), .s (.int .u64 p2.size.2.2.1), .s (.int .u64 p2.size.2.2.2)]] (by kernel_rfl) (⟨by decide, by decide, rfl, trivial⟩) ?_
        refine GY.ext 112 [.int .u64 p1.size.1, .int .u64 p2.size.1, .int .u64 (0 : Int)] [.int .u64 ((p1.size.1 + p2.size.1 + (0 : Int)) % 18446744073709551616), .int .u64 ((p1.size.1 + p2.size.1 + (0 : Int)) / 18446744073709551616)] [(30, .tp [vk .u64 ((p1.size.1 + p2.size.1 + (0 : Int)) % 18446744073709551616), vk .u64 ((p1.size.1 + p2.size.1 + (0 : Int)) / 18446744073709551616)]), (29, vk .u64 (0 : Int)), (28, vk .u64 p2.size.1), (27, .one (.pv (.rp [[.s (.bool p2.neg), .s (.int .u64 p2.size.1), .s (.int .u64 p2.size.2.1), .s (.int .u64 p2.size.2.2.1), .s (.int .u64 p2.size.2.2.2)]] 0 1))), (26, .one (.pv (.rp [[.s (.bool p2.neg), .s (.int .u64 p2.size.1), .s (.int .u64 p2.size.2.1), .s (.int .u64 p2.size.2.2.1), .s (.int .u64 p2.size.2.2.2)]] 0 1))), (25, vi (0 : Int)), (24, vk .u64 p1.size.1), (23, .one (.pt 0 0 0 1)), (22, .one (.pt 0 0 0 1)), (21, vi (0 : Int)), (20, vi (0 : Int)), (2, .one (.pt 0 0 0 0)), (3, .one (.pv (.rp [[.s (.bool p2.neg), .s (.int .u64 p2.size.1), .s (.int .u64 p2.size.2.1), .s (.int .u64 p2.size.2.2.1), .s (.int .u64 p2.size.2.2.2)]] 0 0))), (4, .one (.pt 1 0 0 0)), (5, vk .u64 (0 : Int)), (6, vi (0 : Int)), (16, vi (0 : Int))] [] (by kernel_rfl) (by kernel_rfl) (ext_Add64 (fn := Try.f112) (by kernel_rfl) (by kernel_rfl) (by kernel_rfl) (by kernel_rfl) (by kernel_rfl) g15.1 g15.2.1 g15.2.2.1 g15.2.2.2) rfl (by kernel_rfl) (by kernel_rfl) (by kernel_rfl) ?_
        refine GY.go 5 [] [(34, .one (.pt 0 0 0 1)), (33, .one (.pt 0 0 0 1)), (32, vk .u64 ((p1.size.1 + p2.size.1 + (0 : Int)) / 18446744073709551616)), (31, vk .u64 ((p1.size.1 + p2.size.1 + (0 : Int)) % 18446744073709551616)), (19, .tp [vk .u64 ((p1.size.1 + p2.size.1 + (0 : Int)) % 18446744073709551616), vk .u64 ((p1.size.1 + p2.size.1 + (0 : Int)) / 18446744073709551616)]), (30, .tp [vk .u64 ((p1.size.1 + p2.size.1 + (0 : Int)) % 18446744073709551616), vk .u64 ((p1.size.1 + p2.size.1 + (0 : Int)) / 18446744073709551616)]), (29, vk .u64 (0 : Int)), (28, vk .u64 p2.size.1), (27, .one (.pv (.rp [[.s (.bool p2.neg), .s (.int .u64 p2.size.1), .s (.int .u64 p2.size.2.1), .s (.int .u64 p2.size.2.2.1), .s (.int .u64 p2.size.2.2.2)]] 0 1))), (26, .one (.pv (.rp [[.s (.bool p2.neg), .s (.int .u64 p2.size.1), .s (.int .u64 p2.size.2.1), .s (.int .u64 p2.size.2.2.1), .s (.int .u64 p2.size.2.2.2)]] 0 1))), (25, vi (0 : Int)), (24, vk .u64 p1.size.1), (23, .one (.pt 0 0 0 1)), (22, .one (.pt 0 0 0 1)), (21, vi (0 : Int)), (20, vi (0 : Int)), (2, .one (.pt 0 0 0 0)), (3, .one (.pv (.rp [[.s (.bool p2.neg), .s (.int .u64 p2.size.1), .s (.int .u64 p2.size.2.1), .s (.int .u64 p2.size.2.2.1), .s (.int .u64 p2.size.2.2.2)]] 0 0))), (4, .one (.pt 1 0 0 0)), (5, vk .u64 (0 : Int)), (6, vi (0 : Int)), (16, vi (0 : Int))] [0 ≤ (0 : Int) ∧ (0 : Int) < 4] (by kernel_rfl) (⟨by decide, trivial⟩) ?_
        refine GY.wr [] [(34, .one (.pt 0 0 0 1)), (33, .one (.pt 0 0 0 1)), (32, vk .u64 ((p1.size.1 + p2.size.1 + (0 : Int)) / 18446744073709551616)), (31, vk .u64 ((p1.size.1 + p2.size.1 + (0 : Int)) % 18446744073709551616)), (19, .tp [vk .u64 ((p1.size.1 + p2.size.1 + (0 : Int)) % 18446744073709551616), vk .u64 ((p1.size.1 + p2.size.1 + (0 : Int)) / 18446744073709551616)]), (30, .tp [vk .u64 ((p1.size.1 + p2.size.1 + (0 : Int)) % 18446744073709551616), vk .u64 ((p1.size.1 + p2.size.1 + (0 : Int)) / 18446744073709551616)]), (29, vk .u64 (0 : Int)), (28, vk .u64 p2.size.1), (27, .one (.pv (.rp [[.s (.bool p2.neg), .s (.int .u64 p2.size.1), .s (.int .u64 p2.size.2.1), .s (.int .u64 p2.size.2.2.1), .s (.int .u64 p2.size.2.2.2)]] 0 1))), (26, .one (.pv (.rp [[.s (.bool p2.neg), .s (.int .u64 p2.size.1), .s (.int .u64 p2.size.2.1), .s (.int .u64 p2.size.2.2.1), .s (.int .u64 p2.size.2.2.2)]] 0 1))), (25, vi (0 : Int)), (24, vk .u64 p1.size.1), (23, .one (.pt 0 0 0 1)), (22, .one (.pt 0 0 0 1)), (21, vi (0 : Int)), (20, vi (0 : Int)), (2, .one (.pt 0 0 0 0)), (3, .one (.pv (.rp [[.s (.bool p2.neg), .s (.int .u64 p2.size.1), .s (.int .u64 p2.size.2.1), .s (.int .u64 p2.size.2.2.1), .s (.int .u64 p2.size.2.2.2)]] 0 0))), (4, .one (.pt 1 0 0 0)), (5, vk .u64 (0 : Int)), (6, vi (0 : Int)), (16, vi (0 : Int))] [0] [.box [cb p1.neg, ck .u64 ((p1.size.1 + p2.size.1 + (0 : Int)) % 18446744073709551616), ck .u64 p1.size.2.1, ck .u64 p1.size.2.2.1, ck .u64 p1.size.2.2.2], .box [cb false, ck .u64 (0 : Int), ck .u64 (0 : Int), ck .u64 (0 : Int), ck .u64 (0 : Int)]] [] (by kernel_rfl) (by kernel_rfl) trivial ?_
        exact GY.done (by kernel_rfl) (by kernel_rfl)
      refine XO.go [2, 4] 1 [2,3,4,5,16] [] [(2, .one (.pt 0 0 0 0)), (3, .one (.pv (.rp [[.s (.bool p2.neg), .s (.int .u64 p2.size.1), .s (.int .u64 p2.size.2.1), .s (.int .u64 p2.size.2.2.1), .s (.int .u64 p2.size.2.2.2)]] 0 0))), (4, .one (.pt 1 0 0 0)), (5, vk .u64 ((p1.size.1 + p2.size.1 + (0 : Int)) / 18446744073709551616)), (16, vi (0 : Int))] [.box [cb p1.neg, ck .u64 ((p1.size.1 + p2.size.1 + (0 : Int)) % 18446744073709551616), ck .u64 p1.size.2.1, ck .u64 p1.size.2.2.1, ck .u64 p1.size.2.2.2], .box [cb false, ck .u64 (0 : Int), ck .u64 (0 : Int), ck .u64 (0 : Int), ck .u64 (0 : Int)]] [] (by kernel_rfl) trivial ?_
      refine XO.done (by kernel_rfl) ?_
      refine hK13 _ _ ?_
      refine XW.reg (by kernel_rfl) ?_
      refine XO.go [2, 4] 2 [2,3,4,5,16] [] [(2, .one (.pt 0 0 0 0)), (3, .one (.pv (.rp [[.s (.bool p2.neg), .s (.int .u64 p2.size.1), .s (.int .u64 p2.size.2.1), .s (.int .u64 p2.size.2.2.1), .s (.int .u64 p2.size.2.2.2)]] 0 0))), (4, .one (.pt 1 0 0 0)), (5, vk .u64 ((p1.size.1 + p2.size.1 + (0 : Int)) / 18446744073709551616)), (16, vi (1 : Int))] [.box [cb p1.neg, ck .u64 ((p1.size.1 + p2.size.1 + (0 : Int)) % 18446744073709551616), ck .u64 p1.size.2.1, ck .u64 p1.size.2.2.1, ck .u64 p1.size.2.2.2], .box [cb false, ck .u64 (0 : Int), ck .u64 (0 : Int), ck .u64 (0 : Int), ck .u64 (0 : Int)]] [] (by kernel_rfl) trivial ?_
      refine XO.done (by kernel_rfl) ?_
      refine XR.one ?_
      refine XW.seq (x := cd Try.f100 [1,1,1,0,1,0,0,0]) (y := cd Try.f100 [1,1,1,0,1,0,0,1]) (by kernel_rfl) fun K16 hK16 => ?_
      refine XW.reg (by kernel_rfl) ?_
      refine XO.go [2, 4] 1 [2,3,4,5,16,17] [] [(2, .one (.pt 0 0 0 0)), (3, .one (.pv (.rp [[.s (.bool p2.neg), .s (.int .u64 p2.size.1), .s (.int .u64 p2.size.2.1), .s (.int .u64 p2.size.2.2.1), .s (.int .u64 p2.size.2.2.2)]] 0 0))), (4, .one (.pt 1 0 0 0)), (5, vk .u64 ((p1.size.1 + p2.size.1 + (0 : Int)) / 18446744073709551616)), (16, vi (1 : Int)), (17, vb true)] [.box [cb p1.neg, ck .u64 ((p1.size.1 + p2.size.1 + (0 : Int)) % 18446744073709551616), ck .u64 p1.size.2.1, ck .u64 p1.size.2.2.1, ck .u64 p1.size.2.2.2], .box [cb false, ck .u64 (0 : Int), ck .u64 (0 : Int), ck .u64 (0 : Int), ck .u64 (0 : Int)]] [] (by kernel_rfl) trivial ?_
      refine XO.done (by kernel_rfl) ?_
      refine hK16 _ _ ?_
      refine XW.seq (x := cd Try.f100 [1,1,1,0,1,0,0,1,0]) (y := cd Try.f100 [1,1,1,0,1,0,0,1,1]) (by kernel_rfl) fun K17 hK17 => ?_
      refine XW.cond (x := .tmp 17) (a := cd Try.f100 [1,1,1,0,1,0,0,1,0,0]) (b := cd Try.f100 [1,1,1,0,1,0,0,1,0,1]) (t := true) (by kernel_rfl) (by kernel_rfl) (fun _ => ?_) (fun hx => by cases hx)
      refine XW.skip (by kernel_rfl) ?_
      refine hK17 _ _ ?_
      refine XW.seq (x := cd Try.f100 [1,1,1,0,1,0,0,1,1,0]) (y := cd Try.f100 [1,1,1,0,1,0,0,1,1,1]) (by kernel_rfl) fun K18 hK18 => ?_
      refine XW.block (id := 1) (x := cd Try.f100 [1,1,1,0,1,0,0,1,1,0,0]) (by kernel_rfl) ?_
      refine XW.seq (x := cd Try.f100 [1,1,1,0,1,0,0,1,1,0,0,0]) (y := cd Try.f100 [1,1,1,0,1,0,0,1,1,0,0,1]) (by kernel_rfl) fun K19 hK19 => ?_
      refine XW.reg (by kernel_rfl) ?_
      refine XO.go [2, 4] 2 [2,3,4,5,6,16] [] [(2, .one (.pt 0 0 0 0)), (3, .one (.pv (.rp [[.s (.bool p2.neg), .s (.int .u64 p2.size.1), .s (.int .u64 p2.size.2.1), .s (.int .u64 p2.size.2.2.1), .s (.int .u64 p2.size.2.2.2)]] 0 0))), (4, .one (.pt 1 0 0 0)), (5, vk .u64 ((p1.size.1 + p2.size.1 + (0 : Int)) / 18446744073709551616)), (6, vi (1 : Int)), (16, vi (1 : Int))] [.box [cb p1.neg, ck .u64 ((p1.size.1 + p2.size.1 + (0 : Int)) % 18446744073709551616), ck .u64 p1.size.2.1, ck .u64 p1.size.2.2.1, ck .u64 p1.size.2.2.2], .box [cb false, ck .u64 (0 : Int), ck .u64 (0 : Int), ck .u64 (0 : Int), ck .u64 (0 : Int)]] [] (by kernel_rfl) trivial ?_
      refine XO.done (by kernel_rfl) ?_
      refine hK19 _ _ ?_
      obtain ⟨g20, h⟩ := grd_some h
      obtain ⟨y1, y21, h⟩ := bnd_some h
      obtain ⟨y2, y22, h⟩ := bnd_some h
      refine XW.drwG 17 [2] [([], []), ([], []), ([0], []), ([0], []), ([0], []), ([], []), ([], []), ([], []), ([], []), ([], []), ([], []), ([], []), ([], []), ([], []), ([0], []), ([0], []), ([0], [0])] [(34, .one (.pt 0 0 0 2)), (33, .one (.pt 0 0 0 1)), (32, vk .u64 y2), (31, vk .u64 y1), (19, .tp [vk .u64 y1, vk .u64 y2]), (30, .tp [vk .u64 y1, vk .u64 y2]), (29, vk .u64 ((p1.size.1 + p2.size.1 + (0 : Int)) / 18446744073709551616)), (28, vk .u64 p2.size.2.1), (27, .one (.pv (.rp [[.s (.bool p2.neg), .s (.int .u64 p2.size.1), .s (.int .u64 p2.size.2.1), .s (.int .u64 p2.size.2.2.1), .s (.int .u64 p2.size.2.2.2)]] 0 2))), (26, .one (.pv (.rp [[.s (.bool p2.neg), .s (.int .u64 p2.size.1), .s (.int .u64 p2.size.2.1), .s (.int .u64 p2.size.2.2.1), .s (.int .u64 p2.size.2.2.2)]] 0 1))), (25, vi (1 : Int)), (24, vk .u64 p1.size.2.1), (23, .one (.pt 0 0 0 2)), (22, .one (.pt 0 0 0 1)), (21, vi (1 : Int)), (20, vi (1 : Int)), (2, .one (.pt 0 0 0 0)), (3, .one (.pv (.rp [[.s (.bool p2.neg), .s (.int .u64 p2.size.1), .s (.int .u64 p2.size.2.1), .s (.int .u64 p2.size.2.2.1), .s (.int .u64 p2.size.2.2.2)]] 0 0))), (4, .one (.pt 1 0 0 0)), (5, vk .u64 ((p1.size.1 + p2.size.1 + (0 : Int)) / 18446744073709551616)), (6, vi (1 : Int)), (16, vi (1 : Int))] [.box [cb p1.neg, ck .u64 ((p1.size.1 + p2.size.1 + (0 : Int)) % 18446744073709551616), ck .u64 y1, ck .u64 p1.size.2.2.1, ck .u64 p1.size.2.2.2], .box [cb false, ck .u64 (0 : Int), ck .u64 (0 : Int), ck .u64 (0 : Int), ck .u64 (0 : Int)]] (by kernel_rfl) (by kernel_rfl) ?_ ?_
      · refine GY.go 10 [[.s (.bool p2.neg), .s (.int .u64 p2.size.1), .s (.int .u64 p2.size.2.1), .s (.int .u64 p2.size.2.2.1), .s (.int .u64 p2.size.2.2.2)]] [(29, vk .u64 ((p1.size.1 + p2.size.1 + (0 : Int)) / 18446744073709551616)), (28, vk .u64 p2.size.2.1), (27, .one (.pv (.rp [[.s (.bool p2.neg), .s (.int .u64 p2.size.1), .s (.int .u64 p2.size.2.1), .s (.int .u64 p2.size.2.2.1), .s (.int .u64 p2.size.2.2.2)]] 0 2))), (26, .one (.pv (.rp [[.s (.bool p2.neg), .s (.int .u64 p2.size.1), .s (.int .u64 p2.size.2.1), .s (.int .u64 p2.size.2.2.1), .s (.int .u64 p2.size.2.2.2)]] 0 1))), (25, vi (1 : Int)), (24, vk .u64 p1.size.2.1), (23, .one (.pt 0 0 0 2)), (22, .one (.pt 0 0 0 1)), (21, vi (1 : Int)), (20, vi (1 : Int)), (2, .one (.pt 0 0 0 0)), (3, .one (.pv (.rp [[.s (.bool p2.neg), .s (.int .u64 p2.size.1), .s (.int .u64 p2.size.2.1), .s (.int .u64 p2.size.2.2.1), .s (.int .u64 p2.size.2.2.2)]] 0 0))), (4, .one (.pt 1 0 0 0)), (5, vk .u64 ((p1.size.1 + p2.size.1 + (0 : Int)) / 18446744073709551616)), (6, vi (1 : Int)), (16, vi (1 : Int))] [0 ≤ (1 : Int) ∧ (1 : Int) < 4, 0 ≤ (1 : Int) ∧ (1 : Int) < 4, ([[.s (.bool p2.neg), .s (.int .u64 p2.size.1), .s (.int .u64 p2.size.2.1), .s (.int .u64 p2.size.2.2.1), .s (.int .u64 p2.size.2.2.2)]] : List (List PV))[0]? = some [.s (.bool p2.neg), .s (.int .u64 p2.size.1), .s (.int .u64 p2.size.2.1), .s (.int .u64 p2.size.2.2.1), .s (.int .u64 p2.size.2.2.2)]] (by kernel_rfl) (⟨by decide, by decide, rfl, trivial⟩) ?_
        refine GY.ext 112 [.int .u64 p1.size.2.1, .int .u64 p2.size.2.1, .int .u64 ((p1.size.1 + p2.size.1 + (0 : Int)) / 18446744073709551616)] [.int .u64 ((p1.size.2.1 + p2.size.2.1 + ((p1.size.1 + p2.size.1 + (0 : Int)) / 18446744073709551616)) % 18446744073709551616), .int .u64 ((p1.size.2.1 + p2.size.2.1 + ((p1.size.1 + p2.size.1 + (0 : Int)) / 18446744073709551616)) / 18446744073709551616)] [(30, .tp [vk .u64 ((p1.size.2.1 + p2.size.2.1 + ((p1.size.1 + p2.size.1 + (0 : Int)) / 18446744073709551616)) % 18446744073709551616), vk .u64 ((p1.size.2.1 + p2.size.2.1 + ((p1.size.1 + p2.size.1 + (0 : Int)) / 18446744073709551616)) / 18446744073709551616)]), (29, vk .u64 ((p1.size.1 + p2.size.1 + (0 : Int)) / 18446744073709551616)), (28, vk .u64 p2.size.2.1), (27, .one (.pv (.rp [[.s (.bool p2.neg), .s (.int .u64 p2.size.1), .s (.int .u64 p2.size.2.1), .s (.int .u64 p2.size.2.2.1), .s (.int .u64 p2.size.2.2.2)]] 0 2))), (26, .one (.pv (.rp [[.s (.bool p2.neg), .s (.int .u64 p2.size.1), .s (.int .u64 p2.size.2.1), .s (.int .u64 p2.size.2.2.1), .s (.int .u64 p2.size.2.2.2)]] 0 1))), (25, vi (1 : Int)), (24, vk .u64 p1.size.2.1), (23, .one (.pt 0 0 0 2)), (22, .one (.pt 0 0 0 1)), (21, vi (1 : Int)), (20, vi (1 : Int)), (2, .one (.pt 0 0 0 0)), (3, .one (.pv (.rp [[.s (.bool p2.neg), .s (.int .u64 p2.size.1), .s (.int .u64 p2.size.2.1), .s (.int .u64 p2.size.2.2.1), .s (.int .u64 p2.size.2.2.2)]] 0 0))), (4, .one (.pt 1 0 0 0)), (5, vk .u64 ((p1.size.1 + p2.size.1 + (0 : Int)) / 18446744073709551616)), (6, vi (1 : Int)), (16, vi (1 : Int))] [] (by kernel_rfl) (by kernel_rfl) (ext_Add64 (fn := Try.f112) (by kernel_rfl) (by kernel_rfl) (by kernel_rfl) (by kernel_rfl) (by kernel_rfl) g20.1 g20.2.1 g20.2.2.1 g20.2.2.2) rfl (by kernel_rfl) (by kernel_rfl) (by kernel_rfl) ?_
        refine GY.go 2 [] [(31, vk .u64 ((p1.size.2.1 + p2.size.2.1 + ((p1.size.1 + p2.size.1 + (0 : Int)) / 18446744073709551616)) % 18446744073709551616)), (19, .tp [vk .u64 ((p1.size.2.1 + p2.size.2.1 + ((p1.size.1 + p2.size.1 + (0 : Int)) / 18446744073709551616)) % 18446744073709551616), vk .u64 ((p1.size.2.1 + p2.size.2.1 + ((p1.size.1 + p2.size.1 + (0 : Int)) / 18446744073709551616)) / 18446744073709551616)]), (30, .tp [vk .u64 ((p1.size.2.1 + p2.size.2.1 + ((p1.size.1 + p2.size.1 + (0 : Int)) / 18446744073709551616)) % 18446744073709551616), vk .u64 ((p1.size.2.1 + p2.size.2.1 + ((p1.size.1 + p2.size.1 + (0 : Int)) / 18446744073709551616)) / 18446744073709551616)]), (29, vk .u64 ((p1.size.1 + p2.size.1 + (0 : Int)) / 18446744073709551616)), (28, vk .u64 p2.size.2.1), (27, .one (.pv (.rp [[.s (.bool p2.neg), .s (.int .u64 p2.size.1), .s (.int .u64 p2.size.2.1), .s (.int .u64 p2.size.2.2.1), .s (.int .u64 p2.size.2.2.2)]] 0 2))), (26, .one (.pv (.rp [[.s (.bool p2.neg), .s (.int .u64 p2.size.1), .s (.int .u64 p2.size.2.1), .s (.int .u64 p2.size.2.2.1), .s (.int .u64 p2.size.2.2.2)]] 0 1))), (25, vi (1 : Int)), (24, vk .u64 p1.size.2.1), (23, .one (.pt 0 0 0 2)), (22, .one (.pt 0 0 0 1)), (21, vi (1 : Int)), (20, vi (1 : Int)), (2, .one (.pt 0 0 0 0)), (3, .one (.pv (.rp [[.s (.bool p2.neg), .s (.int .u64 p2.size.1), .s (.int .u64 p2.size.2.1), .s (.int .u64 p2.size.2.2.1), .s (.int .u64 p2.size.2.2.2)]] 0 0))), (4, .one (.pt 1 0 0 0)), (5, vk .u64 ((p1.size.1 + p2.size.1 + (0 : Int)) / 18446744073709551616)), (6, vi (1 : Int)), (16, vi (1 : Int))] [] (by kernel_rfl) trivial ?_
        rw [show ((p1.size.2.1 + p2.size.2.1 + ((p1.size.1 + p2.size.1 + (0 : Int)) / 18446744073709551616)) % 18446744073709551616) = y1 from Option.some.inj y21]
        refine GY.go 1 [] [(32, vk .u64 ((p1.size.2.1 + p2.size.2.1 + ((p1.size.1 + p2.size.1 + (0 : Int)) / 18446744073709551616)) / 18446744073709551616)), (31, vk .u64 y1), (19, .tp [vk .u64 y1, vk .u64 ((p1.size.2.1 + p2.size.2.1 + ((p1.size.1 + p2.size.1 + (0 : Int)) / 18446744073709551616)) / 18446744073709551616)]), (30, .tp [vk .u64 y1, vk .u64 ((p1.size.2.1 + p2.size.2.1 + ((p1.size.1 + p2.size.1 + (0 : Int)) / 18446744073709551616)) / 18446744073709551616)]), (29, vk .u64 ((p1.size.1 + p2.size.1 + (0 : Int)) / 18446744073709551616)), (28, vk .u64 p2.size.2.1), (27, .one (.pv (.rp [[.s (.bool p2.neg), .s (.int .u64 p2.size.1), .s (.int .u64 p2.size.2.1), .s (.int .u64 p2.size.2.2.1), .s (.int .u64 p2.size.2.2.2)]] 0 2))), (26, .one (.pv (.rp [[.s (.bool p2.neg), .s (.int .u64 p2.size.1), .s (.int .u64 p2.size.2.1), .s (.int .u64 p2.size.2.2.1), .s (.int .u64 p2.size.2.2.2)]] 0 1))), (25, vi (1 : Int)), (24, vk .u64 p1.size.2.1), (23, .one (.pt 0 0 0 2)), (22, .one (.pt 0 0 0 1)), (21, vi (1 : Int)), (20, vi (1 : Int)), (2, .one (.pt 0 0 0 0)), (3, .one (.pv (.rp [[.s (.bool p2.neg), .s (.int .u64 p2.size.1), .s (.int .u64 p2.size.2.1), .s (.int .u64 p2.size.2.2.1), .s (.int .u64 p2.size.2.2.2)]] 0 0))), (4, .one (.pt 1 0 0 0)), (5, vk .u64 ((p1.size.1 + p2.size.1 + (0 : Int)) / 18446744073709551616)), (6, vi (1 : Int)), (16, vi (1 : Int))] [] (by kernel_rfl) trivial ?_
        rw [show ((p1.size.2.1 + p2.size.2.1 + ((p1.size.1 + p2.size.1 + (0 : Int)) / 18446744073709551616)) / 18446744073709551616) = y2 from Option.some.inj y22]
        refine GY.go 2 [] [(34, .one (.pt 0 0 0 2)), (33, .one (.pt 0 0 0 1)), (32, vk .u64 y2), (31, vk .u64 y1), (19, .tp [vk .u64 y1, vk .u64 y2]), (30, .tp [vk .u64 y1, vk .u64 y2]), (29, vk .u64 ((p1.size.1 + p2.size.1 + (0 : Int)) / 18446744073709551616)), (28, vk .u64 p2.size.2.1), (27, .one (.pv (.rp [[.s (.bool p2.neg), .s (.int .u64 p2.size.1), .s (.int .u64 p2.size.2.1), .s (.int .u64 p2.size.2.2.1), .s (.int .u64 p2.size.2.2.2)]] 0 2))), (26, .one (.pv (.rp [[.s (.bool p2.neg), .s (.int .u64 p2.size.1), .s (.int .u64 p2.size.2.1), .s (.int .u64 p2.size.2.2.1), .s (.int .u64 p2.size.2.2.2)]] 0 1))), (25, vi (1 : Int)), (24, vk .u64 p1.size.2.1), (23, .one (.pt 0 0 0 2)), (22, .one (.pt 0 0 0 1)), (21, vi (1 : Int)), (20, vi (1 : Int)), (2, .one (.pt 0 0 0 0)), (3, .one (.pv (.rp [[.s (.bool p2.neg), .s (.int .u64 p2.size.1), .s (.int .u64 p2.size.2.1), .s (.int .u64 p2.size.2.2.1), .s (.int .u64 p2.size.2.2.2)]] 0 0))), (4, .one (.pt 1 0 0 0)), (5, vk .u64 ((p1.size.1 + p2.size.1 + (0 : Int)) / 18446744073709551616)), (6, vi (1 : Int)), (16, vi (1 : Int))] [0 ≤ (1 : Int) ∧ (1 : Int) < 4] (by kernel_rfl) (⟨by decide, trivial⟩) ?_
        refine GY.wr [] [(34, .one (.pt 0 0 0 2)), (33, .one (.pt 0 0 0 1)), (32, vk .u64 y2), (31, vk .u64 y1), (19, .tp [vk .u64 y1, vk .u64 y2]), (30, .tp [vk .u64 y1, vk .u64 y2]), (29, vk .u64 ((p1.size.1 + p2.size.1 + (0 : Int)) / 18446744073709551616)), (28, vk .u64 p2.size.2.1), (27, .one (.pv (.rp [[.s (.bool p2.neg), .s (.int .u64 p2.size.1), .s (.int .u64 p2.size.2.1), .s (.int .u64 p2.size.2.2.1), .s (.int .u64 p2.size.2.2.2)]] 0 2))), (26, .one (.pv (.rp [[.s (.bool p2.neg), .s (.int .u64 p2.size.1), .s (.int .u64 p2.size.2.1), .s (.int .u64 p2.size.2.2.1), .s (.int .u64 p2.size.2.2.2)]] 0 1))), (25, vi (1 : Int)), (24, vk .u64 p1.size.2.1), (23, .one (.pt 0 0 0 2)), (22, .one (.pt 0 0 0 1)), (21, vi (1 : Int)), (20, vi (1 : Int)), (2, .one (.pt 0 0 0 0)), (3, .one (.pv (.rp [[.s (.bool p2.neg), .s (.int .u64 p2.size.1), .s (.int .u64 p2.size.2.1), .s (.int .u64 p2.size.2.2.1), .s (.int .u64 p2.size.2.2.2)]] 0 0))), (4, .one (.pt 1 0 0 0)), (5, vk .u64 ((p1.size.1 + p2.size.1 + (0 : Int)) / 18446744073709551616)), (6, vi (1 : Int)), (16, vi (1 : Int))] [0] [.box [cb p1.neg, ck .u64 ((p1.size.1 + p2.size.1 + (0 : Int)) % 18446744073709551616), ck .u64 y1, ck .u64 p1.size.2.2.1, ck .u64 p1.size.2.2.2], .box [cb false, ck .u64 (0 : Int), ck .u64 (0 : Int), ck .u64 (0 : Int), ck .u64 (0 : Int)]] [] (by kernel_rfl) (by kernel_rfl) trivial ?_
        exact GY.done (by kernel_rfl) (by kernel_rfl)
      refine XO.go [2, 4] 1 [2,3,4,5,16] [] [(2, .one (.pt 0 0 0 0)), (3, .one (.pv (.rp [[.s (.bool p2.neg), .s (.int .u64 p2.size.1), .s (.int .u64 p2.size.2.1), .s (.int .u64 p2.size.2.2.1), .s (.int .u64 p2.size.2.2.2)]] 0 0))), (4, .one (.pt 1 0 0 0)), (5, vk .u64 y2), (16, vi (1 : Int))] [.box [cb p1.neg, ck .u64 ((p1.size.1 + p2.size.1 + (0 : Int)) % 18446744073709551616), ck .u64 y1, ck .u64 p1.size.2.2.1, ck .u64 p1.size.2.2.2], .box [cb false, ck .u64 (0 : Int), ck .u64 (0 : Int), ck .u64 (0 : Int), ck .u64 (0 : Int)]] [] (by kernel_rfl) trivial ?_
      refine XO.done (by kernel_rfl) ?_
      refine hK18 _ _ ?_
      refine XW.reg (by kernel_rfl) ?_
      refine XO.go [2, 4] 2 [2,3,4,5,16] [] [(2, .one (.pt 0 0 0 0)), (3, .one (.pv (.rp [[.s (.bool p2.neg), .s (.int .u64 p2.size.1), .s (.int .u64 p2.size.2.1), .s (.int .u64 p2.size.2.2.1), .s (.int .u64 p2.size.2.2.2)]] 0 0))), (4, .one (.pt 1 0 0 0)), (5, vk .u64 y2), (16, vi (2 : Int))] [.box [cb p1.neg, ck .u64 ((p1.size.1 + p2.size.1 + (0 : Int)) % 18446744073709551616), ck .u64 y1, ck .u64 p1.size.2.2.1, ck .u64 p1.size.2.2.2], .box [cb false, ck .u64 (0 : Int), ck .u64 (0 : Int), ck .u64 (0 : Int), ck .u64 (0 : Int)]] [] (by kernel_rfl) trivial ?_
      refine XO.done (by kernel_rfl) ?_
      refine XR.one ?_
      refine XW.seq (x := cd Try.f100 [1,1,1,0,1,0,0,0]) (y := cd Try.f100 [1,1,1,0,1,0,0,1]) (by kernel_rfl) fun K23 hK23 => ?_
      refine XW.reg (by kernel_rfl) ?_
      refine XO.go [2, 4] 1 [2,3,4,5,16,17] [] [(2, .one (.pt 0 0 0 0)), (3, .one (.pv (.rp [[.s (.bool p2.neg), .s (.int .u64 p2.size.1), .s (.int .u64 p2.size.2.1), .s (.int .u64 p2.size.2.2.1), .s (.int .u64 p2.size.2.2.2)]] 0 0))), (4, .one (.pt 1 0 0 0)), (5, vk .u64 y2), (16, vi (2 : Int)), (17, vb true)] [.box [cb p1.neg, ck .u64 ((p1.size.1 + p2.size.1 + (0 : Int)) % 18446744073709551616), ck .u64 y1, ck .u64 p1.size.2.2.1, ck .u64 p1.size.2.2.2], .box [cb false, ck .u64 (0 : Int), ck .u64 (0 : Int), ck .u64 (0 : Int), ck .u64 (0 : Int)]] [] (by kernel_rfl) trivial ?_
      refine XO.done (by kernel_rfl) ?_
      refine hK23 _ _ ?_
      refine XW.seq (x := cd Try.f100 [1,1,1,0,1,0,0,1,0]) (y := cd Try.f100 [1,1,1,0,1,0,0,1,1]) (by kernel_rfl) fun K24 hK24 => ?_
      refine XW.cond (x := .tmp 17) (a := cd Try.f100 [1,1,1,0,1,0,0,1,0,0]) (b := cd Try.f100 [1,1,1,0,1,0,0,1,0,1]) (t := true) (by kernel_rfl) (by kernel_rfl) (fun _ => ?_) (fun hx => by cases hx)
      refine XW.skip (by kernel_rfl) ?_
      refine hK24 _ _ ?_
      refine XW.seq (x := cd Try.f100 [1,1,1,0,1,0,0,1,1,0]) (y := cd Try.f100 [1,1,1,0,1,0,0,1,1,1]) (by kernel_rfl) fun K25 hK25 => ?_
      refine XW.block (id := 1) (x := cd Try.f100 [1,1,1,0,1,0,0,1,1,0,0]) (by kernel_rfl) ?_
      refine XW.seq (x := cd Try.f100 [1,1,1,0,1,0,0,1,1,0,0,0]) (y := cd Try.f100 [1,1,1,0,1,0,0,1,1,0,0,1]) (by kernel_rfl) fun K26 hK26 => ?_
      refine XW.reg (by kernel_rfl) ?_
      refine XO.go [2, 4] 2 [2,3,4,5,6,16] [] [(2, .one (.pt 0 0 0 0)), (3, .one (.pv (.rp [[.s (.bool p2.neg), .s (.int .u64 p2.size.1), .s (.int .u64 p2.size.2.1), .s (.int .u64 p2.size.2.2.1), .s (.int .u64 p2.size.2.2.2)]] 0 0))), (4, .one (.pt 1 0 0 0)), (5, vk .u64 y2), (6, vi (2 : Int)), (16, vi (2 : Int))] [.box [cb p1.neg, ck .u64 ((p1.size.1 + p2.size.1 + (0 : Int)) % 18446744073709551616), ck .u64 y1, ck .u64 p1.size.2.2.1, ck .u64 p1.size.2.2.2], .box [cb false, ck .u64 (0 : Int), ck .u64 (0 : Int), ck .u64 (0 : Int), ck .u64 (0 : Int)]] [] (by kernel_rfl) trivial ?_
      refine XO.done (by kernel_rfl) ?_
      refine hK26 _ _ ?_
      obtain ⟨g27, h⟩ := grd_some h
      refine XW.drwG 17 [2] [([], []), ([], []), ([0], []), ([0], []), ([0], []), ([], []), ([], []), ([], []), ([], []), ([], []), ([], []), ([], []), ([], []), ([], []), ([0], []), ([0], []), ([0], [0])] [(34, .one (.pt 0 0 0 3)), (33, .one (.pt 0 0 0 1)), (32, vk .u64 ((p1.size.2.2.1 + p2.size.2.2.1 + y2) / 18446744073709551616)), (31, vk .u64 ((p1.size.2.2.1 + p2.size.2.2.1 + y2) % 18446744073709551616)), (19, .tp [vk .u64 ((p1.size.2.2.1 + p2.size.2.2.1 + y2) % 18446744073709551616), vk .u64 ((p1.size.2.2.1 + p2.size.2.2.1 + y2) / 18446744073709551616)]), (30, .tp [vk .u64 ((p1.size.2.2.1 + p2.size.2.2.1 + y2) % 18446744073709551616), vk .u64 ((p1.size.2.2.1 + p2.size.2.2.1 + y2) / 18446744073709551616)]), (29, vk .u64 y2), (28, vk .u64 p2.size.2.2.1), (27, .one (.pv (.rp [[.s (.bool p2.neg), .s (.int .u64 p2.size.1), .s (.int .u64 p2.size.2.1), .s (.int .u64 p2.size.2.2.1), .s (.int .u64 p2.size.2.2.2)]] 0 3))), (26, .one (.pv (.rp [[.s (.bool p2.neg), .s (.int .u64 p2.size.1), .s (.int .u64 p2.size.2.1), .s (.int .u64 p2.size.2.2.1), .s (.int .u64 p2.size.2.2.2)]] 0 1))), (25, vi (2 : Int)), (24, vk .u64 p1.size.2.2.1), (23, .one (.pt 0 0 0 3)), (22, .one (.pt 0 0 0 1)), (21, vi (2 : Int)), (20, vi (2 : Int)), (2, .one (.pt 0 0 0 0)), (3, .one (.pv (.rp [[.s (.bool p2.neg), .s (.int .u64 p2.size.1), .s (.int .u64 p2.size.2.1), .s (.int .u64 p2.size.2.2.1), .s (.int .u64 p2.size.2.2.2)]] 0 0))), (4, .one (.pt 1 0 0 0)), (5, vk .u64 y2), (6, vi (2 : Int)), (16, vi (2 : Int))] [.box [cb p1.neg, ck .u64 ((p1.size.1 + p2.size.1 + (0 : Int)) % 18446744073709551616), ck .u64 y1, ck .u64 ((p1.size.2.2.1 + p2.size.2.2.1 + y2) % 18446744073709551616), ck .u64 p1.size.2.2.2], .box [cb false, ck .u64 (0 : Int), ck .u64 (0 : Int), ck .u64 (0 : Int), ck .u64 (0 : Int)]] (by kernel_rfl) (by kernel_rfl) ?_ ?_
      · refine GY.go 10 [[.s (.bool p2.neg), .s (.int .u64 p2.size.1), .s (.int .u64 p2.size.2.1), .s (.int .u64 p2.size.2.2.1), .s (.int .u64 p2.size.2.2.2)]] [(29, vk .u64 y2), (28, vk .u64 p2.size.2.2.1), (27, .one (.pv (.rp [[.s (.bool p2.neg), .s (.int .u64 p2.size.1), .s (.int .u64 p2.size.2.1), .s (.int .u64 p2.size.2.2.1), .s (.int .u64 p2.size.2.2.2)]] 0 3))), (26, .one (.pv (.rp [[.s (.bool p2.neg), .s (.int .u64 p2.size.1), .s (.int .u64 p2.size.2.1), .s (.int .u64 p2.size.2.2.1), .s (.int .u64 p2.size.2.2.2)]] 0 1))), (25, vi (2 : Int)), (24, vk .u64 p1.size.2.2.1), (23, .one (.pt 0 0 0 3)), (22, .one (.pt 0 0 0 1)), (21, vi (2 : Int)), (20, vi (2 : Int)), (2, .one (.pt 0 0 0 0)), (3, .one (.pv (.rp [[.s (.bool p2.neg), .s (.int .u64 p2.size.1), .s (.int .u64 p2.size.2.1), .s (.int .u64 p2.size.2.2.1), .s (.int .u64 p2.size.2.2.2)]] 0 0))), (4, .one (.pt 1 0 0 0)), (5, vk .u64 y2), (6, vi (2 : Int)), (16, vi (2 : Int))] [0 ≤ (2 : Int) ∧ (2 : Int) < 4, 0 ≤ (2 : Int) ∧ (2 : Int) < 4, ([[.s (.bool p2.neg), .s (.int .u64 p2.size.1), .s (.int .u64 p2.size.2.1), .s (.int .u64 p2.size.2.2.1), .s (.int .u64 p2.size.2.2.2)]] : List (List PV))[0]? = some [.s (.bool p2.neg), .s (.int .u64 p2.size.1), .s (.int .u64 p2.size.2.1), .s (.int .u64 p2.size.2.2.1), .s (.int .u64 p2.size.2.2.2)]] (by kernel_rfl) (⟨by decide, by decide, rfl, trivial⟩) ?_
        refine GY.ext 112 [.int .u64 p1.size.2.2.1, .int .u64 p2.size.2.2.1, .int .u64 y2] [.int .u64 ((p1.size.2.2.1 + p2.size.2.2.1 + y2) % 18446744073709551616), .int .u64 ((p1.size.2.2.1 + p2.size.2.2.1 + y2) / 18446744073709551616)] [(30, .tp [vk .u64 ((p1.size.2.2.1 + p2.size.2.2.1 + y2) % 18446744073709551616), vk .u64 ((p1.size.2.2.1 + p2.size.2.2.1 + y2) / 18446744073709551616)]), (29, vk .u64 y2), (28, vk .u64 p2.size.2.2.1), (27, .one (.pv (.rp [[.s (.bool p2.neg), .s (.int .u64 p2.size.1), .s (.int .u64 p2.size.2.1), .s (.int .u64 p2.size.2.2.1), .s (.int .u64 p2.size.2.2.2)]] 0 3))), (26, .one (.pv (.rp [[.s (.bool p2.neg), .s (.int .u64 p2.size.1), .s (.int .u64 p2.size.2.1), .s (.int .u64 p2.size.2.2.1), .s (.int .u64 p2.size.2.2.2)]] 0 1))), (25, vi (2 : Int)), (24, vk .u64 p1.size.2.2.1), (23, .one (.pt 0 0 0 3)), (22, .one (.pt 0 0 0 1)), (21, vi (2 : Int)), (20, vi (2 : Int)), (2, .one (.pt 0 0 0 0)), (3, .one (.pv (.rp [[.s (.bool p2.neg), .s (.int .u64 p2.size.1), .s (.int .u64 p2.size.2.1), .s (.int .u64 p2.size.2.2.1), .s (.int .u64 p2.size.2.2.2)]] 0 0))), (4, .one (.pt 1 0 0 0)), (5, vk .u64 y2), (6, vi (2 : Int)), (16, vi (2 : Int))] [] (by kernel_rfl) (by kernel_rfl) (ext_Add64 (fn := Try.f112) (by kernel_rfl) (by kernel_rfl) (by kernel_rfl) (by kernel_rfl) (by kernel_rfl) g27.1 g27.2.1 g27.2.2.1 g27.2.2.2) rfl (by kernel_rfl) (by kernel_rfl) (by kernel_rfl) ?_
        refine GY.go 5 [] [(34, .one (.pt 0 0 0 3)), (33, .one (.pt 0 0 0 1)), (32, vk .u64 ((p1.size.2.2.1 + p2.size.2.2.1 + y2) / 18446744073709551616)), (31, vk .u64 ((p1.size.2.2.1 + p2.size.2.2.1 + y2) % 18446744073709551616)), (19, .tp [vk .u64 ((p1.size.2.2.1 + p2.size.2.2.1 + y2) % 18446744073709551616), vk .u64 ((p1.size.2.2.1 + p2.size.2.2.1 + y2) / 18446744073709551616)]), (30, .tp [vk .u64 ((p1.size.2.2.1 + p2.size.2.2.1 + y2) % 18446744073709551616), vk .u64 ((p1.size.2.2.1 + p2.size.2.2.1 + y2) / 18446744073709551616)]), (29, vk .u64 y2), (28, vk .u64 p2.size.2.2.1), (27, .one (.pv (.rp [[.s (.bool p2.neg), .s (.int .u64 p2.size.1), .s (.int .u64 p2.size.2.1), .s (.int .u64 p2.size.2.2.1), .s (.int .u64 p2.size.2.2.2)]] 0 3))), (26, .one (.pv (.rp [[.s (.bool p2.neg), .s (.int .u64 p2.size.1), .s (.int .u64 p2.size.2.1), .s (.int .u64 p2.size.2.2.1), .s (.int .u64 p2.size.2.2.2)]] 0 1))), (25, vi (2 : Int)), (24, vk .u64 p1.size.2.2.1), (23, .one (.pt 0 0 0 3)), (22, .one (.pt 0 0 0 1)), (21, vi (2 : Int)), (20, vi (2 : Int)), (2, .one (.pt 0 0 0 0)), (3, .one (.pv (.rp [[.s (.bool p2.neg), .s (.int .u64 p2.size.1), .s (.int .u64 p2.size.2.1), .s (.int .u64 p2.size.2.2.1), .s (.int .u64 p2.size.2.2.2)]] 0 0))), (4, .one (.pt 1 0 0 0)), (5, vk .u64 y2), (6, vi (2 : Int)), (16, vi (2 : Int))] [0 ≤ (2 : Int) ∧ (2 : Int) < 4] (by kernel_rfl) (⟨by decide, trivial⟩) ?_
        refine GY.wr [] [(34, .one (.pt 0 0 0 3)), (33, .one (.pt 0 0 0 1)), (32, vk .u64 ((p1.size.2.2.1 + p2.size.2.2.1 + y2) / 18446744073709551616)), (31, vk .u64 ((p1.size.2.2.1 + p2.size.2.2.1 + y2) % 18446744073709551616)), (19, .tp [vk .u64 ((p1.size.2.2.1 + p2.size.2.2.1 + y2) % 18446744073709551616), vk .u64 ((p1.size.2.2.1 + p2.size.2.2.1 + y2) / 18446744073709551616)]), (30, .tp [vk .u64 ((p1.size.2.2.1 + p2.size.2.2.1 + y2) % 18446744073709551616), vk .u64 ((p1.size.2.2.1 + p2.size.2.2.1 + y2) / 18446744073709551616)]), (29, vk .u64 y2), (28, vk .u64 p2.size.2.2.1), (27, .one (.pv (.rp [[.s (.bool p2.neg), .s (.int .u64 p2.size.1), .s (.int .u64 p2.size.2.1), .s (.int .u64 p2.size.2.2.1), .s (.int .u64 p2.size.2.2.2)]] 0 3))), (26, .one (.pv (.rp [[.s (.bool p2.neg), .s (.int .u64 p2.size.1), .s (.int .u64 p2.size.2.1), .s (.int .u64 p2.size.2.2.1), .s (.int .u64 p2.size.2.2.2)]] 0 1))), (25, vi (2 : Int)), (24, vk .u64 p1.size.2.2.1), (23, .one (.pt 0 0 0 3)), (22, .one (.pt 0 0 0 1)), (21, vi (2 : Int)), (20, vi (2 : Int)), (2, .one (.pt 0 0 0 0)), (3, .one (.pv (.rp [[.s (.bool p2.neg), .s (.int .u64 p2.size.1), .s (.int .u64 p2.size.2.1), .s (.int .u64 p2.size.2.2.1), .s (.int .u64 p2.size.2.2.2)]] 0 0))), (4, .one (.pt 1 0 0 0)), (5, vk .u64 y2), (6, vi (2 : Int)), (16, vi (2 : Int))] [0] [.box [cb p1.neg, ck .u64 ((p1.size.1 + p2.size.1 + (0 : Int)) % 18446744073709551616), ck .u64 y1, ck .u64 ((p1.size.2.2.1 + p2.size.2.2.1 + y2) % 18446744073709551616), ck .u64 p1.size.2.2.2], .box [cb false, ck .u64 (0 : Int), ck .u64 (0 : Int), ck .u64 (0 : Int), ck .u64 (0 : Int)]] [] (by kernel_rfl) (by kernel_rfl) trivial ?_
        exact GY.done (by kernel_rfl) (by kernel_rfl)
      refine XO.go [2, 4] 1 [2,3,4,5,16] [] [(2, .one (.pt 0 0 0 0)), (3, .one (.pv (.rp [[.s (.bool p2.neg), .s (.int .u64 p2.size.1), .s (.int .u64 p2.size.2.1), .s (.int .u64 p2.size.2.2.1), .s (.int .u64 p2.size.2.2.2)]] 0 0))), (4, .one (.pt 1 0 0 0)), (5, vk .u64 ((p1.size.2.2.1 + p2.size.2.2.1 + y2) / 18446744073709551616)), (16, vi (2 : Int))] [.box [cb p1.neg, ck .u64 ((p1.size.1 + p2.size.1 + (0 : Int)) % 18446744073709551616), ck .u64 y1, ck .u64 ((p1.size.2.2.1 + p2.size.2.2.1 + y2) % 18446744073709551616), ck .u64 p1.size.2.2.2], .box [cb false, ck .u64 (0 : Int), ck .u64 (0 : Int), ck .u64 (0 : Int), ck .u64 (0 : Int)]] [] (by kernel_rfl) trivial ?_
      refine XO.done (by kernel_rfl) ?_
      refine hK25 _ _ ?_
      refine XW.reg (by kernel_rfl) ?_
      refine XO.go [2, 4] 2 [2,3,4,5,16] [] [(2, .one (.pt 0 0 0 0)), (3, .one (.pv (.rp [[.s (.bool p2.neg), .s (.int .u64 p2.size.1), .s (.int .u64 p2.size.2.1), .s (.int .u64 p2.size.2.2.1), .s (.int .u64 p2.size.2.2.2)]] 0 0))), (4, .one (.pt 1 0 0 0)), (5, vk .u64 ((p1.size.2.2.1 + p2.size.2.2.1 + y2) / 18446744073709551616)), (16, vi (3 : Int))] [.box [cb p1.neg, ck .u64 ((p1.size.1 + p2.size.1 + (0 : Int)) % 18446744073709551616), ck .u64 y1, ck .u64 ((p1.size.2.2.1 + p2.size.2.2.1 + y2) % 18446744073709551616), ck .u64 p1.size.2.2.2], .box [cb false, ck .u64 (0 : Int), ck .u64 (0 : Int), ck .u64 (0 : Int), ck .u64 (0 : Int)]] [] (by kernel_rfl) trivial ?_
      refine XO.done (by kernel_rfl) ?_
      refine XR.one ?_
      refine XW.seq (x := cd Try.f100 [1,1,1,0,1,0,0,0]) (y := cd Try.f100 [1,1,1,0,1,0,0,1]) (by kernel_rfl) fun K28 hK28 => ?_
      refine XW.reg (by kernel_rfl) ?_
      refine XO.go [2, 4] 1 [2,3,4,5,16,17] [] [(2, .one (.pt 0 0 0 0)), (3, .one (.pv (.rp [[.s (.bool p2.neg), .s (.int .u64 p2.size.1), .s (.int .u64 p2.size.2.1), .s (.int .u64 p2.size.2.2.1), .s (.int .u64 p2.size.2.2.2)]] 0 0))), (4, .one (.pt 1 0 0 0)), (5, vk .u64 ((p1.size.2.2.1 + p2.size.2.2.1 + y2) / 18446744073709551616)), (16, vi (3 : Int)), (17, vb true)] [.box [cb p1.neg, ck .u64 ((p1.size.1 + p2.size.1 + (0 : Int)) % 18446744073709551616), ck .u64 y1, ck .u64 ((p1.size.2.2.1 + p2.size.2.2.1 + y2) % 18446744073709551616), ck .u64 p1.size.2.2.2], .box [cb false, ck .u64 (0 : Int), ck .u64 (0 : Int), ck .u64 (0 : Int), ck .u64 (0 : Int)]] [] (by kernel_rfl) trivial ?_
      refine XO.done (by kernel_rfl) ?_
      refine hK28 _ _ ?_
      refine XW.seq (x := cd Try.f100 [1,1,1,0,1,0,0,1,0]) (y := cd Try.f100 [1,1,1,0,1,0,0,1,1]) (by kernel_rfl) fun K29 hK29 => ?_
      refine XW.cond (x := .tmp 17) (a := cd Try.f100 [1,1,1,0,1,0,0,1,0,0]) (b := cd Try.f100 [1,1,1,0,1,0,0,1,0,1]) (t := true) (by kernel_rfl) (by kernel_rfl) (fun _ => ?_) (fun hx => by cases hx)
      refine XW.skip (by kernel_rfl) ?_
      refine hK29 _ _ ?_
      refine XW.seq (x := cd Try.f100 [1,1,1,0,1,0,0,1,1,0]) (y := cd Try.f100 [1,1,1,0,1,0,0,1,1,1]) (by kernel_rfl) fun K30 hK30 => ?_
      refine XW.block (id := 1) (x := cd Try.f100 [1,1,1,0,1,0,0,1,1,0,0]) (by kernel_rfl) ?_
      refine XW.seq (x := cd Try.f100 [1,1,1,0,1,0,0,1,1,0,0,0]) (y := cd Try.f100 [1,1,1,0,1,0,0,1,1,0,0,1]) (by kernel_rfl) fun K31 hK31 => ?_
      refine XW.reg (by kernel_rfl) ?_
      refine XO.go [2, 4] 2 [2,3,4,5,6,16] [] [(2, .one (.pt 0 0 0 0)), (3, .one (.pv (.rp [[.s (.bool p2.neg), .s (.int .u64 p2.size.1), .s (.int .u64 p2.size.2.1), .s (.int .u64 p2.size.2.2.1), .s (.int .u64 p2.size.2.2.2)]] 0 0))), (4, .one (.pt 1 0 0 0)), (5, vk .u64 ((p1.size.2.2.1 + p2.size.2.2.1 + y2) / 18446744073709551616)), (6, vi (3 : Int)), (16, vi (3 : Int))] [.box [cb p1.neg, ck .u64 ((p1.size.1 + p2.size.1 + (0 : Int)) % 18446744073709551616), ck .u64 y1, ck .u64 ((p1.size.2.2.1 + p2.size.2.2.1 + y2) % 18446744073709551616), ck .u64 p1.size.2.2.2], .box [cb false, ck .u64 (0 : Int), ck .u64 (0 : Int), ck .u64 (0 : Int), ck .u64 (0 : Int)]] [] (by kernel_rfl) trivial ?_
      refine XO.done (by kernel_rfl) ?_
      refine hK31 _ _ ?_
      obtain ⟨g32, h⟩ := grd_some h
      obtain ⟨y3, y33, h⟩ := bnd_some h
      obtain ⟨y4, y34, h⟩ := bnd_some h
      refine XW.drwG 17 [2] [([], []), ([], []), ([0], []), ([0], []), ([0], []), ([], []), ([], []), ([], []), ([], []), ([], []), ([], []), ([], []), ([], []), ([], []), ([0], []), ([0], []), ([0], [0])] [(34, .one (.pt 0 0 0 4)), (33, .one (.pt 0 0 0 1)), (32, vk .u64 y4), (31, vk .u64 y3), (19, .tp [vk .u64 y3, vk .u64 y4]), (30, .tp [vk .u64 y3, vk .u64 y4]), (29, vk .u64 ((p1.size.2.2.1 + p2.size.2.2.1 + y2) / 18446744073709551616)), (28, vk .u64 p2.size.2.2.2), (27, .one (.pv (.rp [[.s (.bool p2.neg), .s (.int .u64 p2.size.1), .s (.int .u64 p2.size.2.1), .s (.int .u64 p2.size.2.2.1), .s (.int .u64 p2.size.2.2.2)]] 0 4))), (26, .one (.pv (.rp [[.s (.bool p2.neg), .s (.int .u64 p2.size.1), .s (.int .u64 p2.size.2.1), .s (.int .u64 p2.size.2.2.1), .s (.int .u64 p2.size.2.2.2)]] 0 1))), (25, vi (3 : Int)), (24, vk .u64 p1.size.2.2.2), (23, .one (.pt 0 0 0 4)), (22, .one (.pt 0 0 0 1)), (21, vi (3 : Int)), (20, vi (3 : Int)), (2, .one (.pt 0 0 0 0)), (3, .one (.pv (.rp [[.s (.bool p2.neg), .s (.int .u64 p2.size.1), .s (.int .u64 p2.size.2.1), .s (.int .u64 p2.size.2.2.1), .s (.int .u64 p2.size.2.2.2)]] 0 0))), (4, .one (.pt 1 0 0 0)), (5, vk .u64 ((p1.size.2.2.1 + p2.size.2.2.1 + y2) / 18446744073709551616)), (6, vi (3 : Int)), (16, vi (3 : Int))] [.box [cb p1.neg, ck .u64 ((p1.size.1 + p2.size.1 + (0 : Int)) % 18446744073709551616), ck .u64 y1, ck .u64 ((p1.size.2.2.1 + p2.size.2.2.1 + y2) % 18446744073709551616), ck .u64 y3], .box [cb false, ck .u64 (0 : Int), ck .u64 (0 : Int), ck .u64 (0 : Int), ck .u64 (0 : Int)]] (by kernel_rfl) (by kernel_rfl) ?_ ?_
      · refine GY.go 10 [[.s (.bool p2.neg), .s (.int .u64 p2.size.1), .s (.int .u64 p2.size.2.1), .s (.int .u64 p2.size.2.2.1), .s (.int .u64 p2.size.2.2.2)]] [(29, vk .u64 ((p1.size.2.2.1 + p2.size.2.2.1 + y2) / 18446744073709551616)), (28, vk .u64 p2.size.2.2.2), (27, .one (.pv (.rp [[.s (.bool p2.neg), .s (.int .u64 p2.size.1), .s (.int .u64 p2.size.2.1), .s (.int .u64 p2.size.2.2.1), .s (.int .u64 p2.size.2.2.2)]] 0 4))), (26, .one (.pv (.rp [[.s (.bool p2.neg), .s (.int .u64 p2.size.1), .s (.int .u64 p2.size.2.1), .s (.int .u64 p2.size.2.2.1), .s (.int .u64 p2.size.2.2.2)]] 0 1))), (25, vi (3 : Int)), (24, vk .u64 p1.size.2.2.2), (23, .one (.pt 0 0 0 4)), (22, .one (.pt 0 0 0 1)), (21, vi (3 : Int)), (20, vi (3 : Int)), (2, .one (.pt 0 0 0 0)), (3, .one (.pv (.rp [[.s (.bool p2.neg), .s (.int .u64 p2.size.1), .s (.int .u64 p2.size.2.1), .s (.int .u64 p2.size.2.2.1), .s (.int .u64 p2.size.2.2.2)]] 0 0))), (4, .one (.pt 1 0 0 0)), (5, vk .u64 ((p1.size.2.2.1 + p2.size.2.2.1 + y2) / 18446744073709551616)), (6, vi (3 : Int)), (16, vi (3 : Int))] [0 ≤ (3 : Int) ∧ (3 : Int) < 4, 0 ≤ (3 : Int) ∧ (3 : Int) < 4, ([[.s (.bool p2.neg), .s (.int .u64 p2.size.1), .s (.int .u64 p2.size.2.1), .s (.int .u64 p2.size.2.2.1), .s (.int .u64 p2.size.2.2.2)]] : List (List PV))[0]? = some [.s (.bool p2.neg), .s (.int .u64 p2.size.1), .s (.int .u64 p2.size.2.1), .s (.int .u64 p2.size.2.2.1), .s (.int .u64 p2.size.2.2.2)]] (by kernel_rfl) (⟨by decide, by decide, rfl, trivial⟩) ?_
        refine GY.ext 112 [.int .u64 p1.size.2.2.2, .int .u64 p2.size.2.2.2, .int .u64 ((p1.size.2.2.1 + p2.size.2.2.1 + y2) / 18446744073709551616)] [.int .u64 ((p1.size.2.2.2 + p2.size.2.2.2 + ((p1.size.2.2.1 + p2.size.2.2.1 + y2) / 18446744073709551616)) % 18446744073709551616), .int .u64 ((p1.size.2.2.2 + p2.size.2.2.2 + ((p1.size.2.2.1 + p2.size.2.2.1 + y2) / 18446744073709551616)) / 18446744073709551616)] [(30, .tp [vk .u64 ((p1.size.2.2.2 + p2.size.2.2.2 + ((p1.size.2.2.1 + p2.size.2.2.1 + y2) / 18446744073709551616)) % 18446744073709551616), vk .u64 ((p1.size.2.2.2 + p2.size.2.2.2 + ((p1.size.2.2.1 + p2.size.2.2.1 + y2) / 18446744073709551616)) / 18446744073709551616)]), (29, vk .u64 ((p1.size.2.2.1 + p2.size.2.2.1 + y2) / 18446744073709551616)), (28, vk .u64 p2.size.2.2.2), (27, .one (.pv (.rp [[.s (.bool p2.neg), .s (.int .u64 p2.size.1), .s (.int .u64 p2.size.2.1), .s (.int .u64 p2.size.2.2.1), .s (.int .u64 p2.size.2.2.2)]] 0 4))), (26, .one (.pv (.rp [[.s (.bool p2.neg), .s (.int .u64 p2.size.1), .s (.int .u64 p2.size.2.1), .s (.int .u64 p2.size.2.2.1), .s (.int .u64 p2.size.2.2.2)]] 0 1))), (25, vi (3 : Int)), (24, vk .u64 p1.size.2.2.2), (23, .one (.pt 0 0 0 4)), (22, .one (.pt 0 0 0 1)), (21, vi (3 : Int)), (20, vi (3 : Int)), (2, .one (.pt 0 0 0 0)), (3, .one (.pv (.rp [[.s (.bool p2.neg), .s (.int .u64 p2.size.1), .s (.int .u64 p2.size.2.1), .s (.int .u64 p2.size.2.2.1), .s (.int .u64 p2.size.2.2.2)]] 0 0))), (4, .one (.pt 1 0 0 0)), (5, vk .u64 ((p1.size.2.2.1 + p2.size.2.2.1 + y2) / 18446744073709551616)), (6, vi (3 : Int)), (16, vi (3 : Int))] [] (by kernel_rfl) (by kernel_rfl) (ext_Add64 (fn := Try.f112) (by kernel_rfl) (by kernel_rfl) (by kernel_rfl) (by kernel_rfl) (by kernel_rfl) g32.1 g32.2.1 g32.2.2.1 g32.2.2.2) rfl (by kernel_rfl) (by kernel_rfl) (by kernel_rfl) ?_
        refine GY.go 2 [] [(31, vk .u64 ((p1.size.2.2.2 + p2.size.2.2.2 + ((p1.size.2.2.1 + p2.size.2.2.1 + y2) / 18446744073709551616)) % 18446744073709551616)), (19, .tp [vk .u64 ((p1.size.2.2.2 + p2.size.2.2.2 + ((p1.size.2.2.1 + p2.size.2.2.1 + y2) / 18446744073709551616)) % 18446744073709551616), vk .u64 ((p1.size.2.2.2 + p2.size.2.2.2 + ((p1.size.2.2.1 + p2.size.2.2.1 + y2) / 18446744073709551616)) / 18446744073709551616)]), (30, .tp [vk .u64 ((p1.size.2.2.2 + p2.size.2.2.2 + ((p1.size.2.2.1 + p2.size.2.2.1 + y2) / 18446744073709551616)) % 18446744073709551616), vk .u64 ((p1.size.2.2.2 + p2.size.2.2.2 + ((p1.size.2.2.1 + p2.size.2.2.1 + y2) / 18446744073709551616)) / 18446744073709551616)]), (29, vk .u64 ((p1.size.2.2.1 + p2.size.2.2.1 + y2) / 18446744073709551616)), (28, vk .u64 p2.size.2.2.2), (27, .one (.pv (.rp [[.s (.bool p2.neg), .s (.int .u64 p2.size.1), .s (.int .u64 p2.size.2.1), .s (.int .u64 p2.size.2.2.1), .s (.int .u64 p2.size.2.2.2)]] 0 4))), (26, .one (.pv (.rp [[.s (.bool p2.neg), .s (.int .u64 p2.size.1), .s (.int .u64 p2.size.2.1), .s (.int .u64 p2.size.2.2.1), .s (.int .u64 p2.size.2.2.2)]] 0 1))), (25, vi (3 : Int)), (24, vk .u64 p1.size.2.2.2), (23, .one (.pt 0 0 0 4)), (22, .one (.pt 0 0 0 1)), (21, vi (3 : Int)), (20, vi (3 : Int)), (2, .one (.pt 0 0 0 0)), (3, .one (.pv (.rp [[.s (.bool p2.neg), .s (.int .u64 p2.size.1), .s (.int .u64 p2.size.2.1), .s (.int .u64 p2.size.2.2.1), .s (.int .u64 p2.size.2.2.2)]] 0 0))), (4, .one (.pt 1 0 0 0)), (5, vk .u64 ((p1.size.2.2.1 + p2.size.2.2.1 + y2) / 18446744073709551616)), (6, vi (3 : Int)), (16, vi (3 : Int))] [] (by kernel_rfl) trivial ?_
        rw [show ((p1.size.2.2.2 + p2.size.2.2.2 + ((p1.size.2.2.1 + p2.size.2.2.1 + y2) / 18446744073709551616)) % 18446744073709551616) = y3 from Option.some.inj y33]
        refine GY.go 1 [] [(32, vk .u64 ((p1.size.2.2.2 + p2.size.2.2.2 + ((p1.size.2.2.1 + p2.size.2.2.1 + y2) / 18446744073709551616)) / 18446744073709551616)), (31, vk .u64 y3), (19, .tp [vk .u64 y3, vk .u64 ((p1.size.2.2.2 + p2.size.2.2.2 + ((p1.size.2.2.1 + p2.size.2.2.1 + y2) / 18446744073709551616)) / 18446744073709551616)]), (30, .tp [vk .u64 y3, vk .u64 ((p1.size.2.2.2 + p2.size.2.2.2 + ((p1.size.2.2.1 + p2.size.2.2.1 + y2) / 18446744073709551616)) / 18446744073709551616)]), (29, vk .u64 ((p1.size.2.2.1 + p2.size.2.2.1 + y2) / 18446744073709551616)), (28, vk .u64 p2.size.2.2.2), (27, .one (.pv (.rp [[.s (.bool p2.neg), .s (.int .u64 p2.size.1), .s (.int .u64 p2.size.2.1), .s (.int .u64 p2.size.2.2.1), .s (.int .u64 p2.size.2.2.2)]] 0 4))), (26, .one (.pv (.rp [[.s (.bool p2.neg), .s (.int .u64 p2.size.1), .s (.int .u64 p2.size.2.1), .s (.int .u64 p2.size.2.2.1), .s (.int .u64 p2.size.2.2.2)]] 0 1))), (25, vi (3 : Int)), (24, vk .u64 p1.size.2.2.2), (23, .one (.pt 0 0 0 4)), (22, .one (.pt 0 0 0 1)), (21, vi (3 : Int)), (20, vi (3 : Int)), (2, .one (.pt 0 0 0 0)), (3, .one (.pv (.rp [[.s (.bool p2.neg), .s (.int .u64 p2.size.1), .s (.int .u64 p2.size.2.1), .s (.int .u64 p2.size.2.2.1), .s (.int .u64 p2.size.2.2.2)]] 0 0))), (4, .one (.pt 1 0 0 0)), (5, vk .u64 ((p1.size.2.2.1 + p2.size.2.2.1 + y2) / 18446744073709551616)), (6, vi (3 : Int)), (16, vi (3 : Int))] [] (by kernel_rfl) trivial ?_
        rw [show ((p1.size.2.2.2 + p2.size.2.2.2 + ((p1.size.2.2.1 + p2.size.2.2.1 + y2) / 18446744073709551616)) / 18446744073709551616) = y4 from Option.some.inj y34]
        refine GY.go 2 [] [(34, .one (.pt 0 0 0 4)), (33, .one (.pt 0 0 0 1)), (32, vk .u64 y4), (31, vk .u64 y3), (19, .tp [vk .u64 y3, vk .u64 y4]), (30, .tp [vk .u64 y3, vk .u64 y4]), (29, vk .u64 ((p1.size.2.2.1 + p2.size.2.2.1 + y2) / 18446744073709551616)), (28, vk .u64 p2.size.2.2.2), (27, .one (.pv (.rp [[.s (.bool p2.neg), .s (.int .u64 p2.size.1), .s (.int .u64 p2.size.2.1), .s (.int .u64 p2.size.2.2.1), .s (.int .u64 p2.size.2.2.2)]] 0 4))), (26, .one (.pv (.rp [[.s (.bool p2.neg), .s (.int .u64 p2.size.1), .s (.int .u64 p2.size.2.1), .s (.int .u64 p2.size.2.2.1), .s (.int .u64 p2.size.2.2.2)]] 0 1))), (25, vi (3 : Int)), (24, vk .u64 p1.size.2.2.2), (23, .one (.pt 0 0 0 4)), (22, .one (.pt 0 0 0 1)), (21, vi (3 : Int)), (20, vi (3 : Int)), (2, .one (.pt 0 0 0 0)), (3, .one (.pv (.rp [[.s (.bool p2.neg), .s (.int .u64 p2.size.1), .s (.int .u64 p2.size.2.1), .s (.int .u64 p2.size.2.2.1), .s (.int .u64 p2.size.2.2.2)]] 0 0))), (4, .one (.pt 1 0 0 0)), (5, vk .u64 ((p1.size.2.2.1 + p2.size.2.2.1 + y2) / 18446744073709551616)), (6, vi (3 : Int)), (16, vi (3 : Int))] [0 ≤ (3 : Int) ∧ (3 : Int) < 4] (by kernel_rfl) (⟨by decide, trivial⟩) ?_
        refine GY.wr [] [(34, .one (.pt 0 0 0 4)), (33, .one (.pt 0 0 0 1)), (32, vk .u64 y4), (31, vk .u64 y3), (19, .tp [vk .u64 y3, vk .u64 y4]), (30, .tp [vk .u64 y3, vk .u64 y4]), (29, vk .u64 ((p1.size.2.2.1 + p2.size.2.2.1 + y2) / 18446744073709551616)), (28, vk .u64 p2.size.2.2.2), (27, .one (.pv (.rp [[.s (.bool p2.neg), .s (.int .u64 p2.size.1), .s (.int .u64 p2.size.2.1), .s (.int .u64 p2.size.2.2.1), .s (.int .u64 p2.size.2.2.2)]] 0 4))), (26, .one (.pv (.rp [[.s (.bool p2.neg), .s (.int .u64 p2.size.1), .s (.int .u64 p2.size.2.1), .s (.int .u64 p2.size.2.2.1), .s (.int .u64 p2.size.2.2.2)]] 0 1))), (25, vi (3 : Int)), (24, vk .u64 p1.size.2.2.2), (23, .one (.pt 0 0 0 4)), (22, .one (.pt 0 0 0 1)), (21, vi (3 : Int)), (20, vi (3 : Int)), (2, .one (.pt 0 0 0 0)), (3, .one (.pv (.rp [[.s (.bool p2.neg), .s (.int .u64 p2.size.1), .s (.int .u64 p2.size.2.1), .s (.int .u64 p2.size.2.2.1), .s (.int .u64 p2.size.2.2.2)]] 0 0))), (4, .one (.pt 1 0 0 0)), (5, vk .u64 ((p1.size.2.2.1 + p2.size.2.2.1 + y2) / 18446744073709551616)), (6, vi (3 : Int)), (16, vi (3 : Int))] [0] [.box [cb p1.neg, ck .u64 ((p1.size.1 + p2.size.1 + (0 : Int)) % 18446744073709551616), ck .u64 y1, ck .u64 ((p1.size.2.2.1 + p2.size.2.2.1 + y2) % 18446744073709551616), ck .u64 y3], .box [cb false, ck .u64 (0 : Int), ck .u64 (0 : Int), ck .u64 (0 : Int), ck .u64 (0 : Int)]] [] (by kernel_rfl) (by kernel_rfl) trivial ?_
        exact GY.done (by kernel_rfl) (by kernel_rfl)
      refine XO.go [2, 4] 1 [2,3,4,5,16] [] [(2, .one (.pt 0 0 0 0)), (3, .one (.pv (.rp [[.s (.bool p2.neg), .s (.int .u64 p2.size.1), .s (.int .u64 p2.size.2.1), .s (.int .u64 p2.size.2.2.1), .s (.int .u64 p2.size.2.2.2)]] 0 0))), (4, .one (.pt 1 0 0 0)), (5, vk .u64 y4), (16, vi (3 : Int))] [.box [cb p1.neg, ck .u64 ((p1.size.1 + p2.size.1 + (0 : Int)) % 18446744073709551616), ck .u64 y1, ck .u64 ((p1.size.2.2.1 + p2.size.2.2.1 + y2) % 18446744073709551616), ck .u64 y3], .box [cb false, ck .u64 (0 : Int), ck .u64 (0 : Int), ck .u64 (0 : Int), ck .u64 (0 : Int)]] [] (by kernel_rfl) trivial ?_
      refine XO.done (by kernel_rfl) ?_
      refine hK30 _ _ ?_
      refine XW.reg (by kernel_rfl) ?_
      refine XO.go [2, 4] 2 [2,3,4,5,16] [] [(2, .one (.pt 0 0 0 0)), (3, .one (.pv (.rp [[.s (.bool p2.neg), .s (.int .u64 p2.size.1), .s (.int .u64 p2.size.2.1), .s (.int .u64 p2.size.2.2.1), .s (.int .u64 p2.size.2.2.2)]] 0 0))), (4, .one (.pt 1 0 0 0)), (5, vk .u64 y4), (16, vi (4 : Int))] [.box [cb p1.neg, ck .u64 ((p1.size.1 + p2.size.1 + (0 : Int)) % 18446744073709551616), ck .u64 y1, ck .u64 ((p1.size.2.2.1 + p2.size.2.2.1 + y2) % 18446744073709551616), ck .u64 y3], .box [cb false, ck .u64 (0 : Int), ck .u64 (0 : Int), ck .u64 (0 : Int), ck .u64 (0 : Int)]] [] (by kernel_rfl) trivial ?_
      refine XO.done (by kernel_rfl) ?_
      refine XR.one ?_
      refine XW.seq (x := cd Try.f100 [1,1,1,0,1,0,0,0]) (y := cd Try.f100 [1,1,1,0,1,0,0,1]) (by kernel_rfl) fun K35 hK35 => ?_
      refine XW.reg (by kernel_rfl) ?_
      refine XO.go [2, 4] 1 [2,3,4,5,16,17] [] [(2, .one (.pt 0 0 0 0)), (3, .one (.pv (.rp [[.s (.bool p2.neg), .s (.int .u64 p2.size.1), .s (.int .u64 p2.size.2.1), .s (.int .u64 p2.size.2.2.1), .s (.int .u64 p2.size.2.2.2)]] 0 0))), (4, .one (.pt 1 0 0 0)), (5, vk .u64 y4), (16, vi (4 : Int)), (17, vb false)] [.box [cb p1.neg, ck .u64 ((p1.size.1 + p2.size.1 + (0 : Int)) % 18446744073709551616), ck .u64 y1, ck .u64 ((p1.size.2.2.1 + p2.size.2.2.1 + y2) % 18446744073709551616), ck .u64 y3], .box [cb false, ck .u64 (0 : Int), ck .u64 (0 : Int), ck .u64 (0 : Int), ck .u64 (0 : Int)]] [] (by kernel_rfl) trivial ?_
      refine XO.done (by kernel_rfl) ?_
      refine hK35 _ _ ?_
      refine XW.seq (x := cd Try.f100 [1,1,1,0,1,0,0,1,0]) (y := cd Try.f100 [1,1,1,0,1,0,0,1,1]) (by kernel_rfl) fun K36 hK36 => ?_
      refine XW.cond (x := .tmp 17) (a := cd Try.f100 [1,1,1,0,1,0,0,1,0,0]) (b := cd Try.f100 [1,1,1,0,1,0,0,1,0,1]) (t := false) (by kernel_rfl) (by kernel_rfl) (fun hx => by cases hx) (fun _ => ?_)
      refine XW.exit (id := 0) (by kernel_rfl) ?_
      refine hQ1 _ _ _ ?_
      refine hK9 _ _ ?_
      refine XW.seq (x := cd Try.f100 [1,1,1,1,0]) (y := cd Try.f100 [1,1,1,1,1]) (by kernel_rfl) fun K37 hK37 => ?_
      refine XW.reg (by kernel_rfl) ?_
      refine XO.go [2, 4] 2 [4] [] [(4, .one (.pt 1 0 0 0))] [.box [cb p1.neg, ck .u64 ((p1.size.1 + p2.size.1 + (0 : Int)) % 18446744073709551616), ck .u64 y1, ck .u64 ((p1.size.2.2.1 + p2.size.2.2.1 + y2) % 18446744073709551616), ck .u64 y3], .box [cb p1.neg, ck .u64 ((p1.size.1 + p2.size.1 + (0 : Int)) % 18446744073709551616), ck .u64 y1, ck .u64 ((p1.size.2.2.1 + p2.size.2.2.1 + y2) % 18446744073709551616), ck .u64 y3]] [] (by kernel_rfl) trivial ?_
      refine XO.done (by kernel_rfl) ?_
      refine hK37 _ _ ?_
      refine XW.ret (by kernel_rfl) ?_
      obtain rfl := Option.some.inj h
      exact FinP.fin (.inr rfl) [] [.ag [cb p1.neg, ck .u64 ((p1.size.1 + p2.size.1 + (0 : Int)) % 18446744073709551616), ck .u64 y1, ck .u64 ((p1.size.2.2.1 + p2.size.2.2.1 + y2) % 18446744073709551616), ck .u64 y3]] [] (by kernel_rfl) trivial (.ag (.cons (.rfl _ rfl) (.cons (.rfl _ rfl) (.cons (.rfl _ rfl) (.cons (.rfl _ rfl) (.cons (.rfl _ rfl) .nil))))))

end

def value_wide_zero (p1 : GWide) : Option Bool :=
    bnd (some ((p1.size.1 == (0 : Int)) && ((p1.size.2.1 == (0 : Int)) && ((p1.size.2.2.1 == (0 : Int)) && ((p1.size.2.2.2 == (0 : Int)) && true))))) fun y1 =>
    some y1


theorem c_value_wide_zero (p1 : GWide) (r : Bool) (h : value_wide_zero p1 = some r) : PC Try.prog 86 [.ag [cb p1.neg, ck .u64 p1.size.1, ck .u64 p1.size.2.1, ck .u64 p1.size.2.2.1, ck .u64 p1.size.2.2.2]] (vb r) := by
  unfold value_wide_zero at h
  refine PC.of (n := 7) (fn := Try.f86) (c := cd Try.f86 []) (by kernel_rfl) (by kernel_rfl) (by kernel_rfl) (Nat.le_of_ble_eq_true rfl) ?_
  refine XW.seq (x := cd Try.f86 [0]) (y := cd Try.f86 [1]) (by kernel_rfl) fun K1 hK1 => ?_
  refine XW.reg (by kernel_rfl) ?_
  refine XO.go [] 2 [1] [] [(1, .one (.pv (.rp [[.s (.bool p1.neg), .s (.int .u64 p1.size.1), .s (.int .u64 p1.size.2.1), .s (.int .u64 p1.size.2.2.1), .s (.int .u64 p1.size.2.2.2)]] 0 0)))] [] [] (by kernel_rfl) trivial ?_
  refine XO.done (by kernel_rfl) ?_
  refine hK1 _ _ ?_
  refine XW.seq (x := cd Try.f86 [1,0]) (y := cd Try.f86 [1,1]) (by kernel_rfl) fun K2 hK2 => ?_
  obtain ⟨y1, y3, h⟩ := bnd_some h
  refine XW.reg (by kernel_rfl) ?_
  refine XO.go [] 4 [6] [[.s (.bool p1.neg), .s (.int .u64 p1.size.1), .s (.int .u64 p1.size.2.1), .s (.int .u64 p1.size.2.2.1), .s (.int .u64 p1.size.2.2.2)]] [(6, vb ((p1.size.1 == (0 : Int)) && ((p1.size.2.1 == (0 : Int)) && ((p1.size.2.2.1 == (0 : Int)) && ((p1.size.2.2.2 == (0 : Int)) && true)))))] [] [([[.s (.bool p1.neg), .s (.int .u64 p1.size.1), .s (.int .u64 p1.size.2.1), .s (.int .u64 p1.size.2.2.1), .s (.int .u64 p1.size.2.2.2)]] : List (List PV))[0]? = some [.s (.bool p1.neg), .s (.int .u64 p1.size.1), .s (.int .u64 p1.size.2.1), .s (.int .u64 p1.size.2.2.1), .s (.int .u64 p1.size.2.2.2)]] (by kernel_rfl) (⟨rfl, trivial⟩) ?_
  rw [show ((p1.size.1 == (0 : Int)) && ((p1.size.2.1 == (0 : Int)) && ((p1.size.2.2.1 == (0 : Int)) && ((p1.size.2.2.2 == (0 : Int)) && true)))) = y1 from Option.some.inj y3]
  refine XO.go [] 1 [2] [] [(2, vb y1)] [] [] (by kernel_rfl) trivial ?_
  refine XO.done (by kernel_rfl) ?_
  refine hK2 _ _ ?_
  refine XW.ret (by kernel_rfl) ?_
  obtain rfl := Option.some.inj h
  exact FinP.fin (.inr rfl) [] [vb y1] [] (by kernel_rfl) trivial (.one (.rfl _ rfl))

def value_wide_compare (p1 : GWide) (p2 : GWide) : Option Int :=
    bnd (value_wide_minus BIG (GWide.mk p1.neg (p1.size.1, p1.size.2.1, p1.size.2.2.1, p1.size.2.2.2)) (GWide.mk p2.neg (p2.size.1, p2.size.2.1, p2.size.2.2.1, p2.size.2.2.2))) fun r1 =>
    bnd (value_wide_zero (GWide.mk r1.neg (r1.size.1, r1.size.2.1, r1.size.2.2.1, r1.size.2.2.2))) fun r2 =>
    ift r2
      (some (0 : Int))
      (ift r1.neg
         (some (-1 : Int))
         (some (1 : Int)))


theorem c_value_wide_compare (p1 : GWide) (p2 : GWide) (r : Int) (h : value_wide_compare p1 p2 = some r) : PC Try.prog 52 [.ag [cb p1.neg, ck .u64 p1.size.1, ck .u64 p1.size.2.1, ck .u64 p1.size.2.2.1, ck .u64 p1.size.2.2.2], .ag [cb p2.neg, ck .u64 p2.size.1, ck .u64 p2.size.2.1, ck .u64 p2.size.2.2.1, ck .u64 p2.size.2.2.2]] (vi r) := by
  unfold value_wide_compare at h
  refine PC.of (n := 15) (fn := Try.f52) (c := cd Try.f52 []) (by kernel_rfl) (by kernel_rfl) (by kernel_rfl) (Nat.le_of_ble_eq_true rfl) ?_
  refine XW.seq (x := cd Try.f52 [0]) (y := cd Try.f52 [1]) (by kernel_rfl) fun K1 hK1 => ?_
  refine XW.reg (by kernel_rfl) ?_
  refine XO.go [5] 3 [2,3] [] [(2, .one (.pv (.rp [[.s (.bool p1.neg), .s (.int .u64 p1.size.1), .s (.int .u64 p1.size.2.1), .s (.int .u64 p1.size.2.2.1), .s (.int .u64 p1.size.2.2.2)]] 0 0))), (3, .one (.pv (.rp [[.s (.bool p2.neg), .s (.int .u64 p2.size.1), .s (.int .u64 p2.size.2.1), .s (.int .u64 p2.size.2.2.1), .s (.int .u64 p2.size.2.2.2)]] 0 0)))] [] [] (by kernel_rfl) trivial ?_
  refine XO.done (by kernel_rfl) ?_
  refine hK1 _ _ ?_
  refine XW.seq (x := cd Try.f52 [1,0]) (y := cd Try.f52 [1,1]) (by kernel_rfl) fun K2 hK2 => ?_
  refine XW.seq (x := cd Try.f52 [1,0,0]) (y := cd Try.f52 [1,0,1]) (by kernel_rfl) fun K3 hK3 => ?_
  obtain ⟨r1, c4, h⟩ := bnd_some h
  refine XW.reg (by kernel_rfl) ?_
  refine XO.go [5] 2 [6,7] [[.s (.bool p1.neg), .s (.int .u64 p1.size.1), .s (.int .u64 p1.size.2.1), .s (.int .u64 p1.size.2.2.1), .s (.int .u64 p1.size.2.2.2)], [.s (.bool p2.neg), .s (.int .u64 p2.size.1), .s (.int .u64 p2.size.2.1), .s (.int .u64 p2.size.2.2.1), .s (.int .u64 p2.size.2.2.2)]] [(6, .ag [cb p1.neg, ck .u64 p1.size.1, ck .u64 p1.size.2.1, ck .u64 p1.size.2.2.1, ck .u64 p1.size.2.2.2]), (7, .ag [cb p2.neg, ck .u64 p2.size.1, ck .u64 p2.size.2.1, ck .u64 p2.size.2.2.1, ck .u64 p2.size.2.2.2])] [] [([[.s (.bool p1.neg), .s (.int .u64 p1.size.1), .s (.int .u64 p1.size.2.1), .s (.int .u64 p1.size.2.2.1), .s (.int .u64 p1.size.2.2.2)]] : List (List PV))[0]? = some [.s (.bool p1.neg), .s (.int .u64 p1.size.1), .s (.int .u64 p1.size.2.1), .s (.int .u64 p1.size.2.2.1), .s (.int .u64 p1.size.2.2.2)], ([[.s (.bool p2.neg), .s (.int .u64 p2.size.1), .s (.int .u64 p2.size.2.1), .s (.int .u64 p2.size.2.2.1), .s (.int .u64 p2.size.2.2.2)]] : List (List PV))[0]? = some [.s (.bool p2.neg), .s (.int .u64 p2.size.1), .s (.int .u64 p2.size.2.1), .s (.int .u64 p2.size.2.2.1), .s (.int .u64 p2.size.2.2.2)]] (by kernel_rfl) (⟨rfl, rfl, trivial⟩) ?_
  refine XO.cal 85 [.ag [cb p1.neg, ck .u64 p1.size.1, ck .u64 p1.size.2.1, ck .u64 p1.size.2.2.1, ck .u64 p1.size.2.2.2], .ag [cb p2.neg, ck .u64 p2.size.1, ck .u64 p2.size.2.1, ck .u64 p2.size.2.2.1, ck .u64 p2.size.2.2.2]] (.ag [cb r1.neg, ck .u64 r1.size.1, ck .u64 r1.size.2.1, ck .u64 r1.size.2.2.1, ck .u64 r1.size.2.2.2]) [(8, .ag [cb r1.neg, ck .u64 r1.size.1, ck .u64 r1.size.2.1, ck .u64 r1.size.2.2.1, ck .u64 r1.size.2.2.2]), (6, .ag [cb p1.neg, ck .u64 p1.size.1, ck .u64 p1.size.2.1, ck .u64 p1.size.2.2.1, ck .u64 p1.size.2.2.2]), (7, .ag [cb p2.neg, ck .u64 p2.size.1, ck .u64 p2.size.2.1, ck .u64 p2.size.2.2.1, ck .u64 p2.size.2.2.2])] (by kernel_rfl) (c_value_wide_minus BIG _ _ _ c4) rfl rfl (by kernel_rfl) ?_
  refine XO.go [5] 2 [5] [] [(5, .one (.pt 0 0 0 0))] [.box [cb r1.neg, ck .u64 r1.size.1, ck .u64 r1.size.2.1, ck .u64 r1.size.2.2.1, ck .u64 r1.size.2.2.2]] [] (by kernel_rfl) trivial ?_
  refine XO.done (by kernel_rfl) ?_
  refine hK3 _ _ ?_
  refine XW.block (id := 0) (x := cd Try.f52 [1,0,1,0]) (by kernel_rfl) ?_
  refine XW.seq (x := cd Try.f52 [1,0,1,0,0]) (y := cd Try.f52 [1,0,1,0,1]) (by kernel_rfl) fun K5 hK5 => ?_
  obtain ⟨r2, c6, h⟩ := bnd_some h
  refine XW.reg (by kernel_rfl) ?_
  refine XO.go [5] 1 [5,10] [] [(5, .one (.pt 0 0 0 0)), (10, .ag [cb r1.neg, ck .u64 r1.size.1, ck .u64 r1.size.2.1, ck .u64 r1.size.2.2.1, ck .u64 r1.size.2.2.2])] [.box [cb r1.neg, ck .u64 r1.size.1, ck .u64 r1.size.2.1, ck .u64 r1.size.2.2.1, ck .u64 r1.size.2.2.2]] [] (by kernel_rfl) trivial ?_
  refine XO.cal 86 [.ag [cb r1.neg, ck .u64 r1.size.1, ck .u64 r1.size.2.1, ck .u64 r1.size.2.2.1, ck .u64 r1.size.2.2.2]] (vb r2) [(11, vb r2), (5, .one (.pt 0 0 0 0)), (10, .ag [cb r1.neg, ck .u64 r1.size.1, ck .u64 r1.size.2.1, ck .u64 r1.size.2.2.1, ck .u64 r1.size.2.2.2])] (by kernel_rfl) (c_value_wide_zero _ _ c6) rfl rfl (by kernel_rfl) ?_
  refine XO.go [5] 1 [5,9] [] [(5, .one (.pt 0 0 0 0)), (9, vb r2)] [.box [cb r1.neg, ck .u64 r1.size.1, ck .u64 r1.size.2.1, ck .u64 r1.size.2.2.1, ck .u64 r1.size.2.2.2]] [] (by kernel_rfl) trivial ?_
  refine XO.done (by kernel_rfl) ?_
  refine hK5 _ _ ?_
  refine XW.cond (x := .tmp 9) (a := cd Try.f52 [1,0,1,0,1,0]) (b := cd Try.f52 [1,0,1,0,1,1]) (t := r2) (by kernel_rfl) (by kernel_rfl) (fun b7 => ?_) (fun b7 => ?_)
  · have h := ift_t b7 h
    refine XW.seq (x := cd Try.f52 [1,0,1,0,1,0,0]) (y := cd Try.f52 [1,0,1,0,1,0,1]) (by kernel_rfl) fun K8 hK8 => ?_
    refine XW.reg (by kernel_rfl) ?_
    refine XO.go [5] 1 [4] [] [(4, vi (0 : Int))] [.box [cb r1.neg, ck .u64 r1.size.1, ck .u64 r1.size.2.1, ck .u64 r1.size.2.2.1, ck .u64 r1.size.2.2.2]] [] (by kernel_rfl) trivial ?_
    refine XO.done (by kernel_rfl) ?_
    refine hK8 _ _ ?_
    refine XW.ret (by kernel_rfl) ?_
    obtain rfl := Option.some.inj h
    exact FinP.fin (.inr rfl) [] [vi (0 : Int)] [] (by kernel_rfl) trivial (.one (.rfl _ rfl))
  · have h := ift_f b7 h
    refine XW.seq (x := cd Try.f52 [1,0,1,0,1,1,0]) (y := cd Try.f52 [1,0,1,0,1,1,1]) (by kernel_rfl) fun K9 hK9 => ?_
    refine XW.reg (by kernel_rfl) ?_
    refine XO.go [5] 3 [12] [] [(12, vb r1.neg)] [.box [cb r1.neg, ck .u64 r1.size.1, ck .u64 r1.size.2.1, ck .u64 r1.size.2.2.1, ck .u64 r1.size.2.2.2]] [] (by kernel_rfl) trivial ?_
    refine XO.done (by kernel_rfl) ?_
    refine hK9 _ _ ?_
    refine XW.cond (x := .tmp 12) (a := cd Try.f52 [1,0,1,0,1,1,1,0]) (b := cd Try.f52 [1,0,1,0,1,1,1,1]) (t := r1.neg) (by kernel_rfl) (by kernel_rfl) (fun b10 => ?_) (fun b10 => ?_)
    · have h := ift_t b10 h
      refine XW.seq (x := cd Try.f52 [1,0,1,0,1,1,1,0,0]) (y := cd Try.f52 [1,0,1,0,1,1,1,0,1]) (by kernel_rfl) fun K11 hK11 => ?_
      refine XW.reg (by kernel_rfl) ?_
      refine XO.go [5] 1 [4] [] [(4, vi (-1 : Int))] [.box [cb r1.neg, ck .u64 r1.size.1, ck .u64 r1.size.2.1, ck .u64 r1.size.2.2.1, ck .u64 r1.size.2.2.2]] [] (by kernel_rfl) trivial ?_
      refine XO.done (by kernel_rfl) ?_
      refine hK11 _ _ ?_
      refine XW.ret (by kernel_rfl) ?_
      obtain rfl := Option.some.inj h
      exact FinP.fin (.inr rfl) [] [vi (-1 : Int)] [] (by kernel_rfl) trivial (.one (.rfl _ rfl))
    · have h := ift_f b10 h
      refine XW.skip (by kernel_rfl) ?_
      refine hK2 _ _ ?_
      refine XW.seq (x := cd Try.f52 [1,1,0]) (y := cd Try.f52 [1,1,1]) (by kernel_rfl) fun K12 hK12 => ?_
      refine XW.reg (by kernel_rfl) ?_
      refine XO.go [5] 1 [4] [] [(4, vi (1 : Int))] [.box [cb r1.neg, ck .u64 r1.size.1, ck .u64 r1.size.2.1, ck .u64 r1.size.2.2.1, ck .u64 r1.size.2.2.2]] [] (by kernel_rfl) trivial ?_
      refine XO.done (by kernel_rfl) ?_
      refine hK12 _ _ ?_
      refine XW.ret (by kernel_rfl) ?_
      obtain rfl := Option.some.inj h
      exact FinP.fin (.inr rfl) [] [vi (1 : Int)] [] (by kernel_rfl) trivial (.one (.rfl _ rfl))

def cmp_isNaN_string (p1 : ByteArray) : Option Bool :=
    some (!(p1.toList == p1.toList))


theorem c_cmp_isNaN_string (p1 : ByteArray) (r : Bool) (h : cmp_isNaN_string p1 = some r) : PC Try.prog 104 [vs p1] (vb r) := by
  unfold cmp_isNaN_string at h
  refine PC.of (n := 6) (fn := Try.f104) (c := cd Try.f104 []) (by kernel_rfl) (by kernel_rfl) (by kernel_rfl) (Nat.le_of_ble_eq_true rfl) ?_
  refine XW.seq (x := cd Try.f104 [0]) (y := cd Try.f104 [1]) (by kernel_rfl) fun K1 hK1 => ?_
  refine XW.reg (by kernel_rfl) ?_
  refine XO.go [] 1 [0] [] [(0, vs p1)] [] [] (by kernel_rfl) trivial ?_
  refine XO.done (by kernel_rfl) ?_
  refine hK1 _ _ ?_
  refine XW.seq (x := cd Try.f104 [1,0]) (y := cd Try.f104 [1,1]) (by kernel_rfl) fun K2 hK2 => ?_
  refine XW.reg (by kernel_rfl) ?_
  refine XO.go [] 4 [2] [] [(2, vb (!(p1.toList == p1.toList)))] [] [] (by kernel_rfl) trivial ?_
  refine XO.done (by kernel_rfl) ?_
  refine hK2 _ _ ?_
  refine XW.ret (by kernel_rfl) ?_
  obtain rfl := Option.some.inj h
  exact FinP.fin (.inr rfl) [] [vb (!(p1.toList == p1.toList))] [] (by kernel_rfl) trivial (.one (.rfl _ rfl))

def cmp_Compare_string (p1 : ByteArray) (p2 : ByteArray) : Option Int :=
    bnd (cmp_isNaN_string p1) fun r1 =>
    bnd (cmp_isNaN_string p2) fun r2 =>
    ift r1
      (ift r2
         (some (0 : Int))
         (some (-1 : Int)))
      (ift r2
         (some (1 : Int))
         (ift (Op.bytesLess p1.toList p2.toList)
            (some (-1 : Int))
            (ift (!(Op.bytesLess p1.toList p2.toList || p1.toList == p2.toList))
               (some (1 : Int))
               (some (0 : Int)))))


theorem c_cmp_Compare_string (p1 : ByteArray) (p2 : ByteArray) (r : Int) (h : cmp_Compare_string p1 p2 = some r) : PC Try.prog 87 [vs p1, vs p2] (vi r) := by
  unfold cmp_Compare_string at h
  refine PC.of (n := 20) (fn := Try.f87) (c := cd Try.f87 []) (by kernel_rfl) (by kernel_rfl) (by kernel_rfl) (Nat.le_of_ble_eq_true rfl) ?_
  refine XW.seq (x := cd Try.f87 [0]) (y := cd Try.f87 [1]) (by kernel_rfl) fun K1 hK1 => ?_
  refine XW.reg (by kernel_rfl) ?_
  refine XO.go [] 1 [0,1] [] [(0, vs p1), (1, vs p2)] [] [] (by kernel_rfl) trivial ?_
  refine XO.done (by kernel_rfl) ?_
  refine hK1 _ _ ?_
  refine XW.seq (x := cd Try.f87 [1,0]) (y := cd Try.f87 [1,1]) (by kernel_rfl) fun K2 hK2 => ?_
  obtain ⟨r1, c3, h⟩ := bnd_some h
  refine XW.reg (by kernel_rfl) ?_
  refine XO.go [] 1 [0,1,7] [] [(0, vs p1), (1, vs p2), (7, vs p1)] [] [] (by kernel_rfl) trivial ?_
  refine XO.cal 104 [vs p1] (vb r1) [(8, vb r1), (0, vs p1), (1, vs p2), (7, vs p1)] (by kernel_rfl) (c_cmp_isNaN_string _ _ c3) rfl rfl (by kernel_rfl) ?_
  refine XO.go [] 1 [0,1,5] [] [(0, vs p1), (1, vs p2), (5, vb r1)] [] [] (by kernel_rfl) trivial ?_
  refine XO.done (by kernel_rfl) ?_
  refine hK2 _ _ ?_
  refine XW.seq (x := cd Try.f87 [1,1,0]) (y := cd Try.f87 [1,1,1]) (by kernel_rfl) fun K4 hK4 => ?_
  obtain ⟨r2, c5, h⟩ := bnd_some h
  refine XW.reg (by kernel_rfl) ?_
  refine XO.go [] 1 [0,1,5,9] [] [(0, vs p1), (1, vs p2), (5, vb r1), (9, vs p2)] [] [] (by kernel_rfl) trivial ?_
  refine XO.cal 104 [vs p2] (vb r2) [(10, vb r2), (0, vs p1), (1, vs p2), (5, vb r1), (9, vs p2)] (by kernel_rfl) (c_cmp_isNaN_string _ _ c5) rfl rfl (by kernel_rfl) ?_
  refine XO.go [] 1 [0,1,5,6] [] [(0, vs p1), (1, vs p2), (5, vb r1), (6, vb r2)] [] [] (by kernel_rfl) trivial ?_
  refine XO.done (by kernel_rfl) ?_
  refine hK4 _ _ ?_
  refine XW.seq (x := cd Try.f87 [1,1,1,0]) (y := cd Try.f87 [1,1,1,1]) (by kernel_rfl) fun K6 hK6 => ?_
  refine XW.seq (x := cd Try.f87 [1,1,1,0,0]) (y := cd Try.f87 [1,1,1,0,1]) (by kernel_rfl) fun K7 hK7 => ?_
  refine XW.reg (by kernel_rfl) ?_
  refine XO.go [] 1 [0,1,6,11] [] [(0, vs p1), (1, vs p2), (6, vb r2), (11, vb r1)] [] [] (by kernel_rfl) trivial ?_
  refine XO.done (by kernel_rfl) ?_
  refine hK7 _ _ ?_
  refine XW.cond (x := .tmp 11) (a := cd Try.f87 [1,1,1,0,1,0]) (b := cd Try.f87 [1,1,1,0,1,1]) (t := r1) (by kernel_rfl) (by kernel_rfl) (fun b8 => ?_) (fun b8 => ?_)
  · have h := ift_t b8 h
    refine XW.seq (x := cd Try.f87 [1,1,1,0,1,0,0]) (y := cd Try.f87 [1,1,1,0,1,0,1]) (by kernel_rfl) fun K9 hK9 => ?_
    refine XW.seq (x := cd Try.f87 [1,1,1,0,1,0,0,0]) (y := cd Try.f87 [1,1,1,0,1,0,0,1]) (by kernel_rfl) fun K10 hK10 => ?_
    refine XW.reg (by kernel_rfl) ?_
    refine XO.go [] 1 [12] [] [(12, vb r2)] [] [] (by kernel_rfl) trivial ?_
    refine XO.done (by kernel_rfl) ?_
    refine hK10 _ _ ?_
    refine XW.cond (x := .tmp 12) (a := cd Try.f87 [1,1,1,0,1,0,0,1,0]) (b := cd Try.f87 [1,1,1,0,1,0,0,1,1]) (t := r2) (by kernel_rfl) (by kernel_rfl) (fun b11 => ?_) (fun b11 => ?_)
    · have h := ift_t b11 h
      refine XW.seq (x := cd Try.f87 [1,1,1,0,1,0,0,1,0,0]) (y := cd Try.f87 [1,1,1,0,1,0,0,1,0,1]) (by kernel_rfl) fun K12 hK12 => ?_
      refine XW.reg (by kernel_rfl) ?_
      refine XO.go [] 1 [4] [] [(4, vi (0 : Int))] [] [] (by kernel_rfl) trivial ?_
      refine XO.done (by kernel_rfl) ?_
      refine hK12 _ _ ?_
      refine XW.ret (by kernel_rfl) ?_
      obtain rfl := Option.some.inj h
      exact FinP.fin (.inr rfl) [] [vi (0 : Int)] [] (by kernel_rfl) trivial (.one (.rfl _ rfl))
    · have h := ift_f b11 h
      refine XW.skip (by kernel_rfl) ?_
      refine hK9 _ _ ?_
      refine XW.seq (x := cd Try.f87 [1,1,1,0,1,0,1,0]) (y := cd Try.f87 [1,1,1,0,1,0,1,1]) (by kernel_rfl) fun K13 hK13 => ?_
      refine XW.reg (by kernel_rfl) ?_
      refine XO.go [] 1 [4] [] [(4, vi (-1 : Int))] [] [] (by kernel_rfl) trivial ?_
      refine XO.done (by kernel_rfl) ?_
      refine hK13 _ _ ?_
      refine XW.ret (by kernel_rfl) ?_
      obtain rfl := Option.some.inj h
      exact FinP.fin (.inr rfl) [] [vi (-1 : Int)] [] (by kernel_rfl) trivial (.one (.rfl _ rfl))
  · have h := ift_f b8 h
    refine XW.skip (by kernel_rfl) ?_
    refine hK6 _ _ ?_
    refine XW.seq (x := cd Try.f87 [1,1,1,1,0]) (y := cd Try.f87 [1,1,1,1,1]) (by kernel_rfl) fun K14 hK14 => ?_
    refine XW.seq (x := cd Try.f87 [1,1,1,1,0,0]) (y := cd Try.f87 [1,1,1,1,0,1]) (by kernel_rfl) fun K15 hK15 => ?_
    refine XW.reg (by kernel_rfl) ?_
    refine XO.go [] 1 [0,1,13] [] [(0, vs p1), (1, vs p2), (13, vb r2)] [] [] (by kernel_rfl) trivial ?_
    refine XO.done (by kernel_rfl) ?_
    refine hK15 _ _ ?_
    refine XW.cond (x := .tmp 13) (a := cd Try.f87 [1,1,1,1,0,1,0]) (b := cd Try.f87 [1,1,1,1,0,1,1]) (t := r2) (by kernel_rfl) (by kernel_rfl) (fun b16 => ?_) (fun b16 => ?_)
    · have h := ift_t b16 h
      refine XW.seq (x := cd Try.f87 [1,1,1,1,0,1,0,0]) (y := cd Try.f87 [1,1,1,1,0,1,0,1]) (by kernel_rfl) fun K17 hK17 => ?_
      refine XW.reg (by kernel_rfl) ?_
      refine XO.go [] 1 [4] [] [(4, vi (1 : Int))] [] [] (by kernel_rfl) trivial ?_
      refine XO.done (by kernel_rfl) ?_
      refine hK17 _ _ ?_
      refine XW.ret (by kernel_rfl) ?_
      obtain rfl := Option.some.inj h
      exact FinP.fin (.inr rfl) [] [vi (1 : Int)] [] (by kernel_rfl) trivial (.one (.rfl _ rfl))
    · have h := ift_f b16 h
      refine XW.skip (by kernel_rfl) ?_
      refine hK14 _ _ ?_
      refine XW.seq (x := cd Try.f87 [1,1,1,1,1,0]) (y := cd Try.f87 [1,1,1,1,1,1]) (by kernel_rfl) fun K18 hK18 => ?_
      refine XW.seq (x := cd Try.f87 [1,1,1,1,1,0,0]) (y := cd Try.f87 [1,1,1,1,1,0,1]) (by kernel_rfl) fun K19 hK19 => ?_
      refine XW.reg (by kernel_rfl) ?_
      refine XO.go [] 3 [0,1,16] [] [(0, vs p1), (1, vs p2), (16, vb (Op.bytesLess p1.toList p2.toList))] [] [] (by kernel_rfl) trivial ?_
      refine XO.done (by kernel_rfl) ?_
      refine hK19 _ _ ?_
      refine XW.cond (x := .tmp 16) (a := cd Try.f87 [1,1,1,1,1,0,1,0]) (b := cd Try.f87 [1,1,1,1,1,0,1,1]) (t := (Op.bytesLess p1.toList p2.toList)) (by kernel_rfl) (by kernel_rfl) (fun b20 => ?_) (fun b20 => ?_)
      · have h := ift_t b20 h
        refine XW.seq (x := cd Try.f87 [1,1,1,1,1,0,1,0,0]) (y := cd Try.f87 [1,1,1,1,1,0,1,0,1]) (by kernel_rfl) fun K21 hK21 => ?_
        refine XW.reg (by kernel_rfl) ?_
        refine XO.go [] 1 [4] [] [(4, vi (-1 : Int))] [] [] (by kernel_rfl) trivial ?_
        refine XO.done (by kernel_rfl) ?_
        refine hK21 _ _ ?_
        refine XW.ret (by kernel_rfl) ?_
        obtain rfl := Option.some.inj h
        exact FinP.fin (.inr rfl) [] [vi (-1 : Int)] [] (by kernel_rfl) trivial (.one (.rfl _ rfl))
      · have h := ift_f b20 h
        refine XW.skip (by kernel_rfl) ?_
        refine hK18 _ _ ?_
        refine XW.seq (x := cd Try.f87 [1,1,1,1,1,1,0]) (y := cd Try.f87 [1,1,1,1,1,1,1]) (by kernel_rfl) fun K22 hK22 => ?_
        refine XW.seq (x := cd Try.f87 [1,1,1,1,1,1,0,0]) (y := cd Try.f87 [1,1,1,1,1,1,0,1]) (by kernel_rfl) fun K23 hK23 => ?_
        refine XW.reg (by kernel_rfl) ?_
        refine XO.go [] 3 [19] [] [(19, vb (!(Op.bytesLess p1.toList p2.toList || p1.toList == p2.toList)))] [] [] (by kernel_rfl) trivial ?_
        refine XO.done (by kernel_rfl) ?_
        refine hK23 _ _ ?_
        refine XW.cond (x := .tmp 19) (a := cd Try.f87 [1,1,1,1,1,1,0,1,0]) (b := cd Try.f87 [1,1,1,1,1,1,0,1,1]) (t := (!(Op.bytesLess p1.toList p2.toList || p1.toList == p2.toList))) (by kernel_rfl) (by kernel_rfl) (fun b24 => ?_) (fun b24 => ?_)
        · have h := ift_t b24 h
          refine XW.seq (x := cd Try.f87 [1,1,1,1,1,1,0,1,0,0]) (y := cd Try.f87 [1,1,1,1,1,1,0,1,0,1]) (by kernel_rfl) fun K25 hK25 => ?_
          refine XW.reg (by kernel_rfl) ?_
          refine XO.go [] 1 [4] [] [(4, vi (1 : Int))] [] [] (by kernel_rfl) trivial ?_
          refine XO.done (by kernel_rfl) ?_
          refine hK25 _ _ ?_
          refine XW.ret (by kernel_rfl) ?_
          obtain rfl := Option.some.inj h
          exact FinP.fin (.inr rfl) [] [vi (1 : Int)] [] (by kernel_rfl) trivial (.one (.rfl _ rfl))
        · have h := ift_f b24 h
          refine XW.skip (by kernel_rfl) ?_
          refine hK22 _ _ ?_
          refine XW.seq (x := cd Try.f87 [1,1,1,1,1,1,1,0]) (y := cd Try.f87 [1,1,1,1,1,1,1,1]) (by kernel_rfl) fun K26 hK26 => ?_
          refine XW.reg (by kernel_rfl) ?_
          refine XO.go [] 1 [4] [] [(4, vi (0 : Int))] [] [] (by kernel_rfl) trivial ?_
          refine XO.done (by kernel_rfl) ?_
          refine hK26 _ _ ?_
          refine XW.ret (by kernel_rfl) ?_
          obtain rfl := Option.some.inj h
          exact FinP.fin (.inr rfl) [] [vi (0 : Int)] [] (by kernel_rfl) trivial (.one (.rfl _ rfl))

def cmp_Or_int_j1 : Option Int :=
    some (0 : Int)

def cmp_Or_int_l1 (p1 : (List Int)) : Nat → Int → Option Int
  | 0, _ => none
  | k1 + 1, x1 =>
    ift (decide (x1 < (p1.length : Int)))
      (bnd (at? p1 x1) fun e1 =>
       ift (e1 != (0 : Int))
         (some e1)
         ((cmp_Or_int_l1 p1 k1) (IntKind.i64.wrap (x1 + (1 : Int)))))
      (cmp_Or_int_j1)

def cmp_Or_int (p1 : (List Int)) : Option Int :=
    cmp_Or_int_l1 p1 BIG (0 : Int)


theorem c_cmp_Or_int (p1 : (List Int)) (r : Int) (h : cmp_Or_int p1 = some r) : PC Try.prog 50 [vl eI p1] (vi r) := by
  unfold cmp_Or_int at h
  refine PC.of (n := 18) (fn := Try.f50) (c := cd Try.f50 []) (by kernel_rfl) (by kernel_rfl) (by kernel_rfl) (Nat.le_of_ble_eq_true rfl) ?_
  refine XW.seq (x := cd Try.f50 [0]) (y := cd Try.f50 [1]) (by kernel_rfl) fun K1 hK1 => ?_
  refine XW.reg (by kernel_rfl) ?_
  refine XO.go [] 1 [0] [] [(0, vl eI p1)] [] [] (by kernel_rfl) trivial ?_
  refine XO.done (by kernel_rfl) ?_
  refine hK1 _ _ ?_
  refine XW.seq (x := cd Try.f50 [1,0]) (y := cd Try.f50 [1,1]) (by kernel_rfl) fun K2 hK2 => ?_
  refine XW.reg (by kernel_rfl) ?_
  refine XO.go [] 1 [0,3] [] [(0, vl eI p1), (3, vi (0 : Int))] [] [] (by kernel_rfl) trivial ?_
  refine XO.done (by kernel_rfl) ?_
  refine hK2 _ _ ?_
  refine XW.seq (x := cd Try.f50 [1,1,0]) (y := cd Try.f50 [1,1,1]) (by kernel_rfl) fun K3 hK3 => ?_
  have hJ1 : ∀ (_ : Unit), cmp_Or_int_j1 = some r → ∀ fr1 st1, Sub 18 0 [] fr1 st1 [(3, vi (0 : Int))] [] → K3 fr1 st1 := by
    intro _ h fr1 st1 hS
    unfold cmp_Or_int_j1 at h
    refine hK3 _ _ (XW.sub hS ?_)
    refine XW.seq (x := cd Try.f50 [1,1,1,0]) (y := cd Try.f50 [1,1,1,1]) (by kernel_rfl) fun K14 hK14 => ?_
    refine XW.reg (by kernel_rfl) ?_
    refine XO.go [] 2 [2] [] [(2, vi (0 : Int))] [] [] (by kernel_rfl) trivial ?_
    refine XO.done (by kernel_rfl) ?_
    refine hK14 _ _ ?_
    refine XW.ret (by kernel_rfl) ?_
    obtain rfl := Option.some.inj h
    exact FinP.fin (.inr rfl) [] [vi (0 : Int)] [] (by kernel_rfl) trivial (.one (.rfl _ rfl))
  refine XW.seq (x := cd Try.f50 [1,1,0,0]) (y := cd Try.f50 [1,1,0,1]) (by kernel_rfl) fun K4 hK4 => ?_
  refine XW.reg (by kernel_rfl) ?_
  refine XO.go [] 2 [3,6,7] [] [(3, vi (0 : Int)), (6, vl eI p1), (7, vi ((eI.els p1).length : Int))] [] [] (by kernel_rfl) trivial ?_
  rw [eI.len p1]
  refine XO.go [] 1 [3,6,7,8] [] [(3, vi (0 : Int)), (6, vl eI p1), (7, vi (p1.length : Int)), (8, vi (0 : Int))] [] [] (by kernel_rfl) trivial ?_
  refine XO.done (by kernel_rfl) ?_
  refine hK4 _ _ ?_
  refine XW.block (id := 0) (x := cd Try.f50 [1,1,0,1,0]) (by kernel_rfl) ?_
  refine XW.rounds' BIG (x := cd Try.f50 [1,1,0,1,0,0]) (by kernel_rfl) fun Q1 hQ1 => ?_
  have hL1 : ∀ (k1 : Nat) (x1 : Int), cmp_Or_int_l1 p1 k1 x1 = some r → XR Try.prog 18 0 [] (cd Try.f50 [1,1,0,1,0,0]) Q1 k1 [(3, vi (0 : Int)), (6, vl eI p1), (7, vi (p1.length : Int)), (8, vi x1)] [] := by
    intro k1
    induction k1 with
    | zero => intro x1 h; rw [cmp_Or_int_l1.eq_1] at h; cases h
    | succ k1 ih1 =>
      intro x1 h
      rw [cmp_Or_int_l1.eq_2] at h
      refine XW.seq (x := cd Try.f50 [1,1,0,1,0,0,0]) (y := cd Try.f50 [1,1,0,1,0,0,1]) (by kernel_rfl) fun K5 hK5 => ?_
      refine XW.reg (by kernel_rfl) ?_
      refine XO.go [] 1 [3,6,7,8,9] [] [(3, vi (0 : Int)), (6, vl eI p1), (7, vi (p1.length : Int)), (8, vi x1), (9, vb (decide (x1 < (p1.length : Int))))] [] [] (by kernel_rfl) trivial ?_
      refine XO.done (by kernel_rfl) ?_
      refine hK5 _ _ ?_
      refine XW.seq (x := cd Try.f50 [1,1,0,1,0,0,1,0]) (y := cd Try.f50 [1,1,0,1,0,0,1,1]) (by kernel_rfl) fun K6 hK6 => ?_
      refine XW.cond (x := .tmp 9) (a := cd Try.f50 [1,1,0,1,0,0,1,0,0]) (b := cd Try.f50 [1,1,0,1,0,0,1,0,1]) (t := (decide (x1 < (p1.length : Int)))) (by kernel_rfl) (by kernel_rfl) (fun b7 => ?_) (fun b7 => ?_)
      · have h := ift_t b7 h
        refine XW.skip (by kernel_rfl) ?_
        refine hK6 _ _ ?_
        refine XW.seq (x := cd Try.f50 [1,1,0,1,0,0,1,1,0]) (y := cd Try.f50 [1,1,0,1,0,0,1,1,1]) (by kernel_rfl) fun K8 hK8 => ?_
        refine XW.block (id := 1) (x := cd Try.f50 [1,1,0,1,0,0,1,1,0,0]) (by kernel_rfl) ?_
        refine XW.seq (x := cd Try.f50 [1,1,0,1,0,0,1,1,0,0,0]) (y := cd Try.f50 [1,1,0,1,0,0,1,1,0,0,1]) (by kernel_rfl) fun K9 hK9 => ?_
        obtain ⟨e1, a10, h⟩ := bnd_some h
        refine XW.reg (by kernel_rfl) ?_
        refine XO.go [] 3 [3,5,6,7,8] [[pi e1]] [(3, vi (0 : Int)), (5, vi e1), (6, vl eI p1), (7, vi (p1.length : Int)), (8, vi x1)] [] [0 ≤ x1 ∧ x1 < ((eI.els p1).length : Int) ∧ elemsOk 1 (eI.els p1), (eI.els p1)[x1.toNat]? = some [pi e1]] (by kernel_rfl) (⟨eI.inb a10, (eI.get a10), trivial⟩) ?_
        refine XO.done (by kernel_rfl) ?_
        refine hK9 _ _ ?_
        refine XW.seq (x := cd Try.f50 [1,1,0,1,0,0,1,1,0,0,1,0]) (y := cd Try.f50 [1,1,0,1,0,0,1,1,0,0,1,1]) (by kernel_rfl) fun K11 hK11 => ?_
        refine XW.reg (by kernel_rfl) ?_
        refine XO.go [] 3 [3,5,6,7,8,14] [] [(3, vi (0 : Int)), (5, vi e1), (6, vl eI p1), (7, vi (p1.length : Int)), (8, vi x1), (14, vb (e1 != (0 : Int)))] [] [] (by kernel_rfl) trivial ?_
        refine XO.done (by kernel_rfl) ?_
        refine hK11 _ _ ?_
        refine XW.cond (x := .tmp 14) (a := cd Try.f50 [1,1,0,1,0,0,1,1,0,0,1,1,0]) (b := cd Try.f50 [1,1,0,1,0,0,1,1,0,0,1,1,1]) (t := (e1 != (0 : Int))) (by kernel_rfl) (by kernel_rfl) (fun b12 => ?_) (fun b12 => ?_)
        · have h := ift_t b12 h
          refine XW.seq (x := cd Try.f50 [1,1,0,1,0,0,1,1,0,0,1,1,0,0]) (y := cd Try.f50 [1,1,0,1,0,0,1,1,0,0,1,1,0,1]) (by kernel_rfl) fun K13 hK13 => ?_
          refine XW.reg (by kernel_rfl) ?_
          refine XO.go [] 2 [2] [] [(2, vi e1)] [] [] (by kernel_rfl) trivial ?_
          refine XO.done (by kernel_rfl) ?_
          refine hK13 _ _ ?_
          refine XW.ret (by kernel_rfl) ?_
          refine hQ1 _ _ _ ?_
          obtain rfl := Option.some.inj h
          exact FinP.fin (.inr rfl) [] [vi e1] [] (by kernel_rfl) trivial (.one (.rfl _ rfl))
        · have h := ift_f b12 h
          refine XW.skip (by kernel_rfl) ?_
          refine hK8 _ _ ?_
          refine XW.reg (by kernel_rfl) ?_
          refine XO.go [] 2 [3,6,7,8] [] [(3, vi (0 : Int)), (6, vl eI p1), (7, vi (p1.length : Int)), (8, vi (IntKind.i64.wrap (x1 + (1 : Int))))] [] [] (by kernel_rfl) trivial ?_
          refine XO.done (by kernel_rfl) ?_
          exact XR.sub (Sub.pick [3,6,7,8] (by kernel_rfl)) (ih1 (IntKind.i64.wrap (x1 + (1 : Int))) h)
      · have h := ift_f b7 h
        refine XW.exit (id := 0) (by kernel_rfl) ?_
        refine hQ1 _ _ _ ?_
        exact hJ1 () h _ _ (Sub.pick [3] (by kernel_rfl))
  exact XR.sub (Sub.pick [3,6,7,8] (by kernel_rfl)) (hL1 BIG (0 : Int) h)

def slices_CompareFunc_api_Value_api_Value_api_Value_api_Value_s1_j1 (p1 : (List GValue)) (p2 : (List GValue)) : Option Int :=
    ift (decide ((p1.length : Int) < (p2.length : Int)))
      (some (-1 : Int))
      (some (0 : Int))

def slices_CompareFunc_api_Value_api_Value_api_Value_api_Value_s1_l1 (q_value_Compare : GValue → GValue → Option Int) (p1 : (List GValue)) (p2 : (List GValue)) : Nat → Int → Option Int
  | 0, _ => none
  | k1 + 1, x1 =>
    ift (decide (x1 < (p1.length : Int)))
      (bnd (at? p1 x1) fun e1 =>
       ift (decide ((p2.length : Int) ≤ x1))
         (some (1 : Int))
         (bnd (at? p2 x1) fun e2 =>
          bnd (q_value_Compare e1 e2) fun r1 =>
          ift (r1 != (0 : Int))
            (some r1)
            ((slices_CompareFunc_api_Value_api_Value_api_Value_api_Value_s1_l1 q_value_Compare p1 p2 k1) (IntKind.i64.wrap (x1 + (1 : Int))))))
      (slices_CompareFunc_api_Value_api_Value_api_Value_api_Value_s1_j1 p1 p2)

def value_Compare_j2 (q_value_rest : GValue → GValue → Option Int) (p1 : GValue) (p2 : GValue) : Option Int :=
    bnd (cmp_Compare_int p1.n p2.n) fun r9 =>
    bnd (q_value_rest p1 p2) fun r10 =>
    bnd (cmp_Or_int [r9, r10]) fun r11 =>
    some r11

def value_Compare_j1 (q_value_rest : GValue → GValue → Option Int) (p1 : GValue) (p2 : GValue) (r2 : Bool) (r3 : Bool) (x1 : Bool) : Option Int :=
    ift x1
      (bnd (value_scaled p1.n (IntKind.i64.wrap ((12 : Int) - p1.scale))) fun r4 =>
       bnd (value_scaled p2.n (IntKind.i64.wrap ((12 : Int) - p2.scale))) fun r5 =>
       bnd (value_wide_compare (GWide.mk r4.neg (r4.size.1, r4.size.2.1, r4.size.2.2.1, r4.size.2.2.2)) (GWide.mk r5.neg (r5.size.1, r5.size.2.1, r5.size.2.2.1, r5.size.2.2.2))) fun r6 =>
       bnd (q_value_rest p1 p2) fun r7 =>
       bnd (cmp_Or_int [r6, r7]) fun r8 =>
       some r8)
      (ift r2
         (some (-1 : Int))
         (ift r3
            (some (1 : Int))
            (value_Compare_j2 q_value_rest p1 p2)))

mutual

def slices_CompareFunc_api_Value_api_Value_api_Value_api_Value_s1 : Nat → (List GValue) → (List GValue) → Option Int
  | 0, _, _ => none
  | k0 + 1, p1, p2 =>
    slices_CompareFunc_api_Value_api_Value_api_Value_api_Value_s1_l1 (value_Compare k0) p1 p2 BIG (0 : Int)

def value_Compare : Nat → GValue → GValue → Option Int
  | 0, _, _ => none
  | k0 + 1, p1, p2 =>
    ift (p1.kind != p2.kind)
      (ift (p1.kind == (0 : Int))
         (some (1 : Int))
         (ift (p2.kind == (0 : Int))
            (some (-1 : Int))
            (bnd (cmp_Compare_int p1.kind p2.kind) fun r1 =>
             some r1)))
      (ift (p1.kind == (0 : Int))
         (some (0 : Int))
         (ift (p1.kind == (3 : Int))
            (bnd (value_within p1.scale (0 : Int) (12 : Int)) fun r2 =>
             bnd (value_within p2.scale (0 : Int) (12 : Int)) fun r3 =>
             ift r2
               (value_Compare_j1 (value_rest k0) p1 p2 r2 r3 r3)
               (value_Compare_j1 (value_rest k0) p1 p2 r2 r3 false))
            (value_Compare_j2 (value_rest k0) p1 p2)))

def value_rest : Nat → GValue → GValue → Option Int
  | 0, _, _ => none
  | k0 + 1, p1, p2 =>
    bnd (cmp_Compare_int p1.scale p2.scale) fun r1 =>
    bnd (cmp_Compare_string p1.s p2.s) fun r2 =>
    bnd ((slices_CompareFunc_api_Value_api_Value_api_Value_api_Value_s1 k0) p1.items p2.items) fun r3 =>
    bnd (cmp_Or_int [r1, r2, r3]) fun r4 =>
    some r4

end


mutual

theorem c_slices_CompareFunc_api_Value_api_Value_api_Value_api_Value_s1 : ∀ (k0 : Nat) (p1 : (List GValue)) (p2 : (List GValue)) (r : Int), slices_CompareFunc_api_Value_api_Value_api_Value_api_Value_s1 k0 p1 p2 = some r → PC Try.prog 88 [vl eValue p1, vl eValue p2, .one (.pv (.fn 21 []))] (vi r)
  | 0, _, _, r, h => by rw [slices_CompareFunc_api_Value_api_Value_api_Value_api_Value_s1.eq_1] at h; cases h
  | k0 + 1, p1, p2, r, h => by
    rw [slices_CompareFunc_api_Value_api_Value_api_Value_api_Value_s1.eq_2] at h
    refine PC.of (n := 39) (fn := Try.f88) (c := cd Try.f88 []) (by kernel_rfl) (by kernel_rfl) (by kernel_rfl) (Nat.le_of_ble_eq_true rfl) ?_
    refine XW.seq (x := cd Try.f88 [0]) (y := cd Try.f88 [1]) (by kernel_rfl) fun K1 hK1 => ?_
    refine XW.reg (by kernel_rfl) ?_
    refine XO.go [8, 9] 1 [0,1,2] [] [(0, vl eValue p1), (1, vl eValue p2), (2, .one (.pv (.fn 21 [])))] [] [] (by kernel_rfl) trivial ?_
    refine XO.done (by kernel_rfl) ?_
    refine hK1 _ _ ?_
    refine XW.seq (x := cd Try.f88 [1,0]) (y := cd Try.f88 [1,1]) (by kernel_rfl) fun K2 hK2 => ?_
    have hJ1 : ∀ (_ : Unit), slices_CompareFunc_api_Value_api_Value_api_Value_api_Value_s1_j1 p1 p2 = some r → ∀ fr1 st1, Sub 39 0 [] fr1 st1 [(0, vl eValue p1), (1, vl eValue p2)] [] → K2 fr1 st1 := by
      intro _ h fr1 st1 hS
      unfold slices_CompareFunc_api_Value_api_Value_api_Value_api_Value_s1_j1 at h
      refine hK2 _ _ (XW.sub hS ?_)
      refine XW.seq (x := cd Try.f88 [1,1,0]) (y := cd Try.f88 [1,1,1]) (by kernel_rfl) fun K21 hK21 => ?_
      refine XW.seq (x := cd Try.f88 [1,1,0,0]) (y := cd Try.f88 [1,1,0,1]) (by kernel_rfl) fun K22 hK22 => ?_
      refine XW.reg (by kernel_rfl) ?_
      refine XO.go [8, 9] 2 [1,35] [] [(1, vl eValue p2), (35, vi ((eValue.els p1).length : Int))] [] [] (by kernel_rfl) trivial ?_
      rw [eValue.len p1]
      refine XO.go [8, 9] 2 [35,37] [] [(35, vi (p1.length : Int)), (37, vi ((eValue.els p2).length : Int))] [] [] (by kernel_rfl) trivial ?_
      rw [eValue.len p2]
      refine XO.go [8, 9] 1 [38] [] [(38, vb (decide ((p1.length : Int) < (p2.length : Int))))] [] [] (by kernel_rfl) trivial ?_
      refine XO.done (by kernel_rfl) ?_
      refine hK22 _ _ ?_
      refine XW.cond (x := .tmp 38) (a := cd Try.f88 [1,1,0,1,0]) (b := cd Try.f88 [1,1,0,1,1]) (t := (decide ((p1.length : Int) < (p2.length : Int)))) (by kernel_rfl) (by kernel_rfl) (fun b23 => ?_) (fun b23 => ?_)
      · have h := ift_t b23 h
        refine XW.seq (x := cd Try.f88 [1,1,0,1,0,0]) (y := cd Try.f88 [1,1,0,1,0,1]) (by kernel_rfl) fun K24 hK24 => ?_
        refine XW.reg (by kernel_rfl) ?_
        refine XO.go [8, 9] 1 [6] [] [(6, vi (-1 : Int))] [] [] (by kernel_rfl) trivial ?_
        refine XO.done (by kernel_rfl) ?_
        refine hK24 _ _ ?_
        refine XW.ret (by kernel_rfl) ?_
        obtain rfl := Option.some.inj h
        exact FinP.fin (.inr rfl) [] [vi (-1 : Int)] [] (by kernel_rfl) trivial (.one (.rfl _ rfl))
      · have h := ift_f b23 h
        refine XW.skip (by kernel_rfl) ?_
        refine hK21 _ _ ?_
        refine XW.seq (x := cd Try.f88 [1,1,1,0]) (y := cd Try.f88 [1,1,1,1]) (by kernel_rfl) fun K25 hK25 => ?_
        refine XW.reg (by kernel_rfl) ?_
        refine XO.go [8, 9] 1 [6] [] [(6, vi (0 : Int))] [] [] (by kernel_rfl) trivial ?_
        refine XO.done (by kernel_rfl) ?_
        refine hK25 _ _ ?_
        refine XW.ret (by kernel_rfl) ?_
        obtain rfl := Option.some.inj h
        exact FinP.fin (.inr rfl) [] [vi (0 : Int)] [] (by kernel_rfl) trivial (.one (.rfl _ rfl))
    refine XW.seq (x := cd Try.f88 [1,0,0]) (y := cd Try.f88 [1,0,1]) (by kernel_rfl) fun K3 hK3 => ?_
    refine XW.reg (by kernel_rfl) ?_
    refine XO.go [8, 9] 2 [0,1,2,11,12] [] [(0, vl eValue p1), (1, vl eValue p2), (2, .one (.pv (.fn 21 []))), (11, vl eValue p1), (12, vi ((eValue.els p1).length : Int))] [] [] (by kernel_rfl) trivial ?_
    rw [eValue.len p1]
    refine XO.go [8, 9] 1 [0,1,2,11,12,13] [] [(0, vl eValue p1), (1, vl eValue p2), (2, .one (.pv (.fn 21 []))), (11, vl eValue p1), (12, vi (p1.length : Int)), (13, vi (0 : Int))] [] [] (by kernel_rfl) trivial ?_
    refine XO.done (by kernel_rfl) ?_
    refine hK3 _ _ ?_
    refine XW.block (id := 0) (x := cd Try.f88 [1,0,1,0]) (by kernel_rfl) ?_
    refine XW.rounds' BIG (x := cd Try.f88 [1,0,1,0,0]) (by kernel_rfl) fun Q1 hQ1 => ?_
    have hL1 : ∀ (k1 : Nat) (x1 : Int), slices_CompareFunc_api_Value_api_Value_api_Value_api_Value_s1_l1 (value_Compare k0) p1 p2 k1 x1 = some r → XR Try.prog 39 0 [] (cd Try.f88 [1,0,1,0,0]) Q1 k1 [(0, vl eValue p1), (1, vl eValue p2), (2, .one (.pv (.fn 21 []))), (11, vl eValue p1), (12, vi (p1.length : Int)), (13, vi x1)] [] := by
      intro k1
      induction k1 with
      | zero => intro x1 h; rw [slices_CompareFunc_api_Value_api_Value_api_Value_api_Value_s1_l1.eq_1] at h; cases h
      | succ k1 ih1 =>
        intro x1 h
        rw [slices_CompareFunc_api_Value_api_Value_api_Value_api_Value_s1_l1.eq_2] at h
        refine XW.seq (x := cd Try.f88 [1,0,1,0,0,0]) (y := cd Try.f88 [1,0,1,0,0,1]) (by kernel_rfl) fun K4 hK4 => ?_
        refine XW.reg (by kernel_rfl) ?_
        refine XO.go [8, 9] 1 [0,1,2,11,12,13,14] [] [(0, vl eValue p1), (1, vl eValue p2), (2, .one (.pv (.fn 21 []))), (11, vl eValue p1), (12, vi (p1.length : Int)), (13, vi x1), (14, vb (decide (x1 < (p1.length : Int))))] [] [] (by kernel_rfl) trivial ?_
        refine XO.done (by kernel_rfl) ?_
        refine hK4 _ _ ?_
        refine XW.seq (x := cd Try.f88 [1,0,1,0,0,1,0]) (y := cd Try.f88 [1,0,1,0,0,1,1]) (by kernel_rfl) fun K5 hK5 => ?_
        refine XW.cond (x := .tmp 14) (a := cd Try.f88 [1,0,1,0,0,1,0,0]) (b := cd Try.f88 [1,0,1,0,0,1,0,1]) (t := (decide (x1 < (p1.length : Int)))) (by kernel_rfl) (by kernel_rfl) (fun b6 => ?_) (fun b6 => ?_)
        · have h := ift_t b6 h
          refine XW.skip (by kernel_rfl) ?_
          refine hK5 _ _ ?_
          refine XW.seq (x := cd Try.f88 [1,0,1,0,0,1,1,0]) (y := cd Try.f88 [1,0,1,0,0,1,1,1]) (by kernel_rfl) fun K7 hK7 => ?_
          refine XW.block (id := 1) (x := cd Try.f88 [1,0,1,0,0,1,1,0,0]) (by kernel_rfl) ?_
          refine XW.seq (x := cd Try.f88 [1,0,1,0,0,1,1,0,0,0]) (y := cd Try.f88 [1,0,1,0,0,1,1,0,0,1]) (by kernel_rfl) fun K8 hK8 => ?_
          obtain ⟨e1, a9, h⟩ := bnd_some h
          refine XW.reg (by kernel_rfl) ?_
          refine XO.go [8, 9] 6 [0,1,2,7,8,11,12,13] [[pi e1.kind, pi e1.n, pi e1.scale, .s (.string e1.s), .ro (eValue.els e1.items)]] [(0, vl eValue p1), (1, vl eValue p2), (2, .one (.pv (.fn 21 []))), (7, vi x1), (8, .one (.pt 0 0 0 0)), (11, vl eValue p1), (12, vi (p1.length : Int)), (13, vi x1)] [.box [ci e1.kind, ci e1.n, ci e1.scale, cst e1.s, cl eValue e1.items]] [0 ≤ x1 ∧ x1 < ((eValue.els p1).length : Int) ∧ elemsOk 5 (eValue.els p1), (eValue.els p1)[x1.toNat]? = some [pi e1.kind, pi e1.n, pi e1.scale, .s (.string e1.s), .ro (eValue.els e1.items)]] (by kernel_rfl) (⟨eValue.inb a9, ((eValue.get a9).trans (by cases e1; rfl)), trivial⟩) ?_
          refine XO.done (by kernel_rfl) ?_
          refine hK8 _ _ ?_
          refine XW.seq (x := cd Try.f88 [1,0,1,0,0,1,1,0,0,1,0]) (y := cd Try.f88 [1,0,1,0,0,1,1,0,0,1,1]) (by kernel_rfl) fun K10 hK10 => ?_
          refine XW.seq (x := cd Try.f88 [1,0,1,0,0,1,1,0,0,1,0,0]) (y := cd Try.f88 [1,0,1,0,0,1,1,0,0,1,0,1]) (by kernel_rfl) fun K11 hK11 => ?_
          refine XW.reg (by kernel_rfl) ?_
          refine XO.go [8, 9] 3 [0,1,2,7,8,11,12,13,18,20] [] [(0, vl eValue p1), (1, vl eValue p2), (2, .one (.pv (.fn 21 []))), (7, vi x1), (8, .one (.pt 0 0 0 0)), (11, vl eValue p1), (12, vi (p1.length : Int)), (13, vi x1), (18, vi x1), (20, vi ((eValue.els p2).length : Int))] [.box [ci e1.kind, ci e1.n, ci e1.scale, cst e1.s, cl eValue e1.items]] [] (by kernel_rfl) trivial ?_
          rw [eValue.len p2]
          refine XO.go [8, 9] 1 [0,1,2,7,8,11,12,13,21] [] [(0, vl eValue p1), (1, vl eValue p2), (2, .one (.pv (.fn 21 []))), (7, vi x1), (8, .one (.pt 0 0 0 0)), (11, vl eValue p1), (12, vi (p1.length : Int)), (13, vi x1), (21, vb (decide ((p2.length : Int) ≤ x1)))] [.box [ci e1.kind, ci e1.n, ci e1.scale, cst e1.s, cl eValue e1.items]] [] (by kernel_rfl) trivial ?_
          refine XO.done (by kernel_rfl) ?_
          refine hK11 _ _ ?_
          refine XW.cond (x := .tmp 21) (a := cd Try.f88 [1,0,1,0,0,1,1,0,0,1,0,1,0]) (b := cd Try.f88 [1,0,1,0,0,1,1,0,0,1,0,1,1]) (t := (decide ((p2.length : Int) ≤ x1))) (by kernel_rfl) (by kernel_rfl) (fun b12 => ?_) (fun b12 => ?_)
          · have h := ift_t b12 h
            refine XW.seq (x := cd Try.f88 [1,0,1,0,0,1,1,0,0,1,0,1,0,0]) (y := cd Try.f88 [1,0,1,0,0,1,1,0,0,1,0,1,0,1]) (by kernel_rfl) fun K13 hK13 => ?_
            refine XW.reg (by kernel_rfl) ?_
            refine XO.go [8, 9] 1 [6] [] [(6, vi (1 : Int))] [.box [ci e1.kind, ci e1.n, ci e1.scale, cst e1.s, cl eValue e1.items]] [] (by kernel_rfl) trivial ?_
            refine XO.done (by kernel_rfl) ?_
            refine hK13 _ _ ?_
            refine XW.ret (by kernel_rfl) ?_
            refine hQ1 _ _ _ ?_
            obtain rfl := Option.some.inj h
            exact FinP.fin (.inr rfl) [] [vi (1 : Int)] [] (by kernel_rfl) trivial (.one (.rfl _ rfl))
          · have h := ift_f b12 h
            refine XW.skip (by kernel_rfl) ?_
            refine hK10 _ _ ?_
            refine XW.seq (x := cd Try.f88 [1,0,1,0,0,1,1,0,0,1,1,0]) (y := cd Try.f88 [1,0,1,0,0,1,1,0,0,1,1,1]) (by kernel_rfl) fun K14 hK14 => ?_
            obtain ⟨e2, a15, h⟩ := bnd_some h
            refine XW.reg (by kernel_rfl) ?_
            refine XO.go [8, 9] 6 [0,1,2,8,9,11,12,13] [[pi e2.kind, pi e2.n, pi e2.scale, .s (.string e2.s), .ro (eValue.els e2.items)]] [(0, vl eValue p1), (1, vl eValue p2), (2, .one (.pv (.fn 21 []))), (8, .one (.pt 0 0 0 0)), (9, .one (.pt 1 0 0 0)), (11, vl eValue p1), (12, vi (p1.length : Int)), (13, vi x1)] [.box [ci e1.kind, ci e1.n, ci e1.scale, cst e1.s, cl eValue e1.items], .box [ci e2.kind, ci e2.n, ci e2.scale, cst e2.s, cl eValue e2.items]] [0 ≤ x1 ∧ x1 < ((eValue.els p2).length : Int) ∧ elemsOk 5 (eValue.els p2), (eValue.els p2)[x1.toNat]? = some [pi e2.kind, pi e2.n, pi e2.scale, .s (.string e2.s), .ro (eValue.els e2.items)]] (by kernel_rfl) (⟨eValue.inb a15, ((eValue.get a15).trans (by cases e2; rfl)), trivial⟩) ?_
            refine XO.done (by kernel_rfl) ?_
            refine hK14 _ _ ?_
            refine XW.seq (x := cd Try.f88 [1,0,1,0,0,1,1,0,0,1,1,1,0]) (y := cd Try.f88 [1,0,1,0,0,1,1,0,0,1,1,1,1]) (by kernel_rfl) fun K16 hK16 => ?_
            obtain ⟨r1, c17, h⟩ := bnd_some h
            refine XW.reg (by kernel_rfl) ?_
            refine XO.go [8, 9] 3 [0,1,2,11,12,13,26,27,28] [] [(0, vl eValue p1), (1, vl eValue p2), (2, .one (.pv (.fn 21 []))), (11, vl eValue p1), (12, vi (p1.length : Int)), (13, vi x1), (26, .one (.pv (.fn 21 []))), (27, .ag [ci e1.kind, ci e1.n, ci e1.scale, cst e1.s, cl eValue e1.items]), (28, .ag [ci e2.kind, ci e2.n, ci e2.scale, cst e2.s, cl eValue e2.items])] [.box [ci e1.kind, ci e1.n, ci e1.scale, cst e1.s, cl eValue e1.items], .box [ci e2.kind, ci e2.n, ci e2.scale, cst e2.s, cl eValue e2.items]] [] (by kernel_rfl) trivial ?_
            refine XO.cal 21 [.ag [ci e1.kind, ci e1.n, ci e1.scale, cst e1.s, cl eValue e1.items], .ag [ci e2.kind, ci e2.n, ci e2.scale, cst e2.s, cl eValue e2.items]] (vi r1) [(29, vi r1), (0, vl eValue p1), (1, vl eValue p2), (2, .one (.pv (.fn 21 []))), (11, vl eValue p1), (12, vi (p1.length : Int)), (13, vi x1), (26, .one (.pv (.fn 21 []))), (27, .ag [ci e1.kind, ci e1.n, ci e1.scale, cst e1.s, cl eValue e1.items]), (28, .ag [ci e2.kind, ci e2.n, ci e2.scale, cst e2.s, cl eValue e2.items])] (by kernel_rfl) (c_value_Compare k0 _ _ _ c17) rfl rfl (by kernel_rfl) ?_
            refine XO.go [8, 9] 1 [0,1,2,10,11,12,13] [] [(0, vl eValue p1), (1, vl eValue p2), (2, .one (.pv (.fn 21 []))), (10, vi r1), (11, vl eValue p1), (12, vi (p1.length : Int)), (13, vi x1)] [.box [ci e1.kind, ci e1.n, ci e1.scale, cst e1.s, cl eValue e1.items], .box [ci e2.kind, ci e2.n, ci e2.scale, cst e2.s, cl eValue e2.items]] [] (by kernel_rfl) trivial ?_
            refine XO.done (by kernel_rfl) ?_
            refine hK16 _ _ ?_
            refine XW.seq (x := cd Try.f88 [1,0,1,0,0,1,1,0,0,1,1,1,1,0]) (y := cd Try.f88 [1,0,1,0,0,1,1,0,0,1,1,1,1,1]) (by kernel_rfl) fun K18 hK18 => ?_
            refine XW.reg (by kernel_rfl) ?_
            refine XO.go [8, 9] 2 [0,1,2,10,11,12,13,31] [] [(0, vl eValue p1), (1, vl eValue p2), (2, .one (.pv (.fn 21 []))), (10, vi r1), (11, vl eValue p1), (12, vi (p1.length : Int)), (13, vi x1), (31, vb (r1 != (0 : Int)))] [.box [ci e1.kind, ci e1.n, ci e1.scale, cst e1.s, cl eValue e1.items], .box [ci e2.kind, ci e2.n, ci e2.scale, cst e2.s, cl eValue e2.items]] [] (by kernel_rfl) trivial ?_
            refine XO.done (by kernel_rfl) ?_
            refine hK18 _ _ ?_
            refine XW.cond (x := .tmp 31) (a := cd Try.f88 [1,0,1,0,0,1,1,0,0,1,1,1,1,1,0]) (b := cd Try.f88 [1,0,1,0,0,1,1,0,0,1,1,1,1,1,1]) (t := (r1 != (0 : Int))) (by kernel_rfl) (by kernel_rfl) (fun b19 => ?_) (fun b19 => ?_)
            · have h := ift_t b19 h
              refine XW.seq (x := cd Try.f88 [1,0,1,0,0,1,1,0,0,1,1,1,1,1,0,0]) (y := cd Try.f88 [1,0,1,0,0,1,1,0,0,1,1,1,1,1,0,1]) (by kernel_rfl) fun K20 hK20 => ?_
              refine XW.reg (by kernel_rfl) ?_
              refine XO.go [8, 9] 2 [6] [] [(6, vi r1)] [.box [ci e1.kind, ci e1.n, ci e1.scale, cst e1.s, cl eValue e1.items], .box [ci e2.kind, ci e2.n, ci e2.scale, cst e2.s, cl eValue e2.items]] [] (by kernel_rfl) trivial ?_
              refine XO.done (by kernel_rfl) ?_
              refine hK20 _ _ ?_
              refine XW.ret (by kernel_rfl) ?_
              refine hQ1 _ _ _ ?_
              obtain rfl := Option.some.inj h
              exact FinP.fin (.inr rfl) [] [vi r1] [] (by kernel_rfl) trivial (.one (.rfl _ rfl))
            · have h := ift_f b19 h
              refine XW.skip (by kernel_rfl) ?_
              refine hK7 _ _ ?_
              refine XW.reg (by kernel_rfl) ?_
              refine XO.go [8, 9] 2 [0,1,2,11,12,13] [] [(0, vl eValue p1), (1, vl eValue p2), (2, .one (.pv (.fn 21 []))), (11, vl eValue p1), (12, vi (p1.length : Int)), (13, vi (IntKind.i64.wrap (x1 + (1 : Int))))] [.box [ci e1.kind, ci e1.n, ci e1.scale, cst e1.s, cl eValue e1.items], .box [ci e2.kind, ci e2.n, ci e2.scale, cst e2.s, cl eValue e2.items]] [] (by kernel_rfl) trivial ?_
              refine XO.done (by kernel_rfl) ?_
              exact XR.sub (Sub.trans (Sub.pick (fr' := [(0, vl eValue p1), (1, vl eValue p2), (2, .one (.pv (.fn 21 []))), (11, vl eValue p1), (12, vi (p1.length : Int)), (13, vi (IntKind.i64.wrap (x1 + (1 : Int))))]) [0,1,2,11,12,13] (by kernel_rfl)) (Sub.take (fr' := [(0, vl eValue p1), (1, vl eValue p2), (2, .one (.pv (.fn 21 []))), (11, vl eValue p1), (12, vi (p1.length : Int)), (13, vi (IntKind.i64.wrap (x1 + (1 : Int))))]) 0 (Nat.zero_le _) (by kernel_rfl) (by kernel_rfl))) (ih1 (IntKind.i64.wrap (x1 + (1 : Int))) h)
        · have h := ift_f b6 h
          refine XW.exit (id := 0) (by kernel_rfl) ?_
          refine hQ1 _ _ _ ?_
          exact hJ1 () h _ _ (Sub.pick [0,1] (by kernel_rfl))
    exact XR.sub (Sub.pick [0,1,2,11,12,13] (by kernel_rfl)) (hL1 BIG (0 : Int) h)

theorem c_value_Compare : ∀ (k0 : Nat) (p1 : GValue) (p2 : GValue) (r : Int), value_Compare k0 p1 p2 = some r → PC Try.prog 21 [.ag [ci p1.kind, ci p1.n, ci p1.scale, cst p1.s, cl eValue p1.items], .ag [ci p2.kind, ci p2.n, ci p2.scale, cst p2.s, cl eValue p2.items]] (vi r)
  | 0, _, _, r, h => by rw [value_Compare.eq_1] at h; cases h
  | k0 + 1, p1, p2, r, h => by
    rw [value_Compare.eq_2] at h
    refine PC.of (n := 72) (fn := Try.f21) (c := cd Try.f21 []) (by kernel_rfl) (by kernel_rfl) (by kernel_rfl) (Nat.le_of_ble_eq_true rfl) ?_
    refine XW.seq (x := cd Try.f21 [0]) (y := cd Try.f21 [1]) (by kernel_rfl) fun K1 hK1 => ?_
    refine XW.reg (by kernel_rfl) ?_
    refine XO.go [] 3 [2,3] [] [(2, .one (.pv (.rp [[pi p1.kind, pi p1.n, pi p1.scale, .s (.string p1.s), .ro (eValue.els p1.items)]] 0 0))), (3, .one (.pv (.rp [[pi p2.kind, pi p2.n, pi p2.scale, .s (.string p2.s), .ro (eValue.els p2.items)]] 0 0)))] [] [] (by kernel_rfl) trivial ?_
    refine XO.done (by kernel_rfl) ?_
    refine hK1 _ _ ?_
    refine XW.seq (x := cd Try.f21 [1,0]) (y := cd Try.f21 [1,1]) (by kernel_rfl) fun K2 hK2 => ?_
    refine XW.seq (x := cd Try.f21 [1,0,0]) (y := cd Try.f21 [1,0,1]) (by kernel_rfl) fun K3 hK3 => ?_
    refine XW.reg (by kernel_rfl) ?_
    refine XO.go [] 5 [2,3,11] [[pi p1.kind, pi p1.n, pi p1.scale, .s (.string p1.s), .ro (eValue.els p1.items)], [pi p2.kind, pi p2.n, pi p2.scale, .s (.string p2.s), .ro (eValue.els p2.items)]] [(2, .one (.pv (.rp [[pi p1.kind, pi p1.n, pi p1.scale, .s (.string p1.s), .ro (eValue.els p1.items)]] 0 0))), (3, .one (.pv (.rp [[pi p2.kind, pi p2.n, pi p2.scale, .s (.string p2.s), .ro (eValue.els p2.items)]] 0 0))), (11, vb (p1.kind != p2.kind))] [] [([[pi p1.kind, pi p1.n, pi p1.scale, .s (.string p1.s), .ro (eValue.els p1.items)]] : List (List PV))[0]? = some [pi p1.kind, pi p1.n, pi p1.scale, .s (.string p1.s), .ro (eValue.els p1.items)], ([[pi p2.kind, pi p2.n, pi p2.scale, .s (.string p2.s), .ro (eValue.els p2.items)]] : List (List PV))[0]? = some [pi p2.kind, pi p2.n, pi p2.scale, .s (.string p2.s), .ro (eValue.els p2.items)]] (by kernel_rfl) (⟨rfl, rfl, trivial⟩) ?_
    refine XO.done (by kernel_rfl) ?_
    refine hK3 _ _ ?_
    refine XW.cond (x := .tmp 11) (a := cd Try.f21 [1,0,1,0]) (b := cd Try.f21 [1,0,1,1]) (t := (p1.kind != p2.kind)) (by kernel_rfl) (by kernel_rfl) (fun b4 => ?_) (fun b4 => ?_)
    · have h := ift_t b4 h
      refine XW.seq (x := cd Try.f21 [1,0,1,0,0]) (y := cd Try.f21 [1,0,1,0,1]) (by kernel_rfl) fun K5 hK5 => ?_
      refine XW.seq (x := cd Try.f21 [1,0,1,0,0,0]) (y := cd Try.f21 [1,0,1,0,0,1]) (by kernel_rfl) fun K6 hK6 => ?_
      refine XW.reg (by kernel_rfl) ?_
      refine XO.go [] 3 [2,3,14] [[pi p1.kind, pi p1.n, pi p1.scale, .s (.string p1.s), .ro (eValue.els p1.items)]] [(2, .one (.pv (.rp [[pi p1.kind, pi p1.n, pi p1.scale, .s (.string p1.s), .ro (eValue.els p1.items)]] 0 0))), (3, .one (.pv (.rp [[pi p2.kind, pi p2.n, pi p2.scale, .s (.string p2.s), .ro (eValue.els p2.items)]] 0 0))), (14, vb (p1.kind == (0 : Int)))] [] [([[pi p1.kind, pi p1.n, pi p1.scale, .s (.string p1.s), .ro (eValue.els p1.items)]] : List (List PV))[0]? = some [pi p1.kind, pi p1.n, pi p1.scale, .s (.string p1.s), .ro (eValue.els p1.items)]] (by kernel_rfl) (⟨rfl, trivial⟩) ?_
      refine XO.done (by kernel_rfl) ?_
      refine hK6 _ _ ?_
      refine XW.cond (x := .tmp 14) (a := cd Try.f21 [1,0,1,0,0,1,0]) (b := cd Try.f21 [1,0,1,0,0,1,1]) (t := (p1.kind == (0 : Int))) (by kernel_rfl) (by kernel_rfl) (fun b7 => ?_) (fun b7 => ?_)
      · have h := ift_t b7 h
        refine XW.seq (x := cd Try.f21 [1,0,1,0,0,1,0,0]) (y := cd Try.f21 [1,0,1,0,0,1,0,1]) (by kernel_rfl) fun K8 hK8 => ?_
        refine XW.reg (by kernel_rfl) ?_
        refine XO.go [] 1 [4] [] [(4, vi (1 : Int))] [] [] (by kernel_rfl) trivial ?_
        refine XO.done (by kernel_rfl) ?_
        refine hK8 _ _ ?_
        refine XW.ret (by kernel_rfl) ?_
        obtain rfl := Option.some.inj h
        exact FinP.fin (.inr rfl) [] [vi (1 : Int)] [] (by kernel_rfl) trivial (.one (.rfl _ rfl))
      · have h := ift_f b7 h
        refine XW.skip (by kernel_rfl) ?_
        refine hK5 _ _ ?_
        refine XW.seq (x := cd Try.f21 [1,0,1,0,1,0]) (y := cd Try.f21 [1,0,1,0,1,1]) (by kernel_rfl) fun K9 hK9 => ?_
        refine XW.seq (x := cd Try.f21 [1,0,1,0,1,0,0]) (y := cd Try.f21 [1,0,1,0,1,0,1]) (by kernel_rfl) fun K10 hK10 => ?_
        refine XW.reg (by kernel_rfl) ?_
        refine XO.go [] 3 [2,3,17] [[pi p2.kind, pi p2.n, pi p2.scale, .s (.string p2.s), .ro (eValue.els p2.items)]] [(2, .one (.pv (.rp [[pi p1.kind, pi p1.n, pi p1.scale, .s (.string p1.s), .ro (eValue.els p1.items)]] 0 0))), (3, .one (.pv (.rp [[pi p2.kind, pi p2.n, pi p2.scale, .s (.string p2.s), .ro (eValue.els p2.items)]] 0 0))), (17, vb (p2.kind == (0 : Int)))] [] [([[pi p2.kind, pi p2.n, pi p2.scale, .s (.string p2.s), .ro (eValue.els p2.items)]] : List (List PV))[0]? = some [pi p2.kind, pi p2.n, pi p2.scale, .s (.string p2.s), .ro (eValue.els p2.items)]] (by kernel_rfl) (⟨rfl, trivial⟩) ?_
        refine XO.done (by kernel_rfl) ?_
        refine hK10 _ _ ?_
        refine XW.cond (x := .tmp 17) (a := cd Try.f21 [1,0,1,0,1,0,1,0]) (b := cd Try.f21 [1,0,1,0,1,0,1,1]) (t := (p2.kind == (0 : Int))) (by kernel_rfl) (by kernel_rfl) (fun b11 => ?_) (fun b11 => ?_)
        · have h := ift_t b11 h
          refine XW.seq (x := cd Try.f21 [1,0,1,0,1,0,1,0,0]) (y := cd Try.f21 [1,0,1,0,1,0,1,0,1]) (by kernel_rfl) fun K12 hK12 => ?_
          refine XW.reg (by kernel_rfl) ?_
          refine XO.go [] 1 [4] [] [(4, vi (-1 : Int))] [] [] (by kernel_rfl) trivial ?_
          refine XO.done (by kernel_rfl) ?_
          refine hK12 _ _ ?_
          refine XW.ret (by kernel_rfl) ?_
          obtain rfl := Option.some.inj h
          exact FinP.fin (.inr rfl) [] [vi (-1 : Int)] [] (by kernel_rfl) trivial (.one (.rfl _ rfl))
        · have h := ift_f b11 h
          refine XW.skip (by kernel_rfl) ?_
          refine hK9 _ _ ?_
          refine XW.seq (x := cd Try.f21 [1,0,1,0,1,1,0]) (y := cd Try.f21 [1,0,1,0,1,1,1]) (by kernel_rfl) fun K13 hK13 => ?_
          obtain ⟨r1, c14, h⟩ := bnd_some h
          refine XW.reg (by kernel_rfl) ?_
          refine XO.go [] 4 [19,21] [[pi p1.kind, pi p1.n, pi p1.scale, .s (.string p1.s), .ro (eValue.els p1.items)], [pi p2.kind, pi p2.n, pi p2.scale, .s (.string p2.s), .ro (eValue.els p2.items)]] [(19, vi p1.kind), (21, vi p2.kind)] [] [([[pi p1.kind, pi p1.n, pi p1.scale, .s (.string p1.s), .ro (eValue.els p1.items)]] : List (List PV))[0]? = some [pi p1.kind, pi p1.n, pi p1.scale, .s (.string p1.s), .ro (eValue.els p1.items)], ([[pi p2.kind, pi p2.n, pi p2.scale, .s (.string p2.s), .ro (eValue.els p2.items)]] : List (List PV))[0]? = some [pi p2.kind, pi p2.n, pi p2.scale, .s (.string p2.s), .ro (eValue.els p2.items)]] (by kernel_rfl) (⟨rfl, rfl, trivial⟩) ?_
          refine XO.cal 49 [vi p1.kind, vi p2.kind] (vi r1) [(22, vi r1), (19, vi p1.kind), (21, vi p2.kind)] (by kernel_rfl) (c_cmp_Compare_int _ _ _ c14) rfl rfl (by kernel_rfl) ?_
          refine XO.go [] 1 [4] [] [(4, vi r1)] [] [] (by kernel_rfl) trivial ?_
          refine XO.done (by kernel_rfl) ?_
          refine hK13 _ _ ?_
          refine XW.ret (by kernel_rfl) ?_
          obtain rfl := Option.some.inj h
          exact FinP.fin (.inr rfl) [] [vi r1] [] (by kernel_rfl) trivial (.one (.rfl _ rfl))
    · have h := ift_f b4 h
      refine XW.skip (by kernel_rfl) ?_
      refine hK2 _ _ ?_
      refine XW.seq (x := cd Try.f21 [1,1,0]) (y := cd Try.f21 [1,1,1]) (by kernel_rfl) fun K15 hK15 => ?_
      have hJ2 : ∀ (_ : Unit), value_Compare_j2 (value_rest k0) p1 p2 = some r → ∀ fr1 st1, Sub 72 0 [] fr1 st1 [(2, .one (.pv (.rp [[pi p1.kind, pi p1.n, pi p1.scale, .s (.string p1.s), .ro (eValue.els p1.items)]] 0 0))), (3, .one (.pv (.rp [[pi p2.kind, pi p2.n, pi p2.scale, .s (.string p2.s), .ro (eValue.els p2.items)]] 0 0)))] [] → K15 fr1 st1 := by
        intro _ h fr1 st1 hS
        unfold value_Compare_j2 at h
        refine hK15 _ _ (XW.sub hS ?_)
        refine XW.seq (x := cd Try.f21 [1,1,1,0]) (y := cd Try.f21 [1,1,1,1]) (by kernel_rfl) fun K40 hK40 => ?_
        obtain ⟨r9, c41, h⟩ := bnd_some h
        obtain ⟨r10, c42, h⟩ := bnd_some h
        obtain ⟨r11, c43, h⟩ := bnd_some h
        refine XW.drwS 7 [(68, .ag [ci p2.kind, ci p2.n, ci p2.scale, cst p2.s, cl eValue p2.items]), (67, .ag [ci p1.kind, ci p1.n, ci p1.scale, cst p1.s, cl eValue p1.items]), (66, vi r9), (65, vi p2.n), (64, .one (.pv (.rp [[pi p2.kind, pi p2.n, pi p2.scale, .s (.string p2.s), .ro (eValue.els p2.items)]] 0 1))), (63, vi p1.n), (62, .one (.pv (.rp [[pi p1.kind, pi p1.n, pi p1.scale, .s (.string p1.s), .ro (eValue.els p1.items)]] 0 1))), (2, .one (.pv (.rp [[pi p1.kind, pi p1.n, pi p1.scale, .s (.string p1.s), .ro (eValue.els p1.items)]] 0 0))), (3, .one (.pv (.rp [[pi p2.kind, pi p2.n, pi p2.scale, .s (.string p2.s), .ro (eValue.els p2.items)]] 0 0)))] (by kernel_rfl) (by kernel_rfl) ?_ ?_
        · refine DX.go 4 [[pi p1.kind, pi p1.n, pi p1.scale, .s (.string p1.s), .ro (eValue.els p1.items)], [pi p2.kind, pi p2.n, pi p2.scale, .s (.string p2.s), .ro (eValue.els p2.items)]] [(65, vi p2.n), (64, .one (.pv (.rp [[pi p2.kind, pi p2.n, pi p2.scale, .s (.string p2.s), .ro (eValue.els p2.items)]] 0 1))), (63, vi p1.n), (62, .one (.pv (.rp [[pi p1.kind, pi p1.n, pi p1.scale, .s (.string p1.s), .ro (eValue.els p1.items)]] 0 1))), (2, .one (.pv (.rp [[pi p1.kind, pi p1.n, pi p1.scale, .s (.string p1.s), .ro (eValue.els p1.items)]] 0 0))), (3, .one (.pv (.rp [[pi p2.kind, pi p2.n, pi p2.scale, .s (.string p2.s), .ro (eValue.els p2.items)]] 0 0)))] [([[pi p1.kind, pi p1.n, pi p1.scale, .s (.string p1.s), .ro (eValue.els p1.items)]] : List (List PV))[0]? = some [pi p1.kind, pi p1.n, pi p1.scale, .s (.string p1.s), .ro (eValue.els p1.items)], ([[pi p2.kind, pi p2.n, pi p2.scale, .s (.string p2.s), .ro (eValue.els p2.items)]] : List (List PV))[0]? = some [pi p2.kind, pi p2.n, pi p2.scale, .s (.string p2.s), .ro (eValue.els p2.items)]] (by kernel_rfl) (⟨rfl, rfl, trivial⟩) ?_
          refine DX.cal 49 [vi p1.n, vi p2.n] (vi r9) [(66, vi r9), (65, vi p2.n), (64, .one (.pv (.rp [[pi p2.kind, pi p2.n, pi p2.scale, .s (.string p2.s), .ro (eValue.els p2.items)]] 0 1))), (63, vi p1.n), (62, .one (.pv (.rp [[pi p1.kind, pi p1.n, pi p1.scale, .s (.string p1.s), .ro (eValue.els p1.items)]] 0 1))), (2, .one (.pv (.rp [[pi p1.kind, pi p1.n, pi p1.scale, .s (.string p1.s), .ro (eValue.els p1.items)]] 0 0))), (3, .one (.pv (.rp [[pi p2.kind, pi p2.n, pi p2.scale, .s (.string p2.s), .ro (eValue.els p2.items)]] 0 0)))] (by kernel_rfl) (c_cmp_Compare_int _ _ _ c41) rfl rfl (by kernel_rfl) ?_
          refine DX.go 2 [[pi p1.kind, pi p1.n, pi p1.scale, .s (.string p1.s), .ro (eValue.els p1.items)], [pi p2.kind, pi p2.n, pi p2.scale, .s (.string p2.s), .ro (eValue.els p2.items)]] [(68, .ag [ci p2.kind, ci p2.n, ci p2.scale, cst p2.s, cl eValue p2.items]), (67, .ag [ci p1.kind, ci p1.n, ci p1.scale, cst p1.s, cl eValue p1.items]), (66, vi r9), (65, vi p2.n), (64, .one (.pv (.rp [[pi p2.kind, pi p2.n, pi p2.scale, .s (.string p2.s), .ro (eValue.els p2.items)]] 0 1))), (63, vi p1.n), (62, .one (.pv (.rp [[pi p1.kind, pi p1.n, pi p1.scale, .s (.string p1.s), .ro (eValue.els p1.items)]] 0 1))), (2, .one (.pv (.rp [[pi p1.kind, pi p1.n, pi p1.scale, .s (.string p1.s), .ro (eValue.els p1.items)]] 0 0))), (3, .one (.pv (.rp [[pi p2.kind, pi p2.n, pi p2.scale, .s (.string p2.s), .ro (eValue.els p2.items)]] 0 0)))] [([[pi p1.kind, pi p1.n, pi p1.scale, .s (.string p1.s), .ro (eValue.els p1.items)]] : List (List PV))[0]? = some [pi p1.kind, pi p1.n, pi p1.scale, .s (.string p1.s), .ro (eValue.els p1.items)], ([[pi p2.kind, pi p2.n, pi p2.scale, .s (.string p2.s), .ro (eValue.els p2.items)]] : List (List PV))[0]? = some [pi p2.kind, pi p2.n, pi p2.scale, .s (.string p2.s), .ro (eValue.els p2.items)]] (by kernel_rfl) (⟨rfl, rfl, trivial⟩) ?_
          exact DX.done (by kernel_rfl)
        refine XO.cal 53 [.ag [ci p1.kind, ci p1.n, ci p1.scale, cst p1.s, cl eValue p1.items], .ag [ci p2.kind, ci p2.n, ci p2.scale, cst p2.s, cl eValue p2.items]] (vi r10) [(69, vi r10), (68, .ag [ci p2.kind, ci p2.n, ci p2.scale, cst p2.s, cl eValue p2.items]), (67, .ag [ci p1.kind, ci p1.n, ci p1.scale, cst p1.s, cl eValue p1.items]), (66, vi r9), (65, vi p2.n), (64, .one (.pv (.rp [[pi p2.kind, pi p2.n, pi p2.scale, .s (.string p2.s), .ro (eValue.els p2.items)]] 0 1))), (63, vi p1.n), (62, .one (.pv (.rp [[pi p1.kind, pi p1.n, pi p1.scale, .s (.string p1.s), .ro (eValue.els p1.items)]] 0 1))), (2, .one (.pv (.rp [[pi p1.kind, pi p1.n, pi p1.scale, .s (.string p1.s), .ro (eValue.els p1.items)]] 0 0))), (3, .one (.pv (.rp [[pi p2.kind, pi p2.n, pi p2.scale, .s (.string p2.s), .ro (eValue.els p2.items)]] 0 0)))] (by kernel_rfl) (c_value_rest k0 _ _ _ c42) rfl rfl (by kernel_rfl) ?_
        refine XO.go [] 1 [70] [] [(70, vl eI [r9, r10])] [] [] (by kernel_rfl) trivial ?_
        refine XO.cal 50 [vl eI [r9, r10]] (vi r11) [(71, vi r11), (70, vl eI [r9, r10])] (by kernel_rfl) (c_cmp_Or_int _ _ c43) rfl rfl (by kernel_rfl) ?_
        refine XO.go [] 1 [4] [] [(4, vi r11)] [] [] (by kernel_rfl) trivial ?_
        refine XO.done (by kernel_rfl) ?_
        refine hK40 _ _ ?_
        refine XW.ret (by kernel_rfl) ?_
        obtain rfl := Option.some.inj h
        exact FinP.fin (.inr rfl) [] [vi r11] [] (by kernel_rfl) trivial (.one (.rfl _ rfl))
      refine XW.seq (x := cd Try.f21 [1,1,0,0]) (y := cd Try.f21 [1,1,0,1]) (by kernel_rfl) fun K16 hK16 => ?_
      refine XW.reg (by kernel_rfl) ?_
      refine XO.go [] 2 [2,3,24] [[pi p1.kind, pi p1.n, pi p1.scale, .s (.string p1.s), .ro (eValue.els p1.items)]] [(2, .one (.pv (.rp [[pi p1.kind, pi p1.n, pi p1.scale, .s (.string p1.s), .ro (eValue.els p1.items)]] 0 0))), (3, .one (.pv (.rp [[pi p2.kind, pi p2.n, pi p2.scale, .s (.string p2.s), .ro (eValue.els p2.items)]] 0 0))), (24, vi p1.kind)] [] [([[pi p1.kind, pi p1.n, pi p1.scale, .s (.string p1.s), .ro (eValue.els p1.items)]] : List (List PV))[0]? = some [pi p1.kind, pi p1.n, pi p1.scale, .s (.string p1.s), .ro (eValue.els p1.items)]] (by kernel_rfl) (⟨rfl, trivial⟩) ?_
      refine XO.done (by kernel_rfl) ?_
      refine hK16 _ _ ?_
      refine XW.block (id := 0) (x := cd Try.f21 [1,1,0,1,0]) (by kernel_rfl) ?_
      refine XW.seq (x := cd Try.f21 [1,1,0,1,0,0]) (y := cd Try.f21 [1,1,0,1,0,1]) (by kernel_rfl) fun K17 hK17 => ?_
      refine XW.reg (by kernel_rfl) ?_
      refine XO.go [] 2 [2,3,24,25] [] [(2, .one (.pv (.rp [[pi p1.kind, pi p1.n, pi p1.scale, .s (.string p1.s), .ro (eValue.els p1.items)]] 0 0))), (3, .one (.pv (.rp [[pi p2.kind, pi p2.n, pi p2.scale, .s (.string p2.s), .ro (eValue.els p2.items)]] 0 0))), (24, vi p1.kind), (25, vb (p1.kind == (0 : Int)))] [] [] (by kernel_rfl) trivial ?_
      refine XO.done (by kernel_rfl) ?_
      refine hK17 _ _ ?_
      refine XW.cond (x := .tmp 25) (a := cd Try.f21 [1,1,0,1,0,1,0]) (b := cd Try.f21 [1,1,0,1,0,1,1]) (t := (p1.kind == (0 : Int))) (by kernel_rfl) (by kernel_rfl) (fun b18 => ?_) (fun b18 => ?_)
      · have h := ift_t b18 h
        refine XW.seq (x := cd Try.f21 [1,1,0,1,0,1,0,0]) (y := cd Try.f21 [1,1,0,1,0,1,0,1]) (by kernel_rfl) fun K19 hK19 => ?_
        refine XW.reg (by kernel_rfl) ?_
        refine XO.go [] 1 [4] [] [(4, vi (0 : Int))] [] [] (by kernel_rfl) trivial ?_
        refine XO.done (by kernel_rfl) ?_
        refine hK19 _ _ ?_
        refine XW.ret (by kernel_rfl) ?_
        obtain rfl := Option.some.inj h
        exact FinP.fin (.inr rfl) [] [vi (0 : Int)] [] (by kernel_rfl) trivial (.one (.rfl _ rfl))
      · have h := ift_f b18 h
        refine XW.seq (x := cd Try.f21 [1,1,0,1,0,1,1,0]) (y := cd Try.f21 [1,1,0,1,0,1,1,1]) (by kernel_rfl) fun K20 hK20 => ?_
        refine XW.reg (by kernel_rfl) ?_
        refine XO.go [] 2 [2,3,27] [] [(2, .one (.pv (.rp [[pi p1.kind, pi p1.n, pi p1.scale, .s (.string p1.s), .ro (eValue.els p1.items)]] 0 0))), (3, .one (.pv (.rp [[pi p2.kind, pi p2.n, pi p2.scale, .s (.string p2.s), .ro (eValue.els p2.items)]] 0 0))), (27, vb (p1.kind == (3 : Int)))] [] [] (by kernel_rfl) trivial ?_
        refine XO.done (by kernel_rfl) ?_
        refine hK20 _ _ ?_
        refine XW.cond (x := .tmp 27) (a := cd Try.f21 [1,1,0,1,0,1,1,1,0]) (b := cd Try.f21 [1,1,0,1,0,1,1,1,1]) (t := (p1.kind == (3 : Int))) (by kernel_rfl) (by kernel_rfl) (fun b21 => ?_) (fun b21 => ?_)
        · have h := ift_t b21 h
          refine XW.seq (x := cd Try.f21 [1,1,0,1,0,1,1,1,0,0]) (y := cd Try.f21 [1,1,0,1,0,1,1,1,0,1]) (by kernel_rfl) fun K22 hK22 => ?_
          obtain ⟨r2, c23, h⟩ := bnd_some h
          obtain ⟨r3, c24, h⟩ := bnd_some h
          refine XW.drwS 5 [(33, vi p2.scale), (32, .one (.pv (.rp [[pi p2.kind, pi p2.n, pi p2.scale, .s (.string p2.s), .ro (eValue.els p2.items)]] 0 2))), (31, vb r2), (30, vi p1.scale), (29, .one (.pv (.rp [[pi p1.kind, pi p1.n, pi p1.scale, .s (.string p1.s), .ro (eValue.els p1.items)]] 0 2))), (2, .one (.pv (.rp [[pi p1.kind, pi p1.n, pi p1.scale, .s (.string p1.s), .ro (eValue.els p1.items)]] 0 0))), (3, .one (.pv (.rp [[pi p2.kind, pi p2.n, pi p2.scale, .s (.string p2.s), .ro (eValue.els p2.items)]] 0 0))), (27, vb (p1.kind == (3 : Int)))] (by kernel_rfl) (by kernel_rfl) ?_ ?_
          · refine DX.go 2 [[pi p1.kind, pi p1.n, pi p1.scale, .s (.string p1.s), .ro (eValue.els p1.items)]] [(30, vi p1.scale), (29, .one (.pv (.rp [[pi p1.kind, pi p1.n, pi p1.scale, .s (.string p1.s), .ro (eValue.els p1.items)]] 0 2))), (2, .one (.pv (.rp [[pi p1.kind, pi p1.n, pi p1.scale, .s (.string p1.s), .ro (eValue.els p1.items)]] 0 0))), (3, .one (.pv (.rp [[pi p2.kind, pi p2.n, pi p2.scale, .s (.string p2.s), .ro (eValue.els p2.items)]] 0 0))), (27, vb (p1.kind == (3 : Int)))] [([[pi p1.kind, pi p1.n, pi p1.scale, .s (.string p1.s), .ro (eValue.els p1.items)]] : List (List PV))[0]? = some [pi p1.kind, pi p1.n, pi p1.scale, .s (.string p1.s), .ro (eValue.els p1.items)]] (by kernel_rfl) (⟨rfl, trivial⟩) ?_
            refine DX.cal 42 [vi p1.scale, vi (0 : Int), vi (12 : Int)] (vb r2) [(31, vb r2), (30, vi p1.scale), (29, .one (.pv (.rp [[pi p1.kind, pi p1.n, pi p1.scale, .s (.string p1.s), .ro (eValue.els p1.items)]] 0 2))), (2, .one (.pv (.rp [[pi p1.kind, pi p1.n, pi p1.scale, .s (.string p1.s), .ro (eValue.els p1.items)]] 0 0))), (3, .one (.pv (.rp [[pi p2.kind, pi p2.n, pi p2.scale, .s (.string p2.s), .ro (eValue.els p2.items)]] 0 0))), (27, vb (p1.kind == (3 : Int)))] (by kernel_rfl) (c_value_within _ _ _ _ c23) rfl rfl (by kernel_rfl) ?_
            refine DX.go 2 [[pi p2.kind, pi p2.n, pi p2.scale, .s (.string p2.s), .ro (eValue.els p2.items)]] [(33, vi p2.scale), (32, .one (.pv (.rp [[pi p2.kind, pi p2.n, pi p2.scale, .s (.string p2.s), .ro (eValue.els p2.items)]] 0 2))), (31, vb r2), (30, vi p1.scale), (29, .one (.pv (.rp [[pi p1.kind, pi p1.n, pi p1.scale, .s (.string p1.s), .ro (eValue.els p1.items)]] 0 2))), (2, .one (.pv (.rp [[pi p1.kind, pi p1.n, pi p1.scale, .s (.string p1.s), .ro (eValue.els p1.items)]] 0 0))), (3, .one (.pv (.rp [[pi p2.kind, pi p2.n, pi p2.scale, .s (.string p2.s), .ro (eValue.els p2.items)]] 0 0))), (27, vb (p1.kind == (3 : Int)))] [([[pi p2.kind, pi p2.n, pi p2.scale, .s (.string p2.s), .ro (eValue.els p2.items)]] : List (List PV))[0]? = some [pi p2.kind, pi p2.n, pi p2.scale, .s (.string p2.s), .ro (eValue.els p2.items)]] (by kernel_rfl) (⟨rfl, trivial⟩) ?_
            exact DX.done (by kernel_rfl)
          refine XO.cal 42 [vi p2.scale, vi (0 : Int), vi (12 : Int)] (vb r3) [(34, vb r3), (33, vi p2.scale), (32, .one (.pv (.rp [[pi p2.kind, pi p2.n, pi p2.scale, .s (.string p2.s), .ro (eValue.els p2.items)]] 0 2))), (31, vb r2), (30, vi p1.scale), (29, .one (.pv (.rp [[pi p1.kind, pi p1.n, pi p1.scale, .s (.string p1.s), .ro (eValue.els p1.items)]] 0 2))), (2, .one (.pv (.rp [[pi p1.kind, pi p1.n, pi p1.scale, .s (.string p1.s), .ro (eValue.els p1.items)]] 0 0))), (3, .one (.pv (.rp [[pi p2.kind, pi p2.n, pi p2.scale, .s (.string p2.s), .ro (eValue.els p2.items)]] 0 0))), (27, vb (p1.kind == (3 : Int)))] (by kernel_rfl) (c_value_within _ _ _ _ c24) rfl rfl (by kernel_rfl) ?_
          refine XO.go [] 2 [2,3,5,6] [] [(2, .one (.pv (.rp [[pi p1.kind, pi p1.n, pi p1.scale, .s (.string p1.s), .ro (eValue.els p1.items)]] 0 0))), (3, .one (.pv (.rp [[pi p2.kind, pi p2.n, pi p2.scale, .s (.string p2.s), .ro (eValue.els p2.items)]] 0 0))), (5, vb r2), (6, vb r3)] [] [] (by kernel_rfl) trivial ?_
          refine XO.done (by kernel_rfl) ?_
          refine hK22 _ _ ?_
          refine XW.block (id := 1) (x := cd Try.f21 [1,1,0,1,0,1,1,1,0,1,0]) (by kernel_rfl) ?_
          refine XW.seq (x := cd Try.f21 [1,1,0,1,0,1,1,1,0,1,0,0]) (y := cd Try.f21 [1,1,0,1,0,1,1,1,0,1,0,1]) (by kernel_rfl) fun K25 hK25 => ?_
          have hJ1 : ∀ (x1 : Bool), value_Compare_j1 (value_rest k0) p1 p2 r2 r3 x1 = some r → ∀ fr1 st1, Sub 72 0 [] fr1 st1 [(2, .one (.pv (.rp [[pi p1.kind, pi p1.n, pi p1.scale, .s (.string p1.s), .ro (eValue.els p1.items)]] 0 0))), (3, .one (.pv (.rp [[pi p2.kind, pi p2.n, pi p2.scale, .s (.string p2.s), .ro (eValue.els p2.items)]] 0 0))), (5, vb r2), (6, vb r3), (35, vb x1)] [] → K25 fr1 st1 := by
            intro x1 h fr1 st1 hS
            unfold value_Compare_j1 at h
            refine hK25 _ _ (XW.sub hS ?_)
            refine XW.cond (x := .tmp 35) (a := cd Try.f21 [1,1,0,1,0,1,1,1,0,1,0,1,0]) (b := cd Try.f21 [1,1,0,1,0,1,1,1,0,1,0,1,1]) (t := x1) (by kernel_rfl) (by kernel_rfl) (fun b27 => ?_) (fun b27 => ?_)
            · have h := ift_t b27 h
              refine XW.seq (x := cd Try.f21 [1,1,0,1,0,1,1,1,0,1,0,1,0,0]) (y := cd Try.f21 [1,1,0,1,0,1,1,1,0,1,0,1,0,1]) (by kernel_rfl) fun K28 hK28 => ?_
              obtain ⟨r4, c29, h⟩ := bnd_some h
              obtain ⟨r5, c30, h⟩ := bnd_some h
              obtain ⟨r6, c31, h⟩ := bnd_some h
              obtain ⟨r7, c32, h⟩ := bnd_some h
              obtain ⟨r8, c33, h⟩ := bnd_some h
              refine XW.drwS 15 [(54, .ag [ci p2.kind, ci p2.n, ci p2.scale, cst p2.s, cl eValue p2.items]), (53, .ag [ci p1.kind, ci p1.n, ci p1.scale, cst p1.s, cl eValue p1.items]), (52, vi r6), (51, .ag [cb r5.neg, ck .u64 r5.size.1, ck .u64 r5.size.2.1, ck .u64 r5.size.2.2.1, ck .u64 r5.size.2.2.2]), (50, vi (IntKind.i64.wrap ((12 : Int) - p2.scale))), (49, vi p2.scale), (48, .one (.pv (.rp [[pi p2.kind, pi p2.n, pi p2.scale, .s (.string p2.s), .ro (eValue.els p2.items)]] 0 2))), (47, vi p2.n), (46, .one (.pv (.rp [[pi p2.kind, pi p2.n, pi p2.scale, .s (.string p2.s), .ro (eValue.els p2.items)]] 0 1))), (45, .ag [cb r4.neg, ck .u64 r4.size.1, ck .u64 r4.size.2.1, ck .u64 r4.size.2.2.1, ck .u64 r4.size.2.2.2]), (44, vi (IntKind.i64.wrap ((12 : Int) - p1.scale))), (43, vi p1.scale), (42, .one (.pv (.rp [[pi p1.kind, pi p1.n, pi p1.scale, .s (.string p1.s), .ro (eValue.els p1.items)]] 0 2))), (41, vi p1.n), (40, .one (.pv (.rp [[pi p1.kind, pi p1.n, pi p1.scale, .s (.string p1.s), .ro (eValue.els p1.items)]] 0 1))), (2, .one (.pv (.rp [[pi p1.kind, pi p1.n, pi p1.scale, .s (.string p1.s), .ro (eValue.els p1.items)]] 0 0))), (3, .one (.pv (.rp [[pi p2.kind, pi p2.n, pi p2.scale, .s (.string p2.s), .ro (eValue.els p2.items)]] 0 0))), (5, vb r2), (6, vb r3), (35, vb x1)] (by kernel_rfl) (by kernel_rfl) ?_ ?_
              · refine DX.go 5 [[pi p1.kind, pi p1.n, pi p1.scale, .s (.string p1.s), .ro (eValue.els p1.items)], [pi p1.kind, pi p1.n, pi p1.scale, .s (.string p1.s), .ro (eValue.els p1.items)]] [(44, vi (IntKind.i64.wrap ((12 : Int) - p1.scale))), (43, vi p1.scale), (42, .one (.pv (.rp [[pi p1.kind, pi p1.n, pi p1.scale, .s (.string p1.s), .ro (eValue.els p1.items)]] 0 2))), (41, vi p1.n), (40, .one (.pv (.rp [[pi p1.kind, pi p1.n, pi p1.scale, .s (.string p1.s), .ro (eValue.els p1.items)]] 0 1))), (2, .one (.pv (.rp [[pi p1.kind, pi p1.n, pi p1.scale, .s (.string p1.s), .ro (eValue.els p1.items)]] 0 0))), (3, .one (.pv (.rp [[pi p2.kind, pi p2.n, pi p2.scale, .s (.string p2.s), .ro (eValue.els p2.items)]] 0 0))), (5, vb r2), (6, vb r3), (35, vb x1)] [([[pi p1.kind, pi p1.n, pi p1.scale, .s (.string p1.s), .ro (eValue.els p1.items)]] : List (List PV))[0]? = some [pi p1.kind, pi p1.n, pi p1.scale, .s (.string p1.s), .ro (eValue.els p1.items)], ([[pi p1.kind, pi p1.n, pi p1.scale, .s (.string p1.s), .ro (eValue.els p1.items)]] : List (List PV))[0]? = some [pi p1.kind, pi p1.n, pi p1.scale, .s (.string p1.s), .ro (eValue.els p1.items)]] (by kernel_rfl) (⟨rfl, rfl, trivial⟩) ?_
                refine DX.cal 51 [vi p1.n, vi (IntKind.i64.wrap ((12 : Int) - p1.scale))] (.ag [cb r4.neg, ck .u64 r4.size.1, ck .u64 r4.size.2.1, ck .u64 r4.size.2.2.1, ck .u64 r4.size.2.2.2]) [(45, .ag [cb r4.neg, ck .u64 r4.size.1, ck .u64 r4.size.2.1, ck .u64 r4.size.2.2.1, ck .u64 r4.size.2.2.2]), (44, vi (IntKind.i64.wrap ((12 : Int) - p1.scale))), (43, vi p1.scale), (42, .one (.pv (.rp [[pi p1.kind, pi p1.n, pi p1.scale, .s (.string p1.s), .ro (eValue.els p1.items)]] 0 2))), (41, vi p1.n), (40, .one (.pv (.rp [[pi p1.kind, pi p1.n, pi p1.scale, .s (.string p1.s), .ro (eValue.els p1.items)]] 0 1))), (2, .one (.pv (.rp [[pi p1.kind, pi p1.n, pi p1.scale, .s (.string p1.s), .ro (eValue.els p1.items)]] 0 0))), (3, .one (.pv (.rp [[pi p2.kind, pi p2.n, pi p2.scale, .s (.string p2.s), .ro (eValue.els p2.items)]] 0 0))), (5, vb r2), (6, vb r3), (35, vb x1)] (by kernel_rfl) (c_value_scaled _ _ _ c29) rfl rfl (by kernel_rfl) ?_
                refine DX.go 5 [[pi p2.kind, pi p2.n, pi p2.scale, .s (.string p2.s), .ro (eValue.els p2.items)], [pi p2.kind, pi p2.n, pi p2.scale, .s (.string p2.s), .ro (eValue.els p2.items)]] [(50, vi (IntKind.i64.wrap ((12 : Int) - p2.scale))), (49, vi p2.scale), (48, .one (.pv (.rp [[pi p2.kind, pi p2.n, pi p2.scale, .s (.string p2.s), .ro (eValue.els p2.items)]] 0 2))), (47, vi p2.n), (46, .one (.pv (.rp [[pi p2.kind, pi p2.n, pi p2.scale, .s (.string p2.s), .ro (eValue.els p2.items)]] 0 1))), (45, .ag [cb r4.neg, ck .u64 r4.size.1, ck .u64 r4.size.2.1, ck .u64 r4.size.2.2.1, ck .u64 r4.size.2.2.2]), (44, vi (IntKind.i64.wrap ((12 : Int) - p1.scale))), (43, vi p1.scale), (42, .one (.pv (.rp [[pi p1.kind, pi p1.n, pi p1.scale, .s (.string p1.s), .ro (eValue.els p1.items)]] 0 2))), (41, vi p1.n), (40, .one (.pv (.rp [[pi p1.kind, pi p1.n, pi p1.scale, .s (.string p1.s), .ro (eValue.els p1.items)]] 0 1))), (2, .one (.pv (.rp [[pi p1.kind, pi p1.n, pi p1.scale, .s (.string p1.s), .ro (eValue.els p1.items)]] 0 0))), (3, .one (.pv (.rp [[pi p2.kind, pi p2.n, pi p2.scale, .s (.string p2.s), .ro (eValue.els p2.items)]] 0 0))), (5, vb r2), (6, vb r3), (35, vb x1)] [([[pi p2.kind, pi p2.n, pi p2.scale, .s (.string p2.s), .ro (eValue.els p2.items)]] : List (List PV))[0]? = some [pi p2.kind, pi p2.n, pi p2.scale, .s (.string p2.s), .ro (eValue.els p2.items)], ([[pi p2.kind, pi p2.n, pi p2.scale, .s (.string p2.s), .ro (eValue.els p2.items)]] : List (List PV))[0]? = some [pi p2.kind, pi p2.n, pi p2.scale, .s (.string p2.s), .ro (eValue.els p2.items)]] (by kernel_rfl) (⟨rfl, rfl, trivial⟩) ?_
                refine DX.cal 51 [vi p2.n, vi (IntKind.i64.wrap ((12 : Int) - p2.scale))] (.ag [cb r5.neg, ck .u64 r5.size.1, ck .u64 r5.size.2.1, ck .u64 r5.size.2.2.1, ck .u64 r5.size.2.2.2]) [(51, .ag [cb r5.neg, ck .u64 r5.size.1, ck .u64 r5.size.2.1, ck .u64 r5.size.2.2.1, ck .u64 r5.size.2.2.2]), (50, vi (IntKind.i64.wrap ((12 : Int) - p2.scale))), (49, vi p2.scale), (48, .one (.pv (.rp [[pi p2.kind, pi p2.n, pi p2.scale, .s (.string p2.s), .ro (eValue.els p2.items)]] 0 2))), (47, vi p2.n), (46, .one (.pv (.rp [[pi p2.kind, pi p2.n, pi p2.scale, .s (.string p2.s), .ro (eValue.els p2.items)]] 0 1))), (45, .ag [cb r4.neg, ck .u64 r4.size.1, ck .u64 r4.size.2.1, ck .u64 r4.size.2.2.1, ck .u64 r4.size.2.2.2]), (44, vi (IntKind.i64.wrap ((12 : Int) - p1.scale))), (43, vi p1.scale), (42, .one (.pv (.rp [[pi p1.kind, pi p1.n, pi p1.scale, .s (.string p1.s), .ro (eValue.els p1.items)]] 0 2))), (41, vi p1.n), (40, .one (.pv (.rp [[pi p1.kind, pi p1.n, pi p1.scale, .s (.string p1.s), .ro (eValue.els p1.items)]] 0 1))), (2, .one (.pv (.rp [[pi p1.kind, pi p1.n, pi p1.scale, .s (.string p1.s), .ro (eValue.els p1.items)]] 0 0))), (3, .one (.pv (.rp [[pi p2.kind, pi p2.n, pi p2.scale, .s (.string p2.s), .ro (eValue.els p2.items)]] 0 0))), (5, vb r2), (6, vb r3), (35, vb x1)] (by kernel_rfl) (c_value_scaled _ _ _ c30) rfl rfl (by kernel_rfl) ?_
                refine DX.cal 52 [.ag [cb r4.neg, ck .u64 r4.size.1, ck .u64 r4.size.2.1, ck .u64 r4.size.2.2.1, ck .u64 r4.size.2.2.2], .ag [cb r5.neg, ck .u64 r5.size.1, ck .u64 r5.size.2.1, ck .u64 r5.size.2.2.1, ck .u64 r5.size.2.2.2]] (vi r6) [(52, vi r6), (51, .ag [cb r5.neg, ck .u64 r5.size.1, ck .u64 r5.size.2.1, ck .u64 r5.size.2.2.1, ck .u64 r5.size.2.2.2]), (50, vi (IntKind.i64.wrap ((12 : Int) - p2.scale))), (49, vi p2.scale), (48, .one (.pv (.rp [[pi p2.kind, pi p2.n, pi p2.scale, .s (.string p2.s), .ro (eValue.els p2.items)]] 0 2))), (47, vi p2.n), (46, .one (.pv (.rp [[pi p2.kind, pi p2.n, pi p2.scale, .s (.string p2.s), .ro (eValue.els p2.items)]] 0 1))), (45, .ag [cb r4.neg, ck .u64 r4.size.1, ck .u64 r4.size.2.1, ck .u64 r4.size.2.2.1, ck .u64 r4.size.2.2.2]), (44, vi (IntKind.i64.wrap ((12 : Int) - p1.scale))), (43, vi p1.scale), (42, .one (.pv (.rp [[pi p1.kind, pi p1.n, pi p1.scale, .s (.string p1.s), .ro (eValue.els p1.items)]] 0 2))), (41, vi p1.n), (40, .one (.pv (.rp [[pi p1.kind, pi p1.n, pi p1.scale, .s (.string p1.s), .ro (eValue.els p1.items)]] 0 1))), (2, .one (.pv (.rp [[pi p1.kind, pi p1.n, pi p1.scale, .s (.string p1.s), .ro (eValue.els p1.items)]] 0 0))), (3, .one (.pv (.rp [[pi p2.kind, pi p2.n, pi p2.scale, .s (.string p2.s), .ro (eValue.els p2.items)]] 0 0))), (5, vb r2), (6, vb r3), (35, vb x1)] (by kernel_rfl) (c_value_wide_compare _ _ _ c31) rfl rfl (by kernel_rfl) ?_
                refine DX.go 2 [[pi p1.kind, pi p1.n, pi p1.scale, .s (.string p1.s), .ro (eValue.els p1.items)], [pi p2.kind, pi p2.n, pi p2.scale, .s (.string p2.s), .ro (eValue.els p2.items)]] [(54, .ag [ci p2.kind, ci p2.n, ci p2.scale, cst p2.s, cl eValue p2.items]), (53, .ag [ci p1.kind, ci p1.n, ci p1.scale, cst p1.s, cl eValue p1.items]), (52, vi r6), (51, .ag [cb r5.neg, ck .u64 r5.size.1, ck .u64 r5.size.2.1, ck .u64 r5.size.2.2.1, ck .u64 r5.size.2.2.2]), (50, vi (IntKind.i64.wrap ((12 : Int) - p2.scale))), (49, vi p2.scale), (48, .one (.pv (.rp [[pi p2.kind, pi p2.n, pi p2.scale, .s (.string p2.s), .ro (eValue.els p2.items)]] 0 2))), (47, vi p2.n), (46, .one (.pv (.rp [[pi p2.kind, pi p2.n, pi p2.scale, .s (.string p2.s), .ro (eValue.els p2.items)]] 0 1))), (45, .ag [cb r4.neg, ck .u64 r4.size.1, ck .u64 r4.size.2.1, ck .u64 r4.size.2.2.1, ck .u64 r4.size.2.2.2]), (44, vi (IntKind.i64.wrap ((12 : Int) - p1.scale))), (43, vi p1.scale), (42, .one (.pv (.rp [[pi p1.kind, pi p1.n, pi p1.scale, .s (.string p1.s), .ro (eValue.els p1.items)]] 0 2))), (41, vi p1.n), (40, .one (.pv (.rp [[pi p1.kind, pi p1.n, pi p1.scale, .s (.string p1.s), .ro (eValue.els p1.items)]] 0 1))), (2, .one (.pv (.rp [[pi p1.kind, pi p1.n, pi p1.scale, .s (.string p1.s), .ro (eValue.els p1.items)]] 0 0))), (3, .one (.pv (.rp [[pi p2.kind, pi p2.n, pi p2.scale, .s (.string p2.s), .ro (eValue.els p2.items)]] 0 0))), (5, vb r2), (6, vb r3), (35, vb x1)] [([[pi p1.kind, pi p1.n, pi p1.scale, .s (.string p1.s), .ro (eValue.els p1.items)]] : List (List PV))[0]? = some [pi p1.kind, pi p1.n, pi p1.scale, .s (.string p1.s), .ro (eValue.els p1.items)], ([[pi p2.kind, pi p2.n, pi p2.scale, .s (.string p2.s), .ro (eValue.els p2.items)]] : List (List PV))[0]? = some [pi p2.kind, pi p2.n, pi p2.scale, .s (.string p2.s), .ro (eValue.els p2.items)]] (by kernel_rfl) (⟨rfl, rfl, trivial⟩) ?_
                exact DX.done (by kernel_rfl)
              refine XO.cal 53 [.ag [ci p1.kind, ci p1.n, ci p1.scale, cst p1.s, cl eValue p1.items], .ag [ci p2.kind, ci p2.n, ci p2.scale, cst p2.s, cl eValue p2.items]] (vi r7) [(55, vi r7), (54, .ag [ci p2.kind, ci p2.n, ci p2.scale, cst p2.s, cl eValue p2.items]), (53, .ag [ci p1.kind, ci p1.n, ci p1.scale, cst p1.s, cl eValue p1.items]), (52, vi r6), (51, .ag [cb r5.neg, ck .u64 r5.size.1, ck .u64 r5.size.2.1, ck .u64 r5.size.2.2.1, ck .u64 r5.size.2.2.2]), (50, vi (IntKind.i64.wrap ((12 : Int) - p2.scale))), (49, vi p2.scale), (48, .one (.pv (.rp [[pi p2.kind, pi p2.n, pi p2.scale, .s (.string p2.s), .ro (eValue.els p2.items)]] 0 2))), (47, vi p2.n), (46, .one (.pv (.rp [[pi p2.kind, pi p2.n, pi p2.scale, .s (.string p2.s), .ro (eValue.els p2.items)]] 0 1))), (45, .ag [cb r4.neg, ck .u64 r4.size.1, ck .u64 r4.size.2.1, ck .u64 r4.size.2.2.1, ck .u64 r4.size.2.2.2]), (44, vi (IntKind.i64.wrap ((12 : Int) - p1.scale))), (43, vi p1.scale), (42, .one (.pv (.rp [[pi p1.kind, pi p1.n, pi p1.scale, .s (.string p1.s), .ro (eValue.els p1.items)]] 0 2))), (41, vi p1.n), (40, .one (.pv (.rp [[pi p1.kind, pi p1.n, pi p1.scale, .s (.string p1.s), .ro (eValue.els p1.items)]] 0 1))), (2, .one (.pv (.rp [[pi p1.kind, pi p1.n, pi p1.scale, .s (.string p1.s), .ro (eValue.els p1.items)]] 0 0))), (3, .one (.pv (.rp [[pi p2.kind, pi p2.n, pi p2.scale, .s (.string p2.s), .ro (eValue.els p2.items)]] 0 0))), (5, vb r2), (6, vb r3), (35, vb x1)] (by kernel_rfl) (c_value_rest k0 _ _ _ c32) rfl rfl (by kernel_rfl) ?_
              refine XO.go [] 1 [56] [] [(56, vl eI [r6, r7])] [] [] (by kernel_rfl) trivial ?_
              refine XO.cal 50 [vl eI [r6, r7]] (vi r8) [(57, vi r8), (56, vl eI [r6, r7])] (by kernel_rfl) (c_cmp_Or_int _ _ c33) rfl rfl (by kernel_rfl) ?_
              refine XO.go [] 1 [4] [] [(4, vi r8)] [] [] (by kernel_rfl) trivial ?_
              refine XO.done (by kernel_rfl) ?_
              refine hK28 _ _ ?_
              refine XW.ret (by kernel_rfl) ?_
              obtain rfl := Option.some.inj h
              exact FinP.fin (.inr rfl) [] [vi r8] [] (by kernel_rfl) trivial (.one (.rfl _ rfl))
            · have h := ift_f b27 h
              refine XW.seq (x := cd Try.f21 [1,1,0,1,0,1,1,1,0,1,0,1,1,0]) (y := cd Try.f21 [1,1,0,1,0,1,1,1,0,1,0,1,1,1]) (by kernel_rfl) fun K34 hK34 => ?_
              refine XW.reg (by kernel_rfl) ?_
              refine XO.go [] 2 [2,3,6,58] [] [(2, .one (.pv (.rp [[pi p1.kind, pi p1.n, pi p1.scale, .s (.string p1.s), .ro (eValue.els p1.items)]] 0 0))), (3, .one (.pv (.rp [[pi p2.kind, pi p2.n, pi p2.scale, .s (.string p2.s), .ro (eValue.els p2.items)]] 0 0))), (6, vb r3), (58, vb r2)] [] [] (by kernel_rfl) trivial ?_
              refine XO.done (by kernel_rfl) ?_
              refine hK34 _ _ ?_
              refine XW.cond (x := .tmp 58) (a := cd Try.f21 [1,1,0,1,0,1,1,1,0,1,0,1,1,1,0]) (b := cd Try.f21 [1,1,0,1,0,1,1,1,0,1,0,1,1,1,1]) (t := r2) (by kernel_rfl) (by kernel_rfl) (fun b35 => ?_) (fun b35 => ?_)
              · have h := ift_t b35 h
                refine XW.seq (x := cd Try.f21 [1,1,0,1,0,1,1,1,0,1,0,1,1,1,0,0]) (y := cd Try.f21 [1,1,0,1,0,1,1,1,0,1,0,1,1,1,0,1]) (by kernel_rfl) fun K36 hK36 => ?_
                refine XW.reg (by kernel_rfl) ?_
                refine XO.go [] 1 [4] [] [(4, vi (-1 : Int))] [] [] (by kernel_rfl) trivial ?_
                refine XO.done (by kernel_rfl) ?_
                refine hK36 _ _ ?_
                refine XW.ret (by kernel_rfl) ?_
                obtain rfl := Option.some.inj h
                exact FinP.fin (.inr rfl) [] [vi (-1 : Int)] [] (by kernel_rfl) trivial (.one (.rfl _ rfl))
              · have h := ift_f b35 h
                refine XW.seq (x := cd Try.f21 [1,1,0,1,0,1,1,1,0,1,0,1,1,1,1,0]) (y := cd Try.f21 [1,1,0,1,0,1,1,1,0,1,0,1,1,1,1,1]) (by kernel_rfl) fun K37 hK37 => ?_
                refine XW.reg (by kernel_rfl) ?_
                refine XO.go [] 2 [2,3,60] [] [(2, .one (.pv (.rp [[pi p1.kind, pi p1.n, pi p1.scale, .s (.string p1.s), .ro (eValue.els p1.items)]] 0 0))), (3, .one (.pv (.rp [[pi p2.kind, pi p2.n, pi p2.scale, .s (.string p2.s), .ro (eValue.els p2.items)]] 0 0))), (60, vb r3)] [] [] (by kernel_rfl) trivial ?_
                refine XO.done (by kernel_rfl) ?_
                refine hK37 _ _ ?_
                refine XW.cond (x := .tmp 60) (a := cd Try.f21 [1,1,0,1,0,1,1,1,0,1,0,1,1,1,1,1,0]) (b := cd Try.f21 [1,1,0,1,0,1,1,1,0,1,0,1,1,1,1,1,1]) (t := r3) (by kernel_rfl) (by kernel_rfl) (fun b38 => ?_) (fun b38 => ?_)
                · have h := ift_t b38 h
                  refine XW.seq (x := cd Try.f21 [1,1,0,1,0,1,1,1,0,1,0,1,1,1,1,1,0,0]) (y := cd Try.f21 [1,1,0,1,0,1,1,1,0,1,0,1,1,1,1,1,0,1]) (by kernel_rfl) fun K39 hK39 => ?_
                  refine XW.reg (by kernel_rfl) ?_
                  refine XO.go [] 1 [4] [] [(4, vi (1 : Int))] [] [] (by kernel_rfl) trivial ?_
                  refine XO.done (by kernel_rfl) ?_
                  refine hK39 _ _ ?_
                  refine XW.ret (by kernel_rfl) ?_
                  obtain rfl := Option.some.inj h
                  exact FinP.fin (.inr rfl) [] [vi (1 : Int)] [] (by kernel_rfl) trivial (.one (.rfl _ rfl))
                · have h := ift_f b38 h
                  refine XW.skip (by kernel_rfl) ?_
                  exact hJ2 () h _ _ (Sub.pick [2,3] (by kernel_rfl))
          rcases Bool.eq_false_or_eq_true r2 with b26 | b26
          · have h := ift_t b26 h
            refine XW.reg (by kernel_rfl) ?_
            refine XO.go [] 2 [2,3,5,6,37] [] [(2, .one (.pv (.rp [[pi p1.kind, pi p1.n, pi p1.scale, .s (.string p1.s), .ro (eValue.els p1.items)]] 0 0))), (3, .one (.pv (.rp [[pi p2.kind, pi p2.n, pi p2.scale, .s (.string p2.s), .ro (eValue.els p2.items)]] 0 0))), (5, vb r2), (6, vb r3), (37, vb r2)] [] [] (by kernel_rfl) trivial ?_
            refine XO.setb 37 true (B := r2) rfl b26 ?_
            refine XO.go [] 3 [2,3,5,6,35] [] [(2, .one (.pv (.rp [[pi p1.kind, pi p1.n, pi p1.scale, .s (.string p1.s), .ro (eValue.els p1.items)]] 0 0))), (3, .one (.pv (.rp [[pi p2.kind, pi p2.n, pi p2.scale, .s (.string p2.s), .ro (eValue.els p2.items)]] 0 0))), (5, vb r2), (6, vb r3), (35, vb r3)] [] [] (by kernel_rfl) trivial ?_
            refine XO.done (by kernel_rfl) ?_
            exact hJ1 r3 h _ _ (Sub.pick [2,3,5,6,35] (by kernel_rfl))
          · have h := ift_f b26 h
            refine XW.reg (by kernel_rfl) ?_
            refine XO.go [] 2 [2,3,5,6,37] [] [(2, .one (.pv (.rp [[pi p1.kind, pi p1.n, pi p1.scale, .s (.string p1.s), .ro (eValue.els p1.items)]] 0 0))), (3, .one (.pv (.rp [[pi p2.kind, pi p2.n, pi p2.scale, .s (.string p2.s), .ro (eValue.els p2.items)]] 0 0))), (5, vb r2), (6, vb r3), (37, vb r2)] [] [] (by kernel_rfl) trivial ?_
            refine XO.setb 37 false (B := r2) rfl b26 ?_
            refine XO.go [] 3 [2,3,5,6,35] [] [(2, .one (.pv (.rp [[pi p1.kind, pi p1.n, pi p1.scale, .s (.string p1.s), .ro (eValue.els p1.items)]] 0 0))), (3, .one (.pv (.rp [[pi p2.kind, pi p2.n, pi p2.scale, .s (.string p2.s), .ro (eValue.els p2.items)]] 0 0))), (5, vb r2), (6, vb r3), (35, vb false)] [] [] (by kernel_rfl) trivial ?_
            refine XO.done (by kernel_rfl) ?_
            exact hJ1 false h _ _ (Sub.pick [2,3,5,6,35] (by kernel_rfl))
        · have h := ift_f b21 h
          refine XW.skip (by kernel_rfl) ?_
          exact hJ2 () h _ _ (Sub.pick [2,3] (by kernel_rfl))

theorem c_value_rest : ∀ (k0 : Nat) (p1 : GValue) (p2 : GValue) (r : Int), value_rest k0 p1 p2 = some r → PC Try.prog 53 [.ag [ci p1.kind, ci p1.n, ci p1.scale, cst p1.s, cl eValue p1.items], .ag [ci p2.kind, ci p2.n, ci p2.scale, cst p2.s, cl eValue p2.items]] (vi r)
  | 0, _, _, r, h => by rw [value_rest.eq_1] at h; cases h
  | k0 + 1, p1, p2, r, h => by
    rw [value_rest.eq_2] at h
    refine PC.of (n := 22) (fn := Try.f53) (c := cd Try.f53 []) (by kernel_rfl) (by kernel_rfl) (by kernel_rfl) (Nat.le_of_ble_eq_true rfl) ?_
    refine XW.seq (x := cd Try.f53 [0]) (y := cd Try.f53 [1]) (by kernel_rfl) fun K1 hK1 => ?_
    refine XW.reg (by kernel_rfl) ?_
    refine XO.go [] 3 [2,3] [] [(2, .one (.pv (.rp [[pi p1.kind, pi p1.n, pi p1.scale, .s (.string p1.s), .ro (eValue.els p1.items)]] 0 0))), (3, .one (.pv (.rp [[pi p2.kind, pi p2.n, pi p2.scale, .s (.string p2.s), .ro (eValue.els p2.items)]] 0 0)))] [] [] (by kernel_rfl) trivial ?_
    refine XO.done (by kernel_rfl) ?_
    refine hK1 _ _ ?_
    refine XW.seq (x := cd Try.f53 [1,0]) (y := cd Try.f53 [1,1]) (by kernel_rfl) fun K2 hK2 => ?_
    obtain ⟨r1, c3, h⟩ := bnd_some h
    obtain ⟨r2, c4, h⟩ := bnd_some h
    obtain ⟨r3, c5, h⟩ := bnd_some h
    obtain ⟨r4, c6, h⟩ := bnd_some h
    refine XW.drwS 14 [(18, vl eValue p2.items), (17, .one (.pv (.rp [[pi p2.kind, pi p2.n, pi p2.scale, .s (.string p2.s), .ro (eValue.els p2.items)]] 0 4))), (16, vl eValue p1.items), (15, .one (.pv (.rp [[pi p1.kind, pi p1.n, pi p1.scale, .s (.string p1.s), .ro (eValue.els p1.items)]] 0 4))), (14, vi r2), (13, vs p2.s), (12, .one (.pv (.rp [[pi p2.kind, pi p2.n, pi p2.scale, .s (.string p2.s), .ro (eValue.els p2.items)]] 0 3))), (11, vs p1.s), (10, .one (.pv (.rp [[pi p1.kind, pi p1.n, pi p1.scale, .s (.string p1.s), .ro (eValue.els p1.items)]] 0 3))), (9, vi r1), (8, vi p2.scale), (7, .one (.pv (.rp [[pi p2.kind, pi p2.n, pi p2.scale, .s (.string p2.s), .ro (eValue.els p2.items)]] 0 2))), (6, vi p1.scale), (5, .one (.pv (.rp [[pi p1.kind, pi p1.n, pi p1.scale, .s (.string p1.s), .ro (eValue.els p1.items)]] 0 2))), (2, .one (.pv (.rp [[pi p1.kind, pi p1.n, pi p1.scale, .s (.string p1.s), .ro (eValue.els p1.items)]] 0 0))), (3, .one (.pv (.rp [[pi p2.kind, pi p2.n, pi p2.scale, .s (.string p2.s), .ro (eValue.els p2.items)]] 0 0)))] (by kernel_rfl) (by kernel_rfl) ?_ ?_
    · refine DX.go 4 [[pi p1.kind, pi p1.n, pi p1.scale, .s (.string p1.s), .ro (eValue.els p1.items)], [pi p2.kind, pi p2.n, pi p2.scale, .s (.string p2.s), .ro (eValue.els p2.items)]] [(8, vi p2.scale), (7, .one (.pv (.rp [[pi p2.kind, pi p2.n, pi p2.scale, .s (.string p2.s), .ro (eValue.els p2.items)]] 0 2))), (6, vi p1.scale), (5, .one (.pv (.rp [[pi p1.kind, pi p1.n, pi p1.scale, .s (.string p1.s), .ro (eValue.els p1.items)]] 0 2))), (2, .one (.pv (.rp [[pi p1.kind, pi p1.n, pi p1.scale, .s (.string p1.s), .ro (eValue.els p1.items)]] 0 0))), (3, .one (.pv (.rp [[pi p2.kind, pi p2.n, pi p2.scale, .s (.string p2.s), .ro (eValue.els p2.items)]] 0 0)))] [([[pi p1.kind, pi p1.n, pi p1.scale, .s (.string p1.s), .ro (eValue.els p1.items)]] : List (List PV))[0]? = some [pi p1.kind, pi p1.n, pi p1.scale, .s (.string p1.s), .ro (eValue.els p1.items)], ([[pi p2.kind, pi p2.n, pi p2.scale, .s (.string p2.s), .ro (eValue.els p2.items)]] : List (List PV))[0]? = some [pi p2.kind, pi p2.n, pi p2.scale, .s (.string p2.s), .ro (eValue.els p2.items)]] (by kernel_rfl) (⟨rfl, rfl, trivial⟩) ?_
      refine DX.cal 49 [vi p1.scale, vi p2.scale] (vi r1) [(9, vi r1), (8, vi p2.scale), (7, .one (.pv (.rp [[pi p2.kind, pi p2.n, pi p2.scale, .s (.string p2.s), .ro (eValue.els p2.items)]] 0 2))), (6, vi p1.scale), (5, .one (.pv (.rp [[pi p1.kind, pi p1.n, pi p1.scale, .s (.string p1.s), .ro (eValue.els p1.items)]] 0 2))), (2, .one (.pv (.rp [[pi p1.kind, pi p1.n, pi p1.scale, .s (.string p1.s), .ro (eValue.els p1.items)]] 0 0))), (3, .one (.pv (.rp [[pi p2.kind, pi p2.n, pi p2.scale, .s (.string p2.s), .ro (eValue.els p2.items)]] 0 0)))] (by kernel_rfl) (c_cmp_Compare_int _ _ _ c3) rfl rfl (by kernel_rfl) ?_
      refine DX.go 4 [[pi p1.kind, pi p1.n, pi p1.scale, .s (.string p1.s), .ro (eValue.els p1.items)], [pi p2.kind, pi p2.n, pi p2.scale, .s (.string p2.s), .ro (eValue.els p2.items)]] [(13, vs p2.s), (12, .one (.pv (.rp [[pi p2.kind, pi p2.n, pi p2.scale, .s (.string p2.s), .ro (eValue.els p2.items)]] 0 3))), (11, vs p1.s), (10, .one (.pv (.rp [[pi p1.kind, pi p1.n, pi p1.scale, .s (.string p1.s), .ro (eValue.els p1.items)]] 0 3))), (9, vi r1), (8, vi p2.scale), (7, .one (.pv (.rp [[pi p2.kind, pi p2.n, pi p2.scale, .s (.string p2.s), .ro (eValue.els p2.items)]] 0 2))), (6, vi p1.scale), (5, .one (.pv (.rp [[pi p1.kind, pi p1.n, pi p1.scale, .s (.string p1.s), .ro (eValue.els p1.items)]] 0 2))), (2, .one (.pv (.rp [[pi p1.kind, pi p1.n, pi p1.scale, .s (.string p1.s), .ro (eValue.els p1.items)]] 0 0))), (3, .one (.pv (.rp [[pi p2.kind, pi p2.n, pi p2.scale, .s (.string p2.s), .ro (eValue.els p2.items)]] 0 0)))] [([[pi p1.kind, pi p1.n, pi p1.scale, .s (.string p1.s), .ro (eValue.els p1.items)]] : List (List PV))[0]? = some [pi p1.kind, pi p1.n, pi p1.scale, .s (.string p1.s), .ro (eValue.els p1.items)], ([[pi p2.kind, pi p2.n, pi p2.scale, .s (.string p2.s), .ro (eValue.els p2.items)]] : List (List PV))[0]? = some [pi p2.kind, pi p2.n, pi p2.scale, .s (.string p2.s), .ro (eValue.els p2.items)]] (by kernel_rfl) (⟨rfl, rfl, trivial⟩) ?_
      refine DX.cal 87 [vs p1.s, vs p2.s] (vi r2) [(14, vi r2), (13, vs p2.s), (12, .one (.pv (.rp [[pi p2.kind, pi p2.n, pi p2.scale, .s (.string p2.s), .ro (eValue.els p2.items)]] 0 3))), (11, vs p1.s), (10, .one (.pv (.rp [[pi p1.kind, pi p1.n, pi p1.scale, .s (.string p1.s), .ro (eValue.els p1.items)]] 0 3))), (9, vi r1), (8, vi p2.scale), (7, .one (.pv (.rp [[pi p2.kind, pi p2.n, pi p2.scale, .s (.string p2.s), .ro (eValue.els p2.items)]] 0 2))), (6, vi p1.scale), (5, .one (.pv (.rp [[pi p1.kind, pi p1.n, pi p1.scale, .s (.string p1.s), .ro (eValue.els p1.items)]] 0 2))), (2, .one (.pv (.rp [[pi p1.kind, pi p1.n, pi p1.scale, .s (.string p1.s), .ro (eValue.els p1.items)]] 0 0))), (3, .one (.pv (.rp [[pi p2.kind, pi p2.n, pi p2.scale, .s (.string p2.s), .ro (eValue.els p2.items)]] 0 0)))] (by kernel_rfl) (c_cmp_Compare_string _ _ _ c4) rfl rfl (by kernel_rfl) ?_
      refine DX.go 4 [[pi p1.kind, pi p1.n, pi p1.scale, .s (.string p1.s), .ro (eValue.els p1.items)], [pi p2.kind, pi p2.n, pi p2.scale, .s (.string p2.s), .ro (eValue.els p2.items)]] [(18, vl eValue p2.items), (17, .one (.pv (.rp [[pi p2.kind, pi p2.n, pi p2.scale, .s (.string p2.s), .ro (eValue.els p2.items)]] 0 4))), (16, vl eValue p1.items), (15, .one (.pv (.rp [[pi p1.kind, pi p1.n, pi p1.scale, .s (.string p1.s), .ro (eValue.els p1.items)]] 0 4))), (14, vi r2), (13, vs p2.s), (12, .one (.pv (.rp [[pi p2.kind, pi p2.n, pi p2.scale, .s (.string p2.s), .ro (eValue.els p2.items)]] 0 3))), (11, vs p1.s), (10, .one (.pv (.rp [[pi p1.kind, pi p1.n, pi p1.scale, .s (.string p1.s), .ro (eValue.els p1.items)]] 0 3))), (9, vi r1), (8, vi p2.scale), (7, .one (.pv (.rp [[pi p2.kind, pi p2.n, pi p2.scale, .s (.string p2.s), .ro (eValue.els p2.items)]] 0 2))), (6, vi p1.scale), (5, .one (.pv (.rp [[pi p1.kind, pi p1.n, pi p1.scale, .s (.string p1.s), .ro (eValue.els p1.items)]] 0 2))), (2, .one (.pv (.rp [[pi p1.kind, pi p1.n, pi p1.scale, .s (.string p1.s), .ro (eValue.els p1.items)]] 0 0))), (3, .one (.pv (.rp [[pi p2.kind, pi p2.n, pi p2.scale, .s (.string p2.s), .ro (eValue.els p2.items)]] 0 0)))] [([[pi p1.kind, pi p1.n, pi p1.scale, .s (.string p1.s), .ro (eValue.els p1.items)]] : List (List PV))[0]? = some [pi p1.kind, pi p1.n, pi p1.scale, .s (.string p1.s), .ro (eValue.els p1.items)], ([[pi p2.kind, pi p2.n, pi p2.scale, .s (.string p2.s), .ro (eValue.els p2.items)]] : List (List PV))[0]? = some [pi p2.kind, pi p2.n, pi p2.scale, .s (.string p2.s), .ro (eValue.els p2.items)]] (by kernel_rfl) (⟨rfl, rfl, trivial⟩) ?_
      exact DX.done (by kernel_rfl)
    refine XO.cal 88 [vl eValue p1.items, vl eValue p2.items, .one (.pv (.fn 21 []))] (vi r3) [(19, vi r3), (18, vl eValue p2.items), (17, .one (.pv (.rp [[pi p2.kind, pi p2.n, pi p2.scale, .s (.string p2.s), .ro (eValue.els p2.items)]] 0 4))), (16, vl eValue p1.items), (15, .one (.pv (.rp [[pi p1.kind, pi p1.n, pi p1.scale, .s (.string p1.s), .ro (eValue.els p1.items)]] 0 4))), (14, vi r2), (13, vs p2.s), (12, .one (.pv (.rp [[pi p2.kind, pi p2.n, pi p2.scale, .s (.string p2.s), .ro (eValue.els p2.items)]] 0 3))), (11, vs p1.s), (10, .one (.pv (.rp [[pi p1.kind, pi p1.n, pi p1.scale, .s (.string p1.s), .ro (eValue.els p1.items)]] 0 3))), (9, vi r1), (8, vi p2.scale), (7, .one (.pv (.rp [[pi p2.kind, pi p2.n, pi p2.scale, .s (.string p2.s), .ro (eValue.els p2.items)]] 0 2))), (6, vi p1.scale), (5, .one (.pv (.rp [[pi p1.kind, pi p1.n, pi p1.scale, .s (.string p1.s), .ro (eValue.els p1.items)]] 0 2))), (2, .one (.pv (.rp [[pi p1.kind, pi p1.n, pi p1.scale, .s (.string p1.s), .ro (eValue.els p1.items)]] 0 0))), (3, .one (.pv (.rp [[pi p2.kind, pi p2.n, pi p2.scale, .s (.string p2.s), .ro (eValue.els p2.items)]] 0 0)))] (by kernel_rfl) (c_slices_CompareFunc_api_Value_api_Value_api_Value_api_Value_s1 k0 _ _ _ c5) rfl rfl (by kernel_rfl) ?_
    refine XO.go [] 1 [20] [] [(20, vl eI [r1, r2, r3])] [] [] (by kernel_rfl) trivial ?_
    refine XO.cal 50 [vl eI [r1, r2, r3]] (vi r4) [(21, vi r4), (20, vl eI [r1, r2, r3])] (by kernel_rfl) (c_cmp_Or_int _ _ c6) rfl rfl (by kernel_rfl) ?_
    refine XO.go [] 1 [4] [] [(4, vi r4)] [] [] (by kernel_rfl) trivial ?_
    refine XO.done (by kernel_rfl) ?_
    refine hK2 _ _ ?_
    refine XW.ret (by kernel_rfl) ?_
    obtain rfl := Option.some.inj h
    exact FinP.fin (.inr rfl) [] [vi r4] [] (by kernel_rfl) trivial (.one (.rfl _ rfl))

end

def ref1_order (p1 : Int) (p2 : Int) : Option Int :=
    ift (decide (p1 < p2))
      (some (-1 : Int))
      (ift (decide (p2 < p1))
         (some (1 : Int))
         (some (0 : Int)))


theorem c_ref1_order (p1 : Int) (p2 : Int) (r : Int) (h : ref1_order p1 p2 = some r) : PC Try.prog 54 [vi p1, vi p2] (vi r) := by
  unfold ref1_order at h
  refine PC.of (n := 11) (fn := Try.f54) (c := cd Try.f54 []) (by kernel_rfl) (by kernel_rfl) (by kernel_rfl) (Nat.le_of_ble_eq_true rfl) ?_
  refine XW.seq (x := cd Try.f54 [0]) (y := cd Try.f54 [1]) (by kernel_rfl) fun K1 hK1 => ?_
  refine XW.reg (by kernel_rfl) ?_
  refine XO.go [] 1 [0,1] [] [(0, vi p1), (1, vi p2)] [] [] (by kernel_rfl) trivial ?_
  refine XO.done (by kernel_rfl) ?_
  refine hK1 _ _ ?_
  refine XW.seq (x := cd Try.f54 [1,0]) (y := cd Try.f54 [1,1]) (by kernel_rfl) fun K2 hK2 => ?_
  refine XW.seq (x := cd Try.f54 [1,0,0]) (y := cd Try.f54 [1,0,1]) (by kernel_rfl) fun K3 hK3 => ?_
  refine XW.reg (by kernel_rfl) ?_
  refine XO.go [] 3 [0,1,7] [] [(0, vi p1), (1, vi p2), (7, vb (decide (p1 < p2)))] [] [] (by kernel_rfl) trivial ?_
  refine XO.done (by kernel_rfl) ?_
  refine hK3 _ _ ?_
  refine XW.cond (x := .tmp 7) (a := cd Try.f54 [1,0,1,0]) (b := cd Try.f54 [1,0,1,1]) (t := (decide (p1 < p2))) (by kernel_rfl) (by kernel_rfl) (fun b4 => ?_) (fun b4 => ?_)
  · have h := ift_t b4 h
    refine XW.seq (x := cd Try.f54 [1,0,1,0,0]) (y := cd Try.f54 [1,0,1,0,1]) (by kernel_rfl) fun K5 hK5 => ?_
    refine XW.reg (by kernel_rfl) ?_
    refine XO.go [] 1 [4] [] [(4, vi (-1 : Int))] [] [] (by kernel_rfl) trivial ?_
    refine XO.done (by kernel_rfl) ?_
    refine hK5 _ _ ?_
    refine XW.ret (by kernel_rfl) ?_
    obtain rfl := Option.some.inj h
    exact FinP.fin (.inr rfl) [] [vi (-1 : Int)] [] (by kernel_rfl) trivial (.one (.rfl _ rfl))
  · have h := ift_f b4 h
    refine XW.skip (by kernel_rfl) ?_
    refine hK2 _ _ ?_
    refine XW.seq (x := cd Try.f54 [1,1,0]) (y := cd Try.f54 [1,1,1]) (by kernel_rfl) fun K6 hK6 => ?_
    refine XW.seq (x := cd Try.f54 [1,1,0,0]) (y := cd Try.f54 [1,1,0,1]) (by kernel_rfl) fun K7 hK7 => ?_
    refine XW.reg (by kernel_rfl) ?_
    refine XO.go [] 3 [10] [] [(10, vb (decide (p2 < p1)))] [] [] (by kernel_rfl) trivial ?_
    refine XO.done (by kernel_rfl) ?_
    refine hK7 _ _ ?_
    refine XW.cond (x := .tmp 10) (a := cd Try.f54 [1,1,0,1,0]) (b := cd Try.f54 [1,1,0,1,1]) (t := (decide (p2 < p1))) (by kernel_rfl) (by kernel_rfl) (fun b8 => ?_) (fun b8 => ?_)
    · have h := ift_t b8 h
      refine XW.seq (x := cd Try.f54 [1,1,0,1,0,0]) (y := cd Try.f54 [1,1,0,1,0,1]) (by kernel_rfl) fun K9 hK9 => ?_
      refine XW.reg (by kernel_rfl) ?_
      refine XO.go [] 1 [4] [] [(4, vi (1 : Int))] [] [] (by kernel_rfl) trivial ?_
      refine XO.done (by kernel_rfl) ?_
      refine hK9 _ _ ?_
      refine XW.ret (by kernel_rfl) ?_
      obtain rfl := Option.some.inj h
      exact FinP.fin (.inr rfl) [] [vi (1 : Int)] [] (by kernel_rfl) trivial (.one (.rfl _ rfl))
    · have h := ift_f b8 h
      refine XW.skip (by kernel_rfl) ?_
      refine hK6 _ _ ?_
      refine XW.seq (x := cd Try.f54 [1,1,1,0]) (y := cd Try.f54 [1,1,1,1]) (by kernel_rfl) fun K10 hK10 => ?_
      refine XW.reg (by kernel_rfl) ?_
      refine XO.go [] 1 [4] [] [(4, vi (0 : Int))] [] [] (by kernel_rfl) trivial ?_
      refine XO.done (by kernel_rfl) ?_
      refine hK10 _ _ ?_
      refine XW.ret (by kernel_rfl) ?_
      obtain rfl := Option.some.inj h
      exact FinP.fin (.inr rfl) [] [vi (0 : Int)] [] (by kernel_rfl) trivial (.one (.rfl _ rfl))

def ref1_within_j1 (x1 : Bool) : Option Bool :=
    some x1

def ref1_within (p1 : Int) (p2 : Int) (p3 : Int) : Option Bool :=
    ift (decide (p2 ≤ p1))
      (ref1_within_j1 (decide (p1 ≤ p3)))
      (ref1_within_j1 false)


theorem c_ref1_within (p1 : Int) (p2 : Int) (p3 : Int) (r : Bool) (h : ref1_within p1 p2 p3 = some r) : PC Try.prog 58 [vi p1, vi p2, vi p3] (vb r) := by
  unfold ref1_within at h
  refine PC.of (n := 15) (fn := Try.f58) (c := cd Try.f58 []) (by kernel_rfl) (by kernel_rfl) (by kernel_rfl) (Nat.le_of_ble_eq_true rfl) ?_
  refine XW.seq (x := cd Try.f58 [0]) (y := cd Try.f58 [1]) (by kernel_rfl) fun K1 hK1 => ?_
  refine XW.reg (by kernel_rfl) ?_
  refine XO.go [] 1 [0,1,2] [] [(0, vi p1), (1, vi p2), (2, vi p3)] [] [] (by kernel_rfl) trivial ?_
  refine XO.done (by kernel_rfl) ?_
  refine hK1 _ _ ?_
  refine XW.seq (x := cd Try.f58 [1,0]) (y := cd Try.f58 [1,1]) (by kernel_rfl) fun K2 hK2 => ?_
  have hJ1 : ∀ (x1 : Bool), ref1_within_j1 x1 = some r → ∀ fr1 st1, Sub 15 0 [] fr1 st1 [(6, vb x1)] [] → K2 fr1 st1 := by
    intro x1 h fr1 st1 hS
    unfold ref1_within_j1 at h
    refine hK2 _ _ (XW.sub hS ?_)
    refine XW.ret (by kernel_rfl) ?_
    obtain rfl := Option.some.inj h
    exact FinP.fin (.inr rfl) [] [vb x1] [] (by kernel_rfl) trivial (.one (.rfl _ rfl))
  rcases Bool.eq_false_or_eq_true (decide (p2 ≤ p1)) with b3 | b3
  · have h := ift_t b3 h
    refine XW.reg (by kernel_rfl) ?_
    refine XO.go [] 4 [0,2,10] [] [(0, vi p1), (2, vi p3), (10, vb (decide (p2 ≤ p1)))] [] [] (by kernel_rfl) trivial ?_
    refine XO.setb 10 true (B := (decide (p2 ≤ p1))) rfl b3 ?_
    refine XO.go [] 5 [6] [] [(6, vb (decide (p1 ≤ p3)))] [] [] (by kernel_rfl) trivial ?_
    refine XO.done (by kernel_rfl) ?_
    exact hJ1 (decide (p1 ≤ p3)) h _ _ (Sub.pick [6] (by kernel_rfl))
  · have h := ift_f b3 h
    refine XW.reg (by kernel_rfl) ?_
    refine XO.go [] 4 [0,2,10] [] [(0, vi p1), (2, vi p3), (10, vb (decide (p2 ≤ p1)))] [] [] (by kernel_rfl) trivial ?_
    refine XO.setb 10 false (B := (decide (p2 ≤ p1))) rfl b3 ?_
    refine XO.go [] 5 [6] [] [(6, vb false)] [] [] (by kernel_rfl) trivial ?_
    refine XO.done (by kernel_rfl) ?_
    exact hJ1 false h _ _ (Sub.pick [6] (by kernel_rfl))

def ref1_wideOf_j1 (rec1 : List Int → Int → Option RWide) (l1 : List Int) (x1 : Int) (x2 : Int) : Option RWide :=
    grd (l1.length + 1 ≤ 4294967296) <|
    rec1 (l1 ++ [x2]) (IntKind.i64.wrap (x1.tdiv (10 : Int)))

def ref1_wideOf_j2 (p1 : Int) (l2 : List Int) : Option RWide :=
    some (RWide.mk (decide (p1 < (0 : Int))) l2)

def ref1_wideOf_l1 (p1 : Int) : Nat → List Int → Int → Option RWide
  | 0, _, _ => none
  | k1 + 1, l1, x1 =>
    ift (x1 != (0 : Int))
      (ift (decide ((x1.tmod (10 : Int)) < (0 : Int)))
         (ref1_wideOf_j1 (ref1_wideOf_l1 p1 k1) l1 x1 (IntKind.i64.wrap (0 - (x1.tmod (10 : Int)))))
         (ref1_wideOf_j1 (ref1_wideOf_l1 p1 k1) l1 x1 (x1.tmod (10 : Int))))
      (ref1_wideOf_j2 p1 l1)

def ref1_wideOf (p1 : Int) : Option RWide :=
    ref1_wideOf_l1 p1 BIG [] p1


theorem c_ref1_wideOf (p1 : Int) (r : RWide) (h : ref1_wideOf p1 = some r) : PC Try.prog 107 [vi p1] (.ag [cb r.below, cl eI r.d]) := by
  unfold ref1_wideOf at h
  refine PC.of (n := 25) (fn := Try.f107) (c := cd Try.f107 []) (by kernel_rfl) (by kernel_rfl) (by kernel_rfl) (Nat.le_of_ble_eq_true rfl) ?_
  refine XW.seq (x := cd Try.f107 [0]) (y := cd Try.f107 [1]) (by kernel_rfl) fun K1 hK1 => ?_
  refine XW.reg (by kernel_rfl) ?_
  refine XO.go [2] 1 [0,2] [] [(0, vi p1), (2, .one (.pt 0 0 0 0))] [.box [cb false, .pv (.s (.slice none 0 0))]] [] (by kernel_rfl) trivial ?_
  refine XO.done (by kernel_rfl) ?_
  refine hK1 _ _ ?_
  refine XW.seq (x := cd Try.f107 [1,0]) (y := cd Try.f107 [1,1]) (by kernel_rfl) fun K2 hK2 => ?_
  refine XW.reg (by kernel_rfl) ?_
  refine XO.go [2] 1 [0,2,3] [] [(0, vi p1), (2, .one (.pt 0 0 0 0)), (3, .one (.pv (.s (.slice none 0 0))))] [.box [cb false, .pv (.s (.slice none 0 0))]] [] (by kernel_rfl) trivial ?_
  refine XO.done (by kernel_rfl) ?_
  refine hK2 _ _ ?_
  refine XW.seq (x := cd Try.f107 [1,1,0]) (y := cd Try.f107 [1,1,1]) (by kernel_rfl) fun K3 hK3 => ?_
  have hJ2 : ∀ (l2 : List Int), ref1_wideOf_j2 p1 l2 = some r → ∀ fr1 st1, Sub 25 0 [] fr1 st1 [(0, vi p1), (2, .one (.pt 0 0 0 0)), (3, .one (.sl 1 1 0 l2.length))] [.box [cb false, .pv (.s (.slice none 0 0))], .arr 1 (eI.els l2)] → K3 fr1 st1 := by
    intro l2 h fr1 st1 hS
    unfold ref1_wideOf_j2 at h
    refine hK3 _ _ (XW.sub hS ?_)
    refine XW.seq (x := cd Try.f107 [1,1,1,0]) (y := cd Try.f107 [1,1,1,1]) (by kernel_rfl) fun K14 hK14 => ?_
    refine XW.reg (by kernel_rfl) ?_
    refine XO.go [2] 5 [2] [] [(2, .one (.pt 0 0 0 0))] [.box [cb (decide (p1 < (0 : Int))), .sl 1 1 0 l2.length], .arr 1 (eI.els l2)] [] (by kernel_rfl) trivial ?_
    refine XO.done (by kernel_rfl) ?_
    refine hK14 _ _ ?_
    refine XW.ret (by kernel_rfl) ?_
    obtain rfl := Option.some.inj h
    exact FinP.fin (.inr rfl) [] [.ag [cb (decide (p1 < (0 : Int))), .sl 1 1 0 l2.length]] [] (by kernel_rfl) trivial (.ag (.cons (.rfl _ rfl) (.cons (cf_sl eI l2 rfl rfl rfl) .nil)))
  refine XW.seq (x := cd Try.f107 [1,1,0,0]) (y := cd Try.f107 [1,1,0,1]) (by kernel_rfl) fun K4 hK4 => ?_
  refine XW.reg (by kernel_rfl) ?_
  refine XO.go [2] 2 [0,2,3,4] [] [(0, vi p1), (2, .one (.pt 0 0 0 0)), (3, .one (.pv (.s (.slice none 0 0)))), (4, vi p1)] [.box [cb false, .pv (.s (.slice none 0 0))]] [] (by kernel_rfl) trivial ?_
  refine XO.done (by kernel_rfl) ?_
  refine hK4 _ _ ?_
  refine XW.block (id := 0) (x := cd Try.f107 [1,1,0,1,0]) (by kernel_rfl) ?_
  refine XW.sub (Sub.list (t := 3) (sz := 1) rfl) ?_
  refine XW.rounds' BIG (x := cd Try.f107 [1,1,0,1,0,0]) (by kernel_rfl) fun Q1 hQ1 => ?_
  have hL1 : ∀ (k1 : Nat) (l1 : List Int) (x1 : Int), ref1_wideOf_l1 p1 k1 l1 x1 = some r → XR Try.prog 25 0 [] (cd Try.f107 [1,1,0,1,0,0]) Q1 k1 [(0, vi p1), (2, .one (.pt 0 0 0 0)), (3, .one (.sl 1 1 0 l1.length)), (4, vi x1)] [.box [cb false, .pv (.s (.slice none 0 0))], .arr 1 (eI.els l1)] := by
    intro k1
    induction k1 with
    | zero => intro l1 x1 h; rw [ref1_wideOf_l1.eq_1] at h; cases h
    | succ k1 ih1 =>
      intro l1 x1 h
      rw [ref1_wideOf_l1.eq_2] at h
      refine XW.seq (x := cd Try.f107 [1,1,0,1,0,0,0]) (y := cd Try.f107 [1,1,0,1,0,0,1]) (by kernel_rfl) fun K5 hK5 => ?_
      refine XW.seq (x := cd Try.f107 [1,1,0,1,0,0,0,0]) (y := cd Try.f107 [1,1,0,1,0,0,0,1]) (by kernel_rfl) fun K6 hK6 => ?_
      refine XW.reg (by kernel_rfl) ?_
      refine XO.go [2] 2 [0,2,3,4,8] [] [(0, vi p1), (2, .one (.pt 0 0 0 0)), (3, .one (.sl 1 1 0 l1.length)), (4, vi x1), (8, vb (x1 != (0 : Int)))] [.box [cb false, .pv (.s (.slice none 0 0))], .arr 1 (eI.els l1)] [] (by kernel_rfl) trivial ?_
      refine XO.done (by kernel_rfl) ?_
      refine hK6 _ _ ?_
      refine XW.cond (x := .tmp 8) (a := cd Try.f107 [1,1,0,1,0,0,0,1,0]) (b := cd Try.f107 [1,1,0,1,0,0,0,1,1]) (t := (x1 != (0 : Int))) (by kernel_rfl) (by kernel_rfl) (fun b7 => ?_) (fun b7 => ?_)
      · have h := ift_t b7 h
        refine XW.skip (by kernel_rfl) ?_
        refine hK5 _ _ ?_
        refine XW.seq (x := cd Try.f107 [1,1,0,1,0,0,1,0]) (y := cd Try.f107 [1,1,0,1,0,0,1,1]) (by kernel_rfl) fun K8 hK8 => ?_
        refine XW.block (id := 1) (x := cd Try.f107 [1,1,0,1,0,0,1,0,0]) (by kernel_rfl) ?_
        refine XW.seq (x := cd Try.f107 [1,1,0,1,0,0,1,0,0,0]) (y := cd Try.f107 [1,1,0,1,0,0,1,0,0,1]) (by kernel_rfl) fun K9 hK9 => ?_
        refine XW.reg (by kernel_rfl) ?_
        refine XO.go [2] 3 [0,2,3,4,5] [] [(0, vi p1), (2, .one (.pt 0 0 0 0)), (3, .one (.sl 1 1 0 l1.length)), (4, vi x1), (5, vi (x1.tmod (10 : Int)))] [.box [cb false, .pv (.s (.slice none 0 0))], .arr 1 (eI.els l1)] [(10 : Int) ≠ 0] (by kernel_rfl) (⟨by decide, trivial⟩) ?_
        refine XO.done (by kernel_rfl) ?_
        refine hK9 _ _ ?_
        refine XW.seq (x := cd Try.f107 [1,1,0,1,0,0,1,0,0,1,0]) (y := cd Try.f107 [1,1,0,1,0,0,1,0,0,1,1]) (by kernel_rfl) fun K10 hK10 => ?_
        have hJ1 : ∀ (x2 : Int), ref1_wideOf_j1 (ref1_wideOf_l1 p1 k1) l1 x1 x2 = some r → ∀ fr1 st1, Sub 25 0 [] fr1 st1 [(0, vi p1), (2, .one (.pt 0 0 0 0)), (3, .one (.sl 1 1 0 l1.length)), (4, vi x1), (5, vi x2)] [.box [cb false, .pv (.s (.slice none 0 0))], .arr 1 (eI.els l1)] → K10 fr1 st1 := by
          intro x2 h fr1 st1 hS
          unfold ref1_wideOf_j1 at h
          refine hK10 _ _ (XW.sub hS ?_)
          obtain ⟨g13, h⟩ := grd_some h
          refine XW.reg (by kernel_rfl) ?_
          refine XO.go [2] 4 [0,2,4,20] [] [(0, vi p1), (2, .one (.pt 0 0 0 0)), (4, vi x1), (20, .one (.sl 1 1 0 (l1.length + (eI.els [x2]).length)))] [.box [cb false, .pv (.s (.slice none 0 0))], .arr 1 (eI.els l1 ++ eI.els [x2])] [elemsOk 1 (eI.els [x2]), l1.length = (eI.els l1).length, l1.length + (eI.els [x2]).length ≤ 4294967296] (by kernel_rfl) (⟨eI.ok _, (eI.len l1).symm, g13, trivial⟩) ?_
          rw [show l1.length + (eI.els [x2]).length = (l1 ++ [x2]).length from eI.lapp _ _]
          rw [show eI.els l1 ++ eI.els [x2] = eI.els (l1 ++ [x2]) from eI.app2 _ _]
          refine XO.go [2] 1 [0,2,3,4] [] [(0, vi p1), (2, .one (.pt 0 0 0 0)), (3, .one (.sl 1 1 0 ((l1 ++ [x2]).length))), (4, vi x1)] [.box [cb false, .pv (.s (.slice none 0 0))], .arr 1 (eI.els (l1 ++ [x2]))] [] (by kernel_rfl) trivial ?_
          refine XO.done (by kernel_rfl) ?_
          refine hK8 _ _ ?_
          refine XW.reg (by kernel_rfl) ?_
          refine XO.go [2] 3 [0,2,3,4] [] [(0, vi p1), (2, .one (.pt 0 0 0 0)), (3, .one (.sl 1 1 0 ((l1 ++ [x2]).length))), (4, vi (IntKind.i64.wrap (x1.tdiv (10 : Int))))] [.box [cb false, .pv (.s (.slice none 0 0))], .arr 1 (eI.els (l1 ++ [x2]))] [(10 : Int) ≠ 0] (by kernel_rfl) (⟨by decide, trivial⟩) ?_
          refine XO.done (by kernel_rfl) ?_
          exact XR.sub (Sub.pick [0,2,3,4] (by kernel_rfl)) (ih1 (l1 ++ [x2]) (IntKind.i64.wrap (x1.tdiv (10 : Int))) h)
        refine XW.seq (x := cd Try.f107 [1,1,0,1,0,0,1,0,0,1,0,0]) (y := cd Try.f107 [1,1,0,1,0,0,1,0,0,1,0,1]) (by kernel_rfl) fun K11 hK11 => ?_
        refine XW.reg (by kernel_rfl) ?_
        refine XO.go [2] 2 [0,2,3,4,5,14] [] [(0, vi p1), (2, .one (.pt 0 0 0 0)), (3, .one (.sl 1 1 0 l1.length)), (4, vi x1), (5, vi (x1.tmod (10 : Int))), (14, vb (decide ((x1.tmod (10 : Int)) < (0 : Int))))] [.box [cb false, .pv (.s (.slice none 0 0))], .arr 1 (eI.els l1)] [] (by kernel_rfl) trivial ?_
        refine XO.done (by kernel_rfl) ?_
        refine hK11 _ _ ?_
        refine XW.cond (x := .tmp 14) (a := cd Try.f107 [1,1,0,1,0,0,1,0,0,1,0,1,0]) (b := cd Try.f107 [1,1,0,1,0,0,1,0,0,1,0,1,1]) (t := (decide ((x1.tmod (10 : Int)) < (0 : Int)))) (by kernel_rfl) (by kernel_rfl) (fun b12 => ?_) (fun b12 => ?_)
        · have h := ift_t b12 h
          refine XW.reg (by kernel_rfl) ?_
          refine XO.go [2] 3 [0,2,3,4,5] [] [(0, vi p1), (2, .one (.pt 0 0 0 0)), (3, .one (.sl 1 1 0 l1.length)), (4, vi x1), (5, vi (IntKind.i64.wrap (0 - (x1.tmod (10 : Int)))))] [.box [cb false, .pv (.s (.slice none 0 0))], .arr 1 (eI.els l1)] [] (by kernel_rfl) trivial ?_
          refine XO.done (by kernel_rfl) ?_
          exact hJ1 (IntKind.i64.wrap (0 - (x1.tmod (10 : Int)))) h _ _ (Sub.pick [0,2,3,4,5] (by kernel_rfl))
        · have h := ift_f b12 h
          refine XW.skip (by kernel_rfl) ?_
          exact hJ1 (x1.tmod (10 : Int)) h _ _ (Sub.pick [0,2,3,4,5] (by kernel_rfl))
      · have h := ift_f b7 h
        refine XW.exit (id := 0) (by kernel_rfl) ?_
        refine hQ1 _ _ _ ?_
        exact hJ2 l1 h _ _ (Sub.pick [0,2,3] (by kernel_rfl))
  exact XR.sub (Sub.pick [0,2,3,4] (by kernel_rfl)) (hL1 BIG [] p1 h)

def ref1_tens (p1 : RWide) (p2 : Int) : Option RWide :=
    ift ((p1.d.length : Int) == (0 : Int))
      (some p1)
      (grd (0 ≤ p2 ∧ p2 ≤ p2 ∧ p2 ≤ 4294967296) <|
       grd ((List.replicate p2.toNat (0 : Int)).length + p1.d.length ≤ 4294967296) <|
       some (RWide.mk p1.below ((List.replicate p2.toNat (0 : Int)) ++ p1.d)))


theorem c_ref1_tens (p1 : RWide) (p2 : Int) (r : RWide) (h : ref1_tens p1 p2 = some r) : PC Try.prog 106 [.ag [cb p1.below, cl eI p1.d], vi p2] (.ag [cb r.below, cl eI r.d]) := by
  unfold ref1_tens at h
  refine PC.of (n := 18) (fn := Try.f106) (c := cd Try.f106 []) (by kernel_rfl) (by kernel_rfl) (by kernel_rfl) (Nat.le_of_ble_eq_true rfl) ?_
  refine XW.seq (x := cd Try.f106 [0]) (y := cd Try.f106 [1]) (by kernel_rfl) fun K1 hK1 => ?_
  refine XW.reg (by kernel_rfl) ?_
  refine XO.go [4] 2 [1,2,4] [] [(1, vi p2), (2, .one (.pv (.rp [[.s (.bool p1.below), .ro (eI.els p1.d)]] 0 0))), (4, .one (.pt 0 0 0 0))] [.box [cb false, .pv (.s (.slice none 0 0))]] [] (by kernel_rfl) trivial ?_
  refine XO.done (by kernel_rfl) ?_
  refine hK1 _ _ ?_
  refine XW.seq (x := cd Try.f106 [1,0]) (y := cd Try.f106 [1,1]) (by kernel_rfl) fun K2 hK2 => ?_
  refine XW.seq (x := cd Try.f106 [1,0,0]) (y := cd Try.f106 [1,0,1]) (by kernel_rfl) fun K3 hK3 => ?_
  refine XW.reg (by kernel_rfl) ?_
  refine XO.go [4] 3 [1,2,4,7] [[.s (.bool p1.below), .ro (eI.els p1.d)]] [(1, vi p2), (2, .one (.pv (.rp [[.s (.bool p1.below), .ro (eI.els p1.d)]] 0 0))), (4, .one (.pt 0 0 0 0)), (7, vi ((eI.els p1.d).length : Int))] [.box [cb false, .pv (.s (.slice none 0 0))]] [([[.s (.bool p1.below), .ro (eI.els p1.d)]] : List (List PV))[0]? = some [.s (.bool p1.below), .ro (eI.els p1.d)]] (by kernel_rfl) (⟨rfl, trivial⟩) ?_
  rw [eI.len p1.d]
  refine XO.go [4] 1 [1,2,4,8] [] [(1, vi p2), (2, .one (.pv (.rp [[.s (.bool p1.below), .ro (eI.els p1.d)]] 0 0))), (4, .one (.pt 0 0 0 0)), (8, vb ((p1.d.length : Int) == (0 : Int)))] [.box [cb false, .pv (.s (.slice none 0 0))]] [] (by kernel_rfl) trivial ?_
  refine XO.done (by kernel_rfl) ?_
  refine hK3 _ _ ?_
  refine XW.cond (x := .tmp 8) (a := cd Try.f106 [1,0,1,0]) (b := cd Try.f106 [1,0,1,1]) (t := ((p1.d.length : Int) == (0 : Int))) (by kernel_rfl) (by kernel_rfl) (fun b4 => ?_) (fun b4 => ?_)
  · have h := ift_t b4 h
    refine XW.seq (x := cd Try.f106 [1,0,1,0,0]) (y := cd Try.f106 [1,0,1,0,1]) (by kernel_rfl) fun K5 hK5 => ?_
    refine XW.reg (by kernel_rfl) ?_
    refine XO.go [4] 2 [4] [[.s (.bool p1.below), .ro (eI.els p1.d)]] [(4, .one (.pt 0 0 0 0))] [.box [cb p1.below, cl eI p1.d]] [([[.s (.bool p1.below), .ro (eI.els p1.d)]] : List (List PV))[0]? = some [.s (.bool p1.below), .ro (eI.els p1.d)]] (by kernel_rfl) (⟨rfl, trivial⟩) ?_
    refine XO.done (by kernel_rfl) ?_
    refine hK5 _ _ ?_
    refine XW.ret (by kernel_rfl) ?_
    obtain rfl := Option.some.inj h
    exact FinP.fin (.inr rfl) [] [.ag [cb p1.below, cl eI p1.d]] [] (by kernel_rfl) trivial (.ag (.cons (.rfl _ rfl) (.cons (.rfl _ rfl) .nil)))
  · have h := ift_f b4 h
    refine XW.skip (by kernel_rfl) ?_
    refine hK2 _ _ ?_
    refine XW.seq (x := cd Try.f106 [1,1,0]) (y := cd Try.f106 [1,1,1]) (by kernel_rfl) fun K6 hK6 => ?_
    obtain ⟨g8, h⟩ := grd_some h
    obtain ⟨g9, h⟩ := grd_some h
    refine XW.sub (Sub.dead 1) ?_
    refine XW.drwG 7 [1, 2] [([], []), ([], []), ([], []), ([1], [1]), ([], []), ([], []), ([1], [1])] [(16, .one (.sl 1 1 0 (((List.replicate p2.toNat (0 : Int)) ++ p1.d).length))), (15, vl eI p1.d), (14, .one (.pv (.rp [[.s (.bool p1.below), .ro (eI.els p1.d)]] 0 1))), (13, .j), (12, vi p2), (11, vb p1.below), (10, .one (.pv (.rp [[.s (.bool p1.below), .ro (eI.els p1.d)]] 0 0))), (1, vi p2), (2, .one (.pv (.rp [[.s (.bool p1.below), .ro (eI.els p1.d)]] 0 0))), (4, .one (.pt 0 0 0 0)), (8, vb ((p1.d.length : Int) == (0 : Int)))] [.box [cb false, .pv (.s (.slice none 0 0))], .arr 1 (eI.els ((List.replicate p2.toNat (0 : Int)) ++ p1.d))] (by kernel_rfl) (by kernel_rfl) ?_ ?_
    · refine GY.go 3 [[.s (.bool p1.below), .ro (eI.els p1.d)]] [(12, vi p2), (11, vb p1.below), (10, .one (.pv (.rp [[.s (.bool p1.below), .ro (eI.els p1.d)]] 0 0))), (1, vi p2), (2, .one (.pv (.rp [[.s (.bool p1.below), .ro (eI.els p1.d)]] 0 0))), (4, .one (.pt 0 0 0 0)), (8, vb ((p1.d.length : Int) == (0 : Int)))] [([[.s (.bool p1.below), .ro (eI.els p1.d)]] : List (List PV))[0]? = some [.s (.bool p1.below), .ro (eI.els p1.d)]] (by kernel_rfl) (⟨rfl, trivial⟩) ?_
      refine GY.new false 1 [] [(13, .one (.sl 1 1 0 p2.toNat)), (12, vi p2), (11, vb p1.below), (10, .one (.pv (.rp [[.s (.bool p1.below), .ro (eI.els p1.d)]] 0 0))), (1, vi p2), (2, .one (.pv (.rp [[.s (.bool p1.below), .ro (eI.els p1.d)]] 0 0))), (4, .one (.pt 0 0 0 0)), (8, vb ((p1.d.length : Int) == (0 : Int)))] [1] [.box [cb false, .pv (.s (.slice none 0 0))], .arr 1 (List.replicate p2.toNat [pi (0 : Int)])] [0 ≤ p2, p2 ≤ p2, p2 ≤ 4294967296] (by kernel_rfl) (by kernel_rfl) (⟨g8.1, g8.2.1, g8.2.2, trivial⟩) ?_
      rw [show List.replicate p2.toNat [pi (0 : Int)] = eI.els (List.replicate p2.toNat (0 : Int)) from eI.rep _ (0 : Int)]
      refine GY.go 2 [[.s (.bool p1.below), .ro (eI.els p1.d)]] [(15, vl eI p1.d), (14, .one (.pv (.rp [[.s (.bool p1.below), .ro (eI.els p1.d)]] 0 1))), (13, .one (.sl 1 1 0 p2.toNat)), (12, vi p2), (11, vb p1.below), (10, .one (.pv (.rp [[.s (.bool p1.below), .ro (eI.els p1.d)]] 0 0))), (1, vi p2), (2, .one (.pv (.rp [[.s (.bool p1.below), .ro (eI.els p1.d)]] 0 0))), (4, .one (.pt 0 0 0 0)), (8, vb ((p1.d.length : Int) == (0 : Int)))] [([[.s (.bool p1.below), .ro (eI.els p1.d)]] : List (List PV))[0]? = some [.s (.bool p1.below), .ro (eI.els p1.d)]] (by kernel_rfl) (⟨rfl, trivial⟩) ?_
      refine GY.wr [] [(16, .one (.sl 1 1 0 (p2.toNat + (eI.els p1.d).length))), (15, vl eI p1.d), (14, .one (.pv (.rp [[.s (.bool p1.below), .ro (eI.els p1.d)]] 0 1))), (13, .j), (12, vi p2), (11, vb p1.below), (10, .one (.pv (.rp [[.s (.bool p1.below), .ro (eI.els p1.d)]] 0 0))), (1, vi p2), (2, .one (.pv (.rp [[.s (.bool p1.below), .ro (eI.els p1.d)]] 0 0))), (4, .one (.pt 0 0 0 0)), (8, vb ((p1.d.length : Int) == (0 : Int)))] [1] [.box [cb false, .pv (.s (.slice none 0 0))], .arr 1 (eI.els (List.replicate p2.toNat (0 : Int)) ++ eI.els p1.d)] [elemsOk 1 (eI.els p1.d), p2.toNat = (eI.els (List.replicate p2.toNat (0 : Int))).length, p2.toNat + (eI.els p1.d).length ≤ 4294967296] (by kernel_rfl) (by kernel_rfl) (⟨eI.ok _, (by simp [Enc.len]), (by simp [Enc.len] at *; omega), trivial⟩) ?_
      rw [show p2.toNat + (eI.els p1.d).length = ((List.replicate p2.toNat (0 : Int)) ++ p1.d).length from (by simp [Enc.len])]
      rw [show eI.els (List.replicate p2.toNat (0 : Int)) ++ eI.els p1.d = eI.els ((List.replicate p2.toNat (0 : Int)) ++ p1.d) from eI.app2 _ _]
      exact GY.done (by kernel_rfl) (by kernel_rfl)
    refine XO.go [4] 2 [4] [] [(4, .one (.pt 0 0 0 0))] [.box [cb p1.below, .sl 1 1 0 (((List.replicate p2.toNat (0 : Int)) ++ p1.d).length)], .arr 1 (eI.els ((List.replicate p2.toNat (0 : Int)) ++ p1.d))] [] (by kernel_rfl) trivial ?_
    refine XO.done (by kernel_rfl) ?_
    refine hK6 _ _ ?_
    refine XW.ret (by kernel_rfl) ?_
    obtain rfl := Option.some.inj h
    exact FinP.fin (.inr rfl) [] [.ag [cb p1.below, .sl 1 1 0 (((List.replicate p2.toNat (0 : Int)) ++ p1.d).length)]] [] (by kernel_rfl) trivial (.ag (.cons (.rfl _ rfl) (.cons (cf_sl eI ((List.replicate p2.toNat (0 : Int)) ++ p1.d) rfl rfl rfl) .nil)))


end Go.Proofs.Ytdkmclmdemngfaa
