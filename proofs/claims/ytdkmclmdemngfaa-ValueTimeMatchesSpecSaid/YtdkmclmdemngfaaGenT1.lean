/- Printed by a program: what the functions compute, and the proofs of their contracts. -/
import Derived.Test.YtdkmclmdemngfaaChecked
import Derived.Test.YtdkmclmdemngfaaSxGenS
import Derived.Test.YtdkmclmdemngfaaGTypes
namespace Go.Proofs.Ytdkmclmdemngfaa
open Go.SX Go
set_option linter.unusedVariables false
set_option linter.unusedSimpArgs false
set_option maxRecDepth 100000

def api_Zones : Option (List GZone) :=
    some ([(GZone.mk (ByteArray.mk #[117, 116, 99]) (0 : Int) (0 : Int) (GTurn.mk (0 : Int) (0 : Int) (0 : Int) (0 : Int)) (GTurn.mk (0 : Int) (0 : Int) (0 : Int) (0 : Int))), (GZone.mk (ByteArray.mk #[109, 105, 100]) (60 : Int) (60 : Int) (GTurn.mk (3 : Int) (5 : Int) (7 : Int) (120 : Int)) (GTurn.mk (10 : Int) (5 : Int) (7 : Int) (180 : Int))), (GZone.mk (ByteArray.mk #[101, 97, 115, 116]) (330 : Int) (0 : Int) (GTurn.mk (0 : Int) (0 : Int) (0 : Int) (0 : Int)) (GTurn.mk (0 : Int) (0 : Int) (0 : Int) (0 : Int))), (GZone.mk (ByteArray.mk #[115, 111, 117, 116, 104]) (600 : Int) (60 : Int) (GTurn.mk (10 : Int) (1 : Int) (7 : Int) (120 : Int)) (GTurn.mk (4 : Int) (1 : Int) (7 : Int) (180 : Int))), (GZone.mk (ByteArray.mk #[119, 101, 115, 116]) (-480 : Int) (60 : Int) (GTurn.mk (3 : Int) (2 : Int) (7 : Int) (120 : Int)) (GTurn.mk (11 : Int) (1 : Int) (7 : Int) (120 : Int))), (GZone.mk (ByteArray.mk #[105, 115, 108, 101]) (630 : Int) (30 : Int) (GTurn.mk (10 : Int) (1 : Int) (7 : Int) (120 : Int)) (GTurn.mk (4 : Int) (1 : Int) (7 : Int) (120 : Int)))])


theorem c_api_Zones (r : (List GZone)) (h : api_Zones = some r) : PC Try.prog 77 [] (vl eZone r) := by
  unfold api_Zones at h
  refine PC.of (n := 16) (fn := Try.f77) (c := cd Try.f77 []) (by kernel_rfl) (by kernel_rfl) (by kernel_rfl) (Nat.le_of_ble_eq_true rfl) ?_
  refine XW.seq (x := cd Try.f77 [0]) (y := cd Try.f77 [1]) (by kernel_rfl) fun K1 hK1 => ?_
  refine XW.reg (by kernel_rfl) ?_
  refine XO.go [] 1 [] [] [] [] [] (by kernel_rfl) trivial ?_
  refine XO.done (by kernel_rfl) ?_
  refine hK1 _ _ ?_
  refine XW.seq (x := cd Try.f77 [1,0]) (y := cd Try.f77 [1,1]) (by kernel_rfl) fun K2 hK2 => ?_
  refine XW.reg (by kernel_rfl) ?_
  refine XO.go [] 16 [0] [] [(0, vl eZone ([(GZone.mk (ByteArray.mk #[117, 116, 99]) (0 : Int) (0 : Int) (GTurn.mk (0 : Int) (0 : Int) (0 : Int) (0 : Int)) (GTurn.mk (0 : Int) (0 : Int) (0 : Int) (0 : Int))), (GZone.mk (ByteArray.mk #[109, 105, 100]) (60 : Int) (60 : Int) (GTurn.mk (3 : Int) (5 : Int) (7 : Int) (120 : Int)) (GTurn.mk (10 : Int) (5 : Int) (7 : Int) (180 : Int))), (GZone.mk (ByteArray.mk #[101, 97, 115, 116]) (330 : Int) (0 : Int) (GTurn.mk (0 : Int) (0 : Int) (0 : Int) (0 : Int)) (GTurn.mk (0 : Int) (0 : Int) (0 : Int) (0 : Int))), (GZone.mk (ByteArray.mk #[115, 111, 117, 116, 104]) (600 : Int) (60 : Int) (GTurn.mk (10 : Int) (1 : Int) (7 : Int) (120 : Int)) (GTurn.mk (4 : Int) (1 : Int) (7 : Int) (180 : Int))), (GZone.mk (ByteArray.mk #[119, 101, 115, 116]) (-480 : Int) (60 : Int) (GTurn.mk (3 : Int) (2 : Int) (7 : Int) (120 : Int)) (GTurn.mk (11 : Int) (1 : Int) (7 : Int) (120 : Int))), (GZone.mk (ByteArray.mk #[105, 115, 108, 101]) (630 : Int) (30 : Int) (GTurn.mk (10 : Int) (1 : Int) (7 : Int) (120 : Int)) (GTurn.mk (4 : Int) (1 : Int) (7 : Int) (120 : Int)))]))] [] [] (by kernel_rfl) trivial ?_
  refine XO.done (by kernel_rfl) ?_
  refine hK2 _ _ ?_
  refine XW.ret (by kernel_rfl) ?_
  obtain rfl := Option.some.inj h
  exact FinP.fin (.inr rfl) [] [vl eZone ([(GZone.mk (ByteArray.mk #[117, 116, 99]) (0 : Int) (0 : Int) (GTurn.mk (0 : Int) (0 : Int) (0 : Int) (0 : Int)) (GTurn.mk (0 : Int) (0 : Int) (0 : Int) (0 : Int))), (GZone.mk (ByteArray.mk #[109, 105, 100]) (60 : Int) (60 : Int) (GTurn.mk (3 : Int) (5 : Int) (7 : Int) (120 : Int)) (GTurn.mk (10 : Int) (5 : Int) (7 : Int) (180 : Int))), (GZone.mk (ByteArray.mk #[101, 97, 115, 116]) (330 : Int) (0 : Int) (GTurn.mk (0 : Int) (0 : Int) (0 : Int) (0 : Int)) (GTurn.mk (0 : Int) (0 : Int) (0 : Int) (0 : Int))), (GZone.mk (ByteArray.mk #[115, 111, 117, 116, 104]) (600 : Int) (60 : Int) (GTurn.mk (10 : Int) (1 : Int) (7 : Int) (120 : Int)) (GTurn.mk (4 : Int) (1 : Int) (7 : Int) (180 : Int))), (GZone.mk (ByteArray.mk #[119, 101, 115, 116]) (-480 : Int) (60 : Int) (GTurn.mk (3 : Int) (2 : Int) (7 : Int) (120 : Int)) (GTurn.mk (11 : Int) (1 : Int) (7 : Int) (120 : Int))), (GZone.mk (ByteArray.mk #[105, 115, 108, 101]) (630 : Int) (30 : Int) (GTurn.mk (10 : Int) (1 : Int) (7 : Int) (120 : Int)) (GTurn.mk (4 : Int) (1 : Int) (7 : Int) (120 : Int)))])] [] (by kernel_rfl) trivial (.one (.rfl _ rfl))


def value_zone_1_s2 (p1 : GZone) (p2 : ByteArray) : Option Bool :=
    some (p1.name.toList == p2.toList)

theorem c_value_zone_1_s2 (p1 : GZone) (p2 : ByteArray) (r : Bool) (h : value_zone_1_s2 p1 p2 = some r) : PC Try.prog 79 [.ag [cst p1.name, ci p1.offset, ci p1.summer, ci p1.start.month, ci p1.start.week, ci p1.start.weekday, ci p1.start.minute, ci p1.stop.month, ci p1.stop.week, ci p1.stop.weekday, ci p1.stop.minute], .one (.pv (.rp [[.s (.string p2)]] 0 0))] (vb r) := by
  unfold value_zone_1_s2 at h
  refine PC.of (n := 8) (fn := Try.f79) (c := cd Try.f79 []) (by kernel_rfl) (by kernel_rfl) (by kernel_rfl) (Nat.le_of_ble_eq_true rfl) ?_
  refine XW.seq (x := cd Try.f79 [0]) (y := cd Try.f79 [1]) (by kernel_rfl) fun K1 hK1 => ?_
  refine XW.reg (by kernel_rfl) ?_
  refine XO.go [] 2 [1,2] [] [(1, .one (.pv (.rp [[.s (.string p2)]] 0 0))), (2, .one (.pv (.rp [[.s (.string p1.name), pi p1.offset, pi p1.summer, pi p1.start.month, pi p1.start.week, pi p1.start.weekday, pi p1.start.minute, pi p1.stop.month, pi p1.stop.week, pi p1.stop.weekday, pi p1.stop.minute]] 0 0)))] [] [] (by kernel_rfl) trivial ?_
  refine XO.done (by kernel_rfl) ?_
  refine hK1 _ _ ?_
  refine XW.seq (x := cd Try.f79 [1,0]) (y := cd Try.f79 [1,1]) (by kernel_rfl) fun K2 hK2 => ?_
  refine XW.reg (by kernel_rfl) ?_
  refine XO.go [] 5 [3] [[.s (.string p1.name), pi p1.offset, pi p1.summer, pi p1.start.month, pi p1.start.week, pi p1.start.weekday, pi p1.start.minute, pi p1.stop.month, pi p1.stop.week, pi p1.stop.weekday, pi p1.stop.minute], [.s (.string p2)]] [(3, vb (p1.name.toList == p2.toList))] [] [([[.s (.string p1.name), pi p1.offset, pi p1.summer, pi p1.start.month, pi p1.start.week, pi p1.start.weekday, pi p1.start.minute, pi p1.stop.month, pi p1.stop.week, pi p1.stop.weekday, pi p1.stop.minute]] : List (List PV))[0]? = some [.s (.string p1.name), pi p1.offset, pi p1.summer, pi p1.start.month, pi p1.start.week, pi p1.start.weekday, pi p1.start.minute, pi p1.stop.month, pi p1.stop.week, pi p1.stop.weekday, pi p1.stop.minute], ([[.s (.string p2)]] : List (List PV))[0]? = some [.s (.string p2)]] (by kernel_rfl) (⟨rfl, rfl, trivial⟩) ?_
  refine XO.done (by kernel_rfl) ?_
  refine hK2 _ _ ?_
  refine XW.ret (by kernel_rfl) ?_
  obtain rfl := Option.some.inj h
  exact FinP.fin (.inr rfl) [] [vb (p1.name.toList == p2.toList)] [] (by kernel_rfl) trivial (.one (.rfl _ rfl))

def slices_IndexFunc_api_Zone_api_Zone_s1_j1 : Option Int :=
    some (-1 : Int)

def slices_IndexFunc_api_Zone_api_Zone_s1_l1 (p1 : (List GZone)) (p2 : ByteArray) : Nat → Int → Option Int
  | 0, _ => none
  | k1 + 1, x1 =>
    ift (decide (x1 < (p1.length : Int)))
      (bnd (at? p1 x1) fun e1 =>
       bnd (value_zone_1_s2 e1 p2) fun r1 =>
       ift r1
         (some x1)
         ((slices_IndexFunc_api_Zone_api_Zone_s1_l1 p1 p2 k1) (IntKind.i64.wrap (x1 + (1 : Int)))))
      (slices_IndexFunc_api_Zone_api_Zone_s1_j1)

def slices_IndexFunc_api_Zone_api_Zone_s1 (p1 : (List GZone)) (p2 : ByteArray) : Option Int :=
    slices_IndexFunc_api_Zone_api_Zone_s1_l1 p1 p2 BIG (0 : Int)

theorem c_slices_IndexFunc_api_Zone_api_Zone_s1 (p1 : (List GZone)) (p2 : ByteArray) (r : Int) (h : slices_IndexFunc_api_Zone_api_Zone_s1 p1 p2 = some r) : PC Try.prog 78 [vl eZone p1, .one (.fn 79 [.pv (.rp [[.s (.string p2)]] 0 0)])] (vi r) := by
  unfold slices_IndexFunc_api_Zone_api_Zone_s1 at h
  refine PC.of (n := 19) (fn := Try.f78) (c := cd Try.f78 []) (by kernel_rfl) (by kernel_rfl) (by kernel_rfl) (Nat.le_of_ble_eq_true rfl) ?_
  refine XW.seq (x := cd Try.f78 [0]) (y := cd Try.f78 [1]) (by kernel_rfl) fun K1 hK1 => ?_
  refine XW.reg (by kernel_rfl) ?_
  refine XO.go [] 1 [0,1] [] [(0, vl eZone p1), (1, .one (.fn 79 [.pv (.rp [[.s (.string p2)]] 0 0)]))] [] [] (by kernel_rfl) trivial ?_
  refine XO.done (by kernel_rfl) ?_
  refine hK1 _ _ ?_
  refine XW.seq (x := cd Try.f78 [1,0]) (y := cd Try.f78 [1,1]) (by kernel_rfl) fun K2 hK2 => ?_
  have hJ1 : ∀ (_ : Unit), slices_IndexFunc_api_Zone_api_Zone_s1_j1 = some r → ∀ fr1 st1, Sub 19 0 [] fr1 st1 [] [] → K2 fr1 st1 := by
    intro _ h fr1 st1 hS
    unfold slices_IndexFunc_api_Zone_api_Zone_s1_j1 at h
    refine hK2 _ _ (XW.sub hS ?_)
    refine XW.seq (x := cd Try.f78 [1,1,0]) (y := cd Try.f78 [1,1,1]) (by kernel_rfl) fun K14 hK14 => ?_
    refine XW.reg (by kernel_rfl) ?_
    refine XO.go [] 1 [4] [] [(4, vi (-1 : Int))] [] [] (by kernel_rfl) trivial ?_
    refine XO.done (by kernel_rfl) ?_
    refine hK14 _ _ ?_
    refine XW.ret (by kernel_rfl) ?_
    obtain rfl := Option.some.inj h
    exact FinP.fin (.inr rfl) [] [vi (-1 : Int)] [] (by kernel_rfl) trivial (.one (.rfl _ rfl))
  refine XW.seq (x := cd Try.f78 [1,0,0]) (y := cd Try.f78 [1,0,1]) (by kernel_rfl) fun K3 hK3 => ?_
  refine XW.reg (by kernel_rfl) ?_
  refine XO.go [] 2 [0,1,7] [] [(0, vl eZone p1), (1, .one (.fn 79 [.pv (.rp [[.s (.string p2)]] 0 0)])), (7, vi ((eZone.els p1).length : Int))] [] [] (by kernel_rfl) trivial ?_
  rw [eZone.len p1]
  refine XO.go [] 1 [0,1,7,8] [] [(0, vl eZone p1), (1, .one (.fn 79 [.pv (.rp [[.s (.string p2)]] 0 0)])), (7, vi (p1.length : Int)), (8, vi (0 : Int))] [] [] (by kernel_rfl) trivial ?_
  refine XO.done (by kernel_rfl) ?_
  refine hK3 _ _ ?_
  refine XW.block (id := 0) (x := cd Try.f78 [1,0,1,0]) (by kernel_rfl) ?_
  refine XW.rounds' BIG (x := cd Try.f78 [1,0,1,0,0]) (by kernel_rfl) fun Q1 hQ1 => ?_
  have hL1 : ∀ (k1 : Nat) (x1 : Int), slices_IndexFunc_api_Zone_api_Zone_s1_l1 p1 p2 k1 x1 = some r → XR Try.prog 19 0 [] (cd Try.f78 [1,0,1,0,0]) Q1 k1 [(0, vl eZone p1), (1, .one (.fn 79 [.pv (.rp [[.s (.string p2)]] 0 0)])), (7, vi (p1.length : Int)), (8, vi x1)] [] := by
    intro k1
    induction k1 with
    | zero => intro x1 h; rw [slices_IndexFunc_api_Zone_api_Zone_s1_l1.eq_1] at h; cases h
    | succ k1 ih1 =>
      intro x1 h
      rw [slices_IndexFunc_api_Zone_api_Zone_s1_l1.eq_2] at h
      refine XW.seq (x := cd Try.f78 [1,0,1,0,0,0]) (y := cd Try.f78 [1,0,1,0,0,1]) (by kernel_rfl) fun K4 hK4 => ?_
      refine XW.reg (by kernel_rfl) ?_
      refine XO.go [] 1 [0,1,7,8,9] [] [(0, vl eZone p1), (1, .one (.fn 79 [.pv (.rp [[.s (.string p2)]] 0 0)])), (7, vi (p1.length : Int)), (8, vi x1), (9, vb (decide (x1 < (p1.length : Int))))] [] [] (by kernel_rfl) trivial ?_
      refine XO.done (by kernel_rfl) ?_
      refine hK4 _ _ ?_
      refine XW.seq (x := cd Try.f78 [1,0,1,0,0,1,0]) (y := cd Try.f78 [1,0,1,0,0,1,1]) (by kernel_rfl) fun K5 hK5 => ?_
      refine XW.cond (x := .tmp 9) (a := cd Try.f78 [1,0,1,0,0,1,0,0]) (b := cd Try.f78 [1,0,1,0,0,1,0,1]) (t := (decide (x1 < (p1.length : Int)))) (by kernel_rfl) (by kernel_rfl) (fun b6 => ?_) (fun b6 => ?_)
      · have h := ift_t b6 h
        refine XW.skip (by kernel_rfl) ?_
        refine hK5 _ _ ?_
        refine XW.seq (x := cd Try.f78 [1,0,1,0,0,1,1,0]) (y := cd Try.f78 [1,0,1,0,0,1,1,1]) (by kernel_rfl) fun K7 hK7 => ?_
        refine XW.block (id := 1) (x := cd Try.f78 [1,0,1,0,0,1,1,0,0]) (by kernel_rfl) ?_
        refine XW.seq (x := cd Try.f78 [1,0,1,0,0,1,1,0,0,0]) (y := cd Try.f78 [1,0,1,0,0,1,1,0,0,1]) (by kernel_rfl) fun K8 hK8 => ?_
        refine XW.reg (by kernel_rfl) ?_
        refine XO.go [] 2 [0,1,5,7,8] [] [(0, vl eZone p1), (1, .one (.fn 79 [.pv (.rp [[.s (.string p2)]] 0 0)])), (5, vi x1), (7, vi (p1.length : Int)), (8, vi x1)] [] [] (by kernel_rfl) trivial ?_
        refine XO.done (by kernel_rfl) ?_
        refine hK8 _ _ ?_
        refine XW.seq (x := cd Try.f78 [1,0,1,0,0,1,1,0,0,1,0]) (y := cd Try.f78 [1,0,1,0,0,1,1,0,0,1,1]) (by kernel_rfl) fun K9 hK9 => ?_
        obtain ⟨e1, a10, h⟩ := bnd_some h
        obtain ⟨r1, c11, h⟩ := bnd_some h
        refine XW.reg (by kernel_rfl) ?_
        refine XO.go [] 5 [0,1,5,7,8,11,15] [[.s (.string e1.name), pi e1.offset, pi e1.summer, pi e1.start.month, pi e1.start.week, pi e1.start.weekday, pi e1.start.minute, pi e1.stop.month, pi e1.stop.week, pi e1.stop.weekday, pi e1.stop.minute]] [(0, vl eZone p1), (1, .one (.fn 79 [.pv (.rp [[.s (.string p2)]] 0 0)])), (5, vi x1), (7, vi (p1.length : Int)), (8, vi x1), (11, .one (.fn 79 [.pv (.rp [[.s (.string p2)]] 0 0)])), (15, .ag [cst e1.name, ci e1.offset, ci e1.summer, ci e1.start.month, ci e1.start.week, ci e1.start.weekday, ci e1.start.minute, ci e1.stop.month, ci e1.stop.week, ci e1.stop.weekday, ci e1.stop.minute])] [] [0 ≤ x1 ∧ x1 < ((eZone.els p1).length : Int) ∧ elemsOk 11 (eZone.els p1), (eZone.els p1)[x1.toNat]? = some [.s (.string e1.name), pi e1.offset, pi e1.summer, pi e1.start.month, pi e1.start.week, pi e1.start.weekday, pi e1.start.minute, pi e1.stop.month, pi e1.stop.week, pi e1.stop.weekday, pi e1.stop.minute]] (by kernel_rfl) (⟨eZone.inb a10, (eZone.get a10), trivial⟩) ?_
        refine XO.cal 79 [.ag [cst e1.name, ci e1.offset, ci e1.summer, ci e1.start.month, ci e1.start.week, ci e1.start.weekday, ci e1.start.minute, ci e1.stop.month, ci e1.stop.week, ci e1.stop.weekday, ci e1.stop.minute], .one (.pv (.rp [[.s (.string p2)]] 0 0))] (vb r1) [(16, vb r1), (0, vl eZone p1), (1, .one (.fn 79 [.pv (.rp [[.s (.string p2)]] 0 0)])), (5, vi x1), (7, vi (p1.length : Int)), (8, vi x1), (11, .one (.fn 79 [.pv (.rp [[.s (.string p2)]] 0 0)])), (15, .ag [cst e1.name, ci e1.offset, ci e1.summer, ci e1.start.month, ci e1.start.week, ci e1.start.weekday, ci e1.start.minute, ci e1.stop.month, ci e1.stop.week, ci e1.stop.weekday, ci e1.stop.minute])] (by kernel_rfl) (c_value_zone_1_s2 _ _ _ c11) rfl rfl (by kernel_rfl) ?_
        refine XO.done (by kernel_rfl) ?_
        refine hK9 _ _ ?_
        refine XW.cond (x := .tmp 16) (a := cd Try.f78 [1,0,1,0,0,1,1,0,0,1,1,0]) (b := cd Try.f78 [1,0,1,0,0,1,1,0,0,1,1,1]) (t := r1) (by kernel_rfl) (by kernel_rfl) (fun b12 => ?_) (fun b12 => ?_)
        · have h := ift_t b12 h
          refine XW.seq (x := cd Try.f78 [1,0,1,0,0,1,1,0,0,1,1,0,0]) (y := cd Try.f78 [1,0,1,0,0,1,1,0,0,1,1,0,1]) (by kernel_rfl) fun K13 hK13 => ?_
          refine XW.reg (by kernel_rfl) ?_
          refine XO.go [] 2 [4] [] [(4, vi x1)] [] [] (by kernel_rfl) trivial ?_
          refine XO.done (by kernel_rfl) ?_
          refine hK13 _ _ ?_
          refine XW.ret (by kernel_rfl) ?_
          refine hQ1 _ _ _ ?_
          obtain rfl := Option.some.inj h
          exact FinP.fin (.inr rfl) [] [vi x1] [] (by kernel_rfl) trivial (.one (.rfl _ rfl))
        · have h := ift_f b12 h
          refine XW.skip (by kernel_rfl) ?_
          refine hK7 _ _ ?_
          refine XW.reg (by kernel_rfl) ?_
          refine XO.go [] 2 [0,1,7,8] [] [(0, vl eZone p1), (1, .one (.fn 79 [.pv (.rp [[.s (.string p2)]] 0 0)])), (7, vi (p1.length : Int)), (8, vi (IntKind.i64.wrap (x1 + (1 : Int))))] [] [] (by kernel_rfl) trivial ?_
          refine XO.done (by kernel_rfl) ?_
          exact XR.sub (Sub.pick [0,1,7,8] (by kernel_rfl)) (ih1 (IntKind.i64.wrap (x1 + (1 : Int))) h)
      · have h := ift_f b6 h
        refine XW.exit (id := 0) (by kernel_rfl) ?_
        refine hQ1 _ _ _ ?_
        exact hJ1 () h _ _ (Sub.pick [] (by kernel_rfl))
  exact XR.sub (Sub.pick [0,1,7,8] (by kernel_rfl)) (hL1 BIG (0 : Int) h)

def value_zone (p1 : ByteArray) : Option (GZone × Bool) :=
    bnd (api_Zones) fun r1 =>
    bnd (slices_IndexFunc_api_Zone_api_Zone_s1 r1 p1) fun r2 =>
    ift (decide (r2 < (0 : Int)))
      (some ((GZone.mk ByteArray.empty (0 : Int) (0 : Int) (GTurn.mk (0 : Int) (0 : Int) (0 : Int) (0 : Int)) (GTurn.mk (0 : Int) (0 : Int) (0 : Int) (0 : Int))), false))
      (bnd (at? r1 r2) fun e1 =>
       some (e1, true))


theorem c_value_zone (p1 : ByteArray) (r : (GZone × Bool)) (h : value_zone p1 = some r) : PC Try.prog 41 [vs p1] (.tp [.ag [cst r.1.name, ci r.1.offset, ci r.1.summer, ci r.1.start.month, ci r.1.start.week, ci r.1.start.weekday, ci r.1.start.minute, ci r.1.stop.month, ci r.1.stop.week, ci r.1.stop.weekday, ci r.1.stop.minute], vb r.2]) := by
  unfold value_zone at h
  refine PC.of (n := 17) (fn := Try.f41) (c := cd Try.f41 []) (by kernel_rfl) (by kernel_rfl) (by kernel_rfl) (Nat.le_of_ble_eq_true rfl) ?_
  refine XW.seq (x := cd Try.f41 [0]) (y := cd Try.f41 [1]) (by kernel_rfl) fun K1 hK1 => ?_
  refine XW.reg (by kernel_rfl) ?_
  refine XO.go [2] 3 [1,2] [] [(1, .one (.pv (.rp [[.s (.string p1)]] 0 0))), (2, .one (.pt 0 0 0 0))] [.box [cst ByteArray.empty, ci (0 : Int), ci (0 : Int), ci (0 : Int), ci (0 : Int), ci (0 : Int), ci (0 : Int), ci (0 : Int), ci (0 : Int), ci (0 : Int), ci (0 : Int)]] [] (by kernel_rfl) trivial ?_
  refine XO.done (by kernel_rfl) ?_
  refine hK1 _ _ ?_
  refine XW.seq (x := cd Try.f41 [1,0]) (y := cd Try.f41 [1,1]) (by kernel_rfl) fun K2 hK2 => ?_
  obtain ⟨r1, c3, h⟩ := bnd_some h
  refine XW.reg (by kernel_rfl) ?_
  refine XO.cal 77 [] (vl eZone r1) [(6, vl eZone r1), (1, .one (.pv (.rp [[.s (.string p1)]] 0 0))), (2, .one (.pt 0 0 0 0))] (by kernel_rfl) (c_api_Zones _ c3) rfl rfl (by kernel_rfl) ?_
  refine XO.go [2] 1 [1,2,4] [] [(1, .one (.pv (.rp [[.s (.string p1)]] 0 0))), (2, .one (.pt 0 0 0 0)), (4, vl eZone r1)] [.box [cst ByteArray.empty, ci (0 : Int), ci (0 : Int), ci (0 : Int), ci (0 : Int), ci (0 : Int), ci (0 : Int), ci (0 : Int), ci (0 : Int), ci (0 : Int), ci (0 : Int)]] [] (by kernel_rfl) trivial ?_
  refine XO.done (by kernel_rfl) ?_
  refine hK2 _ _ ?_
  refine XW.seq (x := cd Try.f41 [1,1,0]) (y := cd Try.f41 [1,1,1]) (by kernel_rfl) fun K4 hK4 => ?_
  obtain ⟨r2, c5, h⟩ := bnd_some h
  refine XW.reg (by kernel_rfl) ?_
  refine XO.go [2] 2 [2,4,7,8] [] [(2, .one (.pt 0 0 0 0)), (4, vl eZone r1), (7, vl eZone r1), (8, .one (.fn 79 [.pv (.rp [[.s (.string p1)]] 0 0)]))] [.box [cst ByteArray.empty, ci (0 : Int), ci (0 : Int), ci (0 : Int), ci (0 : Int), ci (0 : Int), ci (0 : Int), ci (0 : Int), ci (0 : Int), ci (0 : Int), ci (0 : Int)]] [] (by kernel_rfl) trivial ?_
  refine XO.cal 78 [vl eZone r1, .one (.fn 79 [.pv (.rp [[.s (.string p1)]] 0 0)])] (vi r2) [(9, vi r2), (2, .one (.pt 0 0 0 0)), (4, vl eZone r1), (7, vl eZone r1), (8, .one (.fn 79 [.pv (.rp [[.s (.string p1)]] 0 0)]))] (by kernel_rfl) (c_slices_IndexFunc_api_Zone_api_Zone_s1 _ _ _ c5) rfl rfl (by kernel_rfl) ?_
  refine XO.go [2] 1 [2,4,5] [] [(2, .one (.pt 0 0 0 0)), (4, vl eZone r1), (5, vi r2)] [.box [cst ByteArray.empty, ci (0 : Int), ci (0 : Int), ci (0 : Int), ci (0 : Int), ci (0 : Int), ci (0 : Int), ci (0 : Int), ci (0 : Int), ci (0 : Int), ci (0 : Int)]] [] (by kernel_rfl) trivial ?_
  refine XO.done (by kernel_rfl) ?_
  refine hK4 _ _ ?_
  refine XW.seq (x := cd Try.f41 [1,1,1,0]) (y := cd Try.f41 [1,1,1,1]) (by kernel_rfl) fun K6 hK6 => ?_
  refine XW.seq (x := cd Try.f41 [1,1,1,0,0]) (y := cd Try.f41 [1,1,1,0,1]) (by kernel_rfl) fun K7 hK7 => ?_
  refine XW.reg (by kernel_rfl) ?_
  refine XO.go [2] 2 [2,4,5,11] [] [(2, .one (.pt 0 0 0 0)), (4, vl eZone r1), (5, vi r2), (11, vb (decide (r2 < (0 : Int))))] [.box [cst ByteArray.empty, ci (0 : Int), ci (0 : Int), ci (0 : Int), ci (0 : Int), ci (0 : Int), ci (0 : Int), ci (0 : Int), ci (0 : Int), ci (0 : Int), ci (0 : Int)]] [] (by kernel_rfl) trivial ?_
  refine XO.done (by kernel_rfl) ?_
  refine hK7 _ _ ?_
  refine XW.cond (x := .tmp 11) (a := cd Try.f41 [1,1,1,0,1,0]) (b := cd Try.f41 [1,1,1,0,1,1]) (t := (decide (r2 < (0 : Int)))) (by kernel_rfl) (by kernel_rfl) (fun b8 => ?_) (fun b8 => ?_)
  · have h := ift_t b8 h
    refine XW.seq (x := cd Try.f41 [1,1,1,0,1,0,0]) (y := cd Try.f41 [1,1,1,0,1,0,1]) (by kernel_rfl) fun K9 hK9 => ?_
    refine XW.reg (by kernel_rfl) ?_
    refine XO.go [2] 3 [2,3] [] [(2, .one (.pt 0 0 0 0)), (3, vb false)] [.box [cst ByteArray.empty, ci (0 : Int), ci (0 : Int), ci (0 : Int), ci (0 : Int), ci (0 : Int), ci (0 : Int), ci (0 : Int), ci (0 : Int), ci (0 : Int), ci (0 : Int)]] [] (by kernel_rfl) trivial ?_
    refine XO.done (by kernel_rfl) ?_
    refine hK9 _ _ ?_
    refine XW.ret (by kernel_rfl) ?_
    obtain rfl := Option.some.inj h
    exact FinP.fin (.inr rfl) [] [.ag [cst ByteArray.empty, ci (0 : Int), ci (0 : Int), ci (0 : Int), ci (0 : Int), ci (0 : Int), ci (0 : Int), ci (0 : Int), ci (0 : Int), ci (0 : Int), ci (0 : Int)], vb false] [] (by kernel_rfl) trivial (.tpc (.ag (.cons (.rfl _ rfl) (.cons (.rfl _ rfl) (.cons (.rfl _ rfl) (.cons (.rfl _ rfl) (.cons (.rfl _ rfl) (.cons (.rfl _ rfl) (.cons (.rfl _ rfl) (.cons (.rfl _ rfl) (.cons (.rfl _ rfl) (.cons (.rfl _ rfl) (.cons (.rfl _ rfl) .nil)))))))))))) (.tpc (.one (.rfl _ rfl)) (.tp0)))
  · have h := ift_f b8 h
    refine XW.skip (by kernel_rfl) ?_
    refine hK6 _ _ ?_
    refine XW.seq (x := cd Try.f41 [1,1,1,1,0]) (y := cd Try.f41 [1,1,1,1,1]) (by kernel_rfl) fun K10 hK10 => ?_
    obtain ⟨e1, a11, h⟩ := bnd_some h
    refine XW.reg (by kernel_rfl) ?_
    refine XO.go [2] 6 [2,3] [[.s (.string e1.name), pi e1.offset, pi e1.summer, pi e1.start.month, pi e1.start.week, pi e1.start.weekday, pi e1.start.minute, pi e1.stop.month, pi e1.stop.week, pi e1.stop.weekday, pi e1.stop.minute]] [(2, .one (.pt 0 0 0 0)), (3, vb true)] [.box [cst e1.name, ci e1.offset, ci e1.summer, ci e1.start.month, ci e1.start.week, ci e1.start.weekday, ci e1.start.minute, ci e1.stop.month, ci e1.stop.week, ci e1.stop.weekday, ci e1.stop.minute]] [0 ≤ r2 ∧ r2 < ((eZone.els r1).length : Int) ∧ elemsOk 11 (eZone.els r1), (eZone.els r1)[r2.toNat]? = some [.s (.string e1.name), pi e1.offset, pi e1.summer, pi e1.start.month, pi e1.start.week, pi e1.start.weekday, pi e1.start.minute, pi e1.stop.month, pi e1.stop.week, pi e1.stop.weekday, pi e1.stop.minute]] (by kernel_rfl) (⟨eZone.inb a11, (eZone.get a11), trivial⟩) ?_
    refine XO.done (by kernel_rfl) ?_
    refine hK10 _ _ ?_
    refine XW.ret (by kernel_rfl) ?_
    obtain rfl := Option.some.inj h
    exact FinP.fin (.inr rfl) [] [.ag [cst e1.name, ci e1.offset, ci e1.summer, ci e1.start.month, ci e1.start.week, ci e1.start.weekday, ci e1.start.minute, ci e1.stop.month, ci e1.stop.week, ci e1.stop.weekday, ci e1.stop.minute], vb true] [] (by kernel_rfl) trivial (.tpc (.ag (.cons (.rfl _ rfl) (.cons (.rfl _ rfl) (.cons (.rfl _ rfl) (.cons (.rfl _ rfl) (.cons (.rfl _ rfl) (.cons (.rfl _ rfl) (.cons (.rfl _ rfl) (.cons (.rfl _ rfl) (.cons (.rfl _ rfl) (.cons (.rfl _ rfl) (.cons (.rfl _ rfl) .nil)))))))))))) (.tpc (.one (.rfl _ rfl)) (.tp0)))

def value_within_j1 (x1 : Bool) : Option Bool :=
    some x1

def value_within (p1 : Int) (p2 : Int) (p3 : Int) : Option Bool :=
    ift (decide (p2 ≤ p1))
      (value_within_j1 (decide (p1 ≤ p3)))
      (value_within_j1 false)


theorem c_value_within (p1 : Int) (p2 : Int) (p3 : Int) (r : Bool) (h : value_within p1 p2 p3 = some r) : PC Try.prog 42 [vi p1, vi p2, vi p3] (vb r) := by
  unfold value_within at h
  refine PC.of (n := 15) (fn := Try.f42) (c := cd Try.f42 []) (by kernel_rfl) (by kernel_rfl) (by kernel_rfl) (Nat.le_of_ble_eq_true rfl) ?_
  refine XW.seq (x := cd Try.f42 [0]) (y := cd Try.f42 [1]) (by kernel_rfl) fun K1 hK1 => ?_
  refine XW.reg (by kernel_rfl) ?_
  refine XO.go [] 1 [0,1,2] [] [(0, vi p1), (1, vi p2), (2, vi p3)] [] [] (by kernel_rfl) trivial ?_
  refine XO.done (by kernel_rfl) ?_
  refine hK1 _ _ ?_
  refine XW.seq (x := cd Try.f42 [1,0]) (y := cd Try.f42 [1,1]) (by kernel_rfl) fun K2 hK2 => ?_
  have hJ1 : ∀ (x1 : Bool), value_within_j1 x1 = some r → ∀ fr1 st1, Sub 15 0 [] fr1 st1 [(6, vb x1)] [] → K2 fr1 st1 := by
    intro x1 h fr1 st1 hS
    unfold value_within_j1 at h
    refine hK2 _ _ (XW.sub hS ?_)
    refine XW.ret (by kernel_rfl) ?_
    obtain rfl := Option.some.inj h
    exact FinP.fin (.inr rfl) [] [vb x1] [] (by kernel_rfl) trivial (.one (.rfl _ rfl))
  rcases Bool.eq_false_or_eq_true (decide (p2 ≤ p1)) with b3 | b3
  · have h := ift_t b3 h
    refine XW.reg (by kernel_rfl) ?_
    refine XO.go [] 4 [0,2,10] [] [(0, vi p1), (2, vi p3), (10, vb (decide (p2 ≤ p1)))] [] [] (by kernel_rfl) trivial ?_
    refine XO.setb 10 true (B := (decide (p2 ≤ p1))) rfl b3 ?_
    refine XO.go [] 5 [6] [] [(6, vb (decide (p1 ≤ p3)))] [] [] (by kernel_rfl) trivial ?_
    refine XO.done (by kernel_rfl) ?_
    exact hJ1 (decide (p1 ≤ p3)) h _ _ (Sub.pick [6] (by kernel_rfl))
  · have h := ift_f b3 h
    refine XW.reg (by kernel_rfl) ?_
    refine XO.go [] 4 [0,2,10] [] [(0, vi p1), (2, vi p3), (10, vb (decide (p2 ≤ p1)))] [] [] (by kernel_rfl) trivial ?_
    refine XO.setb 10 false (B := (decide (p2 ≤ p1))) rfl b3 ?_
    refine XO.go [] 5 [6] [] [(6, vb false)] [] [] (by kernel_rfl) trivial ?_
    refine XO.done (by kernel_rfl) ?_
    exact hJ1 false h _ _ (Sub.pick [6] (by kernel_rfl))

def value_floor_j1 (x1 : Int) (x2 : Int) : Option (Int × Int) :=
    some (x1, x2)

def value_floor (p1 : Int) (p2 : Int) : Option (Int × Int) :=
    grd (p2 ≠ 0) <|
    grd (p2 ≠ 0) <|
    ift (decide ((p1.tmod p2) < (0 : Int)))
      (value_floor_j1 (IntKind.i64.wrap ((IntKind.i64.wrap (p1.tdiv p2)) - (1 : Int))) (IntKind.i64.wrap ((p1.tmod p2) + p2)))
      (value_floor_j1 (IntKind.i64.wrap (p1.tdiv p2)) (p1.tmod p2))


theorem c_value_floor (p1 : Int) (p2 : Int) (r : (Int × Int)) (h : value_floor p1 p2 = some r) : PC Try.prog 66 [vi p1, vi p2] (.tp [vi r.1, vi r.2]) := by
  unfold value_floor at h
  refine PC.of (n := 23) (fn := Try.f66) (c := cd Try.f66 []) (by kernel_rfl) (by kernel_rfl) (by kernel_rfl) (Nat.le_of_ble_eq_true rfl) ?_
  refine XW.seq (x := cd Try.f66 [0]) (y := cd Try.f66 [1]) (by kernel_rfl) fun K1 hK1 => ?_
  refine XW.reg (by kernel_rfl) ?_
  refine XO.go [] 2 [0,1] [] [(0, vi p1), (1, vi p2)] [] [] (by kernel_rfl) trivial ?_
  refine XO.done (by kernel_rfl) ?_
  refine hK1 _ _ ?_
  refine XW.seq (x := cd Try.f66 [1,0]) (y := cd Try.f66 [1,1]) (by kernel_rfl) fun K2 hK2 => ?_
  obtain ⟨g3, h⟩ := grd_some h
  obtain ⟨g4, h⟩ := grd_some h
  refine XW.drwS 7 [(6, vi (IntKind.i64.wrap (p1.tdiv p2))), (13, vi (p1.tmod p2)), (12, vi p2), (11, vi p1), (10, vi (IntKind.i64.wrap (p1.tdiv p2))), (9, vi p2), (8, vi p1), (0, vi p1), (1, vi p2)] (by kernel_rfl) (by kernel_rfl) ?_ ?_
  · refine DX.go 7 [] [(6, vi (IntKind.i64.wrap (p1.tdiv p2))), (13, vi (p1.tmod p2)), (12, vi p2), (11, vi p1), (10, vi (IntKind.i64.wrap (p1.tdiv p2))), (9, vi p2), (8, vi p1), (0, vi p1), (1, vi p2)] [p2 ≠ 0, p2 ≠ 0] (by kernel_rfl) (⟨g3, g4, trivial⟩) ?_
    exact DX.done (by kernel_rfl)
  refine XO.go [] 1 [1,6,7] [] [(1, vi p2), (6, vi (IntKind.i64.wrap (p1.tdiv p2))), (7, vi (p1.tmod p2))] [] [] (by kernel_rfl) trivial ?_
  refine XO.done (by kernel_rfl) ?_
  refine hK2 _ _ ?_
  refine XW.seq (x := cd Try.f66 [1,1,0]) (y := cd Try.f66 [1,1,1]) (by kernel_rfl) fun K5 hK5 => ?_
  have hJ1 : ∀ (x1 : Int) (x2 : Int), value_floor_j1 x1 x2 = some r → ∀ fr1 st1, Sub 23 0 [] fr1 st1 [(6, vi x1), (7, vi x2)] [] → K5 fr1 st1 := by
    intro x1 x2 h fr1 st1 hS
    unfold value_floor_j1 at h
    refine hK5 _ _ (XW.sub hS ?_)
    refine XW.seq (x := cd Try.f66 [1,1,1,0]) (y := cd Try.f66 [1,1,1,1]) (by kernel_rfl) fun K8 hK8 => ?_
    refine XW.reg (by kernel_rfl) ?_
    refine XO.go [] 4 [4,5] [] [(4, vi x1), (5, vi x2)] [] [] (by kernel_rfl) trivial ?_
    refine XO.done (by kernel_rfl) ?_
    refine hK8 _ _ ?_
    refine XW.ret (by kernel_rfl) ?_
    obtain rfl := Option.some.inj h
    exact FinP.fin (.inr rfl) [] [vi x1, vi x2] [] (by kernel_rfl) trivial (.tpc (.one (.rfl _ rfl)) (.tpc (.one (.rfl _ rfl)) (.tp0)))
  refine XW.seq (x := cd Try.f66 [1,1,0,0]) (y := cd Try.f66 [1,1,0,1]) (by kernel_rfl) fun K6 hK6 => ?_
  refine XW.reg (by kernel_rfl) ?_
  refine XO.go [] 2 [1,6,7,15] [] [(1, vi p2), (6, vi (IntKind.i64.wrap (p1.tdiv p2))), (7, vi (p1.tmod p2)), (15, vb (decide ((p1.tmod p2) < (0 : Int))))] [] [] (by kernel_rfl) trivial ?_
  refine XO.done (by kernel_rfl) ?_
  refine hK6 _ _ ?_
  refine XW.cond (x := .tmp 15) (a := cd Try.f66 [1,1,0,1,0]) (b := cd Try.f66 [1,1,0,1,1]) (t := (decide ((p1.tmod p2) < (0 : Int)))) (by kernel_rfl) (by kernel_rfl) (fun b7 => ?_) (fun b7 => ?_)
  · have h := ift_t b7 h
    refine XW.reg (by kernel_rfl) ?_
    refine XO.go [] 7 [6,7] [] [(6, vi (IntKind.i64.wrap ((IntKind.i64.wrap (p1.tdiv p2)) - (1 : Int)))), (7, vi (IntKind.i64.wrap ((p1.tmod p2) + p2)))] [] [] (by kernel_rfl) trivial ?_
    refine XO.done (by kernel_rfl) ?_
    exact hJ1 (IntKind.i64.wrap ((IntKind.i64.wrap (p1.tdiv p2)) - (1 : Int))) (IntKind.i64.wrap ((p1.tmod p2) + p2)) h _ _ (Sub.pick [6,7] (by kernel_rfl))
  · have h := ift_f b7 h
    refine XW.skip (by kernel_rfl) ?_
    exact hJ1 (IntKind.i64.wrap (p1.tdiv p2)) (p1.tmod p2) h _ _ (Sub.pick [6,7] (by kernel_rfl))

def value_date_j1 (y10 : Int) (x1 : Int) (x2 : Int) : Option (Int × Int × Int) :=
    some (x1, x2, y10)

def value_date (p1 : Int) : Option (Int × Int × Int) :=
    bnd (value_floor (IntKind.i64.wrap (p1 + (719468 : Int))) (146097 : Int)) fun r1 =>
    bnd (some (IntKind.i64.wrap (r1.2 - (IntKind.i64.wrap (r1.2.tdiv (1460 : Int)))))) fun y1 =>
    bnd (some (IntKind.i64.wrap (y1 + (IntKind.i64.wrap (r1.2.tdiv (36524 : Int)))))) fun y2 =>
    bnd (some (IntKind.i64.wrap (y2 - (IntKind.i64.wrap (r1.2.tdiv (146096 : Int)))))) fun y3 =>
    bnd (some (IntKind.i64.wrap ((IntKind.i64.wrap (y3.tdiv (365 : Int))) * (365 : Int)))) fun y4 =>
    bnd (some (IntKind.i64.wrap ((IntKind.i64.wrap (y3.tdiv (365 : Int))).tdiv (4 : Int)))) fun y5 =>
    bnd (some (IntKind.i64.wrap ((IntKind.i64.wrap (y3.tdiv (365 : Int))).tdiv (100 : Int)))) fun y6 =>
    bnd (some (IntKind.i64.wrap (r1.2 - (IntKind.i64.wrap ((IntKind.i64.wrap (y4 + y5)) - y6))))) fun y7 =>
    bnd (some (IntKind.i64.wrap ((IntKind.i64.wrap ((IntKind.i64.wrap ((5 : Int) * y7)) + (2 : Int))).tdiv (153 : Int)))) fun y8 =>
    bnd (some (IntKind.i64.wrap ((IntKind.i64.wrap ((153 : Int) * y8)) + (2 : Int)))) fun y9 =>
    bnd (some (IntKind.i64.wrap ((IntKind.i64.wrap (y7 - (IntKind.i64.wrap (y9.tdiv (5 : Int))))) + (1 : Int)))) fun y10 =>
    bnd (some (IntKind.i64.wrap ((IntKind.i64.wrap (r1.1 * (400 : Int))) + (IntKind.i64.wrap (y3.tdiv (365 : Int)))))) fun y11 =>
    ift (decide ((12 : Int) < (IntKind.i64.wrap (y8 + (3 : Int)))))
      (value_date_j1 y10 (IntKind.i64.wrap (y11 + (1 : Int))) (IntKind.i64.wrap ((IntKind.i64.wrap (y8 + (3 : Int))) - (12 : Int))))
      (value_date_j1 y10 y11 (IntKind.i64.wrap (y8 + (3 : Int))))


theorem c_value_date (p1 : Int) (r : (Int × Int × Int)) (h : value_date p1 = some r) : PC Try.prog 80 [vi p1] (.tp [vi r.1, vi r.2.1, vi r.2.2]) := by
  unfold value_date at h
  refine PC.of (n := 61) (fn := Try.f80) (c := cd Try.f80 []) (by kernel_rfl) (by kernel_rfl) (by kernel_rfl) (Nat.le_of_ble_eq_true rfl) ?_
  refine XW.seq (x := cd Try.f80 [0]) (y := cd Try.f80 [1]) (by kernel_rfl) fun K1 hK1 => ?_
  refine XW.reg (by kernel_rfl) ?_
  refine XO.go [] 3 [0] [] [(0, vi p1)] [] [] (by kernel_rfl) trivial ?_
  refine XO.done (by kernel_rfl) ?_
  refine hK1 _ _ ?_
  refine XW.seq (x := cd Try.f80 [1,0]) (y := cd Try.f80 [1,1]) (by kernel_rfl) fun K2 hK2 => ?_
  obtain ⟨r1, c3, h⟩ := bnd_some h
  refine XW.reg (by kernel_rfl) ?_
  refine XO.go [] 2 [10] [] [(10, vi (IntKind.i64.wrap (p1 + (719468 : Int))))] [] [] (by kernel_rfl) trivial ?_
  refine XO.cal 66 [vi (IntKind.i64.wrap (p1 + (719468 : Int))), vi (146097 : Int)] (.tp [vi r1.1, vi r1.2]) [(11, .tp [vi r1.1, vi r1.2]), (10, vi (IntKind.i64.wrap (p1 + (719468 : Int))))] (by kernel_rfl) (c_value_floor _ _ _ c3) rfl rfl (by kernel_rfl) ?_
  refine XO.go [] 5 [0,5] [] [(0, vi r1.2), (5, vi r1.1)] [] [] (by kernel_rfl) trivial ?_
  refine XO.done (by kernel_rfl) ?_
  refine hK2 _ _ ?_
  refine XW.seq (x := cd Try.f80 [1,1,0]) (y := cd Try.f80 [1,1,1]) (by kernel_rfl) fun K4 hK4 => ?_
  obtain ⟨y1, y5, h⟩ := bnd_some h
  obtain ⟨y2, y6, h⟩ := bnd_some h
  obtain ⟨y3, y7, h⟩ := bnd_some h
  refine XW.reg (by kernel_rfl) ?_
  refine XO.go [] 4 [0,5,17] [] [(0, vi r1.2), (5, vi r1.1), (17, vi (IntKind.i64.wrap (r1.2 - (IntKind.i64.wrap (r1.2.tdiv (1460 : Int))))))] [] [(1460 : Int) ≠ 0] (by kernel_rfl) (⟨by decide, trivial⟩) ?_
  rw [show (IntKind.i64.wrap (r1.2 - (IntKind.i64.wrap (r1.2.tdiv (1460 : Int))))) = y1 from Option.some.inj y5]
  refine XO.go [] 3 [0,5,20] [] [(0, vi r1.2), (5, vi r1.1), (20, vi (IntKind.i64.wrap (y1 + (IntKind.i64.wrap (r1.2.tdiv (36524 : Int))))))] [] [(36524 : Int) ≠ 0] (by kernel_rfl) (⟨by decide, trivial⟩) ?_
  rw [show (IntKind.i64.wrap (y1 + (IntKind.i64.wrap (r1.2.tdiv (36524 : Int))))) = y2 from Option.some.inj y6]
  refine XO.go [] 3 [0,5,23] [] [(0, vi r1.2), (5, vi r1.1), (23, vi (IntKind.i64.wrap (y2 - (IntKind.i64.wrap (r1.2.tdiv (146096 : Int))))))] [] [(146096 : Int) ≠ 0] (by kernel_rfl) (⟨by decide, trivial⟩) ?_
  rw [show (IntKind.i64.wrap (y2 - (IntKind.i64.wrap (r1.2.tdiv (146096 : Int))))) = y3 from Option.some.inj y7]
  refine XO.go [] 2 [0,5,6] [] [(0, vi r1.2), (5, vi r1.1), (6, vi (IntKind.i64.wrap (y3.tdiv (365 : Int))))] [] [(365 : Int) ≠ 0] (by kernel_rfl) (⟨by decide, trivial⟩) ?_
  refine XO.done (by kernel_rfl) ?_
  refine hK4 _ _ ?_
  refine XW.seq (x := cd Try.f80 [1,1,1,0]) (y := cd Try.f80 [1,1,1,1]) (by kernel_rfl) fun K8 hK8 => ?_
  obtain ⟨y4, y9, h⟩ := bnd_some h
  obtain ⟨y5, y10, h⟩ := bnd_some h
  obtain ⟨y6, y11, h⟩ := bnd_some h
  obtain ⟨y7, y12, h⟩ := bnd_some h
  refine XW.reg (by kernel_rfl) ?_
  refine XO.go [] 3 [5,6,25,27] [] [(5, vi r1.1), (6, vi (IntKind.i64.wrap (y3.tdiv (365 : Int)))), (25, vi r1.2), (27, vi (IntKind.i64.wrap ((IntKind.i64.wrap (y3.tdiv (365 : Int))) * (365 : Int))))] [] [] (by kernel_rfl) trivial ?_
  rw [show (IntKind.i64.wrap ((IntKind.i64.wrap (y3.tdiv (365 : Int))) * (365 : Int))) = y4 from Option.some.inj y9]
  refine XO.go [] 2 [5,6,25,27,29] [] [(5, vi r1.1), (6, vi (IntKind.i64.wrap (y3.tdiv (365 : Int)))), (25, vi r1.2), (27, vi y4), (29, vi (IntKind.i64.wrap ((IntKind.i64.wrap (y3.tdiv (365 : Int))).tdiv (4 : Int))))] [] [(4 : Int) ≠ 0] (by kernel_rfl) (⟨by decide, trivial⟩) ?_
  rw [show (IntKind.i64.wrap ((IntKind.i64.wrap (y3.tdiv (365 : Int))).tdiv (4 : Int))) = y5 from Option.some.inj y10]
  refine XO.go [] 3 [5,6,25,30,32] [] [(5, vi r1.1), (6, vi (IntKind.i64.wrap (y3.tdiv (365 : Int)))), (25, vi r1.2), (30, vi (IntKind.i64.wrap (y4 + y5))), (32, vi (IntKind.i64.wrap ((IntKind.i64.wrap (y3.tdiv (365 : Int))).tdiv (100 : Int))))] [] [(100 : Int) ≠ 0] (by kernel_rfl) (⟨by decide, trivial⟩) ?_
  rw [show (IntKind.i64.wrap ((IntKind.i64.wrap (y3.tdiv (365 : Int))).tdiv (100 : Int))) = y6 from Option.some.inj y11]
  refine XO.go [] 2 [5,6,34] [] [(5, vi r1.1), (6, vi (IntKind.i64.wrap (y3.tdiv (365 : Int)))), (34, vi (IntKind.i64.wrap (r1.2 - (IntKind.i64.wrap ((IntKind.i64.wrap (y4 + y5)) - y6)))))] [] [] (by kernel_rfl) trivial ?_
  rw [show (IntKind.i64.wrap (r1.2 - (IntKind.i64.wrap ((IntKind.i64.wrap (y4 + y5)) - y6)))) = y7 from Option.some.inj y12]
  refine XO.go [] 1 [0,5,6] [] [(0, vi y7), (5, vi r1.1), (6, vi (IntKind.i64.wrap (y3.tdiv (365 : Int))))] [] [] (by kernel_rfl) trivial ?_
  refine XO.done (by kernel_rfl) ?_
  refine hK8 _ _ ?_
  refine XW.seq (x := cd Try.f80 [1,1,1,1,0]) (y := cd Try.f80 [1,1,1,1,1]) (by kernel_rfl) fun K13 hK13 => ?_
  obtain ⟨y8, y14, h⟩ := bnd_some h
  refine XW.reg (by kernel_rfl) ?_
  refine XO.go [] 4 [0,5,6,38] [] [(0, vi y7), (5, vi r1.1), (6, vi (IntKind.i64.wrap (y3.tdiv (365 : Int)))), (38, vi (IntKind.i64.wrap ((IntKind.i64.wrap ((IntKind.i64.wrap ((5 : Int) * y7)) + (2 : Int))).tdiv (153 : Int))))] [] [(153 : Int) ≠ 0] (by kernel_rfl) (⟨by decide, trivial⟩) ?_
  rw [show (IntKind.i64.wrap ((IntKind.i64.wrap ((IntKind.i64.wrap ((5 : Int) * y7)) + (2 : Int))).tdiv (153 : Int))) = y8 from Option.some.inj y14]
  refine XO.go [] 1 [0,5,6,7] [] [(0, vi y7), (5, vi r1.1), (6, vi (IntKind.i64.wrap (y3.tdiv (365 : Int)))), (7, vi y8)] [] [] (by kernel_rfl) trivial ?_
  refine XO.done (by kernel_rfl) ?_
  refine hK13 _ _ ?_
  refine XW.seq (x := cd Try.f80 [1,1,1,1,1,0]) (y := cd Try.f80 [1,1,1,1,1,1]) (by kernel_rfl) fun K15 hK15 => ?_
  obtain ⟨y9, y16, h⟩ := bnd_some h
  obtain ⟨y10, y17, h⟩ := bnd_some h
  refine XW.reg (by kernel_rfl) ?_
  refine XO.go [] 4 [5,6,7,39,42] [] [(5, vi r1.1), (6, vi (IntKind.i64.wrap (y3.tdiv (365 : Int)))), (7, vi y8), (39, vi y7), (42, vi (IntKind.i64.wrap ((IntKind.i64.wrap ((153 : Int) * y8)) + (2 : Int))))] [] [] (by kernel_rfl) trivial ?_
  rw [show (IntKind.i64.wrap ((IntKind.i64.wrap ((153 : Int) * y8)) + (2 : Int))) = y9 from Option.some.inj y16]
  refine XO.go [] 3 [5,6,7,45] [] [(5, vi r1.1), (6, vi (IntKind.i64.wrap (y3.tdiv (365 : Int)))), (7, vi y8), (45, vi (IntKind.i64.wrap ((IntKind.i64.wrap (y7 - (IntKind.i64.wrap (y9.tdiv (5 : Int))))) + (1 : Int))))] [] [(5 : Int) ≠ 0] (by kernel_rfl) (⟨by decide, trivial⟩) ?_
  rw [show (IntKind.i64.wrap ((IntKind.i64.wrap (y7 - (IntKind.i64.wrap (y9.tdiv (5 : Int))))) + (1 : Int))) = y10 from Option.some.inj y17]
  refine XO.go [] 1 [4,5,6,7] [] [(4, vi y10), (5, vi r1.1), (6, vi (IntKind.i64.wrap (y3.tdiv (365 : Int)))), (7, vi y8)] [] [] (by kernel_rfl) trivial ?_
  refine XO.done (by kernel_rfl) ?_
  refine hK15 _ _ ?_
  refine XW.seq (x := cd Try.f80 [1,1,1,1,1,1,0]) (y := cd Try.f80 [1,1,1,1,1,1,1]) (by kernel_rfl) fun K18 hK18 => ?_
  obtain ⟨y11, y19, h⟩ := bnd_some h
  refine XW.reg (by kernel_rfl) ?_
  refine XO.go [] 4 [4,7,49] [] [(4, vi y10), (7, vi y8), (49, vi (IntKind.i64.wrap ((IntKind.i64.wrap (r1.1 * (400 : Int))) + (IntKind.i64.wrap (y3.tdiv (365 : Int))))))] [] [] (by kernel_rfl) trivial ?_
  rw [show (IntKind.i64.wrap ((IntKind.i64.wrap (r1.1 * (400 : Int))) + (IntKind.i64.wrap (y3.tdiv (365 : Int))))) = y11 from Option.some.inj y19]
  refine XO.go [] 4 [2,3,4] [] [(2, vi y11), (3, vi (IntKind.i64.wrap (y8 + (3 : Int)))), (4, vi y10)] [] [] (by kernel_rfl) trivial ?_
  refine XO.done (by kernel_rfl) ?_
  refine hK18 _ _ ?_
  refine XW.seq (x := cd Try.f80 [1,1,1,1,1,1,1,0]) (y := cd Try.f80 [1,1,1,1,1,1,1,1]) (by kernel_rfl) fun K20 hK20 => ?_
  have hJ1 : ∀ (x1 : Int) (x2 : Int), value_date_j1 y10 x1 x2 = some r → ∀ fr1 st1, Sub 61 0 [] fr1 st1 [(2, vi x1), (3, vi x2), (4, vi y10)] [] → K20 fr1 st1 := by
    intro x1 x2 h fr1 st1 hS
    unfold value_date_j1 at h
    refine hK20 _ _ (XW.sub hS ?_)
    refine XW.seq (x := cd Try.f80 [1,1,1,1,1,1,1,1,0]) (y := cd Try.f80 [1,1,1,1,1,1,1,1,1]) (by kernel_rfl) fun K23 hK23 => ?_
    refine XW.reg (by kernel_rfl) ?_
    refine XO.go [] 6 [2,3,4] [] [(2, vi x1), (3, vi x2), (4, vi y10)] [] [] (by kernel_rfl) trivial ?_
    refine XO.done (by kernel_rfl) ?_
    refine hK23 _ _ ?_
    refine XW.ret (by kernel_rfl) ?_
    obtain rfl := Option.some.inj h
    exact FinP.fin (.inr rfl) [] [vi x1, vi x2, vi y10] [] (by kernel_rfl) trivial (.tpc (.one (.rfl _ rfl)) (.tpc (.one (.rfl _ rfl)) (.tpc (.one (.rfl _ rfl)) (.tp0))))
  refine XW.seq (x := cd Try.f80 [1,1,1,1,1,1,1,0,0]) (y := cd Try.f80 [1,1,1,1,1,1,1,0,1]) (by kernel_rfl) fun K21 hK21 => ?_
  refine XW.reg (by kernel_rfl) ?_
  refine XO.go [] 2 [2,3,4,53] [] [(2, vi y11), (3, vi (IntKind.i64.wrap (y8 + (3 : Int)))), (4, vi y10), (53, vb (decide ((12 : Int) < (IntKind.i64.wrap (y8 + (3 : Int))))))] [] [] (by kernel_rfl) trivial ?_
  refine XO.done (by kernel_rfl) ?_
  refine hK21 _ _ ?_
  refine XW.cond (x := .tmp 53) (a := cd Try.f80 [1,1,1,1,1,1,1,0,1,0]) (b := cd Try.f80 [1,1,1,1,1,1,1,0,1,1]) (t := (decide ((12 : Int) < (IntKind.i64.wrap (y8 + (3 : Int)))))) (by kernel_rfl) (by kernel_rfl) (fun b22 => ?_) (fun b22 => ?_)
  · have h := ift_t b22 h
    refine XW.reg (by kernel_rfl) ?_
    refine XO.go [] 6 [2,3,4] [] [(2, vi (IntKind.i64.wrap (y11 + (1 : Int)))), (3, vi (IntKind.i64.wrap ((IntKind.i64.wrap (y8 + (3 : Int))) - (12 : Int)))), (4, vi y10)] [] [] (by kernel_rfl) trivial ?_
    refine XO.done (by kernel_rfl) ?_
    exact hJ1 (IntKind.i64.wrap (y11 + (1 : Int))) (IntKind.i64.wrap ((IntKind.i64.wrap (y8 + (3 : Int))) - (12 : Int))) h _ _ (Sub.pick [2,3,4] (by kernel_rfl))
  · have h := ift_f b22 h
    refine XW.skip (by kernel_rfl) ?_
    exact hJ1 y11 (IntKind.i64.wrap (y8 + (3 : Int))) h _ _ (Sub.pick [2,3,4] (by kernel_rfl))

def value_civil (p1 : Int) : Option GCivil :=
    bnd (value_floor p1 (86400 : Int)) fun r1 =>
    bnd (value_date r1.1) fun r2 =>
    some (GCivil.mk r2.1 r2.2.1 r2.2.2 (IntKind.i64.wrap (r1.2.tdiv (3600 : Int))) (IntKind.i64.wrap ((r1.2.tmod (3600 : Int)).tdiv (60 : Int))) (r1.2.tmod (60 : Int)))


theorem c_value_civil (p1 : Int) (r : GCivil) (h : value_civil p1 = some r) : PC Try.prog 43 [vi p1] (.ag [ci r.year, ci r.month, ci r.day, ci r.hour, ci r.minute, ci r.second]) := by
  unfold value_civil at h
  refine PC.of (n := 30) (fn := Try.f43) (c := cd Try.f43 []) (by kernel_rfl) (by kernel_rfl) (by kernel_rfl) (Nat.le_of_ble_eq_true rfl) ?_
  refine XW.seq (x := cd Try.f43 [0]) (y := cd Try.f43 [1]) (by kernel_rfl) fun K1 hK1 => ?_
  refine XW.reg (by kernel_rfl) ?_
  refine XO.go [2] 1 [0,2] [] [(0, vi p1), (2, .one (.pt 0 0 0 0))] [.box [ci (0 : Int), ci (0 : Int), ci (0 : Int), ci (0 : Int), ci (0 : Int), ci (0 : Int)]] [] (by kernel_rfl) trivial ?_
  refine XO.done (by kernel_rfl) ?_
  refine hK1 _ _ ?_
  refine XW.seq (x := cd Try.f43 [1,0]) (y := cd Try.f43 [1,1]) (by kernel_rfl) fun K2 hK2 => ?_
  obtain ⟨r1, c3, h⟩ := bnd_some h
  refine XW.reg (by kernel_rfl) ?_
  refine XO.go [2] 1 [2,9] [] [(2, .one (.pt 0 0 0 0)), (9, vi p1)] [.box [ci (0 : Int), ci (0 : Int), ci (0 : Int), ci (0 : Int), ci (0 : Int), ci (0 : Int)]] [] (by kernel_rfl) trivial ?_
  refine XO.cal 66 [vi p1, vi (86400 : Int)] (.tp [vi r1.1, vi r1.2]) [(10, .tp [vi r1.1, vi r1.2]), (2, .one (.pt 0 0 0 0)), (9, vi p1)] (by kernel_rfl) (c_value_floor _ _ _ c3) rfl rfl (by kernel_rfl) ?_
  refine XO.go [2] 5 [2,3,4] [] [(2, .one (.pt 0 0 0 0)), (3, vi r1.1), (4, vi r1.2)] [.box [ci (0 : Int), ci (0 : Int), ci (0 : Int), ci (0 : Int), ci (0 : Int), ci (0 : Int)]] [] (by kernel_rfl) trivial ?_
  refine XO.done (by kernel_rfl) ?_
  refine hK2 _ _ ?_
  refine XW.seq (x := cd Try.f43 [1,1,0]) (y := cd Try.f43 [1,1,1]) (by kernel_rfl) fun K4 hK4 => ?_
  obtain ⟨r2, c5, h⟩ := bnd_some h
  refine XW.reg (by kernel_rfl) ?_
  refine XO.go [2] 1 [2,4,14] [] [(2, .one (.pt 0 0 0 0)), (4, vi r1.2), (14, vi r1.1)] [.box [ci (0 : Int), ci (0 : Int), ci (0 : Int), ci (0 : Int), ci (0 : Int), ci (0 : Int)]] [] (by kernel_rfl) trivial ?_
  refine XO.cal 80 [vi r1.1] (.tp [vi r2.1, vi r2.2.1, vi r2.2.2]) [(15, .tp [vi r2.1, vi r2.2.1, vi r2.2.2]), (2, .one (.pt 0 0 0 0)), (4, vi r1.2), (14, vi r1.1)] (by kernel_rfl) (c_value_date _ _ c5) rfl rfl (by kernel_rfl) ?_
  refine XO.go [2] 7 [2,4,5,6,7] [] [(2, .one (.pt 0 0 0 0)), (4, vi r1.2), (5, vi r2.1), (6, vi r2.2.1), (7, vi r2.2.2)] [.box [ci (0 : Int), ci (0 : Int), ci (0 : Int), ci (0 : Int), ci (0 : Int), ci (0 : Int)]] [] (by kernel_rfl) trivial ?_
  refine XO.done (by kernel_rfl) ?_
  refine hK4 _ _ ?_
  refine XW.seq (x := cd Try.f43 [1,1,1,0]) (y := cd Try.f43 [1,1,1,1]) (by kernel_rfl) fun K6 hK6 => ?_
  refine XW.reg (by kernel_rfl) ?_
  refine XO.go [2] 12 [2] [] [(2, .one (.pt 0 0 0 0))] [.box [ci r2.1, ci r2.2.1, ci r2.2.2, ci (IntKind.i64.wrap (r1.2.tdiv (3600 : Int))), ci (IntKind.i64.wrap ((r1.2.tmod (3600 : Int)).tdiv (60 : Int))), ci (r1.2.tmod (60 : Int))]] [(3600 : Int) ≠ 0, (3600 : Int) ≠ 0, (60 : Int) ≠ 0, (60 : Int) ≠ 0] (by kernel_rfl) (⟨by decide, by decide, by decide, by decide, trivial⟩) ?_
  refine XO.done (by kernel_rfl) ?_
  refine hK6 _ _ ?_
  refine XW.ret (by kernel_rfl) ?_
  obtain rfl := Option.some.inj h
  exact FinP.fin (.inr rfl) [] [.ag [ci r2.1, ci r2.2.1, ci r2.2.2, ci (IntKind.i64.wrap (r1.2.tdiv (3600 : Int))), ci (IntKind.i64.wrap ((r1.2.tmod (3600 : Int)).tdiv (60 : Int))), ci (r1.2.tmod (60 : Int))]] [] (by kernel_rfl) trivial (.ag (.cons (.rfl _ rfl) (.cons (.rfl _ rfl) (.cons (.rfl _ rfl) (.cons (.rfl _ rfl) (.cons (.rfl _ rfl) (.cons (.rfl _ rfl) .nil)))))))

def value_days_j1 (p3 : Int) (x1 : Int) (x2 : Int) : Option Int :=
    bnd (value_floor x1 (400 : Int)) fun r1 =>
    bnd (some (IntKind.i64.wrap ((IntKind.i64.wrap (r1.1 * (146097 : Int))) + (IntKind.i64.wrap (r1.2 * (365 : Int)))))) fun y1 =>
    bnd (some (IntKind.i64.wrap ((IntKind.i64.wrap (y1 + (IntKind.i64.wrap (r1.2.tdiv (4 : Int))))) - (IntKind.i64.wrap (r1.2.tdiv (100 : Int)))))) fun y2 =>
    bnd (some (IntKind.i64.wrap ((153 : Int) * (IntKind.i64.wrap (x2 - (3 : Int)))))) fun y3 =>
    bnd (some (IntKind.i64.wrap ((IntKind.i64.wrap (y3 + (2 : Int))).tdiv (5 : Int)))) fun y4 =>
    bnd (some (IntKind.i64.wrap ((IntKind.i64.wrap ((IntKind.i64.wrap (y2 + y4)) + p3)) - (1 : Int)))) fun y5 =>
    some (IntKind.i64.wrap (y5 - (719468 : Int)))

def value_days (p1 : Int) (p2 : Int) (p3 : Int) : Option Int :=
    ift (decide (p2 ≤ (2 : Int)))
      (value_days_j1 p3 (IntKind.i64.wrap (p1 - (1 : Int))) (IntKind.i64.wrap (p2 + (12 : Int))))
      (value_days_j1 p3 p1 p2)


theorem c_value_days (p1 : Int) (p2 : Int) (p3 : Int) (r : Int) (h : value_days p1 p2 p3 = some r) : PC Try.prog 47 [vi p1, vi p2, vi p3] (vi r) := by
  unfold value_days at h
  refine PC.of (n := 41) (fn := Try.f47) (c := cd Try.f47 []) (by kernel_rfl) (by kernel_rfl) (by kernel_rfl) (Nat.le_of_ble_eq_true rfl) ?_
  refine XW.seq (x := cd Try.f47 [0]) (y := cd Try.f47 [1]) (by kernel_rfl) fun K1 hK1 => ?_
  refine XW.reg (by kernel_rfl) ?_
  refine XO.go [] 1 [0,1,2] [] [(0, vi p1), (1, vi p2), (2, vi p3)] [] [] (by kernel_rfl) trivial ?_
  refine XO.done (by kernel_rfl) ?_
  refine hK1 _ _ ?_
  refine XW.seq (x := cd Try.f47 [1,0]) (y := cd Try.f47 [1,1]) (by kernel_rfl) fun K2 hK2 => ?_
  have hJ1 : ∀ (x1 : Int) (x2 : Int), value_days_j1 p3 x1 x2 = some r → ∀ fr1 st1, Sub 41 0 [] fr1 st1 [(0, vi x1), (1, vi x2), (2, vi p3)] [] → K2 fr1 st1 := by
    intro x1 x2 h fr1 st1 hS
    unfold value_days_j1 at h
    refine hK2 _ _ (XW.sub hS ?_)
    refine XW.seq (x := cd Try.f47 [1,1,0]) (y := cd Try.f47 [1,1,1]) (by kernel_rfl) fun K5 hK5 => ?_
    obtain ⟨r1, c6, h⟩ := bnd_some h
    refine XW.reg (by kernel_rfl) ?_
    refine XO.go [] 1 [1,2,16] [] [(1, vi x2), (2, vi p3), (16, vi x1)] [] [] (by kernel_rfl) trivial ?_
    refine XO.cal 66 [vi x1, vi (400 : Int)] (.tp [vi r1.1, vi r1.2]) [(17, .tp [vi r1.1, vi r1.2]), (1, vi x2), (2, vi p3), (16, vi x1)] (by kernel_rfl) (c_value_floor _ _ _ c6) rfl rfl (by kernel_rfl) ?_
    refine XO.go [] 5 [1,2,7,8] [] [(1, vi x2), (2, vi p3), (7, vi r1.1), (8, vi r1.2)] [] [] (by kernel_rfl) trivial ?_
    refine XO.done (by kernel_rfl) ?_
    refine hK5 _ _ ?_
    refine XW.seq (x := cd Try.f47 [1,1,1,0]) (y := cd Try.f47 [1,1,1,1]) (by kernel_rfl) fun K7 hK7 => ?_
    obtain ⟨y1, y8, h⟩ := bnd_some h
    obtain ⟨y2, y9, h⟩ := bnd_some h
    obtain ⟨y3, y10, h⟩ := bnd_some h
    obtain ⟨y4, y11, h⟩ := bnd_some h
    obtain ⟨y5, y12, h⟩ := bnd_some h
    refine XW.reg (by kernel_rfl) ?_
    refine XO.go [] 5 [1,2,8,24] [] [(1, vi x2), (2, vi p3), (8, vi r1.2), (24, vi (IntKind.i64.wrap ((IntKind.i64.wrap (r1.1 * (146097 : Int))) + (IntKind.i64.wrap (r1.2 * (365 : Int))))))] [] [] (by kernel_rfl) trivial ?_
    rw [show (IntKind.i64.wrap ((IntKind.i64.wrap (r1.1 * (146097 : Int))) + (IntKind.i64.wrap (r1.2 * (365 : Int))))) = y1 from Option.some.inj y8]
    refine XO.go [] 6 [1,2,30] [] [(1, vi x2), (2, vi p3), (30, vi (IntKind.i64.wrap ((IntKind.i64.wrap (y1 + (IntKind.i64.wrap (r1.2.tdiv (4 : Int))))) - (IntKind.i64.wrap (r1.2.tdiv (100 : Int))))))] [] [(4 : Int) ≠ 0, (100 : Int) ≠ 0] (by kernel_rfl) (⟨by decide, by decide, trivial⟩) ?_
    rw [show (IntKind.i64.wrap ((IntKind.i64.wrap (y1 + (IntKind.i64.wrap (r1.2.tdiv (4 : Int))))) - (IntKind.i64.wrap (r1.2.tdiv (100 : Int))))) = y2 from Option.some.inj y9]
    refine XO.go [] 3 [2,30,33] [] [(2, vi p3), (30, vi y2), (33, vi (IntKind.i64.wrap ((153 : Int) * (IntKind.i64.wrap (x2 - (3 : Int))))))] [] [] (by kernel_rfl) trivial ?_
    rw [show (IntKind.i64.wrap ((153 : Int) * (IntKind.i64.wrap (x2 - (3 : Int))))) = y3 from Option.some.inj y10]
    refine XO.go [] 2 [2,30,35] [] [(2, vi p3), (30, vi y2), (35, vi (IntKind.i64.wrap ((IntKind.i64.wrap (y3 + (2 : Int))).tdiv (5 : Int))))] [] [(5 : Int) ≠ 0] (by kernel_rfl) (⟨by decide, trivial⟩) ?_
    rw [show (IntKind.i64.wrap ((IntKind.i64.wrap (y3 + (2 : Int))).tdiv (5 : Int))) = y4 from Option.some.inj y11]
    refine XO.go [] 4 [39] [] [(39, vi (IntKind.i64.wrap ((IntKind.i64.wrap ((IntKind.i64.wrap (y2 + y4)) + p3)) - (1 : Int))))] [] [] (by kernel_rfl) trivial ?_
    rw [show (IntKind.i64.wrap ((IntKind.i64.wrap ((IntKind.i64.wrap (y2 + y4)) + p3)) - (1 : Int))) = y5 from Option.some.inj y12]
    refine XO.go [] 2 [6] [] [(6, vi (IntKind.i64.wrap (y5 - (719468 : Int))))] [] [] (by kernel_rfl) trivial ?_
    refine XO.done (by kernel_rfl) ?_
    refine hK7 _ _ ?_
    refine XW.ret (by kernel_rfl) ?_
    obtain rfl := Option.some.inj h
    exact FinP.fin (.inr rfl) [] [vi (IntKind.i64.wrap (y5 - (719468 : Int)))] [] (by kernel_rfl) trivial (.one (.rfl _ rfl))
  refine XW.seq (x := cd Try.f47 [1,0,0]) (y := cd Try.f47 [1,0,1]) (by kernel_rfl) fun K3 hK3 => ?_
  refine XW.reg (by kernel_rfl) ?_
  refine XO.go [] 2 [0,1,2,10] [] [(0, vi p1), (1, vi p2), (2, vi p3), (10, vb (decide (p2 ≤ (2 : Int))))] [] [] (by kernel_rfl) trivial ?_
  refine XO.done (by kernel_rfl) ?_
  refine hK3 _ _ ?_
  refine XW.cond (x := .tmp 10) (a := cd Try.f47 [1,0,1,0]) (b := cd Try.f47 [1,0,1,1]) (t := (decide (p2 ≤ (2 : Int)))) (by kernel_rfl) (by kernel_rfl) (fun b4 => ?_) (fun b4 => ?_)
  · have h := ift_t b4 h
    refine XW.reg (by kernel_rfl) ?_
    refine XO.go [] 6 [0,1,2] [] [(0, vi (IntKind.i64.wrap (p1 - (1 : Int)))), (1, vi (IntKind.i64.wrap (p2 + (12 : Int)))), (2, vi p3)] [] [] (by kernel_rfl) trivial ?_
    refine XO.done (by kernel_rfl) ?_
    exact hJ1 (IntKind.i64.wrap (p1 - (1 : Int))) (IntKind.i64.wrap (p2 + (12 : Int))) h _ _ (Sub.pick [0,1,2] (by kernel_rfl))
  · have h := ift_f b4 h
    refine XW.skip (by kernel_rfl) ?_
    exact hJ1 p1 p2 h _ _ (Sub.pick [0,1,2] (by kernel_rfl))

def value_weekday (p1 : Int) : Option Int :=
    bnd (value_floor (IntKind.i64.wrap (p1 + (3 : Int))) (7 : Int)) fun r1 =>
    some (IntKind.i64.wrap (r1.2 + (1 : Int)))


theorem c_value_weekday (p1 : Int) (r : Int) (h : value_weekday p1 = some r) : PC Try.prog 48 [vi p1] (vi r) := by
  unfold value_weekday at h
  refine PC.of (n := 13) (fn := Try.f48) (c := cd Try.f48 []) (by kernel_rfl) (by kernel_rfl) (by kernel_rfl) (Nat.le_of_ble_eq_true rfl) ?_
  refine XW.seq (x := cd Try.f48 [0]) (y := cd Try.f48 [1]) (by kernel_rfl) fun K1 hK1 => ?_
  refine XW.reg (by kernel_rfl) ?_
  refine XO.go [] 1 [0] [] [(0, vi p1)] [] [] (by kernel_rfl) trivial ?_
  refine XO.done (by kernel_rfl) ?_
  refine hK1 _ _ ?_
  refine XW.seq (x := cd Try.f48 [1,0]) (y := cd Try.f48 [1,1]) (by kernel_rfl) fun K2 hK2 => ?_
  obtain ⟨r1, c3, h⟩ := bnd_some h
  refine XW.reg (by kernel_rfl) ?_
  refine XO.go [] 2 [7] [] [(7, vi (IntKind.i64.wrap (p1 + (3 : Int))))] [] [] (by kernel_rfl) trivial ?_
  refine XO.cal 66 [vi (IntKind.i64.wrap (p1 + (3 : Int))), vi (7 : Int)] (.tp [vi r1.1, vi r1.2]) [(8, .tp [vi r1.1, vi r1.2]), (7, vi (IntKind.i64.wrap (p1 + (3 : Int))))] (by kernel_rfl) (c_value_floor _ _ _ c3) rfl rfl (by kernel_rfl) ?_
  refine XO.go [] 5 [4] [] [(4, vi r1.2)] [] [] (by kernel_rfl) trivial ?_
  refine XO.done (by kernel_rfl) ?_
  refine hK2 _ _ ?_
  refine XW.seq (x := cd Try.f48 [1,1,0]) (y := cd Try.f48 [1,1,1]) (by kernel_rfl) fun K4 hK4 => ?_
  refine XW.reg (by kernel_rfl) ?_
  refine XO.go [] 3 [2] [] [(2, vi (IntKind.i64.wrap (r1.2 + (1 : Int))))] [] [] (by kernel_rfl) trivial ?_
  refine XO.done (by kernel_rfl) ?_
  refine hK4 _ _ ?_
  refine XW.ret (by kernel_rfl) ?_
  obtain rfl := Option.some.inj h
  exact FinP.fin (.inr rfl) [] [vi (IntKind.i64.wrap (r1.2 + (1 : Int)))] [] (by kernel_rfl) trivial (.one (.rfl _ rfl))

def value_leap_j1 (x1 : Bool) : Option Bool :=
    some x1

def value_leap (p1 : Int) : Option Bool :=
    ift ((p1.tmod (4 : Int)) == (0 : Int))
      (ift ((p1.tmod (100 : Int)) != (0 : Int))
         (value_leap_j1 true)
         (value_leap_j1 ((p1.tmod (400 : Int)) == (0 : Int))))
      (value_leap_j1 false)


theorem c_value_leap (p1 : Int) (r : Bool) (h : value_leap p1 = some r) : PC Try.prog 92 [vi p1] (vb r) := by
  unfold value_leap at h
  refine PC.of (n := 16) (fn := Try.f92) (c := cd Try.f92 []) (by kernel_rfl) (by kernel_rfl) (by kernel_rfl) (Nat.le_of_ble_eq_true rfl) ?_
  refine XW.seq (x := cd Try.f92 [0]) (y := cd Try.f92 [1]) (by kernel_rfl) fun K1 hK1 => ?_
  refine XW.reg (by kernel_rfl) ?_
  refine XO.go [] 1 [0] [] [(0, vi p1)] [] [] (by kernel_rfl) trivial ?_
  refine XO.done (by kernel_rfl) ?_
  refine hK1 _ _ ?_
  refine XW.seq (x := cd Try.f92 [1,0]) (y := cd Try.f92 [1,1]) (by kernel_rfl) fun K2 hK2 => ?_
  have hJ1 : ∀ (x1 : Bool), value_leap_j1 x1 = some r → ∀ fr1 st1, Sub 16 0 [] fr1 st1 [(2, vb x1)] [] → K2 fr1 st1 := by
    intro x1 h fr1 st1 hS
    unfold value_leap_j1 at h
    refine hK2 _ _ (XW.sub hS ?_)
    refine XW.ret (by kernel_rfl) ?_
    obtain rfl := Option.some.inj h
    exact FinP.fin (.inr rfl) [] [vb x1] [] (by kernel_rfl) trivial (.one (.rfl _ rfl))
  rcases Bool.eq_false_or_eq_true ((p1.tmod (4 : Int)) == (0 : Int)) with b3 | b3
  · have h := ift_t b3 h
    rcases Bool.eq_false_or_eq_true ((p1.tmod (100 : Int)) != (0 : Int)) with b4 | b4
    · have h := ift_t b4 h
      refine XW.reg (by kernel_rfl) ?_
      refine XO.go [] 4 [0,6] [] [(0, vi p1), (6, vb ((p1.tmod (4 : Int)) == (0 : Int)))] [] [(4 : Int) ≠ 0] (by kernel_rfl) (⟨by decide, trivial⟩) ?_
      refine XO.setb 6 true (B := ((p1.tmod (4 : Int)) == (0 : Int))) rfl b3 ?_
      refine XO.go [] 4 [0,6,10] [] [(0, vi p1), (6, vb true), (10, vb ((p1.tmod (100 : Int)) != (0 : Int)))] [] [(100 : Int) ≠ 0] (by kernel_rfl) (⟨by decide, trivial⟩) ?_
      refine XO.setb 10 true (B := ((p1.tmod (100 : Int)) != (0 : Int))) rfl b4 ?_
      refine XO.go [] 6 [2] [] [(2, vb true)] [] [] (by kernel_rfl) trivial ?_
      refine XO.done (by kernel_rfl) ?_
      exact hJ1 true h _ _ (Sub.pick [2] (by kernel_rfl))
    · have h := ift_f b4 h
      refine XW.reg (by kernel_rfl) ?_
      refine XO.go [] 4 [0,6] [] [(0, vi p1), (6, vb ((p1.tmod (4 : Int)) == (0 : Int)))] [] [(4 : Int) ≠ 0] (by kernel_rfl) (⟨by decide, trivial⟩) ?_
      refine XO.setb 6 true (B := ((p1.tmod (4 : Int)) == (0 : Int))) rfl b3 ?_
      refine XO.go [] 4 [0,6,10] [] [(0, vi p1), (6, vb true), (10, vb ((p1.tmod (100 : Int)) != (0 : Int)))] [] [(100 : Int) ≠ 0] (by kernel_rfl) (⟨by decide, trivial⟩) ?_
      refine XO.setb 10 false (B := ((p1.tmod (100 : Int)) != (0 : Int))) rfl b4 ?_
      refine XO.go [] 6 [2] [] [(2, vb ((p1.tmod (400 : Int)) == (0 : Int)))] [] [(400 : Int) ≠ 0] (by kernel_rfl) (⟨by decide, trivial⟩) ?_
      refine XO.done (by kernel_rfl) ?_
      exact hJ1 ((p1.tmod (400 : Int)) == (0 : Int)) h _ _ (Sub.pick [2] (by kernel_rfl))
  · have h := ift_f b3 h
    refine XW.reg (by kernel_rfl) ?_
    refine XO.go [] 4 [0,6] [] [(0, vi p1), (6, vb ((p1.tmod (4 : Int)) == (0 : Int)))] [] [(4 : Int) ≠ 0] (by kernel_rfl) (⟨by decide, trivial⟩) ?_
    refine XO.setb 6 false (B := ((p1.tmod (4 : Int)) == (0 : Int))) rfl b3 ?_
    refine XO.go [] 10 [2] [] [(2, vb false)] [] [] (by kernel_rfl) trivial ?_
    refine XO.done (by kernel_rfl) ?_
    exact hJ1 false h _ _ (Sub.pick [2] (by kernel_rfl))

def value_daysIn_j1 (x1 : Bool) : Option Int :=
    ift x1
      (some (30 : Int))
      (some (31 : Int))

def value_daysIn (p1 : Int) (p2 : Int) : Option Int :=
    ift (p2 == (2 : Int))
      (bnd (value_leap p1) fun r1 =>
       ift r1
         (some (29 : Int))
         (some (28 : Int)))
      (ift (p2 == (4 : Int))
         (value_daysIn_j1 (p2 == (4 : Int)))
         (ift (p2 == (6 : Int))
            (value_daysIn_j1 (p2 == (6 : Int)))
            (ift (p2 == (9 : Int))
               (value_daysIn_j1 (p2 == (9 : Int)))
               (value_daysIn_j1 (p2 == (11 : Int))))))


theorem c_value_daysIn (p1 : Int) (p2 : Int) (r : Int) (h : value_daysIn p1 p2 = some r) : PC Try.prog 67 [vi p1, vi p2] (vi r) := by
  unfold value_daysIn at h
  refine PC.of (n := 15) (fn := Try.f67) (c := cd Try.f67 []) (by kernel_rfl) (by kernel_rfl) (by kernel_rfl) (Nat.le_of_ble_eq_true rfl) ?_
  refine XW.seq (x := cd Try.f67 [0]) (y := cd Try.f67 [1]) (by kernel_rfl) fun K1 hK1 => ?_
  refine XW.reg (by kernel_rfl) ?_
  refine XO.go [] 1 [0,1] [] [(0, vi p1), (1, vi p2)] [] [] (by kernel_rfl) trivial ?_
  refine XO.done (by kernel_rfl) ?_
  refine hK1 _ _ ?_
  refine XW.seq (x := cd Try.f67 [1,0]) (y := cd Try.f67 [1,1]) (by kernel_rfl) fun K2 hK2 => ?_
  refine XW.seq (x := cd Try.f67 [1,0,0]) (y := cd Try.f67 [1,0,1]) (by kernel_rfl) fun K3 hK3 => ?_
  refine XW.reg (by kernel_rfl) ?_
  refine XO.go [] 1 [0,5] [] [(0, vi p1), (5, vi p2)] [] [] (by kernel_rfl) trivial ?_
  refine XO.done (by kernel_rfl) ?_
  refine hK3 _ _ ?_
  refine XW.block (id := 0) (x := cd Try.f67 [1,0,1,0]) (by kernel_rfl) ?_
  refine XW.seq (x := cd Try.f67 [1,0,1,0,0]) (y := cd Try.f67 [1,0,1,0,1]) (by kernel_rfl) fun K4 hK4 => ?_
  refine XW.reg (by kernel_rfl) ?_
  refine XO.go [] 2 [0,5,6] [] [(0, vi p1), (5, vi p2), (6, vb (p2 == (2 : Int)))] [] [] (by kernel_rfl) trivial ?_
  refine XO.done (by kernel_rfl) ?_
  refine hK4 _ _ ?_
  refine XW.cond (x := .tmp 6) (a := cd Try.f67 [1,0,1,0,1,0]) (b := cd Try.f67 [1,0,1,0,1,1]) (t := (p2 == (2 : Int))) (by kernel_rfl) (by kernel_rfl) (fun b5 => ?_) (fun b5 => ?_)
  · have h := ift_t b5 h
    refine XW.seq (x := cd Try.f67 [1,0,1,0,1,0,0]) (y := cd Try.f67 [1,0,1,0,1,0,1]) (by kernel_rfl) fun K6 hK6 => ?_
    refine XW.seq (x := cd Try.f67 [1,0,1,0,1,0,0,0]) (y := cd Try.f67 [1,0,1,0,1,0,0,1]) (by kernel_rfl) fun K7 hK7 => ?_
    obtain ⟨r1, c8, h⟩ := bnd_some h
    refine XW.reg (by kernel_rfl) ?_
    refine XO.go [] 1 [8] [] [(8, vi p1)] [] [] (by kernel_rfl) trivial ?_
    refine XO.cal 92 [vi p1] (vb r1) [(9, vb r1), (8, vi p1)] (by kernel_rfl) (c_value_leap _ _ c8) rfl rfl (by kernel_rfl) ?_
    refine XO.done (by kernel_rfl) ?_
    refine hK7 _ _ ?_
    refine XW.cond (x := .tmp 9) (a := cd Try.f67 [1,0,1,0,1,0,0,1,0]) (b := cd Try.f67 [1,0,1,0,1,0,0,1,1]) (t := r1) (by kernel_rfl) (by kernel_rfl) (fun b9 => ?_) (fun b9 => ?_)
    · have h := ift_t b9 h
      refine XW.seq (x := cd Try.f67 [1,0,1,0,1,0,0,1,0,0]) (y := cd Try.f67 [1,0,1,0,1,0,0,1,0,1]) (by kernel_rfl) fun K10 hK10 => ?_
      refine XW.reg (by kernel_rfl) ?_
      refine XO.go [] 1 [4] [] [(4, vi (29 : Int))] [] [] (by kernel_rfl) trivial ?_
      refine XO.done (by kernel_rfl) ?_
      refine hK10 _ _ ?_
      refine XW.ret (by kernel_rfl) ?_
      obtain rfl := Option.some.inj h
      exact FinP.fin (.inr rfl) [] [vi (29 : Int)] [] (by kernel_rfl) trivial (.one (.rfl _ rfl))
    · have h := ift_f b9 h
      refine XW.skip (by kernel_rfl) ?_
      refine hK6 _ _ ?_
      refine XW.seq (x := cd Try.f67 [1,0,1,0,1,0,1,0]) (y := cd Try.f67 [1,0,1,0,1,0,1,1]) (by kernel_rfl) fun K11 hK11 => ?_
      refine XW.reg (by kernel_rfl) ?_
      refine XO.go [] 1 [4] [] [(4, vi (28 : Int))] [] [] (by kernel_rfl) trivial ?_
      refine XO.done (by kernel_rfl) ?_
      refine hK11 _ _ ?_
      refine XW.ret (by kernel_rfl) ?_
      obtain rfl := Option.some.inj h
      exact FinP.fin (.inr rfl) [] [vi (28 : Int)] [] (by kernel_rfl) trivial (.one (.rfl _ rfl))
  · have h := ift_f b5 h
    refine XW.seq (x := cd Try.f67 [1,0,1,0,1,1,0]) (y := cd Try.f67 [1,0,1,0,1,1,1]) (by kernel_rfl) fun K12 hK12 => ?_
    have hJ1 : ∀ (x1 : Bool), value_daysIn_j1 x1 = some r → ∀ fr1 st1, Sub 15 0 [] fr1 st1 [(10, vb x1)] [] → K12 fr1 st1 := by
      intro x1 h fr1 st1 hS
      unfold value_daysIn_j1 at h
      refine hK12 _ _ (XW.sub hS ?_)
      refine XW.cond (x := .tmp 10) (a := cd Try.f67 [1,0,1,0,1,1,1,0]) (b := cd Try.f67 [1,0,1,0,1,1,1,1]) (t := x1) (by kernel_rfl) (by kernel_rfl) (fun b19 => ?_) (fun b19 => ?_)
      · have h := ift_t b19 h
        refine XW.seq (x := cd Try.f67 [1,0,1,0,1,1,1,0,0]) (y := cd Try.f67 [1,0,1,0,1,1,1,0,1]) (by kernel_rfl) fun K20 hK20 => ?_
        refine XW.reg (by kernel_rfl) ?_
        refine XO.go [] 1 [4] [] [(4, vi (30 : Int))] [] [] (by kernel_rfl) trivial ?_
        refine XO.done (by kernel_rfl) ?_
        refine hK20 _ _ ?_
        refine XW.ret (by kernel_rfl) ?_
        obtain rfl := Option.some.inj h
        exact FinP.fin (.inr rfl) [] [vi (30 : Int)] [] (by kernel_rfl) trivial (.one (.rfl _ rfl))
      · have h := ift_f b19 h
        refine XW.skip (by kernel_rfl) ?_
        refine hK2 _ _ ?_
        refine XW.seq (x := cd Try.f67 [1,1,0]) (y := cd Try.f67 [1,1,1]) (by kernel_rfl) fun K21 hK21 => ?_
        refine XW.reg (by kernel_rfl) ?_
        refine XO.go [] 1 [4] [] [(4, vi (31 : Int))] [] [] (by kernel_rfl) trivial ?_
        refine XO.done (by kernel_rfl) ?_
        refine hK21 _ _ ?_
        refine XW.ret (by kernel_rfl) ?_
        obtain rfl := Option.some.inj h
        exact FinP.fin (.inr rfl) [] [vi (31 : Int)] [] (by kernel_rfl) trivial (.one (.rfl _ rfl))
    refine XW.seq (x := cd Try.f67 [1,0,1,0,1,1,0,0]) (y := cd Try.f67 [1,0,1,0,1,1,0,1]) (by kernel_rfl) fun K13 hK13 => ?_
    refine XW.reg (by kernel_rfl) ?_
    refine XO.go [] 2 [5,10] [] [(5, vi p2), (10, vb (p2 == (4 : Int)))] [] [] (by kernel_rfl) trivial ?_
    refine XO.done (by kernel_rfl) ?_
    refine hK13 _ _ ?_
    refine XW.cond (x := .tmp 10) (a := cd Try.f67 [1,0,1,0,1,1,0,1,0]) (b := cd Try.f67 [1,0,1,0,1,1,0,1,1]) (t := (p2 == (4 : Int))) (by kernel_rfl) (by kernel_rfl) (fun b14 => ?_) (fun b14 => ?_)
    · have h := ift_t b14 h
      refine XW.skip (by kernel_rfl) ?_
      exact hJ1 (p2 == (4 : Int)) h _ _ (Sub.pick [10] (by kernel_rfl))
    · have h := ift_f b14 h
      refine XW.seq (x := cd Try.f67 [1,0,1,0,1,1,0,1,1,0]) (y := cd Try.f67 [1,0,1,0,1,1,0,1,1,1]) (by kernel_rfl) fun K15 hK15 => ?_
      refine XW.reg (by kernel_rfl) ?_
      refine XO.go [] 2 [5,10] [] [(5, vi p2), (10, vb (p2 == (6 : Int)))] [] [] (by kernel_rfl) trivial ?_
      refine XO.done (by kernel_rfl) ?_
      refine hK15 _ _ ?_
      refine XW.cond (x := .tmp 10) (a := cd Try.f67 [1,0,1,0,1,1,0,1,1,1,0]) (b := cd Try.f67 [1,0,1,0,1,1,0,1,1,1,1]) (t := (p2 == (6 : Int))) (by kernel_rfl) (by kernel_rfl) (fun b16 => ?_) (fun b16 => ?_)
      · have h := ift_t b16 h
        refine XW.skip (by kernel_rfl) ?_
        exact hJ1 (p2 == (6 : Int)) h _ _ (Sub.pick [10] (by kernel_rfl))
      · have h := ift_f b16 h
        refine XW.seq (x := cd Try.f67 [1,0,1,0,1,1,0,1,1,1,1,0]) (y := cd Try.f67 [1,0,1,0,1,1,0,1,1,1,1,1]) (by kernel_rfl) fun K17 hK17 => ?_
        refine XW.reg (by kernel_rfl) ?_
        refine XO.go [] 2 [5,10] [] [(5, vi p2), (10, vb (p2 == (9 : Int)))] [] [] (by kernel_rfl) trivial ?_
        refine XO.done (by kernel_rfl) ?_
        refine hK17 _ _ ?_
        refine XW.cond (x := .tmp 10) (a := cd Try.f67 [1,0,1,0,1,1,0,1,1,1,1,1,0]) (b := cd Try.f67 [1,0,1,0,1,1,0,1,1,1,1,1,1]) (t := (p2 == (9 : Int))) (by kernel_rfl) (by kernel_rfl) (fun b18 => ?_) (fun b18 => ?_)
        · have h := ift_t b18 h
          refine XW.skip (by kernel_rfl) ?_
          exact hJ1 (p2 == (9 : Int)) h _ _ (Sub.pick [10] (by kernel_rfl))
        · have h := ift_f b18 h
          refine XW.reg (by kernel_rfl) ?_
          refine XO.go [] 2 [10] [] [(10, vb (p2 == (11 : Int)))] [] [] (by kernel_rfl) trivial ?_
          refine XO.done (by kernel_rfl) ?_
          exact hJ1 (p2 == (11 : Int)) h _ _ (Sub.pick [10] (by kernel_rfl))

def value_at_j1 (p1 : GTurn) (x2 : Int) : Option Int :=
    bnd (some (IntKind.i64.wrap ((IntKind.i64.wrap (x2 * (86400 : Int))) + (IntKind.i64.wrap (p1.minute * (60 : Int)))))) fun y4 =>
    some y4

def value_at_l1 (p1 : GTurn) (r1 : Int) (r3 : Int) : Nat → Int → Option Int
  | 0, _ => none
  | k1 + 1, x1 =>
    bnd (some (decide ((IntKind.i64.wrap (x1 + (7 : Int))) < (IntKind.i64.wrap (r1 + r3))))) fun y3 =>
    ift y3
      ((value_at_l1 p1 r1 r3 k1) (IntKind.i64.wrap (x1 + (7 : Int))))
      (value_at_j1 p1 x1)

def value_at (p1 : GTurn) (p2 : Int) : Option Int :=
    bnd (value_days p2 p1.month (1 : Int)) fun r1 =>
    bnd (value_weekday r1) fun r2 =>
    bnd (some ((IntKind.i64.wrap ((IntKind.i64.wrap (p1.weekday - r2)) + (7 : Int))).tmod (7 : Int))) fun y1 =>
    ift (decide (p1.week < (5 : Int)))
      (bnd (some (IntKind.i64.wrap ((IntKind.i64.wrap (p1.week - (1 : Int))) * (7 : Int)))) fun y2 =>
       value_at_j1 p1 (IntKind.i64.wrap ((IntKind.i64.wrap (r1 + y1)) + y2)))
      (bnd (value_daysIn p2 p1.month) fun r3 =>
       value_at_l1 p1 r1 r3 BIG (IntKind.i64.wrap (r1 + y1)))


theorem c_value_at (p1 : GTurn) (p2 : Int) (r : Int) (h : value_at p1 p2 = some r) : PC Try.prog 81 [.ag [ci p1.month, ci p1.week, ci p1.weekday, ci p1.minute], vi p2] (vi r) := by
  unfold value_at at h
  refine PC.of (n := 48) (fn := Try.f81) (c := cd Try.f81 []) (by kernel_rfl) (by kernel_rfl) (by kernel_rfl) (Nat.le_of_ble_eq_true rfl) ?_
  refine XW.seq (x := cd Try.f81 [0]) (y := cd Try.f81 [1]) (by kernel_rfl) fun K1 hK1 => ?_
  refine XW.reg (by kernel_rfl) ?_
  refine XO.go [] 2 [1,2] [] [(1, vi p2), (2, .one (.pv (.rp [[pi p1.month, pi p1.week, pi p1.weekday, pi p1.minute]] 0 0)))] [] [] (by kernel_rfl) trivial ?_
  refine XO.done (by kernel_rfl) ?_
  refine hK1 _ _ ?_
  refine XW.seq (x := cd Try.f81 [1,0]) (y := cd Try.f81 [1,1]) (by kernel_rfl) fun K2 hK2 => ?_
  obtain ⟨r1, c3, h⟩ := bnd_some h
  refine XW.reg (by kernel_rfl) ?_
  refine XO.go [] 3 [1,2,8,10] [[pi p1.month, pi p1.week, pi p1.weekday, pi p1.minute]] [(1, vi p2), (2, .one (.pv (.rp [[pi p1.month, pi p1.week, pi p1.weekday, pi p1.minute]] 0 0))), (8, vi p2), (10, vi p1.month)] [] [([[pi p1.month, pi p1.week, pi p1.weekday, pi p1.minute]] : List (List PV))[0]? = some [pi p1.month, pi p1.week, pi p1.weekday, pi p1.minute]] (by kernel_rfl) (⟨rfl, trivial⟩) ?_
  refine XO.cal 47 [vi p2, vi p1.month, vi (1 : Int)] (vi r1) [(11, vi r1), (1, vi p2), (2, .one (.pv (.rp [[pi p1.month, pi p1.week, pi p1.weekday, pi p1.minute]] 0 0))), (8, vi p2), (10, vi p1.month)] (by kernel_rfl) (c_value_days _ _ _ _ c3) rfl rfl (by kernel_rfl) ?_
  refine XO.go [] 1 [1,2,5] [] [(1, vi p2), (2, .one (.pv (.rp [[pi p1.month, pi p1.week, pi p1.weekday, pi p1.minute]] 0 0))), (5, vi r1)] [] [] (by kernel_rfl) trivial ?_
  refine XO.done (by kernel_rfl) ?_
  refine hK2 _ _ ?_
  refine XW.seq (x := cd Try.f81 [1,1,0]) (y := cd Try.f81 [1,1,1]) (by kernel_rfl) fun K4 hK4 => ?_
  obtain ⟨r2, c5, h⟩ := bnd_some h
  obtain ⟨y1, y6, h⟩ := bnd_some h
  refine XW.drwS 8 [(19, vi y1), (18, vi (IntKind.i64.wrap ((IntKind.i64.wrap (p1.weekday - r2)) + (7 : Int)))), (17, vi (IntKind.i64.wrap (p1.weekday - r2))), (16, vi r2), (15, vi r1), (14, vi p1.weekday), (13, .one (.pv (.rp [[pi p1.month, pi p1.week, pi p1.weekday, pi p1.minute]] 0 2))), (12, vi r1), (1, vi p2), (2, .one (.pv (.rp [[pi p1.month, pi p1.week, pi p1.weekday, pi p1.minute]] 0 0))), (5, vi r1)] (by kernel_rfl) (by kernel_rfl) ?_ ?_
  · refine DX.go 4 [[pi p1.month, pi p1.week, pi p1.weekday, pi p1.minute]] [(15, vi r1), (14, vi p1.weekday), (13, .one (.pv (.rp [[pi p1.month, pi p1.week, pi p1.weekday, pi p1.minute]] 0 2))), (12, vi r1), (1, vi p2), (2, .one (.pv (.rp [[pi p1.month, pi p1.week, pi p1.weekday, pi p1.minute]] 0 0))), (5, vi r1)] [([[pi p1.month, pi p1.week, pi p1.weekday, pi p1.minute]] : List (List PV))[0]? = some [pi p1.month, pi p1.week, pi p1.weekday, pi p1.minute]] (by kernel_rfl) (⟨rfl, trivial⟩) ?_
    refine DX.cal 48 [vi r1] (vi r2) [(16, vi r2), (15, vi r1), (14, vi p1.weekday), (13, .one (.pv (.rp [[pi p1.month, pi p1.week, pi p1.weekday, pi p1.minute]] 0 2))), (12, vi r1), (1, vi p2), (2, .one (.pv (.rp [[pi p1.month, pi p1.week, pi p1.weekday, pi p1.minute]] 0 0))), (5, vi r1)] (by kernel_rfl) (c_value_weekday _ _ c5) rfl rfl (by kernel_rfl) ?_
    refine DX.go 3 [] [(19, vi ((IntKind.i64.wrap ((IntKind.i64.wrap (p1.weekday - r2)) + (7 : Int))).tmod (7 : Int))), (18, vi (IntKind.i64.wrap ((IntKind.i64.wrap (p1.weekday - r2)) + (7 : Int)))), (17, vi (IntKind.i64.wrap (p1.weekday - r2))), (16, vi r2), (15, vi r1), (14, vi p1.weekday), (13, .one (.pv (.rp [[pi p1.month, pi p1.week, pi p1.weekday, pi p1.minute]] 0 2))), (12, vi r1), (1, vi p2), (2, .one (.pv (.rp [[pi p1.month, pi p1.week, pi p1.weekday, pi p1.minute]] 0 0))), (5, vi r1)] [(7 : Int) ≠ 0] (by kernel_rfl) (⟨by decide, trivial⟩) ?_
    rw [show ((IntKind.i64.wrap ((IntKind.i64.wrap (p1.weekday - r2)) + (7 : Int))).tmod (7 : Int)) = y1 from Option.some.inj y6]
    exact DX.done (by kernel_rfl)
  refine XO.go [] 2 [1,2,5,6] [] [(1, vi p2), (2, .one (.pv (.rp [[pi p1.month, pi p1.week, pi p1.weekday, pi p1.minute]] 0 0))), (5, vi r1), (6, vi (IntKind.i64.wrap (r1 + y1)))] [] [] (by kernel_rfl) trivial ?_
  refine XO.done (by kernel_rfl) ?_
  refine hK4 _ _ ?_
  refine XW.seq (x := cd Try.f81 [1,1,1,0]) (y := cd Try.f81 [1,1,1,1]) (by kernel_rfl) fun K7 hK7 => ?_
  have hJ1 : ∀ (x2 : Int), value_at_j1 p1 x2 = some r → ∀ fr1 st1, Sub 48 0 [] fr1 st1 [(2, .one (.pv (.rp [[pi p1.month, pi p1.week, pi p1.weekday, pi p1.minute]] 0 0))), (6, vi x2)] [] → K7 fr1 st1 := by
    intro x2 h fr1 st1 hS
    unfold value_at_j1 at h
    refine hK7 _ _ (XW.sub hS ?_)
    refine XW.seq (x := cd Try.f81 [1,1,1,1,0]) (y := cd Try.f81 [1,1,1,1,1]) (by kernel_rfl) fun K17 hK17 => ?_
    obtain ⟨y4, y18, h⟩ := bnd_some h
    refine XW.reg (by kernel_rfl) ?_
    refine XO.go [] 6 [47] [[pi p1.month, pi p1.week, pi p1.weekday, pi p1.minute]] [(47, vi (IntKind.i64.wrap ((IntKind.i64.wrap (x2 * (86400 : Int))) + (IntKind.i64.wrap (p1.minute * (60 : Int))))))] [] [([[pi p1.month, pi p1.week, pi p1.weekday, pi p1.minute]] : List (List PV))[0]? = some [pi p1.month, pi p1.week, pi p1.weekday, pi p1.minute]] (by kernel_rfl) (⟨rfl, trivial⟩) ?_
    rw [show (IntKind.i64.wrap ((IntKind.i64.wrap (x2 * (86400 : Int))) + (IntKind.i64.wrap (p1.minute * (60 : Int))))) = y4 from Option.some.inj y18]
    refine XO.go [] 1 [4] [] [(4, vi y4)] [] [] (by kernel_rfl) trivial ?_
    refine XO.done (by kernel_rfl) ?_
    refine hK17 _ _ ?_
    refine XW.ret (by kernel_rfl) ?_
    obtain rfl := Option.some.inj h
    exact FinP.fin (.inr rfl) [] [vi y4] [] (by kernel_rfl) trivial (.one (.rfl _ rfl))
  refine XW.seq (x := cd Try.f81 [1,1,1,0,0]) (y := cd Try.f81 [1,1,1,0,1]) (by kernel_rfl) fun K8 hK8 => ?_
  refine XW.reg (by kernel_rfl) ?_
  refine XO.go [] 3 [1,2,5,6,23] [[pi p1.month, pi p1.week, pi p1.weekday, pi p1.minute]] [(1, vi p2), (2, .one (.pv (.rp [[pi p1.month, pi p1.week, pi p1.weekday, pi p1.minute]] 0 0))), (5, vi r1), (6, vi (IntKind.i64.wrap (r1 + y1))), (23, vb (decide (p1.week < (5 : Int))))] [] [([[pi p1.month, pi p1.week, pi p1.weekday, pi p1.minute]] : List (List PV))[0]? = some [pi p1.month, pi p1.week, pi p1.weekday, pi p1.minute]] (by kernel_rfl) (⟨rfl, trivial⟩) ?_
  refine XO.done (by kernel_rfl) ?_
  refine hK8 _ _ ?_
  refine XW.cond (x := .tmp 23) (a := cd Try.f81 [1,1,1,0,1,0]) (b := cd Try.f81 [1,1,1,0,1,1]) (t := (decide (p1.week < (5 : Int)))) (by kernel_rfl) (by kernel_rfl) (fun b9 => ?_) (fun b9 => ?_)
  · have h := ift_t b9 h
    obtain ⟨y2, y10, h⟩ := bnd_some h
    refine XW.reg (by kernel_rfl) ?_
    refine XO.go [] 5 [2,24,28] [[pi p1.month, pi p1.week, pi p1.weekday, pi p1.minute]] [(2, .one (.pv (.rp [[pi p1.month, pi p1.week, pi p1.weekday, pi p1.minute]] 0 0))), (24, vi (IntKind.i64.wrap (r1 + y1))), (28, vi (IntKind.i64.wrap ((IntKind.i64.wrap (p1.week - (1 : Int))) * (7 : Int))))] [] [([[pi p1.month, pi p1.week, pi p1.weekday, pi p1.minute]] : List (List PV))[0]? = some [pi p1.month, pi p1.week, pi p1.weekday, pi p1.minute]] (by kernel_rfl) (⟨rfl, trivial⟩) ?_
    rw [show (IntKind.i64.wrap ((IntKind.i64.wrap (p1.week - (1 : Int))) * (7 : Int))) = y2 from Option.some.inj y10]
    refine XO.go [] 2 [2,6] [] [(2, .one (.pv (.rp [[pi p1.month, pi p1.week, pi p1.weekday, pi p1.minute]] 0 0))), (6, vi (IntKind.i64.wrap ((IntKind.i64.wrap (r1 + y1)) + y2)))] [] [] (by kernel_rfl) trivial ?_
    refine XO.done (by kernel_rfl) ?_
    exact hJ1 (IntKind.i64.wrap ((IntKind.i64.wrap (r1 + y1)) + y2)) h _ _ (Sub.pick [2,6] (by kernel_rfl))
  · have h := ift_f b9 h
    refine XW.seq (x := cd Try.f81 [1,1,1,0,1,1,0]) (y := cd Try.f81 [1,1,1,0,1,1,1]) (by kernel_rfl) fun K11 hK11 => ?_
    obtain ⟨r3, c12, h⟩ := bnd_some h
    refine XW.reg (by kernel_rfl) ?_
    refine XO.go [] 4 [2,6,30,31,33] [[pi p1.month, pi p1.week, pi p1.weekday, pi p1.minute]] [(2, .one (.pv (.rp [[pi p1.month, pi p1.week, pi p1.weekday, pi p1.minute]] 0 0))), (6, vi (IntKind.i64.wrap (r1 + y1))), (30, vi r1), (31, vi p2), (33, vi p1.month)] [] [([[pi p1.month, pi p1.week, pi p1.weekday, pi p1.minute]] : List (List PV))[0]? = some [pi p1.month, pi p1.week, pi p1.weekday, pi p1.minute]] (by kernel_rfl) (⟨rfl, trivial⟩) ?_
    refine XO.cal 67 [vi p2, vi p1.month] (vi r3) [(34, vi r3), (2, .one (.pv (.rp [[pi p1.month, pi p1.week, pi p1.weekday, pi p1.minute]] 0 0))), (6, vi (IntKind.i64.wrap (r1 + y1))), (30, vi r1), (31, vi p2), (33, vi p1.month)] (by kernel_rfl) (c_value_daysIn _ _ _ c12) rfl rfl (by kernel_rfl) ?_
    refine XO.go [] 2 [2,6,7] [] [(2, .one (.pv (.rp [[pi p1.month, pi p1.week, pi p1.weekday, pi p1.minute]] 0 0))), (6, vi (IntKind.i64.wrap (r1 + y1))), (7, vi (IntKind.i64.wrap (r1 + r3)))] [] [] (by kernel_rfl) trivial ?_
    refine XO.done (by kernel_rfl) ?_
    refine hK11 _ _ ?_
    refine XW.block (id := 0) (x := cd Try.f81 [1,1,1,0,1,1,1,0]) (by kernel_rfl) ?_
    refine XW.rounds' BIG (x := cd Try.f81 [1,1,1,0,1,1,1,0,0]) (by kernel_rfl) fun Q1 hQ1 => ?_
    have hL1 : ∀ (k1 : Nat) (x1 : Int), value_at_l1 p1 r1 r3 k1 x1 = some r → XR Try.prog 48 0 [] (cd Try.f81 [1,1,1,0,1,1,1,0,0]) Q1 k1 [(2, .one (.pv (.rp [[pi p1.month, pi p1.week, pi p1.weekday, pi p1.minute]] 0 0))), (6, vi x1), (7, vi (IntKind.i64.wrap (r1 + r3)))] [] := by
      intro k1
      induction k1 with
      | zero => intro x1 h; rw [value_at_l1.eq_1] at h; cases h
      | succ k1 ih1 =>
        intro x1 h
        rw [value_at_l1.eq_2] at h
        refine XW.seq (x := cd Try.f81 [1,1,1,0,1,1,1,0,0,0]) (y := cd Try.f81 [1,1,1,0,1,1,1,0,0,1]) (by kernel_rfl) fun K13 hK13 => ?_
        refine XW.seq (x := cd Try.f81 [1,1,1,0,1,1,1,0,0,0,0]) (y := cd Try.f81 [1,1,1,0,1,1,1,0,0,0,1]) (by kernel_rfl) fun K14 hK14 => ?_
        obtain ⟨y3, y15, h⟩ := bnd_some h
        refine XW.reg (by kernel_rfl) ?_
        refine XO.go [] 4 [2,6,7,39] [] [(2, .one (.pv (.rp [[pi p1.month, pi p1.week, pi p1.weekday, pi p1.minute]] 0 0))), (6, vi x1), (7, vi (IntKind.i64.wrap (r1 + r3))), (39, vb (decide ((IntKind.i64.wrap (x1 + (7 : Int))) < (IntKind.i64.wrap (r1 + r3)))))] [] [] (by kernel_rfl) trivial ?_
        rw [show (decide ((IntKind.i64.wrap (x1 + (7 : Int))) < (IntKind.i64.wrap (r1 + r3)))) = y3 from Option.some.inj y15]
        refine XO.done (by kernel_rfl) ?_
        refine hK14 _ _ ?_
        refine XW.cond (x := .tmp 39) (a := cd Try.f81 [1,1,1,0,1,1,1,0,0,0,1,0]) (b := cd Try.f81 [1,1,1,0,1,1,1,0,0,0,1,1]) (t := y3) (by kernel_rfl) (by kernel_rfl) (fun b16 => ?_) (fun b16 => ?_)
        · have h := ift_t b16 h
          refine XW.skip (by kernel_rfl) ?_
          refine hK13 _ _ ?_
          refine XW.block (id := 1) (x := cd Try.f81 [1,1,1,0,1,1,1,0,0,1,0]) (by kernel_rfl) ?_
          refine XW.reg (by kernel_rfl) ?_
          refine XO.go [] 3 [2,6,7] [] [(2, .one (.pv (.rp [[pi p1.month, pi p1.week, pi p1.weekday, pi p1.minute]] 0 0))), (6, vi (IntKind.i64.wrap (x1 + (7 : Int)))), (7, vi (IntKind.i64.wrap (r1 + r3)))] [] [] (by kernel_rfl) trivial ?_
          refine XO.done (by kernel_rfl) ?_
          exact XR.sub (Sub.pick [2,6,7] (by kernel_rfl)) (ih1 (IntKind.i64.wrap (x1 + (7 : Int))) h)
        · have h := ift_f b16 h
          refine XW.exit (id := 0) (by kernel_rfl) ?_
          refine hQ1 _ _ _ ?_
          exact hJ1 x1 h _ _ (Sub.pick [2,6] (by kernel_rfl))
    exact XR.sub (Sub.pick [2,6,7] (by kernel_rfl)) (hL1 BIG (IntKind.i64.wrap (r1 + y1)) h)

def value_ahead_j2 (p1 : GZone) (x2 : Bool) : Option Int :=
    ift x2
      (bnd (some (IntKind.i64.wrap ((IntKind.i64.wrap (p1.offset * (60 : Int))) + (IntKind.i64.wrap (p1.summer * (60 : Int)))))) fun y5 =>
       some y5)
      (some (IntKind.i64.wrap (p1.offset * (60 : Int))))

def value_ahead_j1 (p1 : GZone) (p2 : Int) (r2 : Int) (y1 : Int) (x1 : Bool) : Option Int :=
    bnd (some (decide (y1 ≤ (IntKind.i64.wrap (r2 - (IntKind.i64.wrap (p1.offset * (60 : Int)))))))) fun y3 =>
    ift y3
      (ift (decide (p2 < y1))
         (value_ahead_j2 p1 true)
         (bnd (some (decide ((IntKind.i64.wrap (r2 - (IntKind.i64.wrap (p1.offset * (60 : Int))))) ≤ p2))) fun y4 =>
          value_ahead_j2 p1 y4))
      (value_ahead_j2 p1 x1)

def value_ahead (p1 : GZone) (p2 : Int) : Option Int :=
    ift ((IntKind.i64.wrap (p1.summer * (60 : Int))) == (0 : Int))
      (some (IntKind.i64.wrap (p1.offset * (60 : Int))))
      (bnd (value_civil (IntKind.i64.wrap (p2 + (IntKind.i64.wrap (p1.offset * (60 : Int)))))) fun r1 =>
       bnd (value_at p1.start r1.year) fun r2 =>
       bnd (value_at p1.stop r1.year) fun r3 =>
       bnd (some (IntKind.i64.wrap ((IntKind.i64.wrap (r3 - (IntKind.i64.wrap (p1.offset * (60 : Int))))) - (IntKind.i64.wrap (p1.summer * (60 : Int)))))) fun y1 =>
       bnd (some (decide ((IntKind.i64.wrap (r2 - (IntKind.i64.wrap (p1.offset * (60 : Int))))) ≤ p2))) fun y2 =>
       ift y2
         (value_ahead_j1 p1 p2 r2 y1 (decide (p2 < y1)))
         (value_ahead_j1 p1 p2 r2 y1 false))


theorem c_value_ahead (p1 : GZone) (p2 : Int) (r : Int) (h : value_ahead p1 p2 = some r) : PC Try.prog 44 [.ag [cst p1.name, ci p1.offset, ci p1.summer, ci p1.start.month, ci p1.start.week, ci p1.start.weekday, ci p1.start.minute, ci p1.stop.month, ci p1.stop.week, ci p1.stop.weekday, ci p1.stop.minute], vi p2] (vi r) := by
  unfold value_ahead at h
  refine PC.of (n := 63) (fn := Try.f44) (c := cd Try.f44 []) (by kernel_rfl) (by kernel_rfl) (by kernel_rfl) (Nat.le_of_ble_eq_true rfl) ?_
  refine XW.seq (x := cd Try.f44 [0]) (y := cd Try.f44 [1]) (by kernel_rfl) fun K1 hK1 => ?_
  refine XW.reg (by kernel_rfl) ?_
  refine XO.go [] 2 [1,2] [] [(1, vi p2), (2, .one (.pv (.rp [[.s (.string p1.name), pi p1.offset, pi p1.summer, pi p1.start.month, pi p1.start.week, pi p1.start.weekday, pi p1.start.minute, pi p1.stop.month, pi p1.stop.week, pi p1.stop.weekday, pi p1.stop.minute]] 0 0)))] [] [] (by kernel_rfl) trivial ?_
  refine XO.done (by kernel_rfl) ?_
  refine hK1 _ _ ?_
  refine XW.seq (x := cd Try.f44 [1,0]) (y := cd Try.f44 [1,1]) (by kernel_rfl) fun K2 hK2 => ?_
  refine XW.drwS 7 [(5, vi (IntKind.i64.wrap (p1.offset * (60 : Int)))), (16, vi (IntKind.i64.wrap (p1.summer * (60 : Int)))), (15, vi p1.summer), (14, .one (.pv (.rp [[.s (.string p1.name), pi p1.offset, pi p1.summer, pi p1.start.month, pi p1.start.week, pi p1.start.weekday, pi p1.start.minute, pi p1.stop.month, pi p1.stop.week, pi p1.stop.weekday, pi p1.stop.minute]] 0 2))), (13, vi (IntKind.i64.wrap (p1.offset * (60 : Int)))), (12, vi p1.offset), (11, .one (.pv (.rp [[.s (.string p1.name), pi p1.offset, pi p1.summer, pi p1.start.month, pi p1.start.week, pi p1.start.weekday, pi p1.start.minute, pi p1.stop.month, pi p1.stop.week, pi p1.stop.weekday, pi p1.stop.minute]] 0 1))), (1, vi p2), (2, .one (.pv (.rp [[.s (.string p1.name), pi p1.offset, pi p1.summer, pi p1.start.month, pi p1.start.week, pi p1.start.weekday, pi p1.start.minute, pi p1.stop.month, pi p1.stop.week, pi p1.stop.weekday, pi p1.stop.minute]] 0 0)))] (by kernel_rfl) (by kernel_rfl) ?_ ?_
  · refine DX.go 7 [[.s (.string p1.name), pi p1.offset, pi p1.summer, pi p1.start.month, pi p1.start.week, pi p1.start.weekday, pi p1.start.minute, pi p1.stop.month, pi p1.stop.week, pi p1.stop.weekday, pi p1.stop.minute], [.s (.string p1.name), pi p1.offset, pi p1.summer, pi p1.start.month, pi p1.start.week, pi p1.start.weekday, pi p1.start.minute, pi p1.stop.month, pi p1.stop.week, pi p1.stop.weekday, pi p1.stop.minute]] [(5, vi (IntKind.i64.wrap (p1.offset * (60 : Int)))), (16, vi (IntKind.i64.wrap (p1.summer * (60 : Int)))), (15, vi p1.summer), (14, .one (.pv (.rp [[.s (.string p1.name), pi p1.offset, pi p1.summer, pi p1.start.month, pi p1.start.week, pi p1.start.weekday, pi p1.start.minute, pi p1.stop.month, pi p1.stop.week, pi p1.stop.weekday, pi p1.stop.minute]] 0 2))), (13, vi (IntKind.i64.wrap (p1.offset * (60 : Int)))), (12, vi p1.offset), (11, .one (.pv (.rp [[.s (.string p1.name), pi p1.offset, pi p1.summer, pi p1.start.month, pi p1.start.week, pi p1.start.weekday, pi p1.start.minute, pi p1.stop.month, pi p1.stop.week, pi p1.stop.weekday, pi p1.stop.minute]] 0 1))), (1, vi p2), (2, .one (.pv (.rp [[.s (.string p1.name), pi p1.offset, pi p1.summer, pi p1.start.month, pi p1.start.week, pi p1.start.weekday, pi p1.start.minute, pi p1.stop.month, pi p1.stop.week, pi p1.stop.weekday, pi p1.stop.minute]] 0 0)))] [([[.s (.string p1.name), pi p1.offset, pi p1.summer, pi p1.start.month, pi p1.start.week, pi p1.start.weekday, pi p1.start.minute, pi p1.stop.month, pi p1.stop.week, pi p1.stop.weekday, pi p1.stop.minute]] : List (List PV))[0]? = some [.s (.string p1.name), pi p1.offset, pi p1.summer, pi p1.start.month, pi p1.start.week, pi p1.start.weekday, pi p1.start.minute, pi p1.stop.month, pi p1.stop.week, pi p1.stop.weekday, pi p1.stop.minute], ([[.s (.string p1.name), pi p1.offset, pi p1.summer, pi p1.start.month, pi p1.start.week, pi p1.start.weekday, pi p1.start.minute, pi p1.stop.month, pi p1.stop.week, pi p1.stop.weekday, pi p1.stop.minute]] : List (List PV))[0]? = some [.s (.string p1.name), pi p1.offset, pi p1.summer, pi p1.start.month, pi p1.start.week, pi p1.start.weekday, pi p1.start.minute, pi p1.stop.month, pi p1.stop.week, pi p1.stop.weekday, pi p1.stop.minute]] (by kernel_rfl) (⟨rfl, rfl, trivial⟩) ?_
    exact DX.done (by kernel_rfl)
  refine XO.go [] 1 [1,2,5,6] [] [(1, vi p2), (2, .one (.pv (.rp [[.s (.string p1.name), pi p1.offset, pi p1.summer, pi p1.start.month, pi p1.start.week, pi p1.start.weekday, pi p1.start.minute, pi p1.stop.month, pi p1.stop.week, pi p1.stop.weekday, pi p1.stop.minute]] 0 0))), (5, vi (IntKind.i64.wrap (p1.offset * (60 : Int)))), (6, vi (IntKind.i64.wrap (p1.summer * (60 : Int))))] [] [] (by kernel_rfl) trivial ?_
  refine XO.done (by kernel_rfl) ?_
  refine hK2 _ _ ?_
  refine XW.seq (x := cd Try.f44 [1,1,0]) (y := cd Try.f44 [1,1,1]) (by kernel_rfl) fun K3 hK3 => ?_
  refine XW.seq (x := cd Try.f44 [1,1,0,0]) (y := cd Try.f44 [1,1,0,1]) (by kernel_rfl) fun K4 hK4 => ?_
  refine XW.reg (by kernel_rfl) ?_
  refine XO.go [] 2 [1,2,5,6,18] [] [(1, vi p2), (2, .one (.pv (.rp [[.s (.string p1.name), pi p1.offset, pi p1.summer, pi p1.start.month, pi p1.start.week, pi p1.start.weekday, pi p1.start.minute, pi p1.stop.month, pi p1.stop.week, pi p1.stop.weekday, pi p1.stop.minute]] 0 0))), (5, vi (IntKind.i64.wrap (p1.offset * (60 : Int)))), (6, vi (IntKind.i64.wrap (p1.summer * (60 : Int)))), (18, vb ((IntKind.i64.wrap (p1.summer * (60 : Int))) == (0 : Int)))] [] [] (by kernel_rfl) trivial ?_
  refine XO.done (by kernel_rfl) ?_
  refine hK4 _ _ ?_
  refine XW.cond (x := .tmp 18) (a := cd Try.f44 [1,1,0,1,0]) (b := cd Try.f44 [1,1,0,1,1]) (t := ((IntKind.i64.wrap (p1.summer * (60 : Int))) == (0 : Int))) (by kernel_rfl) (by kernel_rfl) (fun b5 => ?_) (fun b5 => ?_)
  · have h := ift_t b5 h
    refine XW.seq (x := cd Try.f44 [1,1,0,1,0,0]) (y := cd Try.f44 [1,1,0,1,0,1]) (by kernel_rfl) fun K6 hK6 => ?_
    refine XW.reg (by kernel_rfl) ?_
    refine XO.go [] 2 [4] [] [(4, vi (IntKind.i64.wrap (p1.offset * (60 : Int))))] [] [] (by kernel_rfl) trivial ?_
    refine XO.done (by kernel_rfl) ?_
    refine hK6 _ _ ?_
    refine XW.ret (by kernel_rfl) ?_
    obtain rfl := Option.some.inj h
    exact FinP.fin (.inr rfl) [] [vi (IntKind.i64.wrap (p1.offset * (60 : Int)))] [] (by kernel_rfl) trivial (.one (.rfl _ rfl))
  · have h := ift_f b5 h
    refine XW.skip (by kernel_rfl) ?_
    refine hK3 _ _ ?_
    refine XW.seq (x := cd Try.f44 [1,1,1,0]) (y := cd Try.f44 [1,1,1,1]) (by kernel_rfl) fun K7 hK7 => ?_
    obtain ⟨r1, c8, h⟩ := bnd_some h
    refine XW.reg (by kernel_rfl) ?_
    refine XO.go [] 3 [1,2,5,6,22] [] [(1, vi p2), (2, .one (.pv (.rp [[.s (.string p1.name), pi p1.offset, pi p1.summer, pi p1.start.month, pi p1.start.week, pi p1.start.weekday, pi p1.start.minute, pi p1.stop.month, pi p1.stop.week, pi p1.stop.weekday, pi p1.stop.minute]] 0 0))), (5, vi (IntKind.i64.wrap (p1.offset * (60 : Int)))), (6, vi (IntKind.i64.wrap (p1.summer * (60 : Int)))), (22, vi (IntKind.i64.wrap (p2 + (IntKind.i64.wrap (p1.offset * (60 : Int))))))] [] [] (by kernel_rfl) trivial ?_
    refine XO.cal 43 [vi (IntKind.i64.wrap (p2 + (IntKind.i64.wrap (p1.offset * (60 : Int)))))] (.ag [ci r1.year, ci r1.month, ci r1.day, ci r1.hour, ci r1.minute, ci r1.second]) [(23, .ag [ci r1.year, ci r1.month, ci r1.day, ci r1.hour, ci r1.minute, ci r1.second]), (1, vi p2), (2, .one (.pv (.rp [[.s (.string p1.name), pi p1.offset, pi p1.summer, pi p1.start.month, pi p1.start.week, pi p1.start.weekday, pi p1.start.minute, pi p1.stop.month, pi p1.stop.week, pi p1.stop.weekday, pi p1.stop.minute]] 0 0))), (5, vi (IntKind.i64.wrap (p1.offset * (60 : Int)))), (6, vi (IntKind.i64.wrap (p1.summer * (60 : Int)))), (22, vi (IntKind.i64.wrap (p2 + (IntKind.i64.wrap (p1.offset * (60 : Int))))))] (by kernel_rfl) (c_value_civil _ _ c8) rfl rfl (by kernel_rfl) ?_
    refine XO.go [] 2 [1,2,5,6,7] [] [(1, vi p2), (2, .one (.pv (.rp [[.s (.string p1.name), pi p1.offset, pi p1.summer, pi p1.start.month, pi p1.start.week, pi p1.start.weekday, pi p1.start.minute, pi p1.stop.month, pi p1.stop.week, pi p1.stop.weekday, pi p1.stop.minute]] 0 0))), (5, vi (IntKind.i64.wrap (p1.offset * (60 : Int)))), (6, vi (IntKind.i64.wrap (p1.summer * (60 : Int)))), (7, vi r1.year)] [] [] (by kernel_rfl) trivial ?_
    refine XO.done (by kernel_rfl) ?_
    refine hK7 _ _ ?_
    refine XW.seq (x := cd Try.f44 [1,1,1,1,0]) (y := cd Try.f44 [1,1,1,1,1]) (by kernel_rfl) fun K9 hK9 => ?_
    obtain ⟨r2, c10, h⟩ := bnd_some h
    obtain ⟨r3, c11, h⟩ := bnd_some h
    obtain ⟨y1, y12, h⟩ := bnd_some h
    refine XW.drwS 15 [(8, vi (IntKind.i64.wrap (r2 - (IntKind.i64.wrap (p1.offset * (60 : Int)))))), (38, vi y1), (37, vi (IntKind.i64.wrap (p1.summer * (60 : Int)))), (36, vi (IntKind.i64.wrap (r3 - (IntKind.i64.wrap (p1.offset * (60 : Int)))))), (35, vi (IntKind.i64.wrap (p1.offset * (60 : Int)))), (34, vi r3), (33, vi r1.year), (32, .ag [ci p1.stop.month, ci p1.stop.week, ci p1.stop.weekday, ci p1.stop.minute]), (31, .one (.pv (.rp [[.s (.string p1.name), pi p1.offset, pi p1.summer, pi p1.start.month, pi p1.start.week, pi p1.start.weekday, pi p1.start.minute, pi p1.stop.month, pi p1.stop.week, pi p1.stop.weekday, pi p1.stop.minute]] 0 7))), (30, vi (IntKind.i64.wrap (r2 - (IntKind.i64.wrap (p1.offset * (60 : Int)))))), (29, vi (IntKind.i64.wrap (p1.offset * (60 : Int)))), (28, vi r2), (27, vi r1.year), (26, .ag [ci p1.start.month, ci p1.start.week, ci p1.start.weekday, ci p1.start.minute]), (25, .one (.pv (.rp [[.s (.string p1.name), pi p1.offset, pi p1.summer, pi p1.start.month, pi p1.start.week, pi p1.start.weekday, pi p1.start.minute, pi p1.stop.month, pi p1.stop.week, pi p1.stop.weekday, pi p1.stop.minute]] 0 3))), (1, vi p2), (2, .one (.pv (.rp [[.s (.string p1.name), pi p1.offset, pi p1.summer, pi p1.start.month, pi p1.start.week, pi p1.start.weekday, pi p1.start.minute, pi p1.stop.month, pi p1.stop.week, pi p1.stop.weekday, pi p1.stop.minute]] 0 0))), (5, vi (IntKind.i64.wrap (p1.offset * (60 : Int)))), (6, vi (IntKind.i64.wrap (p1.summer * (60 : Int)))), (7, vi r1.year)] (by kernel_rfl) (by kernel_rfl) ?_ ?_
    · refine DX.go 3 [[.s (.string p1.name), pi p1.offset, pi p1.summer, pi p1.start.month, pi p1.start.week, pi p1.start.weekday, pi p1.start.minute, pi p1.stop.month, pi p1.stop.week, pi p1.stop.weekday, pi p1.stop.minute]] [(27, vi r1.year), (26, .ag [ci p1.start.month, ci p1.start.week, ci p1.start.weekday, ci p1.start.minute]), (25, .one (.pv (.rp [[.s (.string p1.name), pi p1.offset, pi p1.summer, pi p1.start.month, pi p1.start.week, pi p1.start.weekday, pi p1.start.minute, pi p1.stop.month, pi p1.stop.week, pi p1.stop.weekday, pi p1.stop.minute]] 0 3))), (1, vi p2), (2, .one (.pv (.rp [[.s (.string p1.name), pi p1.offset, pi p1.summer, pi p1.start.month, pi p1.start.week, pi p1.start.weekday, pi p1.start.minute, pi p1.stop.month, pi p1.stop.week, pi p1.stop.weekday, pi p1.stop.minute]] 0 0))), (5, vi (IntKind.i64.wrap (p1.offset * (60 : Int)))), (6, vi (IntKind.i64.wrap (p1.summer * (60 : Int)))), (7, vi r1.year)] [([[.s (.string p1.name), pi p1.offset, pi p1.summer, pi p1.start.month, pi p1.start.week, pi p1.start.weekday, pi p1.start.minute, pi p1.stop.month, pi p1.stop.week, pi p1.stop.weekday, pi p1.stop.minute]] : List (List PV))[0]? = some [.s (.string p1.name), pi p1.offset, pi p1.summer, pi p1.start.month, pi p1.start.week, pi p1.start.weekday, pi p1.start.minute, pi p1.stop.month, pi p1.stop.week, pi p1.stop.weekday, pi p1.stop.minute]] (by kernel_rfl) (⟨rfl, trivial⟩) ?_
      refine DX.cal 81 [.ag [ci p1.start.month, ci p1.start.week, ci p1.start.weekday, ci p1.start.minute], vi r1.year] (vi r2) [(28, vi r2), (27, vi r1.year), (26, .ag [ci p1.start.month, ci p1.start.week, ci p1.start.weekday, ci p1.start.minute]), (25, .one (.pv (.rp [[.s (.string p1.name), pi p1.offset, pi p1.summer, pi p1.start.month, pi p1.start.week, pi p1.start.weekday, pi p1.start.minute, pi p1.stop.month, pi p1.stop.week, pi p1.stop.weekday, pi p1.stop.minute]] 0 3))), (1, vi p2), (2, .one (.pv (.rp [[.s (.string p1.name), pi p1.offset, pi p1.summer, pi p1.start.month, pi p1.start.week, pi p1.start.weekday, pi p1.start.minute, pi p1.stop.month, pi p1.stop.week, pi p1.stop.weekday, pi p1.stop.minute]] 0 0))), (5, vi (IntKind.i64.wrap (p1.offset * (60 : Int)))), (6, vi (IntKind.i64.wrap (p1.summer * (60 : Int)))), (7, vi r1.year)] (by kernel_rfl) (c_value_at _ _ _ c10) rfl rfl (by kernel_rfl) ?_
      refine DX.go 5 [[.s (.string p1.name), pi p1.offset, pi p1.summer, pi p1.start.month, pi p1.start.week, pi p1.start.weekday, pi p1.start.minute, pi p1.stop.month, pi p1.stop.week, pi p1.stop.weekday, pi p1.stop.minute]] [(33, vi r1.year), (32, .ag [ci p1.stop.month, ci p1.stop.week, ci p1.stop.weekday, ci p1.stop.minute]), (31, .one (.pv (.rp [[.s (.string p1.name), pi p1.offset, pi p1.summer, pi p1.start.month, pi p1.start.week, pi p1.start.weekday, pi p1.start.minute, pi p1.stop.month, pi p1.stop.week, pi p1.stop.weekday, pi p1.stop.minute]] 0 7))), (30, vi (IntKind.i64.wrap (r2 - (IntKind.i64.wrap (p1.offset * (60 : Int)))))), (29, vi (IntKind.i64.wrap (p1.offset * (60 : Int)))), (28, vi r2), (27, vi r1.year), (26, .ag [ci p1.start.month, ci p1.start.week, ci p1.start.weekday, ci p1.start.minute]), (25, .one (.pv (.rp [[.s (.string p1.name), pi p1.offset, pi p1.summer, pi p1.start.month, pi p1.start.week, pi p1.start.weekday, pi p1.start.minute, pi p1.stop.month, pi p1.stop.week, pi p1.stop.weekday, pi p1.stop.minute]] 0 3))), (1, vi p2), (2, .one (.pv (.rp [[.s (.string p1.name), pi p1.offset, pi p1.summer, pi p1.start.month, pi p1.start.week, pi p1.start.weekday, pi p1.start.minute, pi p1.stop.month, pi p1.stop.week, pi p1.stop.weekday, pi p1.stop.minute]] 0 0))), (5, vi (IntKind.i64.wrap (p1.offset * (60 : Int)))), (6, vi (IntKind.i64.wrap (p1.summer * (60 : Int)))), (7, vi r1.year)] [([[.s (.string p1.name), pi p1.offset, pi p1.summer, pi p1.start.month, pi p1.start.week, pi p1.start.weekday, pi p1.start.minute, pi p1.stop.month, pi p1.stop.week, pi p1.stop.weekday, pi p1.stop.minute]] : List (List PV))[0]? = some [.s (.string p1.name), pi p1.offset, pi p1.summer, pi p1.start.month, pi p1.start.week, pi p1.start.weekday, pi p1.start.minute, pi p1.stop.month, pi p1.stop.week, pi p1.stop.weekday, pi p1.stop.minute]] (by kernel_rfl) (⟨rfl, trivial⟩) ?_
      refine DX.cal 81 [.ag [ci p1.stop.month, ci p1.stop.week, ci p1.stop.weekday, ci p1.stop.minute], vi r1.year] (vi r3) [(34, vi r3), (33, vi r1.year), (32, .ag [ci p1.stop.month, ci p1.stop.week, ci p1.stop.weekday, ci p1.stop.minute]), (31, .one (.pv (.rp [[.s (.string p1.name), pi p1.offset, pi p1.summer, pi p1.start.month, pi p1.start.week, pi p1.start.weekday, pi p1.start.minute, pi p1.stop.month, pi p1.stop.week, pi p1.stop.weekday, pi p1.stop.minute]] 0 7))), (30, vi (IntKind.i64.wrap (r2 - (IntKind.i64.wrap (p1.offset * (60 : Int)))))), (29, vi (IntKind.i64.wrap (p1.offset * (60 : Int)))), (28, vi r2), (27, vi r1.year), (26, .ag [ci p1.start.month, ci p1.start.week, ci p1.start.weekday, ci p1.start.minute]), (25, .one (.pv (.rp [[.s (.string p1.name), pi p1.offset, pi p1.summer, pi p1.start.month, pi p1.start.week, pi p1.start.weekday, pi p1.start.minute, pi p1.stop.month, pi p1.stop.week, pi p1.stop.weekday, pi p1.stop.minute]] 0 3))), (1, vi p2), (2, .one (.pv (.rp [[.s (.string p1.name), pi p1.offset, pi p1.summer, pi p1.start.month, pi p1.start.week, pi p1.start.weekday, pi p1.start.minute, pi p1.stop.month, pi p1.stop.week, pi p1.stop.weekday, pi p1.stop.minute]] 0 0))), (5, vi (IntKind.i64.wrap (p1.offset * (60 : Int)))), (6, vi (IntKind.i64.wrap (p1.summer * (60 : Int)))), (7, vi r1.year)] (by kernel_rfl) (c_value_at _ _ _ c11) rfl rfl (by kernel_rfl) ?_
      refine DX.go 4 [] [(38, vi (IntKind.i64.wrap ((IntKind.i64.wrap (r3 - (IntKind.i64.wrap (p1.offset * (60 : Int))))) - (IntKind.i64.wrap (p1.summer * (60 : Int)))))), (37, vi (IntKind.i64.wrap (p1.summer * (60 : Int)))), (36, vi (IntKind.i64.wrap (r3 - (IntKind.i64.wrap (p1.offset * (60 : Int)))))), (35, vi (IntKind.i64.wrap (p1.offset * (60 : Int)))), (34, vi r3), (33, vi r1.year), (32, .ag [ci p1.stop.month, ci p1.stop.week, ci p1.stop.weekday, ci p1.stop.minute]), (31, .one (.pv (.rp [[.s (.string p1.name), pi p1.offset, pi p1.summer, pi p1.start.month, pi p1.start.week, pi p1.start.weekday, pi p1.start.minute, pi p1.stop.month, pi p1.stop.week, pi p1.stop.weekday, pi p1.stop.minute]] 0 7))), (30, vi (IntKind.i64.wrap (r2 - (IntKind.i64.wrap (p1.offset * (60 : Int)))))), (29, vi (IntKind.i64.wrap (p1.offset * (60 : Int)))), (28, vi r2), (27, vi r1.year), (26, .ag [ci p1.start.month, ci p1.start.week, ci p1.start.weekday, ci p1.start.minute]), (25, .one (.pv (.rp [[.s (.string p1.name), pi p1.offset, pi p1.summer, pi p1.start.month, pi p1.start.week, pi p1.start.weekday, pi p1.start.minute, pi p1.stop.month, pi p1.stop.week, pi p1.stop.weekday, pi p1.stop.minute]] 0 3))), (1, vi p2), (2, .one (.pv (.rp [[.s (.string p1.name), pi p1.offset, pi p1.summer, pi p1.start.month, pi p1.start.week, pi p1.start.weekday, pi p1.start.minute, pi p1.stop.month, pi p1.stop.week, pi p1.stop.weekday, pi p1.stop.minute]] 0 0))), (5, vi (IntKind.i64.wrap (p1.offset * (60 : Int)))), (6, vi (IntKind.i64.wrap (p1.summer * (60 : Int)))), (7, vi r1.year)] [] (by kernel_rfl) trivial ?_
      rw [show (IntKind.i64.wrap ((IntKind.i64.wrap (r3 - (IntKind.i64.wrap (p1.offset * (60 : Int))))) - (IntKind.i64.wrap (p1.summer * (60 : Int))))) = y1 from Option.some.inj y12]
      refine DX.go 1 [] [(8, vi (IntKind.i64.wrap (r2 - (IntKind.i64.wrap (p1.offset * (60 : Int)))))), (38, vi y1), (37, vi (IntKind.i64.wrap (p1.summer * (60 : Int)))), (36, vi (IntKind.i64.wrap (r3 - (IntKind.i64.wrap (p1.offset * (60 : Int)))))), (35, vi (IntKind.i64.wrap (p1.offset * (60 : Int)))), (34, vi r3), (33, vi r1.year), (32, .ag [ci p1.stop.month, ci p1.stop.week, ci p1.stop.weekday, ci p1.stop.minute]), (31, .one (.pv (.rp [[.s (.string p1.name), pi p1.offset, pi p1.summer, pi p1.start.month, pi p1.start.week, pi p1.start.weekday, pi p1.start.minute, pi p1.stop.month, pi p1.stop.week, pi p1.stop.weekday, pi p1.stop.minute]] 0 7))), (30, vi (IntKind.i64.wrap (r2 - (IntKind.i64.wrap (p1.offset * (60 : Int)))))), (29, vi (IntKind.i64.wrap (p1.offset * (60 : Int)))), (28, vi r2), (27, vi r1.year), (26, .ag [ci p1.start.month, ci p1.start.week, ci p1.start.weekday, ci p1.start.minute]), (25, .one (.pv (.rp [[.s (.string p1.name), pi p1.offset, pi p1.summer, pi p1.start.month, pi p1.start.week, pi p1.start.weekday, pi p1.start.minute, pi p1.stop.month, pi p1.stop.week, pi p1.stop.weekday, pi p1.stop.minute]] 0 3))), (1, vi p2), (2, .one (.pv (.rp [[.s (.string p1.name), pi p1.offset, pi p1.summer, pi p1.start.month, pi p1.start.week, pi p1.start.weekday, pi p1.start.minute, pi p1.stop.month, pi p1.stop.week, pi p1.stop.weekday, pi p1.stop.minute]] 0 0))), (5, vi (IntKind.i64.wrap (p1.offset * (60 : Int)))), (6, vi (IntKind.i64.wrap (p1.summer * (60 : Int)))), (7, vi r1.year)] [] (by kernel_rfl) trivial ?_
      exact DX.done (by kernel_rfl)
    refine XO.go [] 1 [1,5,6,8,9] [] [(1, vi p2), (5, vi (IntKind.i64.wrap (p1.offset * (60 : Int)))), (6, vi (IntKind.i64.wrap (p1.summer * (60 : Int)))), (8, vi (IntKind.i64.wrap (r2 - (IntKind.i64.wrap (p1.offset * (60 : Int)))))), (9, vi y1)] [] [] (by kernel_rfl) trivial ?_
    refine XO.done (by kernel_rfl) ?_
    refine hK9 _ _ ?_
    refine XW.seq (x := cd Try.f44 [1,1,1,1,1,0]) (y := cd Try.f44 [1,1,1,1,1,1]) (by kernel_rfl) fun K13 hK13 => ?_
    have hJ1 : ∀ (x1 : Bool), value_ahead_j1 p1 p2 r2 y1 x1 = some r → ∀ fr1 st1, Sub 63 0 [] fr1 st1 [(1, vi p2), (5, vi (IntKind.i64.wrap (p1.offset * (60 : Int)))), (6, vi (IntKind.i64.wrap (p1.summer * (60 : Int)))), (8, vi (IntKind.i64.wrap (r2 - (IntKind.i64.wrap (p1.offset * (60 : Int)))))), (9, vi y1), (10, vb x1)] [] → K13 fr1 st1 := by
      intro x1 h fr1 st1 hS
      unfold value_ahead_j1 at h
      refine hK13 _ _ (XW.sub hS ?_)
      refine XW.seq (x := cd Try.f44 [1,1,1,1,1,1,0]) (y := cd Try.f44 [1,1,1,1,1,1,1]) (by kernel_rfl) fun K16 hK16 => ?_
      have hJ2 : ∀ (x2 : Bool), value_ahead_j2 p1 x2 = some r → ∀ fr1 st1, Sub 63 0 [] fr1 st1 [(5, vi (IntKind.i64.wrap (p1.offset * (60 : Int)))), (6, vi (IntKind.i64.wrap (p1.summer * (60 : Int)))), (10, vb x2)] [] → K16 fr1 st1 := by
        intro x2 h fr1 st1 hS
        unfold value_ahead_j2 at h
        refine hK16 _ _ (XW.sub hS ?_)
        refine XW.seq (x := cd Try.f44 [1,1,1,1,1,1,1,0]) (y := cd Try.f44 [1,1,1,1,1,1,1,1]) (by kernel_rfl) fun K22 hK22 => ?_
        refine XW.seq (x := cd Try.f44 [1,1,1,1,1,1,1,0,0]) (y := cd Try.f44 [1,1,1,1,1,1,1,0,1]) (by kernel_rfl) fun K23 hK23 => ?_
        refine XW.reg (by kernel_rfl) ?_
        refine XO.go [] 1 [5,6,58] [] [(5, vi (IntKind.i64.wrap (p1.offset * (60 : Int)))), (6, vi (IntKind.i64.wrap (p1.summer * (60 : Int)))), (58, vb x2)] [] [] (by kernel_rfl) trivial ?_
        refine XO.done (by kernel_rfl) ?_
        refine hK23 _ _ ?_
        refine XW.cond (x := .tmp 58) (a := cd Try.f44 [1,1,1,1,1,1,1,0,1,0]) (b := cd Try.f44 [1,1,1,1,1,1,1,0,1,1]) (t := x2) (by kernel_rfl) (by kernel_rfl) (fun b24 => ?_) (fun b24 => ?_)
        · have h := ift_t b24 h
          refine XW.seq (x := cd Try.f44 [1,1,1,1,1,1,1,0,1,0,0]) (y := cd Try.f44 [1,1,1,1,1,1,1,0,1,0,1]) (by kernel_rfl) fun K25 hK25 => ?_
          obtain ⟨y5, y26, h⟩ := bnd_some h
          refine XW.reg (by kernel_rfl) ?_
          refine XO.go [] 3 [61] [] [(61, vi (IntKind.i64.wrap ((IntKind.i64.wrap (p1.offset * (60 : Int))) + (IntKind.i64.wrap (p1.summer * (60 : Int))))))] [] [] (by kernel_rfl) trivial ?_
          rw [show (IntKind.i64.wrap ((IntKind.i64.wrap (p1.offset * (60 : Int))) + (IntKind.i64.wrap (p1.summer * (60 : Int))))) = y5 from Option.some.inj y26]
          refine XO.go [] 1 [4] [] [(4, vi y5)] [] [] (by kernel_rfl) trivial ?_
          refine XO.done (by kernel_rfl) ?_
          refine hK25 _ _ ?_
          refine XW.ret (by kernel_rfl) ?_
          obtain rfl := Option.some.inj h
          exact FinP.fin (.inr rfl) [] [vi y5] [] (by kernel_rfl) trivial (.one (.rfl _ rfl))
        · have h := ift_f b24 h
          refine XW.skip (by kernel_rfl) ?_
          refine hK22 _ _ ?_
          refine XW.seq (x := cd Try.f44 [1,1,1,1,1,1,1,1,0]) (y := cd Try.f44 [1,1,1,1,1,1,1,1,1]) (by kernel_rfl) fun K27 hK27 => ?_
          refine XW.reg (by kernel_rfl) ?_
          refine XO.go [] 2 [4] [] [(4, vi (IntKind.i64.wrap (p1.offset * (60 : Int))))] [] [] (by kernel_rfl) trivial ?_
          refine XO.done (by kernel_rfl) ?_
          refine hK27 _ _ ?_
          refine XW.ret (by kernel_rfl) ?_
          obtain rfl := Option.some.inj h
          exact FinP.fin (.inr rfl) [] [vi (IntKind.i64.wrap (p1.offset * (60 : Int)))] [] (by kernel_rfl) trivial (.one (.rfl _ rfl))
      refine XW.seq (x := cd Try.f44 [1,1,1,1,1,1,0,0]) (y := cd Try.f44 [1,1,1,1,1,1,0,1]) (by kernel_rfl) fun K17 hK17 => ?_
      obtain ⟨y3, y18, h⟩ := bnd_some h
      refine XW.reg (by kernel_rfl) ?_
      refine XO.go [] 3 [1,5,6,8,9,10,49] [] [(1, vi p2), (5, vi (IntKind.i64.wrap (p1.offset * (60 : Int)))), (6, vi (IntKind.i64.wrap (p1.summer * (60 : Int)))), (8, vi (IntKind.i64.wrap (r2 - (IntKind.i64.wrap (p1.offset * (60 : Int)))))), (9, vi y1), (10, vb x1), (49, vb (decide (y1 ≤ (IntKind.i64.wrap (r2 - (IntKind.i64.wrap (p1.offset * (60 : Int))))))))] [] [] (by kernel_rfl) trivial ?_
      rw [show (decide (y1 ≤ (IntKind.i64.wrap (r2 - (IntKind.i64.wrap (p1.offset * (60 : Int))))))) = y3 from Option.some.inj y18]
      refine XO.done (by kernel_rfl) ?_
      refine hK17 _ _ ?_
      refine XW.cond (x := .tmp 49) (a := cd Try.f44 [1,1,1,1,1,1,0,1,0]) (b := cd Try.f44 [1,1,1,1,1,1,0,1,1]) (t := y3) (by kernel_rfl) (by kernel_rfl) (fun b19 => ?_) (fun b19 => ?_)
      · have h := ift_t b19 h
        rcases Bool.eq_false_or_eq_true (decide (p2 < y1)) with b20 | b20
        · have h := ift_t b20 h
          refine XW.reg (by kernel_rfl) ?_
          refine XO.go [] 4 [1,5,6,8,53] [] [(1, vi p2), (5, vi (IntKind.i64.wrap (p1.offset * (60 : Int)))), (6, vi (IntKind.i64.wrap (p1.summer * (60 : Int)))), (8, vi (IntKind.i64.wrap (r2 - (IntKind.i64.wrap (p1.offset * (60 : Int)))))), (53, vb (decide (p2 < y1)))] [] [] (by kernel_rfl) trivial ?_
          refine XO.setb 53 true (B := (decide (p2 < y1))) rfl b20 ?_
          refine XO.go [] 5 [5,6,10] [] [(5, vi (IntKind.i64.wrap (p1.offset * (60 : Int)))), (6, vi (IntKind.i64.wrap (p1.summer * (60 : Int)))), (10, vb true)] [] [] (by kernel_rfl) trivial ?_
          refine XO.done (by kernel_rfl) ?_
          exact hJ2 true h _ _ (Sub.pick [5,6,10] (by kernel_rfl))
        · have h := ift_f b20 h
          obtain ⟨y4, y21, h⟩ := bnd_some h
          refine XW.reg (by kernel_rfl) ?_
          refine XO.go [] 4 [1,5,6,8,53] [] [(1, vi p2), (5, vi (IntKind.i64.wrap (p1.offset * (60 : Int)))), (6, vi (IntKind.i64.wrap (p1.summer * (60 : Int)))), (8, vi (IntKind.i64.wrap (r2 - (IntKind.i64.wrap (p1.offset * (60 : Int)))))), (53, vb (decide (p2 < y1)))] [] [] (by kernel_rfl) trivial ?_
          refine XO.setb 53 false (B := (decide (p2 < y1))) rfl b20 ?_
          refine XO.go [] 3 [5,6,53,56] [] [(5, vi (IntKind.i64.wrap (p1.offset * (60 : Int)))), (6, vi (IntKind.i64.wrap (p1.summer * (60 : Int)))), (53, vb false), (56, vb (decide ((IntKind.i64.wrap (r2 - (IntKind.i64.wrap (p1.offset * (60 : Int))))) ≤ p2)))] [] [] (by kernel_rfl) trivial ?_
          rw [show (decide ((IntKind.i64.wrap (r2 - (IntKind.i64.wrap (p1.offset * (60 : Int))))) ≤ p2)) = y4 from Option.some.inj y21]
          refine XO.go [] 2 [5,6,10] [] [(5, vi (IntKind.i64.wrap (p1.offset * (60 : Int)))), (6, vi (IntKind.i64.wrap (p1.summer * (60 : Int)))), (10, vb y4)] [] [] (by kernel_rfl) trivial ?_
          refine XO.done (by kernel_rfl) ?_
          exact hJ2 y4 h _ _ (Sub.pick [5,6,10] (by kernel_rfl))
      · have h := ift_f b19 h
        refine XW.skip (by kernel_rfl) ?_
        exact hJ2 x1 h _ _ (Sub.pick [5,6,10] (by kernel_rfl))
    obtain ⟨y2, y14, h⟩ := bnd_some h
    rcases Bool.eq_false_or_eq_true y2 with b15 | b15
    · have h := ift_t b15 h
      refine XW.reg (by kernel_rfl) ?_
      refine XO.go [] 3 [1,5,6,8,9,41] [] [(1, vi p2), (5, vi (IntKind.i64.wrap (p1.offset * (60 : Int)))), (6, vi (IntKind.i64.wrap (p1.summer * (60 : Int)))), (8, vi (IntKind.i64.wrap (r2 - (IntKind.i64.wrap (p1.offset * (60 : Int)))))), (9, vi y1), (41, vb (decide ((IntKind.i64.wrap (r2 - (IntKind.i64.wrap (p1.offset * (60 : Int))))) ≤ p2)))] [] [] (by kernel_rfl) trivial ?_
      rw [show (decide ((IntKind.i64.wrap (r2 - (IntKind.i64.wrap (p1.offset * (60 : Int))))) ≤ p2)) = y2 from Option.some.inj y14]
      refine XO.go [] 1 [1,5,6,8,9,42] [] [(1, vi p2), (5, vi (IntKind.i64.wrap (p1.offset * (60 : Int)))), (6, vi (IntKind.i64.wrap (p1.summer * (60 : Int)))), (8, vi (IntKind.i64.wrap (r2 - (IntKind.i64.wrap (p1.offset * (60 : Int)))))), (9, vi y1), (42, vb y2)] [] [] (by kernel_rfl) trivial ?_
      refine XO.setb 42 true (B := y2) rfl b15 ?_
      refine XO.go [] 5 [1,5,6,8,9,10] [] [(1, vi p2), (5, vi (IntKind.i64.wrap (p1.offset * (60 : Int)))), (6, vi (IntKind.i64.wrap (p1.summer * (60 : Int)))), (8, vi (IntKind.i64.wrap (r2 - (IntKind.i64.wrap (p1.offset * (60 : Int)))))), (9, vi y1), (10, vb (decide (p2 < y1)))] [] [] (by kernel_rfl) trivial ?_
      refine XO.done (by kernel_rfl) ?_
      exact hJ1 (decide (p2 < y1)) h _ _ (Sub.pick [1,5,6,8,9,10] (by kernel_rfl))
    · have h := ift_f b15 h
      refine XW.reg (by kernel_rfl) ?_
      refine XO.go [] 3 [1,5,6,8,9,41] [] [(1, vi p2), (5, vi (IntKind.i64.wrap (p1.offset * (60 : Int)))), (6, vi (IntKind.i64.wrap (p1.summer * (60 : Int)))), (8, vi (IntKind.i64.wrap (r2 - (IntKind.i64.wrap (p1.offset * (60 : Int)))))), (9, vi y1), (41, vb (decide ((IntKind.i64.wrap (r2 - (IntKind.i64.wrap (p1.offset * (60 : Int))))) ≤ p2)))] [] [] (by kernel_rfl) trivial ?_
      rw [show (decide ((IntKind.i64.wrap (r2 - (IntKind.i64.wrap (p1.offset * (60 : Int))))) ≤ p2)) = y2 from Option.some.inj y14]
      refine XO.go [] 1 [1,5,6,8,9,42] [] [(1, vi p2), (5, vi (IntKind.i64.wrap (p1.offset * (60 : Int)))), (6, vi (IntKind.i64.wrap (p1.summer * (60 : Int)))), (8, vi (IntKind.i64.wrap (r2 - (IntKind.i64.wrap (p1.offset * (60 : Int)))))), (9, vi y1), (42, vb y2)] [] [] (by kernel_rfl) trivial ?_
      refine XO.setb 42 false (B := y2) rfl b15 ?_
      refine XO.go [] 5 [1,5,6,8,9,10] [] [(1, vi p2), (5, vi (IntKind.i64.wrap (p1.offset * (60 : Int)))), (6, vi (IntKind.i64.wrap (p1.summer * (60 : Int)))), (8, vi (IntKind.i64.wrap (r2 - (IntKind.i64.wrap (p1.offset * (60 : Int)))))), (9, vi y1), (10, vb false)] [] [] (by kernel_rfl) trivial ?_
      refine XO.done (by kernel_rfl) ?_
      exact hJ1 false h _ _ (Sub.pick [1,5,6,8,9,10] (by kernel_rfl))

def value_Local (p1 : Int) (p2 : ByteArray) : Option (GCivil × Int) :=
    bnd (value_zone p2) fun r1 =>
    ift (!r1.2)
      (some ((GCivil.mk (0 : Int) (0 : Int) (0 : Int) (0 : Int) (0 : Int) (0 : Int)), (4 : Int)))
      (bnd (value_within p1 (-62135596800 : Int) (253402300799 : Int)) fun r2 =>
       ift (!r2)
         (some ((GCivil.mk (0 : Int) (0 : Int) (0 : Int) (0 : Int) (0 : Int) (0 : Int)), (3 : Int)))
         (bnd (value_ahead r1.1 p1) fun r3 =>
          bnd (value_civil (IntKind.i64.wrap (p1 + r3))) fun r4 =>
          some (r4, (0 : Int))))


theorem c_value_Local (p1 : Int) (p2 : ByteArray) (r : (GCivil × Int)) (h : value_Local p1 p2 = some r) : PC Try.prog 18 [vi p1, vs p2] (.tp [.ag [ci r.1.year, ci r.1.month, ci r.1.day, ci r.1.hour, ci r.1.minute, ci r.1.second], vi r.2]) := by
  unfold value_Local at h
  refine PC.of (n := 26) (fn := Try.f18) (c := cd Try.f18 []) (by kernel_rfl) (by kernel_rfl) (by kernel_rfl) (Nat.le_of_ble_eq_true rfl) ?_
  refine XW.seq (x := cd Try.f18 [0]) (y := cd Try.f18 [1]) (by kernel_rfl) fun K1 hK1 => ?_
  refine XW.reg (by kernel_rfl) ?_
  refine XO.go [4, 6] 2 [0,1,4] [] [(0, vi p1), (1, vs p2), (4, .one (.pt 0 0 0 0))] [.box [ci (0 : Int), ci (0 : Int), ci (0 : Int), ci (0 : Int), ci (0 : Int), ci (0 : Int)]] [] (by kernel_rfl) trivial ?_
  refine XO.done (by kernel_rfl) ?_
  refine hK1 _ _ ?_
  refine XW.seq (x := cd Try.f18 [1,0]) (y := cd Try.f18 [1,1]) (by kernel_rfl) fun K2 hK2 => ?_
  obtain ⟨r1, c3, h⟩ := bnd_some h
  refine XW.reg (by kernel_rfl) ?_
  refine XO.go [4, 6] 1 [0,4,9] [] [(0, vi p1), (4, .one (.pt 0 0 0 0)), (9, vs p2)] [.box [ci (0 : Int), ci (0 : Int), ci (0 : Int), ci (0 : Int), ci (0 : Int), ci (0 : Int)]] [] (by kernel_rfl) trivial ?_
  refine XO.cal 41 [vs p2] (.tp [.ag [cst r1.1.name, ci r1.1.offset, ci r1.1.summer, ci r1.1.start.month, ci r1.1.start.week, ci r1.1.start.weekday, ci r1.1.start.minute, ci r1.1.stop.month, ci r1.1.stop.week, ci r1.1.stop.weekday, ci r1.1.stop.minute], vb r1.2]) [(10, .tp [.ag [cst r1.1.name, ci r1.1.offset, ci r1.1.summer, ci r1.1.start.month, ci r1.1.start.week, ci r1.1.start.weekday, ci r1.1.start.minute, ci r1.1.stop.month, ci r1.1.stop.week, ci r1.1.stop.weekday, ci r1.1.stop.minute], vb r1.2]), (0, vi p1), (4, .one (.pt 0 0 0 0)), (9, vs p2)] (by kernel_rfl) (c_value_zone _ _ c3) rfl rfl (by kernel_rfl) ?_
  refine XO.go [4, 6] 6 [0,4,6,7] [] [(0, vi p1), (4, .one (.pt 0 0 0 0)), (6, .one (.pt 1 0 0 0)), (7, vb r1.2)] [.box [ci (0 : Int), ci (0 : Int), ci (0 : Int), ci (0 : Int), ci (0 : Int), ci (0 : Int)], .box [cst r1.1.name, ci r1.1.offset, ci r1.1.summer, ci r1.1.start.month, ci r1.1.start.week, ci r1.1.start.weekday, ci r1.1.start.minute, ci r1.1.stop.month, ci r1.1.stop.week, ci r1.1.stop.weekday, ci r1.1.stop.minute]] [] (by kernel_rfl) trivial ?_
  refine XO.done (by kernel_rfl) ?_
  refine hK2 _ _ ?_
  refine XW.seq (x := cd Try.f18 [1,1,0]) (y := cd Try.f18 [1,1,1]) (by kernel_rfl) fun K4 hK4 => ?_
  refine XW.seq (x := cd Try.f18 [1,1,0,0]) (y := cd Try.f18 [1,1,0,1]) (by kernel_rfl) fun K5 hK5 => ?_
  refine XW.reg (by kernel_rfl) ?_
  refine XO.go [4, 6] 2 [0,4,6,14] [] [(0, vi p1), (4, .one (.pt 0 0 0 0)), (6, .one (.pt 1 0 0 0)), (14, vb (!r1.2))] [.box [ci (0 : Int), ci (0 : Int), ci (0 : Int), ci (0 : Int), ci (0 : Int), ci (0 : Int)], .box [cst r1.1.name, ci r1.1.offset, ci r1.1.summer, ci r1.1.start.month, ci r1.1.start.week, ci r1.1.start.weekday, ci r1.1.start.minute, ci r1.1.stop.month, ci r1.1.stop.week, ci r1.1.stop.weekday, ci r1.1.stop.minute]] [] (by kernel_rfl) trivial ?_
  refine XO.done (by kernel_rfl) ?_
  refine hK5 _ _ ?_
  refine XW.cond (x := .tmp 14) (a := cd Try.f18 [1,1,0,1,0]) (b := cd Try.f18 [1,1,0,1,1]) (t := (!r1.2)) (by kernel_rfl) (by kernel_rfl) (fun b6 => ?_) (fun b6 => ?_)
  · have h := ift_t b6 h
    refine XW.seq (x := cd Try.f18 [1,1,0,1,0,0]) (y := cd Try.f18 [1,1,0,1,0,1]) (by kernel_rfl) fun K7 hK7 => ?_
    refine XW.reg (by kernel_rfl) ?_
    refine XO.go [4, 6] 3 [4,5] [] [(4, .one (.pt 0 0 0 0)), (5, vi (4 : Int))] [.box [ci (0 : Int), ci (0 : Int), ci (0 : Int), ci (0 : Int), ci (0 : Int), ci (0 : Int)], .box [cst r1.1.name, ci r1.1.offset, ci r1.1.summer, ci r1.1.start.month, ci r1.1.start.week, ci r1.1.start.weekday, ci r1.1.start.minute, ci r1.1.stop.month, ci r1.1.stop.week, ci r1.1.stop.weekday, ci r1.1.stop.minute]] [] (by kernel_rfl) trivial ?_
    refine XO.done (by kernel_rfl) ?_
    refine hK7 _ _ ?_
    refine XW.ret (by kernel_rfl) ?_
    obtain rfl := Option.some.inj h
    exact FinP.fin (.inr rfl) [] [.ag [ci (0 : Int), ci (0 : Int), ci (0 : Int), ci (0 : Int), ci (0 : Int), ci (0 : Int)], vi (4 : Int)] [] (by kernel_rfl) trivial (.tpc (.ag (.cons (.rfl _ rfl) (.cons (.rfl _ rfl) (.cons (.rfl _ rfl) (.cons (.rfl _ rfl) (.cons (.rfl _ rfl) (.cons (.rfl _ rfl) .nil))))))) (.tpc (.one (.rfl _ rfl)) (.tp0)))
  · have h := ift_f b6 h
    refine XW.skip (by kernel_rfl) ?_
    refine hK4 _ _ ?_
    refine XW.seq (x := cd Try.f18 [1,1,1,0]) (y := cd Try.f18 [1,1,1,1]) (by kernel_rfl) fun K8 hK8 => ?_
    refine XW.seq (x := cd Try.f18 [1,1,1,0,0]) (y := cd Try.f18 [1,1,1,0,1]) (by kernel_rfl) fun K9 hK9 => ?_
    obtain ⟨r2, c10, h⟩ := bnd_some h
    refine XW.reg (by kernel_rfl) ?_
    refine XO.go [4, 6] 1 [0,4,6,16] [] [(0, vi p1), (4, .one (.pt 0 0 0 0)), (6, .one (.pt 1 0 0 0)), (16, vi p1)] [.box [ci (0 : Int), ci (0 : Int), ci (0 : Int), ci (0 : Int), ci (0 : Int), ci (0 : Int)], .box [cst r1.1.name, ci r1.1.offset, ci r1.1.summer, ci r1.1.start.month, ci r1.1.start.week, ci r1.1.start.weekday, ci r1.1.start.minute, ci r1.1.stop.month, ci r1.1.stop.week, ci r1.1.stop.weekday, ci r1.1.stop.minute]] [] (by kernel_rfl) trivial ?_
    refine XO.cal 42 [vi p1, vi (-62135596800 : Int), vi (253402300799 : Int)] (vb r2) [(17, vb r2), (0, vi p1), (4, .one (.pt 0 0 0 0)), (6, .one (.pt 1 0 0 0)), (16, vi p1)] (by kernel_rfl) (c_value_within _ _ _ _ c10) rfl rfl (by kernel_rfl) ?_
    refine XO.go [4, 6] 1 [0,4,6,18] [] [(0, vi p1), (4, .one (.pt 0 0 0 0)), (6, .one (.pt 1 0 0 0)), (18, vb (!r2))] [.box [ci (0 : Int), ci (0 : Int), ci (0 : Int), ci (0 : Int), ci (0 : Int), ci (0 : Int)], .box [cst r1.1.name, ci r1.1.offset, ci r1.1.summer, ci r1.1.start.month, ci r1.1.start.week, ci r1.1.start.weekday, ci r1.1.start.minute, ci r1.1.stop.month, ci r1.1.stop.week, ci r1.1.stop.weekday, ci r1.1.stop.minute]] [] (by kernel_rfl) trivial ?_
    refine XO.done (by kernel_rfl) ?_
    refine hK9 _ _ ?_
    refine XW.cond (x := .tmp 18) (a := cd Try.f18 [1,1,1,0,1,0]) (b := cd Try.f18 [1,1,1,0,1,1]) (t := (!r2)) (by kernel_rfl) (by kernel_rfl) (fun b11 => ?_) (fun b11 => ?_)
    · have h := ift_t b11 h
      refine XW.seq (x := cd Try.f18 [1,1,1,0,1,0,0]) (y := cd Try.f18 [1,1,1,0,1,0,1]) (by kernel_rfl) fun K12 hK12 => ?_
      refine XW.reg (by kernel_rfl) ?_
      refine XO.go [4, 6] 3 [4,5] [] [(4, .one (.pt 0 0 0 0)), (5, vi (3 : Int))] [.box [ci (0 : Int), ci (0 : Int), ci (0 : Int), ci (0 : Int), ci (0 : Int), ci (0 : Int)], .box [cst r1.1.name, ci r1.1.offset, ci r1.1.summer, ci r1.1.start.month, ci r1.1.start.week, ci r1.1.start.weekday, ci r1.1.start.minute, ci r1.1.stop.month, ci r1.1.stop.week, ci r1.1.stop.weekday, ci r1.1.stop.minute]] [] (by kernel_rfl) trivial ?_
      refine XO.done (by kernel_rfl) ?_
      refine hK12 _ _ ?_
      refine XW.ret (by kernel_rfl) ?_
      obtain rfl := Option.some.inj h
      exact FinP.fin (.inr rfl) [] [.ag [ci (0 : Int), ci (0 : Int), ci (0 : Int), ci (0 : Int), ci (0 : Int), ci (0 : Int)], vi (3 : Int)] [] (by kernel_rfl) trivial (.tpc (.ag (.cons (.rfl _ rfl) (.cons (.rfl _ rfl) (.cons (.rfl _ rfl) (.cons (.rfl _ rfl) (.cons (.rfl _ rfl) (.cons (.rfl _ rfl) .nil))))))) (.tpc (.one (.rfl _ rfl)) (.tp0)))
    · have h := ift_f b11 h
      refine XW.skip (by kernel_rfl) ?_
      refine hK8 _ _ ?_
      refine XW.seq (x := cd Try.f18 [1,1,1,1,0]) (y := cd Try.f18 [1,1,1,1,1]) (by kernel_rfl) fun K13 hK13 => ?_
      obtain ⟨r3, c14, h⟩ := bnd_some h
      obtain ⟨r4, c15, h⟩ := bnd_some h
      refine XW.reg (by kernel_rfl) ?_
      refine XO.go [4, 6] 3 [4,20,21,22] [] [(4, .one (.pt 0 0 0 0)), (20, vi p1), (21, .ag [cst r1.1.name, ci r1.1.offset, ci r1.1.summer, ci r1.1.start.month, ci r1.1.start.week, ci r1.1.start.weekday, ci r1.1.start.minute, ci r1.1.stop.month, ci r1.1.stop.week, ci r1.1.stop.weekday, ci r1.1.stop.minute]), (22, vi p1)] [.box [ci (0 : Int), ci (0 : Int), ci (0 : Int), ci (0 : Int), ci (0 : Int), ci (0 : Int)], .box [cst r1.1.name, ci r1.1.offset, ci r1.1.summer, ci r1.1.start.month, ci r1.1.start.week, ci r1.1.start.weekday, ci r1.1.start.minute, ci r1.1.stop.month, ci r1.1.stop.week, ci r1.1.stop.weekday, ci r1.1.stop.minute]] [] (by kernel_rfl) trivial ?_
      refine XO.cal 44 [.ag [cst r1.1.name, ci r1.1.offset, ci r1.1.summer, ci r1.1.start.month, ci r1.1.start.week, ci r1.1.start.weekday, ci r1.1.start.minute, ci r1.1.stop.month, ci r1.1.stop.week, ci r1.1.stop.weekday, ci r1.1.stop.minute], vi p1] (vi r3) [(23, vi r3), (4, .one (.pt 0 0 0 0)), (20, vi p1), (21, .ag [cst r1.1.name, ci r1.1.offset, ci r1.1.summer, ci r1.1.start.month, ci r1.1.start.week, ci r1.1.start.weekday, ci r1.1.start.minute, ci r1.1.stop.month, ci r1.1.stop.week, ci r1.1.stop.weekday, ci r1.1.stop.minute]), (22, vi p1)] (by kernel_rfl) (c_value_ahead _ _ _ c14) rfl rfl (by kernel_rfl) ?_
      refine XO.go [4, 6] 1 [4,24] [] [(4, .one (.pt 0 0 0 0)), (24, vi (IntKind.i64.wrap (p1 + r3)))] [.box [ci (0 : Int), ci (0 : Int), ci (0 : Int), ci (0 : Int), ci (0 : Int), ci (0 : Int)], .box [cst r1.1.name, ci r1.1.offset, ci r1.1.summer, ci r1.1.start.month, ci r1.1.start.week, ci r1.1.start.weekday, ci r1.1.start.minute, ci r1.1.stop.month, ci r1.1.stop.week, ci r1.1.stop.weekday, ci r1.1.stop.minute]] [] (by kernel_rfl) trivial ?_
      refine XO.cal 43 [vi (IntKind.i64.wrap (p1 + r3))] (.ag [ci r4.year, ci r4.month, ci r4.day, ci r4.hour, ci r4.minute, ci r4.second]) [(25, .ag [ci r4.year, ci r4.month, ci r4.day, ci r4.hour, ci r4.minute, ci r4.second]), (4, .one (.pt 0 0 0 0)), (24, vi (IntKind.i64.wrap (p1 + r3)))] (by kernel_rfl) (c_value_civil _ _ c15) rfl rfl (by kernel_rfl) ?_
      refine XO.go [4, 6] 2 [4,5] [] [(4, .one (.pt 0 0 0 0)), (5, vi (0 : Int))] [.box [ci r4.year, ci r4.month, ci r4.day, ci r4.hour, ci r4.minute, ci r4.second], .box [cst r1.1.name, ci r1.1.offset, ci r1.1.summer, ci r1.1.start.month, ci r1.1.start.week, ci r1.1.start.weekday, ci r1.1.start.minute, ci r1.1.stop.month, ci r1.1.stop.week, ci r1.1.stop.weekday, ci r1.1.stop.minute]] [] (by kernel_rfl) trivial ?_
      refine XO.done (by kernel_rfl) ?_
      refine hK13 _ _ ?_
      refine XW.ret (by kernel_rfl) ?_
      obtain rfl := Option.some.inj h
      exact FinP.fin (.inr rfl) [] [.ag [ci r4.year, ci r4.month, ci r4.day, ci r4.hour, ci r4.minute, ci r4.second], vi (0 : Int)] [] (by kernel_rfl) trivial (.tpc (.ag (.cons (.rfl _ rfl) (.cons (.rfl _ rfl) (.cons (.rfl _ rfl) (.cons (.rfl _ rfl) (.cons (.rfl _ rfl) (.cons (.rfl _ rfl) .nil))))))) (.tpc (.one (.rfl _ rfl)) (.tp0)))

def value_checkCivil_j2 (x2 : Bool) : Option Int :=
    ift x2
      (some (3 : Int))
      (some (0 : Int))

def value_checkCivil_j1 (p1 : GCivil) (x1 : Bool) : Option Int :=
    ift x1
      (some (3 : Int))
      (bnd (value_within p1.hour (0 : Int) (23 : Int)) fun r5 =>
       ift (!r5)
         (value_checkCivil_j2 true)
         (bnd (value_within p1.minute (0 : Int) (59 : Int)) fun r6 =>
          ift (!r6)
            (value_checkCivil_j2 true)
            (bnd (value_within p1.second (0 : Int) (59 : Int)) fun r7 =>
             value_checkCivil_j2 (!r7))))

def value_checkCivil (p1 : GCivil) : Option Int :=
    bnd (value_within p1.year (1 : Int) (9999 : Int)) fun r1 =>
    ift (!r1)
      (value_checkCivil_j1 p1 true)
      (bnd (value_within p1.month (1 : Int) (12 : Int)) fun r2 =>
       ift (!r2)
         (value_checkCivil_j1 p1 true)
         (bnd (value_daysIn p1.year p1.month) fun r3 =>
          bnd (value_within p1.day (1 : Int) r3) fun r4 =>
          value_checkCivil_j1 p1 (!r4)))


theorem c_value_checkCivil (p1 : GCivil) (r : Int) (h : value_checkCivil p1 = some r) : PC Try.prog 45 [.ag [ci p1.year, ci p1.month, ci p1.day, ci p1.hour, ci p1.minute, ci p1.second]] (vi r) := by
  unfold value_checkCivil at h
  refine PC.of (n := 40) (fn := Try.f45) (c := cd Try.f45 []) (by kernel_rfl) (by kernel_rfl) (by kernel_rfl) (Nat.le_of_ble_eq_true rfl) ?_
  refine XW.seq (x := cd Try.f45 [0]) (y := cd Try.f45 [1]) (by kernel_rfl) fun K1 hK1 => ?_
  refine XW.reg (by kernel_rfl) ?_
  refine XO.go [] 2 [1] [] [(1, .one (.pv (.rp [[pi p1.year, pi p1.month, pi p1.day, pi p1.hour, pi p1.minute, pi p1.second]] 0 0)))] [] [] (by kernel_rfl) trivial ?_
  refine XO.done (by kernel_rfl) ?_
  refine hK1 _ _ ?_
  refine XW.seq (x := cd Try.f45 [1,0]) (y := cd Try.f45 [1,1]) (by kernel_rfl) fun K2 hK2 => ?_
  refine XW.seq (x := cd Try.f45 [1,0,0]) (y := cd Try.f45 [1,0,1]) (by kernel_rfl) fun K3 hK3 => ?_
  have hJ1 : ∀ (x1 : Bool), value_checkCivil_j1 p1 x1 = some r → ∀ fr1 st1, Sub 40 0 [] fr1 st1 [(1, .one (.pv (.rp [[pi p1.year, pi p1.month, pi p1.day, pi p1.hour, pi p1.minute, pi p1.second]] 0 0))), (23, vb x1)] [] → K3 fr1 st1 := by
    intro x1 h fr1 st1 hS
    unfold value_checkCivil_j1 at h
    refine hK3 _ _ (XW.sub hS ?_)
    refine XW.cond (x := .tmp 23) (a := cd Try.f45 [1,0,1,0]) (b := cd Try.f45 [1,0,1,1]) (t := x1) (by kernel_rfl) (by kernel_rfl) (fun b10 => ?_) (fun b10 => ?_)
    · have h := ift_t b10 h
      refine XW.seq (x := cd Try.f45 [1,0,1,0,0]) (y := cd Try.f45 [1,0,1,0,1]) (by kernel_rfl) fun K11 hK11 => ?_
      refine XW.reg (by kernel_rfl) ?_
      refine XO.go [] 1 [2] [] [(2, vi (3 : Int))] [] [] (by kernel_rfl) trivial ?_
      refine XO.done (by kernel_rfl) ?_
      refine hK11 _ _ ?_
      refine XW.ret (by kernel_rfl) ?_
      obtain rfl := Option.some.inj h
      exact FinP.fin (.inr rfl) [] [vi (3 : Int)] [] (by kernel_rfl) trivial (.one (.rfl _ rfl))
    · have h := ift_f b10 h
      refine XW.skip (by kernel_rfl) ?_
      refine hK2 _ _ ?_
      refine XW.seq (x := cd Try.f45 [1,1,0]) (y := cd Try.f45 [1,1,1]) (by kernel_rfl) fun K12 hK12 => ?_
      refine XW.seq (x := cd Try.f45 [1,1,0,0]) (y := cd Try.f45 [1,1,0,1]) (by kernel_rfl) fun K13 hK13 => ?_
      have hJ2 : ∀ (x2 : Bool), value_checkCivil_j2 x2 = some r → ∀ fr1 st1, Sub 40 0 [] fr1 st1 [(39, vb x2)] [] → K13 fr1 st1 := by
        intro x2 h fr1 st1 hS
        unfold value_checkCivil_j2 at h
        refine hK13 _ _ (XW.sub hS ?_)
        refine XW.cond (x := .tmp 39) (a := cd Try.f45 [1,1,0,1,0]) (b := cd Try.f45 [1,1,0,1,1]) (t := x2) (by kernel_rfl) (by kernel_rfl) (fun b19 => ?_) (fun b19 => ?_)
        · have h := ift_t b19 h
          refine XW.seq (x := cd Try.f45 [1,1,0,1,0,0]) (y := cd Try.f45 [1,1,0,1,0,1]) (by kernel_rfl) fun K20 hK20 => ?_
          refine XW.reg (by kernel_rfl) ?_
          refine XO.go [] 1 [2] [] [(2, vi (3 : Int))] [] [] (by kernel_rfl) trivial ?_
          refine XO.done (by kernel_rfl) ?_
          refine hK20 _ _ ?_
          refine XW.ret (by kernel_rfl) ?_
          obtain rfl := Option.some.inj h
          exact FinP.fin (.inr rfl) [] [vi (3 : Int)] [] (by kernel_rfl) trivial (.one (.rfl _ rfl))
        · have h := ift_f b19 h
          refine XW.skip (by kernel_rfl) ?_
          refine hK12 _ _ ?_
          refine XW.seq (x := cd Try.f45 [1,1,1,0]) (y := cd Try.f45 [1,1,1,1]) (by kernel_rfl) fun K21 hK21 => ?_
          refine XW.reg (by kernel_rfl) ?_
          refine XO.go [] 1 [2] [] [(2, vi (0 : Int))] [] [] (by kernel_rfl) trivial ?_
          refine XO.done (by kernel_rfl) ?_
          refine hK21 _ _ ?_
          refine XW.ret (by kernel_rfl) ?_
          obtain rfl := Option.some.inj h
          exact FinP.fin (.inr rfl) [] [vi (0 : Int)] [] (by kernel_rfl) trivial (.one (.rfl _ rfl))
      obtain ⟨r5, c14, h⟩ := bnd_some h
      rcases Bool.eq_false_or_eq_true (!r5) with b15 | b15
      · have h := ift_t b15 h
        refine XW.reg (by kernel_rfl) ?_
        refine XO.go [] 2 [1,25] [[pi p1.year, pi p1.month, pi p1.day, pi p1.hour, pi p1.minute, pi p1.second]] [(1, .one (.pv (.rp [[pi p1.year, pi p1.month, pi p1.day, pi p1.hour, pi p1.minute, pi p1.second]] 0 0))), (25, vi p1.hour)] [] [([[pi p1.year, pi p1.month, pi p1.day, pi p1.hour, pi p1.minute, pi p1.second]] : List (List PV))[0]? = some [pi p1.year, pi p1.month, pi p1.day, pi p1.hour, pi p1.minute, pi p1.second]] (by kernel_rfl) (⟨rfl, trivial⟩) ?_
        refine XO.cal 42 [vi p1.hour, vi (0 : Int), vi (23 : Int)] (vb r5) [(26, vb r5), (1, .one (.pv (.rp [[pi p1.year, pi p1.month, pi p1.day, pi p1.hour, pi p1.minute, pi p1.second]] 0 0))), (25, vi p1.hour)] (by kernel_rfl) (c_value_within _ _ _ _ c14) rfl rfl (by kernel_rfl) ?_
        refine XO.go [] 2 [1,28] [] [(1, .one (.pv (.rp [[pi p1.year, pi p1.month, pi p1.day, pi p1.hour, pi p1.minute, pi p1.second]] 0 0))), (28, vb (!r5))] [] [] (by kernel_rfl) trivial ?_
        refine XO.setb 28 true (B := (!r5)) rfl b15 ?_
        refine XO.go [] 11 [39] [] [(39, vb true)] [] [] (by kernel_rfl) trivial ?_
        refine XO.done (by kernel_rfl) ?_
        exact hJ2 true h _ _ (Sub.pick [39] (by kernel_rfl))
      · have h := ift_f b15 h
        obtain ⟨r6, c16, h⟩ := bnd_some h
        rcases Bool.eq_false_or_eq_true (!r6) with b17 | b17
        · have h := ift_t b17 h
          refine XW.reg (by kernel_rfl) ?_
          refine XO.go [] 2 [1,25] [[pi p1.year, pi p1.month, pi p1.day, pi p1.hour, pi p1.minute, pi p1.second]] [(1, .one (.pv (.rp [[pi p1.year, pi p1.month, pi p1.day, pi p1.hour, pi p1.minute, pi p1.second]] 0 0))), (25, vi p1.hour)] [] [([[pi p1.year, pi p1.month, pi p1.day, pi p1.hour, pi p1.minute, pi p1.second]] : List (List PV))[0]? = some [pi p1.year, pi p1.month, pi p1.day, pi p1.hour, pi p1.minute, pi p1.second]] (by kernel_rfl) (⟨rfl, trivial⟩) ?_
          refine XO.cal 42 [vi p1.hour, vi (0 : Int), vi (23 : Int)] (vb r5) [(26, vb r5), (1, .one (.pv (.rp [[pi p1.year, pi p1.month, pi p1.day, pi p1.hour, pi p1.minute, pi p1.second]] 0 0))), (25, vi p1.hour)] (by kernel_rfl) (c_value_within _ _ _ _ c14) rfl rfl (by kernel_rfl) ?_
          refine XO.go [] 2 [1,28] [] [(1, .one (.pv (.rp [[pi p1.year, pi p1.month, pi p1.day, pi p1.hour, pi p1.minute, pi p1.second]] 0 0))), (28, vb (!r5))] [] [] (by kernel_rfl) trivial ?_
          refine XO.setb 28 false (B := (!r5)) rfl b15 ?_
          refine XO.go [] 2 [1,28,30] [[pi p1.year, pi p1.month, pi p1.day, pi p1.hour, pi p1.minute, pi p1.second]] [(1, .one (.pv (.rp [[pi p1.year, pi p1.month, pi p1.day, pi p1.hour, pi p1.minute, pi p1.second]] 0 0))), (28, vb false), (30, vi p1.minute)] [] [([[pi p1.year, pi p1.month, pi p1.day, pi p1.hour, pi p1.minute, pi p1.second]] : List (List PV))[0]? = some [pi p1.year, pi p1.month, pi p1.day, pi p1.hour, pi p1.minute, pi p1.second]] (by kernel_rfl) (⟨rfl, trivial⟩) ?_
          refine XO.cal 42 [vi p1.minute, vi (0 : Int), vi (59 : Int)] (vb r6) [(31, vb r6), (1, .one (.pv (.rp [[pi p1.year, pi p1.month, pi p1.day, pi p1.hour, pi p1.minute, pi p1.second]] 0 0))), (28, vb false), (30, vi p1.minute)] (by kernel_rfl) (c_value_within _ _ _ _ c16) rfl rfl (by kernel_rfl) ?_
          refine XO.go [] 3 [1,34] [] [(1, .one (.pv (.rp [[pi p1.year, pi p1.month, pi p1.day, pi p1.hour, pi p1.minute, pi p1.second]] 0 0))), (34, vb (!r6))] [] [] (by kernel_rfl) trivial ?_
          refine XO.setb 34 true (B := (!r6)) rfl b17 ?_
          refine XO.go [] 5 [39] [] [(39, vb true)] [] [] (by kernel_rfl) trivial ?_
          refine XO.done (by kernel_rfl) ?_
          exact hJ2 true h _ _ (Sub.pick [39] (by kernel_rfl))
        · have h := ift_f b17 h
          obtain ⟨r7, c18, h⟩ := bnd_some h
          refine XW.reg (by kernel_rfl) ?_
          refine XO.go [] 2 [1,25] [[pi p1.year, pi p1.month, pi p1.day, pi p1.hour, pi p1.minute, pi p1.second]] [(1, .one (.pv (.rp [[pi p1.year, pi p1.month, pi p1.day, pi p1.hour, pi p1.minute, pi p1.second]] 0 0))), (25, vi p1.hour)] [] [([[pi p1.year, pi p1.month, pi p1.day, pi p1.hour, pi p1.minute, pi p1.second]] : List (List PV))[0]? = some [pi p1.year, pi p1.month, pi p1.day, pi p1.hour, pi p1.minute, pi p1.second]] (by kernel_rfl) (⟨rfl, trivial⟩) ?_
          refine XO.cal 42 [vi p1.hour, vi (0 : Int), vi (23 : Int)] (vb r5) [(26, vb r5), (1, .one (.pv (.rp [[pi p1.year, pi p1.month, pi p1.day, pi p1.hour, pi p1.minute, pi p1.second]] 0 0))), (25, vi p1.hour)] (by kernel_rfl) (c_value_within _ _ _ _ c14) rfl rfl (by kernel_rfl) ?_
          refine XO.go [] 2 [1,28] [] [(1, .one (.pv (.rp [[pi p1.year, pi p1.month, pi p1.day, pi p1.hour, pi p1.minute, pi p1.second]] 0 0))), (28, vb (!r5))] [] [] (by kernel_rfl) trivial ?_
          refine XO.setb 28 false (B := (!r5)) rfl b15 ?_
          refine XO.go [] 2 [1,28,30] [[pi p1.year, pi p1.month, pi p1.day, pi p1.hour, pi p1.minute, pi p1.second]] [(1, .one (.pv (.rp [[pi p1.year, pi p1.month, pi p1.day, pi p1.hour, pi p1.minute, pi p1.second]] 0 0))), (28, vb false), (30, vi p1.minute)] [] [([[pi p1.year, pi p1.month, pi p1.day, pi p1.hour, pi p1.minute, pi p1.second]] : List (List PV))[0]? = some [pi p1.year, pi p1.month, pi p1.day, pi p1.hour, pi p1.minute, pi p1.second]] (by kernel_rfl) (⟨rfl, trivial⟩) ?_
          refine XO.cal 42 [vi p1.minute, vi (0 : Int), vi (59 : Int)] (vb r6) [(31, vb r6), (1, .one (.pv (.rp [[pi p1.year, pi p1.month, pi p1.day, pi p1.hour, pi p1.minute, pi p1.second]] 0 0))), (28, vb false), (30, vi p1.minute)] (by kernel_rfl) (c_value_within _ _ _ _ c16) rfl rfl (by kernel_rfl) ?_
          refine XO.go [] 3 [1,34] [] [(1, .one (.pv (.rp [[pi p1.year, pi p1.month, pi p1.day, pi p1.hour, pi p1.minute, pi p1.second]] 0 0))), (34, vb (!r6))] [] [] (by kernel_rfl) trivial ?_
          refine XO.setb 34 false (B := (!r6)) rfl b17 ?_
          refine XO.go [] 2 [34,36] [[pi p1.year, pi p1.month, pi p1.day, pi p1.hour, pi p1.minute, pi p1.second]] [(34, vb false), (36, vi p1.second)] [] [([[pi p1.year, pi p1.month, pi p1.day, pi p1.hour, pi p1.minute, pi p1.second]] : List (List PV))[0]? = some [pi p1.year, pi p1.month, pi p1.day, pi p1.hour, pi p1.minute, pi p1.second]] (by kernel_rfl) (⟨rfl, trivial⟩) ?_
          refine XO.cal 42 [vi p1.second, vi (0 : Int), vi (59 : Int)] (vb r7) [(37, vb r7), (34, vb false), (36, vi p1.second)] (by kernel_rfl) (c_value_within _ _ _ _ c18) rfl rfl (by kernel_rfl) ?_
          refine XO.go [] 2 [39] [] [(39, vb (!r7))] [] [] (by kernel_rfl) trivial ?_
          refine XO.done (by kernel_rfl) ?_
          exact hJ2 (!r7) h _ _ (Sub.pick [39] (by kernel_rfl))
  obtain ⟨r1, c4, h⟩ := bnd_some h
  rcases Bool.eq_false_or_eq_true (!r1) with b5 | b5
  · have h := ift_t b5 h
    refine XW.drwS 18 [(20, .tp []), (19, .tp []), (18, .tp []), (17, .tp []), (16, .tp []), (15, .tp []), (14, .tp []), (13, vb true), (12, vb true), (11, .tp []), (10, .tp []), (9, .tp []), (8, .tp []), (7, vb true), (6, vb (!r1)), (5, vb r1), (4, vi p1.year), (3, .one (.pv (.rp [[pi p1.year, pi p1.month, pi p1.day, pi p1.hour, pi p1.minute, pi p1.second]] 0 0))), (1, .one (.pv (.rp [[pi p1.year, pi p1.month, pi p1.day, pi p1.hour, pi p1.minute, pi p1.second]] 0 0)))] (by kernel_rfl) (by kernel_rfl) ?_ ?_
    · refine DX.go 2 [[pi p1.year, pi p1.month, pi p1.day, pi p1.hour, pi p1.minute, pi p1.second]] [(4, vi p1.year), (3, .one (.pv (.rp [[pi p1.year, pi p1.month, pi p1.day, pi p1.hour, pi p1.minute, pi p1.second]] 0 0))), (1, .one (.pv (.rp [[pi p1.year, pi p1.month, pi p1.day, pi p1.hour, pi p1.minute, pi p1.second]] 0 0)))] [([[pi p1.year, pi p1.month, pi p1.day, pi p1.hour, pi p1.minute, pi p1.second]] : List (List PV))[0]? = some [pi p1.year, pi p1.month, pi p1.day, pi p1.hour, pi p1.minute, pi p1.second]] (by kernel_rfl) (⟨rfl, trivial⟩) ?_
      refine DX.cal 42 [vi p1.year, vi (1 : Int), vi (9999 : Int)] (vb r1) [(5, vb r1), (4, vi p1.year), (3, .one (.pv (.rp [[pi p1.year, pi p1.month, pi p1.day, pi p1.hour, pi p1.minute, pi p1.second]] 0 0))), (1, .one (.pv (.rp [[pi p1.year, pi p1.month, pi p1.day, pi p1.hour, pi p1.minute, pi p1.second]] 0 0)))] (by kernel_rfl) (c_value_within _ _ _ _ c4) rfl rfl (by kernel_rfl) ?_
      refine DX.go 2 [] [(7, vb (!r1)), (6, vb (!r1)), (5, vb r1), (4, vi p1.year), (3, .one (.pv (.rp [[pi p1.year, pi p1.month, pi p1.day, pi p1.hour, pi p1.minute, pi p1.second]] 0 0))), (1, .one (.pv (.rp [[pi p1.year, pi p1.month, pi p1.day, pi p1.hour, pi p1.minute, pi p1.second]] 0 0)))] [] (by kernel_rfl) trivial ?_
      refine DX.eq (fr1 := [(7, vb true), (6, vb (!r1)), (5, vb r1), (4, vi p1.year), (3, .one (.pv (.rp [[pi p1.year, pi p1.month, pi p1.day, pi p1.hour, pi p1.minute, pi p1.second]] 0 0))), (1, .one (.pv (.rp [[pi p1.year, pi p1.month, pi p1.day, pi p1.hour, pi p1.minute, pi p1.second]] 0 0)))]) (by rw [b5]) ?_
      refine DX.go 13 [] [(20, .tp []), (19, .tp []), (18, .tp []), (17, .tp []), (16, .tp []), (15, .tp []), (14, .tp []), (13, vb true), (12, vb true), (11, .tp []), (10, .tp []), (9, .tp []), (8, .tp []), (7, vb true), (6, vb (!r1)), (5, vb r1), (4, vi p1.year), (3, .one (.pv (.rp [[pi p1.year, pi p1.month, pi p1.day, pi p1.hour, pi p1.minute, pi p1.second]] 0 0))), (1, .one (.pv (.rp [[pi p1.year, pi p1.month, pi p1.day, pi p1.hour, pi p1.minute, pi p1.second]] 0 0)))] [] (by kernel_rfl) trivial ?_
      exact DX.done (by kernel_rfl)
    refine XO.go [] 3 [1,23] [] [(1, .one (.pv (.rp [[pi p1.year, pi p1.month, pi p1.day, pi p1.hour, pi p1.minute, pi p1.second]] 0 0))), (23, vb true)] [] [] (by kernel_rfl) trivial ?_
    refine XO.done (by kernel_rfl) ?_
    exact hJ1 true h _ _ (Sub.pick [1,23] (by kernel_rfl))
  · have h := ift_f b5 h
    obtain ⟨r2, c6, h⟩ := bnd_some h
    rcases Bool.eq_false_or_eq_true (!r2) with b7 | b7
    · have h := ift_t b7 h
      refine XW.drwS 18 [(20, .tp []), (19, .tp []), (18, .tp []), (17, .tp []), (16, .tp []), (15, .tp []), (14, .tp []), (13, vb true), (12, vb (!r2)), (11, vb (!r2)), (10, vb r2), (9, vi p1.month), (8, .one (.pv (.rp [[pi p1.year, pi p1.month, pi p1.day, pi p1.hour, pi p1.minute, pi p1.second]] 0 1))), (7, vb false), (6, vb (!r1)), (5, vb r1), (4, vi p1.year), (3, .one (.pv (.rp [[pi p1.year, pi p1.month, pi p1.day, pi p1.hour, pi p1.minute, pi p1.second]] 0 0))), (1, .one (.pv (.rp [[pi p1.year, pi p1.month, pi p1.day, pi p1.hour, pi p1.minute, pi p1.second]] 0 0)))] (by kernel_rfl) (by kernel_rfl) ?_ ?_
      · refine DX.go 2 [[pi p1.year, pi p1.month, pi p1.day, pi p1.hour, pi p1.minute, pi p1.second]] [(4, vi p1.year), (3, .one (.pv (.rp [[pi p1.year, pi p1.month, pi p1.day, pi p1.hour, pi p1.minute, pi p1.second]] 0 0))), (1, .one (.pv (.rp [[pi p1.year, pi p1.month, pi p1.day, pi p1.hour, pi p1.minute, pi p1.second]] 0 0)))] [([[pi p1.year, pi p1.month, pi p1.day, pi p1.hour, pi p1.minute, pi p1.second]] : List (List PV))[0]? = some [pi p1.year, pi p1.month, pi p1.day, pi p1.hour, pi p1.minute, pi p1.second]] (by kernel_rfl) (⟨rfl, trivial⟩) ?_
        refine DX.cal 42 [vi p1.year, vi (1 : Int), vi (9999 : Int)] (vb r1) [(5, vb r1), (4, vi p1.year), (3, .one (.pv (.rp [[pi p1.year, pi p1.month, pi p1.day, pi p1.hour, pi p1.minute, pi p1.second]] 0 0))), (1, .one (.pv (.rp [[pi p1.year, pi p1.month, pi p1.day, pi p1.hour, pi p1.minute, pi p1.second]] 0 0)))] (by kernel_rfl) (c_value_within _ _ _ _ c4) rfl rfl (by kernel_rfl) ?_
        refine DX.go 2 [] [(7, vb (!r1)), (6, vb (!r1)), (5, vb r1), (4, vi p1.year), (3, .one (.pv (.rp [[pi p1.year, pi p1.month, pi p1.day, pi p1.hour, pi p1.minute, pi p1.second]] 0 0))), (1, .one (.pv (.rp [[pi p1.year, pi p1.month, pi p1.day, pi p1.hour, pi p1.minute, pi p1.second]] 0 0)))] [] (by kernel_rfl) trivial ?_
        refine DX.eq (fr1 := [(7, vb false), (6, vb (!r1)), (5, vb r1), (4, vi p1.year), (3, .one (.pv (.rp [[pi p1.year, pi p1.month, pi p1.day, pi p1.hour, pi p1.minute, pi p1.second]] 0 0))), (1, .one (.pv (.rp [[pi p1.year, pi p1.month, pi p1.day, pi p1.hour, pi p1.minute, pi p1.second]] 0 0)))]) (by rw [b5]) ?_
        refine DX.go 2 [[pi p1.year, pi p1.month, pi p1.day, pi p1.hour, pi p1.minute, pi p1.second]] [(9, vi p1.month), (8, .one (.pv (.rp [[pi p1.year, pi p1.month, pi p1.day, pi p1.hour, pi p1.minute, pi p1.second]] 0 1))), (7, vb false), (6, vb (!r1)), (5, vb r1), (4, vi p1.year), (3, .one (.pv (.rp [[pi p1.year, pi p1.month, pi p1.day, pi p1.hour, pi p1.minute, pi p1.second]] 0 0))), (1, .one (.pv (.rp [[pi p1.year, pi p1.month, pi p1.day, pi p1.hour, pi p1.minute, pi p1.second]] 0 0)))] [([[pi p1.year, pi p1.month, pi p1.day, pi p1.hour, pi p1.minute, pi p1.second]] : List (List PV))[0]? = some [pi p1.year, pi p1.month, pi p1.day, pi p1.hour, pi p1.minute, pi p1.second]] (by kernel_rfl) (⟨rfl, trivial⟩) ?_
        refine DX.cal 42 [vi p1.month, vi (1 : Int), vi (12 : Int)] (vb r2) [(10, vb r2), (9, vi p1.month), (8, .one (.pv (.rp [[pi p1.year, pi p1.month, pi p1.day, pi p1.hour, pi p1.minute, pi p1.second]] 0 1))), (7, vb false), (6, vb (!r1)), (5, vb r1), (4, vi p1.year), (3, .one (.pv (.rp [[pi p1.year, pi p1.month, pi p1.day, pi p1.hour, pi p1.minute, pi p1.second]] 0 0))), (1, .one (.pv (.rp [[pi p1.year, pi p1.month, pi p1.day, pi p1.hour, pi p1.minute, pi p1.second]] 0 0)))] (by kernel_rfl) (c_value_within _ _ _ _ c6) rfl rfl (by kernel_rfl) ?_
        refine DX.go 3 [] [(13, vb (!r2)), (12, vb (!r2)), (11, vb (!r2)), (10, vb r2), (9, vi p1.month), (8, .one (.pv (.rp [[pi p1.year, pi p1.month, pi p1.day, pi p1.hour, pi p1.minute, pi p1.second]] 0 1))), (7, vb false), (6, vb (!r1)), (5, vb r1), (4, vi p1.year), (3, .one (.pv (.rp [[pi p1.year, pi p1.month, pi p1.day, pi p1.hour, pi p1.minute, pi p1.second]] 0 0))), (1, .one (.pv (.rp [[pi p1.year, pi p1.month, pi p1.day, pi p1.hour, pi p1.minute, pi p1.second]] 0 0)))] [] (by kernel_rfl) trivial ?_
        refine DX.eq (fr1 := [(13, vb true), (12, vb (!r2)), (11, vb (!r2)), (10, vb r2), (9, vi p1.month), (8, .one (.pv (.rp [[pi p1.year, pi p1.month, pi p1.day, pi p1.hour, pi p1.minute, pi p1.second]] 0 1))), (7, vb false), (6, vb (!r1)), (5, vb r1), (4, vi p1.year), (3, .one (.pv (.rp [[pi p1.year, pi p1.month, pi p1.day, pi p1.hour, pi p1.minute, pi p1.second]] 0 0))), (1, .one (.pv (.rp [[pi p1.year, pi p1.month, pi p1.day, pi p1.hour, pi p1.minute, pi p1.second]] 0 0)))]) (by rw [b7]) ?_
        refine DX.go 7 [] [(20, .tp []), (19, .tp []), (18, .tp []), (17, .tp []), (16, .tp []), (15, .tp []), (14, .tp []), (13, vb true), (12, vb (!r2)), (11, vb (!r2)), (10, vb r2), (9, vi p1.month), (8, .one (.pv (.rp [[pi p1.year, pi p1.month, pi p1.day, pi p1.hour, pi p1.minute, pi p1.second]] 0 1))), (7, vb false), (6, vb (!r1)), (5, vb r1), (4, vi p1.year), (3, .one (.pv (.rp [[pi p1.year, pi p1.month, pi p1.day, pi p1.hour, pi p1.minute, pi p1.second]] 0 0))), (1, .one (.pv (.rp [[pi p1.year, pi p1.month, pi p1.day, pi p1.hour, pi p1.minute, pi p1.second]] 0 0)))] [] (by kernel_rfl) trivial ?_
        exact DX.done (by kernel_rfl)
      refine XO.go [] 3 [1,23] [] [(1, .one (.pv (.rp [[pi p1.year, pi p1.month, pi p1.day, pi p1.hour, pi p1.minute, pi p1.second]] 0 0))), (23, vb true)] [] [] (by kernel_rfl) trivial ?_
      refine XO.done (by kernel_rfl) ?_
      exact hJ1 true h _ _ (Sub.pick [1,23] (by kernel_rfl))
    · have h := ift_f b7 h
      obtain ⟨r3, c8, h⟩ := bnd_some h
      obtain ⟨r4, c9, h⟩ := bnd_some h
      refine XW.drwS 18 [(20, vi r3), (19, vi p1.month), (18, .one (.pv (.rp [[pi p1.year, pi p1.month, pi p1.day, pi p1.hour, pi p1.minute, pi p1.second]] 0 1))), (17, vi p1.year), (16, .one (.pv (.rp [[pi p1.year, pi p1.month, pi p1.day, pi p1.hour, pi p1.minute, pi p1.second]] 0 0))), (15, vi p1.day), (14, .one (.pv (.rp [[pi p1.year, pi p1.month, pi p1.day, pi p1.hour, pi p1.minute, pi p1.second]] 0 2))), (13, vb false), (12, vb (!r2)), (11, vb (!r2)), (10, vb r2), (9, vi p1.month), (8, .one (.pv (.rp [[pi p1.year, pi p1.month, pi p1.day, pi p1.hour, pi p1.minute, pi p1.second]] 0 1))), (7, vb false), (6, vb (!r1)), (5, vb r1), (4, vi p1.year), (3, .one (.pv (.rp [[pi p1.year, pi p1.month, pi p1.day, pi p1.hour, pi p1.minute, pi p1.second]] 0 0))), (1, .one (.pv (.rp [[pi p1.year, pi p1.month, pi p1.day, pi p1.hour, pi p1.minute, pi p1.second]] 0 0)))] (by kernel_rfl) (by kernel_rfl) ?_ ?_
      · refine DX.go 2 [[pi p1.year, pi p1.month, pi p1.day, pi p1.hour, pi p1.minute, pi p1.second]] [(4, vi p1.year), (3, .one (.pv (.rp [[pi p1.year, pi p1.month, pi p1.day, pi p1.hour, pi p1.minute, pi p1.second]] 0 0))), (1, .one (.pv (.rp [[pi p1.year, pi p1.month, pi p1.day, pi p1.hour, pi p1.minute, pi p1.second]] 0 0)))] [([[pi p1.year, pi p1.month, pi p1.day, pi p1.hour, pi p1.minute, pi p1.second]] : List (List PV))[0]? = some [pi p1.year, pi p1.month, pi p1.day, pi p1.hour, pi p1.minute, pi p1.second]] (by kernel_rfl) (⟨rfl, trivial⟩) ?_
        refine DX.cal 42 [vi p1.year, vi (1 : Int), vi (9999 : Int)] (vb r1) [(5, vb r1), (4, vi p1.year), (3, .one (.pv (.rp [[pi p1.year, pi p1.month, pi p1.day, pi p1.hour, pi p1.minute, pi p1.second]] 0 0))), (1, .one (.pv (.rp [[pi p1.year, pi p1.month, pi p1.day, pi p1.hour, pi p1.minute, pi p1.second]] 0 0)))] (by kernel_rfl) (c_value_within _ _ _ _ c4) rfl rfl (by kernel_rfl) ?_
        refine DX.go 2 [] [(7, vb (!r1)), (6, vb (!r1)), (5, vb r1), (4, vi p1.year), (3, .one (.pv (.rp [[pi p1.year, pi p1.month, pi p1.day, pi p1.hour, pi p1.minute, pi p1.second]] 0 0))), (1, .one (.pv (.rp [[pi p1.year, pi p1.month, pi p1.day, pi p1.hour, pi p1.minute, pi p1.second]] 0 0)))] [] (by kernel_rfl) trivial ?_
        refine DX.eq (fr1 := [(7, vb false), (6, vb (!r1)), (5, vb r1), (4, vi p1.year), (3, .one (.pv (.rp [[pi p1.year, pi p1.month, pi p1.day, pi p1.hour, pi p1.minute, pi p1.second]] 0 0))), (1, .one (.pv (.rp [[pi p1.year, pi p1.month, pi p1.day, pi p1.hour, pi p1.minute, pi p1.second]] 0 0)))]) (by rw [b5]) ?_
        refine DX.go 2 [[pi p1.year, pi p1.month, pi p1.day, pi p1.hour, pi p1.minute, pi p1.second]] [(9, vi p1.month), (8, .one (.pv (.rp [[pi p1.year, pi p1.month, pi p1.day, pi p1.hour, pi p1.minute, pi p1.second]] 0 1))), (7, vb false), (6, vb (!r1)), (5, vb r1), (4, vi p1.year), (3, .one (.pv (.rp [[pi p1.year, pi p1.month, pi p1.day, pi p1.hour, pi p1.minute, pi p1.second]] 0 0))), (1, .one (.pv (.rp [[pi p1.year, pi p1.month, pi p1.day, pi p1.hour, pi p1.minute, pi p1.second]] 0 0)))] [([[pi p1.year, pi p1.month, pi p1.day, pi p1.hour, pi p1.minute, pi p1.second]] : List (List PV))[0]? = some [pi p1.year, pi p1.month, pi p1.day, pi p1.hour, pi p1.minute, pi p1.second]] (by kernel_rfl) (⟨rfl, trivial⟩) ?_
        refine DX.cal 42 [vi p1.month, vi (1 : Int), vi (12 : Int)] (vb r2) [(10, vb r2), (9, vi p1.month), (8, .one (.pv (.rp [[pi p1.year, pi p1.month, pi p1.day, pi p1.hour, pi p1.minute, pi p1.second]] 0 1))), (7, vb false), (6, vb (!r1)), (5, vb r1), (4, vi p1.year), (3, .one (.pv (.rp [[pi p1.year, pi p1.month, pi p1.day, pi p1.hour, pi p1.minute, pi p1.second]] 0 0))), (1, .one (.pv (.rp [[pi p1.year, pi p1.month, pi p1.day, pi p1.hour, pi p1.minute, pi p1.second]] 0 0)))] (by kernel_rfl) (c_value_within _ _ _ _ c6) rfl rfl (by kernel_rfl) ?_
        refine DX.go 3 [] [(13, vb (!r2)), (12, vb (!r2)), (11, vb (!r2)), (10, vb r2), (9, vi p1.month), (8, .one (.pv (.rp [[pi p1.year, pi p1.month, pi p1.day, pi p1.hour, pi p1.minute, pi p1.second]] 0 1))), (7, vb false), (6, vb (!r1)), (5, vb r1), (4, vi p1.year), (3, .one (.pv (.rp [[pi p1.year, pi p1.month, pi p1.day, pi p1.hour, pi p1.minute, pi p1.second]] 0 0))), (1, .one (.pv (.rp [[pi p1.year, pi p1.month, pi p1.day, pi p1.hour, pi p1.minute, pi p1.second]] 0 0)))] [] (by kernel_rfl) trivial ?_
        refine DX.eq (fr1 := [(13, vb false), (12, vb (!r2)), (11, vb (!r2)), (10, vb r2), (9, vi p1.month), (8, .one (.pv (.rp [[pi p1.year, pi p1.month, pi p1.day, pi p1.hour, pi p1.minute, pi p1.second]] 0 1))), (7, vb false), (6, vb (!r1)), (5, vb r1), (4, vi p1.year), (3, .one (.pv (.rp [[pi p1.year, pi p1.month, pi p1.day, pi p1.hour, pi p1.minute, pi p1.second]] 0 0))), (1, .one (.pv (.rp [[pi p1.year, pi p1.month, pi p1.day, pi p1.hour, pi p1.minute, pi p1.second]] 0 0)))]) (by rw [b7]) ?_
        refine DX.go 6 [[pi p1.year, pi p1.month, pi p1.day, pi p1.hour, pi p1.minute, pi p1.second], [pi p1.year, pi p1.month, pi p1.day, pi p1.hour, pi p1.minute, pi p1.second], [pi p1.year, pi p1.month, pi p1.day, pi p1.hour, pi p1.minute, pi p1.second]] [(19, vi p1.month), (18, .one (.pv (.rp [[pi p1.year, pi p1.month, pi p1.day, pi p1.hour, pi p1.minute, pi p1.second]] 0 1))), (17, vi p1.year), (16, .one (.pv (.rp [[pi p1.year, pi p1.month, pi p1.day, pi p1.hour, pi p1.minute, pi p1.second]] 0 0))), (15, vi p1.day), (14, .one (.pv (.rp [[pi p1.year, pi p1.month, pi p1.day, pi p1.hour, pi p1.minute, pi p1.second]] 0 2))), (13, vb false), (12, vb (!r2)), (11, vb (!r2)), (10, vb r2), (9, vi p1.month), (8, .one (.pv (.rp [[pi p1.year, pi p1.month, pi p1.day, pi p1.hour, pi p1.minute, pi p1.second]] 0 1))), (7, vb false), (6, vb (!r1)), (5, vb r1), (4, vi p1.year), (3, .one (.pv (.rp [[pi p1.year, pi p1.month, pi p1.day, pi p1.hour, pi p1.minute, pi p1.second]] 0 0))), (1, .one (.pv (.rp [[pi p1.year, pi p1.month, pi p1.day, pi p1.hour, pi p1.minute, pi p1.second]] 0 0)))] [([[pi p1.year, pi p1.month, pi p1.day, pi p1.hour, pi p1.minute, pi p1.second]] : List (List PV))[0]? = some [pi p1.year, pi p1.month, pi p1.day, pi p1.hour, pi p1.minute, pi p1.second], ([[pi p1.year, pi p1.month, pi p1.day, pi p1.hour, pi p1.minute, pi p1.second]] : List (List PV))[0]? = some [pi p1.year, pi p1.month, pi p1.day, pi p1.hour, pi p1.minute, pi p1.second], ([[pi p1.year, pi p1.month, pi p1.day, pi p1.hour, pi p1.minute, pi p1.second]] : List (List PV))[0]? = some [pi p1.year, pi p1.month, pi p1.day, pi p1.hour, pi p1.minute, pi p1.second]] (by kernel_rfl) (⟨rfl, rfl, rfl, trivial⟩) ?_
        refine DX.cal 67 [vi p1.year, vi p1.month] (vi r3) [(20, vi r3), (19, vi p1.month), (18, .one (.pv (.rp [[pi p1.year, pi p1.month, pi p1.day, pi p1.hour, pi p1.minute, pi p1.second]] 0 1))), (17, vi p1.year), (16, .one (.pv (.rp [[pi p1.year, pi p1.month, pi p1.day, pi p1.hour, pi p1.minute, pi p1.second]] 0 0))), (15, vi p1.day), (14, .one (.pv (.rp [[pi p1.year, pi p1.month, pi p1.day, pi p1.hour, pi p1.minute, pi p1.second]] 0 2))), (13, vb false), (12, vb (!r2)), (11, vb (!r2)), (10, vb r2), (9, vi p1.month), (8, .one (.pv (.rp [[pi p1.year, pi p1.month, pi p1.day, pi p1.hour, pi p1.minute, pi p1.second]] 0 1))), (7, vb false), (6, vb (!r1)), (5, vb r1), (4, vi p1.year), (3, .one (.pv (.rp [[pi p1.year, pi p1.month, pi p1.day, pi p1.hour, pi p1.minute, pi p1.second]] 0 0))), (1, .one (.pv (.rp [[pi p1.year, pi p1.month, pi p1.day, pi p1.hour, pi p1.minute, pi p1.second]] 0 0)))] (by kernel_rfl) (c_value_daysIn _ _ _ c8) rfl rfl (by kernel_rfl) ?_
        exact DX.done (by kernel_rfl)
      refine XO.cal 42 [vi p1.day, vi (1 : Int), vi r3] (vb r4) [(21, vb r4), (20, vi r3), (19, vi p1.month), (18, .one (.pv (.rp [[pi p1.year, pi p1.month, pi p1.day, pi p1.hour, pi p1.minute, pi p1.second]] 0 1))), (17, vi p1.year), (16, .one (.pv (.rp [[pi p1.year, pi p1.month, pi p1.day, pi p1.hour, pi p1.minute, pi p1.second]] 0 0))), (15, vi p1.day), (14, .one (.pv (.rp [[pi p1.year, pi p1.month, pi p1.day, pi p1.hour, pi p1.minute, pi p1.second]] 0 2))), (13, vb false), (12, vb (!r2)), (11, vb (!r2)), (10, vb r2), (9, vi p1.month), (8, .one (.pv (.rp [[pi p1.year, pi p1.month, pi p1.day, pi p1.hour, pi p1.minute, pi p1.second]] 0 1))), (7, vb false), (6, vb (!r1)), (5, vb r1), (4, vi p1.year), (3, .one (.pv (.rp [[pi p1.year, pi p1.month, pi p1.day, pi p1.hour, pi p1.minute, pi p1.second]] 0 0))), (1, .one (.pv (.rp [[pi p1.year, pi p1.month, pi p1.day, pi p1.hour, pi p1.minute, pi p1.second]] 0 0)))] (by kernel_rfl) (c_value_within _ _ _ _ c9) rfl rfl (by kernel_rfl) ?_
      refine XO.go [] 2 [1,23] [] [(1, .one (.pv (.rp [[pi p1.year, pi p1.month, pi p1.day, pi p1.hour, pi p1.minute, pi p1.second]] 0 0))), (23, vb (!r4))] [] [] (by kernel_rfl) trivial ?_
      refine XO.done (by kernel_rfl) ?_
      exact hJ1 (!r4) h _ _ (Sub.pick [1,23] (by kernel_rfl))

def value_seconds (p1 : GCivil) : Option Int :=
    bnd (value_days p1.year p1.month p1.day) fun r1 =>
    bnd (some (IntKind.i64.wrap ((IntKind.i64.wrap (r1 * (86400 : Int))) + (IntKind.i64.wrap (p1.hour * (3600 : Int)))))) fun y1 =>
    bnd (some (IntKind.i64.wrap ((IntKind.i64.wrap (y1 + (IntKind.i64.wrap (p1.minute * (60 : Int))))) + p1.second))) fun y2 =>
    some y2


theorem c_value_seconds (p1 : GCivil) (r : Int) (h : value_seconds p1 = some r) : PC Try.prog 46 [.ag [ci p1.year, ci p1.month, ci p1.day, ci p1.hour, ci p1.minute, ci p1.second]] (vi r) := by
  unfold value_seconds at h
  refine PC.of (n := 22) (fn := Try.f46) (c := cd Try.f46 []) (by kernel_rfl) (by kernel_rfl) (by kernel_rfl) (Nat.le_of_ble_eq_true rfl) ?_
  refine XW.seq (x := cd Try.f46 [0]) (y := cd Try.f46 [1]) (by kernel_rfl) fun K1 hK1 => ?_
  refine XW.reg (by kernel_rfl) ?_
  refine XO.go [] 2 [1] [] [(1, .one (.pv (.rp [[pi p1.year, pi p1.month, pi p1.day, pi p1.hour, pi p1.minute, pi p1.second]] 0 0)))] [] [] (by kernel_rfl) trivial ?_
  refine XO.done (by kernel_rfl) ?_
  refine hK1 _ _ ?_
  refine XW.seq (x := cd Try.f46 [1,0]) (y := cd Try.f46 [1,1]) (by kernel_rfl) fun K2 hK2 => ?_
  obtain ⟨r1, c3, h⟩ := bnd_some h
  obtain ⟨y1, y4, h⟩ := bnd_some h
  obtain ⟨y2, y5, h⟩ := bnd_some h
  refine XW.drwS 18 [(20, vi p1.second), (19, .one (.pv (.rp [[pi p1.year, pi p1.month, pi p1.day, pi p1.hour, pi p1.minute, pi p1.second]] 0 5))), (18, vi (IntKind.i64.wrap (y1 + (IntKind.i64.wrap (p1.minute * (60 : Int)))))), (17, vi (IntKind.i64.wrap (p1.minute * (60 : Int)))), (16, vi p1.minute), (15, .one (.pv (.rp [[pi p1.year, pi p1.month, pi p1.day, pi p1.hour, pi p1.minute, pi p1.second]] 0 4))), (14, vi y1), (13, vi (IntKind.i64.wrap (p1.hour * (3600 : Int)))), (12, vi p1.hour), (11, .one (.pv (.rp [[pi p1.year, pi p1.month, pi p1.day, pi p1.hour, pi p1.minute, pi p1.second]] 0 3))), (10, vi (IntKind.i64.wrap (r1 * (86400 : Int)))), (9, vi r1), (8, vi p1.day), (7, .one (.pv (.rp [[pi p1.year, pi p1.month, pi p1.day, pi p1.hour, pi p1.minute, pi p1.second]] 0 2))), (6, vi p1.month), (5, .one (.pv (.rp [[pi p1.year, pi p1.month, pi p1.day, pi p1.hour, pi p1.minute, pi p1.second]] 0 1))), (4, vi p1.year), (3, .one (.pv (.rp [[pi p1.year, pi p1.month, pi p1.day, pi p1.hour, pi p1.minute, pi p1.second]] 0 0))), (1, .one (.pv (.rp [[pi p1.year, pi p1.month, pi p1.day, pi p1.hour, pi p1.minute, pi p1.second]] 0 0)))] (by kernel_rfl) (by kernel_rfl) ?_ ?_
  · refine DX.go 6 [[pi p1.year, pi p1.month, pi p1.day, pi p1.hour, pi p1.minute, pi p1.second], [pi p1.year, pi p1.month, pi p1.day, pi p1.hour, pi p1.minute, pi p1.second], [pi p1.year, pi p1.month, pi p1.day, pi p1.hour, pi p1.minute, pi p1.second]] [(8, vi p1.day), (7, .one (.pv (.rp [[pi p1.year, pi p1.month, pi p1.day, pi p1.hour, pi p1.minute, pi p1.second]] 0 2))), (6, vi p1.month), (5, .one (.pv (.rp [[pi p1.year, pi p1.month, pi p1.day, pi p1.hour, pi p1.minute, pi p1.second]] 0 1))), (4, vi p1.year), (3, .one (.pv (.rp [[pi p1.year, pi p1.month, pi p1.day, pi p1.hour, pi p1.minute, pi p1.second]] 0 0))), (1, .one (.pv (.rp [[pi p1.year, pi p1.month, pi p1.day, pi p1.hour, pi p1.minute, pi p1.second]] 0 0)))] [([[pi p1.year, pi p1.month, pi p1.day, pi p1.hour, pi p1.minute, pi p1.second]] : List (List PV))[0]? = some [pi p1.year, pi p1.month, pi p1.day, pi p1.hour, pi p1.minute, pi p1.second], ([[pi p1.year, pi p1.month, pi p1.day, pi p1.hour, pi p1.minute, pi p1.second]] : List (List PV))[0]? = some [pi p1.year, pi p1.month, pi p1.day, pi p1.hour, pi p1.minute, pi p1.second], ([[pi p1.year, pi p1.month, pi p1.day, pi p1.hour, pi p1.minute, pi p1.second]] : List (List PV))[0]? = some [pi p1.year, pi p1.month, pi p1.day, pi p1.hour, pi p1.minute, pi p1.second]] (by kernel_rfl) (⟨rfl, rfl, rfl, trivial⟩) ?_
    refine DX.cal 47 [vi p1.year, vi p1.month, vi p1.day] (vi r1) [(9, vi r1), (8, vi p1.day), (7, .one (.pv (.rp [[pi p1.year, pi p1.month, pi p1.day, pi p1.hour, pi p1.minute, pi p1.second]] 0 2))), (6, vi p1.month), (5, .one (.pv (.rp [[pi p1.year, pi p1.month, pi p1.day, pi p1.hour, pi p1.minute, pi p1.second]] 0 1))), (4, vi p1.year), (3, .one (.pv (.rp [[pi p1.year, pi p1.month, pi p1.day, pi p1.hour, pi p1.minute, pi p1.second]] 0 0))), (1, .one (.pv (.rp [[pi p1.year, pi p1.month, pi p1.day, pi p1.hour, pi p1.minute, pi p1.second]] 0 0)))] (by kernel_rfl) (c_value_days _ _ _ _ c3) rfl rfl (by kernel_rfl) ?_
    refine DX.go 5 [[pi p1.year, pi p1.month, pi p1.day, pi p1.hour, pi p1.minute, pi p1.second]] [(14, vi (IntKind.i64.wrap ((IntKind.i64.wrap (r1 * (86400 : Int))) + (IntKind.i64.wrap (p1.hour * (3600 : Int)))))), (13, vi (IntKind.i64.wrap (p1.hour * (3600 : Int)))), (12, vi p1.hour), (11, .one (.pv (.rp [[pi p1.year, pi p1.month, pi p1.day, pi p1.hour, pi p1.minute, pi p1.second]] 0 3))), (10, vi (IntKind.i64.wrap (r1 * (86400 : Int)))), (9, vi r1), (8, vi p1.day), (7, .one (.pv (.rp [[pi p1.year, pi p1.month, pi p1.day, pi p1.hour, pi p1.minute, pi p1.second]] 0 2))), (6, vi p1.month), (5, .one (.pv (.rp [[pi p1.year, pi p1.month, pi p1.day, pi p1.hour, pi p1.minute, pi p1.second]] 0 1))), (4, vi p1.year), (3, .one (.pv (.rp [[pi p1.year, pi p1.month, pi p1.day, pi p1.hour, pi p1.minute, pi p1.second]] 0 0))), (1, .one (.pv (.rp [[pi p1.year, pi p1.month, pi p1.day, pi p1.hour, pi p1.minute, pi p1.second]] 0 0)))] [([[pi p1.year, pi p1.month, pi p1.day, pi p1.hour, pi p1.minute, pi p1.second]] : List (List PV))[0]? = some [pi p1.year, pi p1.month, pi p1.day, pi p1.hour, pi p1.minute, pi p1.second]] (by kernel_rfl) (⟨rfl, trivial⟩) ?_
    rw [show (IntKind.i64.wrap ((IntKind.i64.wrap (r1 * (86400 : Int))) + (IntKind.i64.wrap (p1.hour * (3600 : Int))))) = y1 from Option.some.inj y4]
    refine DX.go 6 [[pi p1.year, pi p1.month, pi p1.day, pi p1.hour, pi p1.minute, pi p1.second], [pi p1.year, pi p1.month, pi p1.day, pi p1.hour, pi p1.minute, pi p1.second]] [(20, vi p1.second), (19, .one (.pv (.rp [[pi p1.year, pi p1.month, pi p1.day, pi p1.hour, pi p1.minute, pi p1.second]] 0 5))), (18, vi (IntKind.i64.wrap (y1 + (IntKind.i64.wrap (p1.minute * (60 : Int)))))), (17, vi (IntKind.i64.wrap (p1.minute * (60 : Int)))), (16, vi p1.minute), (15, .one (.pv (.rp [[pi p1.year, pi p1.month, pi p1.day, pi p1.hour, pi p1.minute, pi p1.second]] 0 4))), (14, vi y1), (13, vi (IntKind.i64.wrap (p1.hour * (3600 : Int)))), (12, vi p1.hour), (11, .one (.pv (.rp [[pi p1.year, pi p1.month, pi p1.day, pi p1.hour, pi p1.minute, pi p1.second]] 0 3))), (10, vi (IntKind.i64.wrap (r1 * (86400 : Int)))), (9, vi r1), (8, vi p1.day), (7, .one (.pv (.rp [[pi p1.year, pi p1.month, pi p1.day, pi p1.hour, pi p1.minute, pi p1.second]] 0 2))), (6, vi p1.month), (5, .one (.pv (.rp [[pi p1.year, pi p1.month, pi p1.day, pi p1.hour, pi p1.minute, pi p1.second]] 0 1))), (4, vi p1.year), (3, .one (.pv (.rp [[pi p1.year, pi p1.month, pi p1.day, pi p1.hour, pi p1.minute, pi p1.second]] 0 0))), (1, .one (.pv (.rp [[pi p1.year, pi p1.month, pi p1.day, pi p1.hour, pi p1.minute, pi p1.second]] 0 0)))] [([[pi p1.year, pi p1.month, pi p1.day, pi p1.hour, pi p1.minute, pi p1.second]] : List (List PV))[0]? = some [pi p1.year, pi p1.month, pi p1.day, pi p1.hour, pi p1.minute, pi p1.second], ([[pi p1.year, pi p1.month, pi p1.day, pi p1.hour, pi p1.minute, pi p1.second]] : List (List PV))[0]? = some [pi p1.year, pi p1.month, pi p1.day, pi p1.hour, pi p1.minute, pi p1.second]] (by kernel_rfl) (⟨rfl, rfl, trivial⟩) ?_
    exact DX.done (by kernel_rfl)
  refine XO.go [] 1 [21] [] [(21, vi (IntKind.i64.wrap ((IntKind.i64.wrap (y1 + (IntKind.i64.wrap (p1.minute * (60 : Int))))) + p1.second)))] [] [] (by kernel_rfl) trivial ?_
  rw [show (IntKind.i64.wrap ((IntKind.i64.wrap (y1 + (IntKind.i64.wrap (p1.minute * (60 : Int))))) + p1.second)) = y2 from Option.some.inj y5]
  refine XO.go [] 1 [2] [] [(2, vi y2)] [] [] (by kernel_rfl) trivial ?_
  refine XO.done (by kernel_rfl) ?_
  refine hK2 _ _ ?_
  refine XW.ret (by kernel_rfl) ?_
  obtain rfl := Option.some.inj h
  exact FinP.fin (.inr rfl) [] [vi y2] [] (by kernel_rfl) trivial (.one (.rfl _ rfl))

def value_Instant_j1 (x1 : Int) : Option (Int × Int) :=
    bnd (value_within x1 (-62135596800 : Int) (253402300799 : Int)) fun r6 =>
    ift (!r6)
      (some ((0 : Int), (3 : Int)))
      (some (x1, (0 : Int)))

def value_Instant (p1 : GCivil) (p2 : ByteArray) : Option (Int × Int) :=
    bnd (value_zone p2) fun r1 =>
    ift (!r1.2)
      (some ((0 : Int), (4 : Int)))
      (bnd (value_checkCivil p1) fun r2 =>
       ift (r2 != (0 : Int))
         (some ((0 : Int), r2))
         (bnd (value_seconds p1) fun r3 =>
          bnd (some (IntKind.i64.wrap (r3 - (IntKind.i64.wrap (r1.1.offset * (60 : Int)))))) fun y1 =>
          bnd (some (IntKind.i64.wrap (y1 - (IntKind.i64.wrap (r1.1.summer * (60 : Int)))))) fun y2 =>
          bnd (value_ahead r1.1 y2) fun r4 =>
          bnd (value_seconds p1) fun r5 =>
          ift ((IntKind.i64.wrap (y2 + r4)) == r5)
            (value_Instant_j1 y2)
            (value_Instant_j1 y1)))


theorem c_value_Instant (p1 : GCivil) (p2 : ByteArray) (r : (Int × Int)) (h : value_Instant p1 p2 = some r) : PC Try.prog 19 [.ag [ci p1.year, ci p1.month, ci p1.day, ci p1.hour, ci p1.minute, ci p1.second], vs p2] (.tp [vi r.1, vi r.2]) := by
  unfold value_Instant at h
  refine PC.of (n := 47) (fn := Try.f19) (c := cd Try.f19 []) (by kernel_rfl) (by kernel_rfl) (by kernel_rfl) (Nat.le_of_ble_eq_true rfl) ?_
  refine XW.seq (x := cd Try.f19 [0]) (y := cd Try.f19 [1]) (by kernel_rfl) fun K1 hK1 => ?_
  refine XW.reg (by kernel_rfl) ?_
  refine XO.go [6] 3 [1,2] [] [(1, vs p2), (2, .one (.pv (.rp [[pi p1.year, pi p1.month, pi p1.day, pi p1.hour, pi p1.minute, pi p1.second]] 0 0)))] [] [] (by kernel_rfl) trivial ?_
  refine XO.done (by kernel_rfl) ?_
  refine hK1 _ _ ?_
  refine XW.seq (x := cd Try.f19 [1,0]) (y := cd Try.f19 [1,1]) (by kernel_rfl) fun K2 hK2 => ?_
  obtain ⟨r1, c3, h⟩ := bnd_some h
  refine XW.reg (by kernel_rfl) ?_
  refine XO.go [6] 1 [2,12] [] [(2, .one (.pv (.rp [[pi p1.year, pi p1.month, pi p1.day, pi p1.hour, pi p1.minute, pi p1.second]] 0 0))), (12, vs p2)] [] [] (by kernel_rfl) trivial ?_
  refine XO.cal 41 [vs p2] (.tp [.ag [cst r1.1.name, ci r1.1.offset, ci r1.1.summer, ci r1.1.start.month, ci r1.1.start.week, ci r1.1.start.weekday, ci r1.1.start.minute, ci r1.1.stop.month, ci r1.1.stop.week, ci r1.1.stop.weekday, ci r1.1.stop.minute], vb r1.2]) [(13, .tp [.ag [cst r1.1.name, ci r1.1.offset, ci r1.1.summer, ci r1.1.start.month, ci r1.1.start.week, ci r1.1.start.weekday, ci r1.1.start.minute, ci r1.1.stop.month, ci r1.1.stop.week, ci r1.1.stop.weekday, ci r1.1.stop.minute], vb r1.2]), (2, .one (.pv (.rp [[pi p1.year, pi p1.month, pi p1.day, pi p1.hour, pi p1.minute, pi p1.second]] 0 0))), (12, vs p2)] (by kernel_rfl) (c_value_zone _ _ c3) rfl rfl (by kernel_rfl) ?_
  refine XO.go [6] 6 [2,6,7] [] [(2, .one (.pv (.rp [[pi p1.year, pi p1.month, pi p1.day, pi p1.hour, pi p1.minute, pi p1.second]] 0 0))), (6, .one (.pt 0 0 0 0)), (7, vb r1.2)] [.box [cst r1.1.name, ci r1.1.offset, ci r1.1.summer, ci r1.1.start.month, ci r1.1.start.week, ci r1.1.start.weekday, ci r1.1.start.minute, ci r1.1.stop.month, ci r1.1.stop.week, ci r1.1.stop.weekday, ci r1.1.stop.minute]] [] (by kernel_rfl) trivial ?_
  refine XO.done (by kernel_rfl) ?_
  refine hK2 _ _ ?_
  refine XW.seq (x := cd Try.f19 [1,1,0]) (y := cd Try.f19 [1,1,1]) (by kernel_rfl) fun K4 hK4 => ?_
  refine XW.seq (x := cd Try.f19 [1,1,0,0]) (y := cd Try.f19 [1,1,0,1]) (by kernel_rfl) fun K5 hK5 => ?_
  refine XW.reg (by kernel_rfl) ?_
  refine XO.go [6] 2 [2,6,17] [] [(2, .one (.pv (.rp [[pi p1.year, pi p1.month, pi p1.day, pi p1.hour, pi p1.minute, pi p1.second]] 0 0))), (6, .one (.pt 0 0 0 0)), (17, vb (!r1.2))] [.box [cst r1.1.name, ci r1.1.offset, ci r1.1.summer, ci r1.1.start.month, ci r1.1.start.week, ci r1.1.start.weekday, ci r1.1.start.minute, ci r1.1.stop.month, ci r1.1.stop.week, ci r1.1.stop.weekday, ci r1.1.stop.minute]] [] (by kernel_rfl) trivial ?_
  refine XO.done (by kernel_rfl) ?_
  refine hK5 _ _ ?_
  refine XW.cond (x := .tmp 17) (a := cd Try.f19 [1,1,0,1,0]) (b := cd Try.f19 [1,1,0,1,1]) (t := (!r1.2)) (by kernel_rfl) (by kernel_rfl) (fun b6 => ?_) (fun b6 => ?_)
  · have h := ift_t b6 h
    refine XW.seq (x := cd Try.f19 [1,1,0,1,0,0]) (y := cd Try.f19 [1,1,0,1,0,1]) (by kernel_rfl) fun K7 hK7 => ?_
    refine XW.reg (by kernel_rfl) ?_
    refine XO.go [6] 2 [4,5] [] [(4, vi (0 : Int)), (5, vi (4 : Int))] [.box [cst r1.1.name, ci r1.1.offset, ci r1.1.summer, ci r1.1.start.month, ci r1.1.start.week, ci r1.1.start.weekday, ci r1.1.start.minute, ci r1.1.stop.month, ci r1.1.stop.week, ci r1.1.stop.weekday, ci r1.1.stop.minute]] [] (by kernel_rfl) trivial ?_
    refine XO.done (by kernel_rfl) ?_
    refine hK7 _ _ ?_
    refine XW.ret (by kernel_rfl) ?_
    obtain rfl := Option.some.inj h
    exact FinP.fin (.inr rfl) [] [vi (0 : Int), vi (4 : Int)] [] (by kernel_rfl) trivial (.tpc (.one (.rfl _ rfl)) (.tpc (.one (.rfl _ rfl)) (.tp0)))
  · have h := ift_f b6 h
    refine XW.skip (by kernel_rfl) ?_
    refine hK4 _ _ ?_
    refine XW.seq (x := cd Try.f19 [1,1,1,0]) (y := cd Try.f19 [1,1,1,1]) (by kernel_rfl) fun K8 hK8 => ?_
    refine XW.seq (x := cd Try.f19 [1,1,1,0,0]) (y := cd Try.f19 [1,1,1,0,1]) (by kernel_rfl) fun K9 hK9 => ?_
    obtain ⟨r2, c10, h⟩ := bnd_some h
    refine XW.reg (by kernel_rfl) ?_
    refine XO.go [6] 1 [2,6,18] [[pi p1.year, pi p1.month, pi p1.day, pi p1.hour, pi p1.minute, pi p1.second]] [(2, .one (.pv (.rp [[pi p1.year, pi p1.month, pi p1.day, pi p1.hour, pi p1.minute, pi p1.second]] 0 0))), (6, .one (.pt 0 0 0 0)), (18, .ag [ci p1.year, ci p1.month, ci p1.day, ci p1.hour, ci p1.minute, ci p1.second])] [.box [cst r1.1.name, ci r1.1.offset, ci r1.1.summer, ci r1.1.start.month, ci r1.1.start.week, ci r1.1.start.weekday, ci r1.1.start.minute, ci r1.1.stop.month, ci r1.1.stop.week, ci r1.1.stop.weekday, ci r1.1.stop.minute]] [([[pi p1.year, pi p1.month, pi p1.day, pi p1.hour, pi p1.minute, pi p1.second]] : List (List PV))[0]? = some [pi p1.year, pi p1.month, pi p1.day, pi p1.hour, pi p1.minute, pi p1.second]] (by kernel_rfl) (⟨rfl, trivial⟩) ?_
    refine XO.cal 45 [.ag [ci p1.year, ci p1.month, ci p1.day, ci p1.hour, ci p1.minute, ci p1.second]] (vi r2) [(19, vi r2), (2, .one (.pv (.rp [[pi p1.year, pi p1.month, pi p1.day, pi p1.hour, pi p1.minute, pi p1.second]] 0 0))), (6, .one (.pt 0 0 0 0)), (18, .ag [ci p1.year, ci p1.month, ci p1.day, ci p1.hour, ci p1.minute, ci p1.second])] (by kernel_rfl) (c_value_checkCivil _ _ c10) rfl rfl (by kernel_rfl) ?_
    refine XO.go [6] 1 [2,6,8] [] [(2, .one (.pv (.rp [[pi p1.year, pi p1.month, pi p1.day, pi p1.hour, pi p1.minute, pi p1.second]] 0 0))), (6, .one (.pt 0 0 0 0)), (8, vi r2)] [.box [cst r1.1.name, ci r1.1.offset, ci r1.1.summer, ci r1.1.start.month, ci r1.1.start.week, ci r1.1.start.weekday, ci r1.1.start.minute, ci r1.1.stop.month, ci r1.1.stop.week, ci r1.1.stop.weekday, ci r1.1.stop.minute]] [] (by kernel_rfl) trivial ?_
    refine XO.done (by kernel_rfl) ?_
    refine hK9 _ _ ?_
    refine XW.seq (x := cd Try.f19 [1,1,1,0,1,0]) (y := cd Try.f19 [1,1,1,0,1,1]) (by kernel_rfl) fun K11 hK11 => ?_
    refine XW.reg (by kernel_rfl) ?_
    refine XO.go [6] 2 [2,6,8,21] [] [(2, .one (.pv (.rp [[pi p1.year, pi p1.month, pi p1.day, pi p1.hour, pi p1.minute, pi p1.second]] 0 0))), (6, .one (.pt 0 0 0 0)), (8, vi r2), (21, vb (r2 != (0 : Int)))] [.box [cst r1.1.name, ci r1.1.offset, ci r1.1.summer, ci r1.1.start.month, ci r1.1.start.week, ci r1.1.start.weekday, ci r1.1.start.minute, ci r1.1.stop.month, ci r1.1.stop.week, ci r1.1.stop.weekday, ci r1.1.stop.minute]] [] (by kernel_rfl) trivial ?_
    refine XO.done (by kernel_rfl) ?_
    refine hK11 _ _ ?_
    refine XW.cond (x := .tmp 21) (a := cd Try.f19 [1,1,1,0,1,1,0]) (b := cd Try.f19 [1,1,1,0,1,1,1]) (t := (r2 != (0 : Int))) (by kernel_rfl) (by kernel_rfl) (fun b12 => ?_) (fun b12 => ?_)
    · have h := ift_t b12 h
      refine XW.seq (x := cd Try.f19 [1,1,1,0,1,1,0,0]) (y := cd Try.f19 [1,1,1,0,1,1,0,1]) (by kernel_rfl) fun K13 hK13 => ?_
      refine XW.reg (by kernel_rfl) ?_
      refine XO.go [6] 3 [4,5] [] [(4, vi (0 : Int)), (5, vi r2)] [.box [cst r1.1.name, ci r1.1.offset, ci r1.1.summer, ci r1.1.start.month, ci r1.1.start.week, ci r1.1.start.weekday, ci r1.1.start.minute, ci r1.1.stop.month, ci r1.1.stop.week, ci r1.1.stop.weekday, ci r1.1.stop.minute]] [] (by kernel_rfl) trivial ?_
      refine XO.done (by kernel_rfl) ?_
      refine hK13 _ _ ?_
      refine XW.ret (by kernel_rfl) ?_
      obtain rfl := Option.some.inj h
      exact FinP.fin (.inr rfl) [] [vi (0 : Int), vi r2] [] (by kernel_rfl) trivial (.tpc (.one (.rfl _ rfl)) (.tpc (.one (.rfl _ rfl)) (.tp0)))
    · have h := ift_f b12 h
      refine XW.skip (by kernel_rfl) ?_
      refine hK8 _ _ ?_
      refine XW.seq (x := cd Try.f19 [1,1,1,1,0]) (y := cd Try.f19 [1,1,1,1,1]) (by kernel_rfl) fun K14 hK14 => ?_
      obtain ⟨r3, c15, h⟩ := bnd_some h
      obtain ⟨y1, y16, h⟩ := bnd_some h
      refine XW.drwS 5 [(27, vi (IntKind.i64.wrap (r1.1.offset * (60 : Int)))), (26, vi r1.1.offset), (25, .one (.pt 0 0 0 1)), (24, vi r3), (23, .ag [ci p1.year, ci p1.month, ci p1.day, ci p1.hour, ci p1.minute, ci p1.second]), (2, .one (.pv (.rp [[pi p1.year, pi p1.month, pi p1.day, pi p1.hour, pi p1.minute, pi p1.second]] 0 0))), (6, .one (.pt 0 0 0 0)), (8, vi r2), (21, vb (r2 != (0 : Int)))] (by kernel_rfl) (by kernel_rfl) ?_ ?_
      · refine DX.go 1 [[pi p1.year, pi p1.month, pi p1.day, pi p1.hour, pi p1.minute, pi p1.second]] [(23, .ag [ci p1.year, ci p1.month, ci p1.day, ci p1.hour, ci p1.minute, ci p1.second]), (2, .one (.pv (.rp [[pi p1.year, pi p1.month, pi p1.day, pi p1.hour, pi p1.minute, pi p1.second]] 0 0))), (6, .one (.pt 0 0 0 0)), (8, vi r2), (21, vb (r2 != (0 : Int)))] [([[pi p1.year, pi p1.month, pi p1.day, pi p1.hour, pi p1.minute, pi p1.second]] : List (List PV))[0]? = some [pi p1.year, pi p1.month, pi p1.day, pi p1.hour, pi p1.minute, pi p1.second]] (by kernel_rfl) (⟨rfl, trivial⟩) ?_
        refine DX.cal 46 [.ag [ci p1.year, ci p1.month, ci p1.day, ci p1.hour, ci p1.minute, ci p1.second]] (vi r3) [(24, vi r3), (23, .ag [ci p1.year, ci p1.month, ci p1.day, ci p1.hour, ci p1.minute, ci p1.second]), (2, .one (.pv (.rp [[pi p1.year, pi p1.month, pi p1.day, pi p1.hour, pi p1.minute, pi p1.second]] 0 0))), (6, .one (.pt 0 0 0 0)), (8, vi r2), (21, vb (r2 != (0 : Int)))] (by kernel_rfl) (c_value_seconds _ _ c15) rfl rfl (by kernel_rfl) ?_
        refine DX.go 3 [] [(27, vi (IntKind.i64.wrap (r1.1.offset * (60 : Int)))), (26, vi r1.1.offset), (25, .one (.pt 0 0 0 1)), (24, vi r3), (23, .ag [ci p1.year, ci p1.month, ci p1.day, ci p1.hour, ci p1.minute, ci p1.second]), (2, .one (.pv (.rp [[pi p1.year, pi p1.month, pi p1.day, pi p1.hour, pi p1.minute, pi p1.second]] 0 0))), (6, .one (.pt 0 0 0 0)), (8, vi r2), (21, vb (r2 != (0 : Int)))] [] (by kernel_rfl) trivial ?_
        exact DX.done (by kernel_rfl)
      refine XO.go [6] 1 [2,6,28] [] [(2, .one (.pv (.rp [[pi p1.year, pi p1.month, pi p1.day, pi p1.hour, pi p1.minute, pi p1.second]] 0 0))), (6, .one (.pt 0 0 0 0)), (28, vi (IntKind.i64.wrap (r3 - (IntKind.i64.wrap (r1.1.offset * (60 : Int))))))] [.box [cst r1.1.name, ci r1.1.offset, ci r1.1.summer, ci r1.1.start.month, ci r1.1.start.week, ci r1.1.start.weekday, ci r1.1.start.minute, ci r1.1.stop.month, ci r1.1.stop.week, ci r1.1.stop.weekday, ci r1.1.stop.minute]] [] (by kernel_rfl) trivial ?_
      rw [show (IntKind.i64.wrap (r3 - (IntKind.i64.wrap (r1.1.offset * (60 : Int))))) = y1 from Option.some.inj y16]
      refine XO.go [6] 1 [2,6,9] [] [(2, .one (.pv (.rp [[pi p1.year, pi p1.month, pi p1.day, pi p1.hour, pi p1.minute, pi p1.second]] 0 0))), (6, .one (.pt 0 0 0 0)), (9, vi y1)] [.box [cst r1.1.name, ci r1.1.offset, ci r1.1.summer, ci r1.1.start.month, ci r1.1.start.week, ci r1.1.start.weekday, ci r1.1.start.minute, ci r1.1.stop.month, ci r1.1.stop.week, ci r1.1.stop.weekday, ci r1.1.stop.minute]] [] (by kernel_rfl) trivial ?_
      refine XO.done (by kernel_rfl) ?_
      refine hK14 _ _ ?_
      refine XW.seq (x := cd Try.f19 [1,1,1,1,1,0]) (y := cd Try.f19 [1,1,1,1,1,1]) (by kernel_rfl) fun K17 hK17 => ?_
      have hJ1 : ∀ (x1 : Int), value_Instant_j1 x1 = some r → ∀ fr1 st1, Sub 47 0 [] fr1 st1 [(9, vi x1)] [.box [cst r1.1.name, ci r1.1.offset, ci r1.1.summer, ci r1.1.start.month, ci r1.1.start.week, ci r1.1.start.weekday, ci r1.1.start.minute, ci r1.1.stop.month, ci r1.1.stop.week, ci r1.1.stop.weekday, ci r1.1.stop.minute]] → K17 fr1 st1 := by
        intro x1 h fr1 st1 hS
        unfold value_Instant_j1 at h
        refine hK17 _ _ (XW.sub hS ?_)
        refine XW.seq (x := cd Try.f19 [1,1,1,1,1,1,0]) (y := cd Try.f19 [1,1,1,1,1,1,1]) (by kernel_rfl) fun K24 hK24 => ?_
        refine XW.seq (x := cd Try.f19 [1,1,1,1,1,1,0,0]) (y := cd Try.f19 [1,1,1,1,1,1,0,1]) (by kernel_rfl) fun K25 hK25 => ?_
        obtain ⟨r6, c26, h⟩ := bnd_some h
        refine XW.reg (by kernel_rfl) ?_
        refine XO.go [6] 1 [9,43] [] [(9, vi x1), (43, vi x1)] [.box [cst r1.1.name, ci r1.1.offset, ci r1.1.summer, ci r1.1.start.month, ci r1.1.start.week, ci r1.1.start.weekday, ci r1.1.start.minute, ci r1.1.stop.month, ci r1.1.stop.week, ci r1.1.stop.weekday, ci r1.1.stop.minute]] [] (by kernel_rfl) trivial ?_
        refine XO.cal 42 [vi x1, vi (-62135596800 : Int), vi (253402300799 : Int)] (vb r6) [(44, vb r6), (9, vi x1), (43, vi x1)] (by kernel_rfl) (c_value_within _ _ _ _ c26) rfl rfl (by kernel_rfl) ?_
        refine XO.go [6] 1 [9,45] [] [(9, vi x1), (45, vb (!r6))] [.box [cst r1.1.name, ci r1.1.offset, ci r1.1.summer, ci r1.1.start.month, ci r1.1.start.week, ci r1.1.start.weekday, ci r1.1.start.minute, ci r1.1.stop.month, ci r1.1.stop.week, ci r1.1.stop.weekday, ci r1.1.stop.minute]] [] (by kernel_rfl) trivial ?_
        refine XO.done (by kernel_rfl) ?_
        refine hK25 _ _ ?_
        refine XW.cond (x := .tmp 45) (a := cd Try.f19 [1,1,1,1,1,1,0,1,0]) (b := cd Try.f19 [1,1,1,1,1,1,0,1,1]) (t := (!r6)) (by kernel_rfl) (by kernel_rfl) (fun b27 => ?_) (fun b27 => ?_)
        · have h := ift_t b27 h
          refine XW.seq (x := cd Try.f19 [1,1,1,1,1,1,0,1,0,0]) (y := cd Try.f19 [1,1,1,1,1,1,0,1,0,1]) (by kernel_rfl) fun K28 hK28 => ?_
          refine XW.reg (by kernel_rfl) ?_
          refine XO.go [6] 2 [4,5] [] [(4, vi (0 : Int)), (5, vi (3 : Int))] [.box [cst r1.1.name, ci r1.1.offset, ci r1.1.summer, ci r1.1.start.month, ci r1.1.start.week, ci r1.1.start.weekday, ci r1.1.start.minute, ci r1.1.stop.month, ci r1.1.stop.week, ci r1.1.stop.weekday, ci r1.1.stop.minute]] [] (by kernel_rfl) trivial ?_
          refine XO.done (by kernel_rfl) ?_
          refine hK28 _ _ ?_
          refine XW.ret (by kernel_rfl) ?_
          obtain rfl := Option.some.inj h
          exact FinP.fin (.inr rfl) [] [vi (0 : Int), vi (3 : Int)] [] (by kernel_rfl) trivial (.tpc (.one (.rfl _ rfl)) (.tpc (.one (.rfl _ rfl)) (.tp0)))
        · have h := ift_f b27 h
          refine XW.skip (by kernel_rfl) ?_
          refine hK24 _ _ ?_
          refine XW.seq (x := cd Try.f19 [1,1,1,1,1,1,1,0]) (y := cd Try.f19 [1,1,1,1,1,1,1,1]) (by kernel_rfl) fun K29 hK29 => ?_
          refine XW.reg (by kernel_rfl) ?_
          refine XO.go [6] 3 [4,5] [] [(4, vi x1), (5, vi (0 : Int))] [.box [cst r1.1.name, ci r1.1.offset, ci r1.1.summer, ci r1.1.start.month, ci r1.1.start.week, ci r1.1.start.weekday, ci r1.1.start.minute, ci r1.1.stop.month, ci r1.1.stop.week, ci r1.1.stop.weekday, ci r1.1.stop.minute]] [] (by kernel_rfl) trivial ?_
          refine XO.done (by kernel_rfl) ?_
          refine hK29 _ _ ?_
          refine XW.ret (by kernel_rfl) ?_
          obtain rfl := Option.some.inj h
          exact FinP.fin (.inr rfl) [] [vi x1, vi (0 : Int)] [] (by kernel_rfl) trivial (.tpc (.one (.rfl _ rfl)) (.tpc (.one (.rfl _ rfl)) (.tp0)))
      refine XW.seq (x := cd Try.f19 [1,1,1,1,1,0,0]) (y := cd Try.f19 [1,1,1,1,1,0,1]) (by kernel_rfl) fun K18 hK18 => ?_
      obtain ⟨y2, y19, h⟩ := bnd_some h
      refine XW.reg (by kernel_rfl) ?_
      refine XO.go [6] 5 [2,6,9,33] [] [(2, .one (.pv (.rp [[pi p1.year, pi p1.month, pi p1.day, pi p1.hour, pi p1.minute, pi p1.second]] 0 0))), (6, .one (.pt 0 0 0 0)), (9, vi y1), (33, vi (IntKind.i64.wrap (y1 - (IntKind.i64.wrap (r1.1.summer * (60 : Int))))))] [.box [cst r1.1.name, ci r1.1.offset, ci r1.1.summer, ci r1.1.start.month, ci r1.1.start.week, ci r1.1.start.weekday, ci r1.1.start.minute, ci r1.1.stop.month, ci r1.1.stop.week, ci r1.1.stop.weekday, ci r1.1.stop.minute]] [] (by kernel_rfl) trivial ?_
      rw [show (IntKind.i64.wrap (y1 - (IntKind.i64.wrap (r1.1.summer * (60 : Int))))) = y2 from Option.some.inj y19]
      refine XO.go [6] 1 [2,6,9,10] [] [(2, .one (.pv (.rp [[pi p1.year, pi p1.month, pi p1.day, pi p1.hour, pi p1.minute, pi p1.second]] 0 0))), (6, .one (.pt 0 0 0 0)), (9, vi y1), (10, vi y2)] [.box [cst r1.1.name, ci r1.1.offset, ci r1.1.summer, ci r1.1.start.month, ci r1.1.start.week, ci r1.1.start.weekday, ci r1.1.start.minute, ci r1.1.stop.month, ci r1.1.stop.week, ci r1.1.stop.weekday, ci r1.1.stop.minute]] [] (by kernel_rfl) trivial ?_
      refine XO.done (by kernel_rfl) ?_
      refine hK18 _ _ ?_
      refine XW.seq (x := cd Try.f19 [1,1,1,1,1,0,1,0]) (y := cd Try.f19 [1,1,1,1,1,0,1,1]) (by kernel_rfl) fun K20 hK20 => ?_
      obtain ⟨r4, c21, h⟩ := bnd_some h
      obtain ⟨r5, c22, h⟩ := bnd_some h
      refine XW.drwS 7 [(40, vi r5), (39, .ag [ci p1.year, ci p1.month, ci p1.day, ci p1.hour, ci p1.minute, ci p1.second]), (38, vi (IntKind.i64.wrap (y2 + r4))), (37, vi r4), (36, vi y2), (35, .ag [cst r1.1.name, ci r1.1.offset, ci r1.1.summer, ci r1.1.start.month, ci r1.1.start.week, ci r1.1.start.weekday, ci r1.1.start.minute, ci r1.1.stop.month, ci r1.1.stop.week, ci r1.1.stop.weekday, ci r1.1.stop.minute]), (34, vi y2), (2, .one (.pv (.rp [[pi p1.year, pi p1.month, pi p1.day, pi p1.hour, pi p1.minute, pi p1.second]] 0 0))), (6, .one (.pt 0 0 0 0)), (9, vi y1), (10, vi y2)] (by kernel_rfl) (by kernel_rfl) ?_ ?_
      · refine DX.go 3 [] [(36, vi y2), (35, .ag [cst r1.1.name, ci r1.1.offset, ci r1.1.summer, ci r1.1.start.month, ci r1.1.start.week, ci r1.1.start.weekday, ci r1.1.start.minute, ci r1.1.stop.month, ci r1.1.stop.week, ci r1.1.stop.weekday, ci r1.1.stop.minute]), (34, vi y2), (2, .one (.pv (.rp [[pi p1.year, pi p1.month, pi p1.day, pi p1.hour, pi p1.minute, pi p1.second]] 0 0))), (6, .one (.pt 0 0 0 0)), (9, vi y1), (10, vi y2)] [] (by kernel_rfl) trivial ?_
        refine DX.cal 44 [.ag [cst r1.1.name, ci r1.1.offset, ci r1.1.summer, ci r1.1.start.month, ci r1.1.start.week, ci r1.1.start.weekday, ci r1.1.start.minute, ci r1.1.stop.month, ci r1.1.stop.week, ci r1.1.stop.weekday, ci r1.1.stop.minute], vi y2] (vi r4) [(37, vi r4), (36, vi y2), (35, .ag [cst r1.1.name, ci r1.1.offset, ci r1.1.summer, ci r1.1.start.month, ci r1.1.start.week, ci r1.1.start.weekday, ci r1.1.start.minute, ci r1.1.stop.month, ci r1.1.stop.week, ci r1.1.stop.weekday, ci r1.1.stop.minute]), (34, vi y2), (2, .one (.pv (.rp [[pi p1.year, pi p1.month, pi p1.day, pi p1.hour, pi p1.minute, pi p1.second]] 0 0))), (6, .one (.pt 0 0 0 0)), (9, vi y1), (10, vi y2)] (by kernel_rfl) (c_value_ahead _ _ _ c21) rfl rfl (by kernel_rfl) ?_
        refine DX.go 2 [[pi p1.year, pi p1.month, pi p1.day, pi p1.hour, pi p1.minute, pi p1.second]] [(39, .ag [ci p1.year, ci p1.month, ci p1.day, ci p1.hour, ci p1.minute, ci p1.second]), (38, vi (IntKind.i64.wrap (y2 + r4))), (37, vi r4), (36, vi y2), (35, .ag [cst r1.1.name, ci r1.1.offset, ci r1.1.summer, ci r1.1.start.month, ci r1.1.start.week, ci r1.1.start.weekday, ci r1.1.start.minute, ci r1.1.stop.month, ci r1.1.stop.week, ci r1.1.stop.weekday, ci r1.1.stop.minute]), (34, vi y2), (2, .one (.pv (.rp [[pi p1.year, pi p1.month, pi p1.day, pi p1.hour, pi p1.minute, pi p1.second]] 0 0))), (6, .one (.pt 0 0 0 0)), (9, vi y1), (10, vi y2)] [([[pi p1.year, pi p1.month, pi p1.day, pi p1.hour, pi p1.minute, pi p1.second]] : List (List PV))[0]? = some [pi p1.year, pi p1.month, pi p1.day, pi p1.hour, pi p1.minute, pi p1.second]] (by kernel_rfl) (⟨rfl, trivial⟩) ?_
        refine DX.cal 46 [.ag [ci p1.year, ci p1.month, ci p1.day, ci p1.hour, ci p1.minute, ci p1.second]] (vi r5) [(40, vi r5), (39, .ag [ci p1.year, ci p1.month, ci p1.day, ci p1.hour, ci p1.minute, ci p1.second]), (38, vi (IntKind.i64.wrap (y2 + r4))), (37, vi r4), (36, vi y2), (35, .ag [cst r1.1.name, ci r1.1.offset, ci r1.1.summer, ci r1.1.start.month, ci r1.1.start.week, ci r1.1.start.weekday, ci r1.1.start.minute, ci r1.1.stop.month, ci r1.1.stop.week, ci r1.1.stop.weekday, ci r1.1.stop.minute]), (34, vi y2), (2, .one (.pv (.rp [[pi p1.year, pi p1.month, pi p1.day, pi p1.hour, pi p1.minute, pi p1.second]] 0 0))), (6, .one (.pt 0 0 0 0)), (9, vi y1), (10, vi y2)] (by kernel_rfl) (c_value_seconds _ _ c22) rfl rfl (by kernel_rfl) ?_
        exact DX.done (by kernel_rfl)
      refine XO.go [6] 1 [9,10,41] [] [(9, vi y1), (10, vi y2), (41, vb ((IntKind.i64.wrap (y2 + r4)) == r5))] [.box [cst r1.1.name, ci r1.1.offset, ci r1.1.summer, ci r1.1.start.month, ci r1.1.start.week, ci r1.1.start.weekday, ci r1.1.start.minute, ci r1.1.stop.month, ci r1.1.stop.week, ci r1.1.stop.weekday, ci r1.1.stop.minute]] [] (by kernel_rfl) trivial ?_
      refine XO.done (by kernel_rfl) ?_
      refine hK20 _ _ ?_
      refine XW.cond (x := .tmp 41) (a := cd Try.f19 [1,1,1,1,1,0,1,1,0]) (b := cd Try.f19 [1,1,1,1,1,0,1,1,1]) (t := ((IntKind.i64.wrap (y2 + r4)) == r5)) (by kernel_rfl) (by kernel_rfl) (fun b23 => ?_) (fun b23 => ?_)
      · have h := ift_t b23 h
        refine XW.reg (by kernel_rfl) ?_
        refine XO.go [6] 2 [9] [] [(9, vi y2)] [.box [cst r1.1.name, ci r1.1.offset, ci r1.1.summer, ci r1.1.start.month, ci r1.1.start.week, ci r1.1.start.weekday, ci r1.1.start.minute, ci r1.1.stop.month, ci r1.1.stop.week, ci r1.1.stop.weekday, ci r1.1.stop.minute]] [] (by kernel_rfl) trivial ?_
        refine XO.done (by kernel_rfl) ?_
        exact hJ1 y2 h _ _ (Sub.pick [9] (by kernel_rfl))
      · have h := ift_f b23 h
        refine XW.skip (by kernel_rfl) ?_
        exact hJ1 y1 h _ _ (Sub.pick [9] (by kernel_rfl))

def value_Trunc_j1 (p3 : ByteArray) (b1 : Int) (b2 : Int) (b3 : Int) (b4 : Int) (b5 : Int) (b6 : Int) : Option (Int × Int) :=
    bnd (value_Instant (GCivil.mk b1 b2 b3 b4 b5 b6) p3) fun r5 =>
    some (r5.1, r5.2)

def value_Trunc (p1 : Int) (p2 : Int) (p3 : ByteArray) : Option (Int × Int) :=
    bnd (value_Local p1 p3) fun r1 =>
    ift (r1.2 != (0 : Int))
      (some ((0 : Int), r1.2))
      (ift (p2 == (1 : Int))
         (value_Trunc_j1 p3 r1.1.year (1 : Int) (1 : Int) (0 : Int) (0 : Int) (0 : Int))
         (ift (p2 == (2 : Int))
            (value_Trunc_j1 p3 r1.1.year r1.1.month (1 : Int) (0 : Int) (0 : Int) (0 : Int))
            (ift (p2 == (3 : Int))
               (value_Trunc_j1 p3 r1.1.year r1.1.month r1.1.day (0 : Int) (0 : Int) (0 : Int))
               (ift (p2 == (4 : Int))
                  (value_Trunc_j1 p3 r1.1.year r1.1.month r1.1.day r1.1.hour (0 : Int) (0 : Int))
                  (ift (p2 == (5 : Int))
                     (value_Trunc_j1 p3 r1.1.year r1.1.month r1.1.day r1.1.hour r1.1.minute (0 : Int))
                     (ift (p2 == (6 : Int))
                        (value_Trunc_j1 p3 r1.1.year r1.1.month r1.1.day r1.1.hour r1.1.minute r1.1.second)
                        (ift (p2 == (7 : Int))
                           (bnd (value_days r1.1.year r1.1.month r1.1.day) fun r2 =>
                            bnd (value_weekday r2) fun r3 =>
                            bnd (some (IntKind.i64.wrap ((IntKind.i64.wrap ((IntKind.i64.wrap (r2 - r3)) + (1 : Int))) * (86400 : Int)))) fun y1 =>
                            bnd (value_civil y1) fun r4 =>
                            value_Trunc_j1 p3 r4.year r4.month r4.day r4.hour r4.minute r4.second)
                           (some ((0 : Int), (3 : Int))))))))))


theorem c_value_Trunc (p1 : Int) (p2 : Int) (p3 : ByteArray) (r : (Int × Int)) (h : value_Trunc p1 p2 p3 = some r) : PC Try.prog 20 [vi p1, vi p2, vs p3] (.tp [vi r.1, vi r.2]) := by
  unfold value_Trunc at h
  refine PC.of (n := 72) (fn := Try.f20) (c := cd Try.f20 []) (by kernel_rfl) (by kernel_rfl) (by kernel_rfl) (Nat.le_of_ble_eq_true rfl) ?_
  refine XW.seq (x := cd Try.f20 [0]) (y := cd Try.f20 [1]) (by kernel_rfl) fun K1 hK1 => ?_
  refine XW.reg (by kernel_rfl) ?_
  refine XO.go [8] 2 [0,1,2] [] [(0, vi p1), (1, vi p2), (2, vs p3)] [] [] (by kernel_rfl) trivial ?_
  refine XO.done (by kernel_rfl) ?_
  refine hK1 _ _ ?_
  refine XW.seq (x := cd Try.f20 [1,0]) (y := cd Try.f20 [1,1]) (by kernel_rfl) fun K2 hK2 => ?_
  obtain ⟨r1, c3, h⟩ := bnd_some h
  refine XW.reg (by kernel_rfl) ?_
  refine XO.go [8] 2 [1,2,12,13] [] [(1, vi p2), (2, vs p3), (12, vi p1), (13, vs p3)] [] [] (by kernel_rfl) trivial ?_
  refine XO.cal 18 [vi p1, vs p3] (.tp [.ag [ci r1.1.year, ci r1.1.month, ci r1.1.day, ci r1.1.hour, ci r1.1.minute, ci r1.1.second], vi r1.2]) [(14, .tp [.ag [ci r1.1.year, ci r1.1.month, ci r1.1.day, ci r1.1.hour, ci r1.1.minute, ci r1.1.second], vi r1.2]), (1, vi p2), (2, vs p3), (12, vi p1), (13, vs p3)] (by kernel_rfl) (c_value_Local _ _ _ c3) rfl rfl (by kernel_rfl) ?_
  refine XO.go [8] 6 [1,2,8,9] [] [(1, vi p2), (2, vs p3), (8, .one (.pt 0 0 0 0)), (9, vi r1.2)] [.box [ci r1.1.year, ci r1.1.month, ci r1.1.day, ci r1.1.hour, ci r1.1.minute, ci r1.1.second]] [] (by kernel_rfl) trivial ?_
  refine XO.done (by kernel_rfl) ?_
  refine hK2 _ _ ?_
  refine XW.seq (x := cd Try.f20 [1,1,0]) (y := cd Try.f20 [1,1,1]) (by kernel_rfl) fun K4 hK4 => ?_
  refine XW.seq (x := cd Try.f20 [1,1,0,0]) (y := cd Try.f20 [1,1,0,1]) (by kernel_rfl) fun K5 hK5 => ?_
  refine XW.reg (by kernel_rfl) ?_
  refine XO.go [8] 2 [1,2,8,9,18] [] [(1, vi p2), (2, vs p3), (8, .one (.pt 0 0 0 0)), (9, vi r1.2), (18, vb (r1.2 != (0 : Int)))] [.box [ci r1.1.year, ci r1.1.month, ci r1.1.day, ci r1.1.hour, ci r1.1.minute, ci r1.1.second]] [] (by kernel_rfl) trivial ?_
  refine XO.done (by kernel_rfl) ?_
  refine hK5 _ _ ?_
  refine XW.cond (x := .tmp 18) (a := cd Try.f20 [1,1,0,1,0]) (b := cd Try.f20 [1,1,0,1,1]) (t := (r1.2 != (0 : Int))) (by kernel_rfl) (by kernel_rfl) (fun b6 => ?_) (fun b6 => ?_)
  · have h := ift_t b6 h
    refine XW.seq (x := cd Try.f20 [1,1,0,1,0,0]) (y := cd Try.f20 [1,1,0,1,0,1]) (by kernel_rfl) fun K7 hK7 => ?_
    refine XW.reg (by kernel_rfl) ?_
    refine XO.go [8] 3 [6,7] [] [(6, vi (0 : Int)), (7, vi r1.2)] [.box [ci r1.1.year, ci r1.1.month, ci r1.1.day, ci r1.1.hour, ci r1.1.minute, ci r1.1.second]] [] (by kernel_rfl) trivial ?_
    refine XO.done (by kernel_rfl) ?_
    refine hK7 _ _ ?_
    refine XW.ret (by kernel_rfl) ?_
    obtain rfl := Option.some.inj h
    exact FinP.fin (.inr rfl) [] [vi (0 : Int), vi r1.2] [] (by kernel_rfl) trivial (.tpc (.one (.rfl _ rfl)) (.tpc (.one (.rfl _ rfl)) (.tp0)))
  · have h := ift_f b6 h
    refine XW.skip (by kernel_rfl) ?_
    refine hK4 _ _ ?_
    refine XW.seq (x := cd Try.f20 [1,1,1,0]) (y := cd Try.f20 [1,1,1,1]) (by kernel_rfl) fun K8 hK8 => ?_
    have hJ1 : ∀ (b1 : Int) (b2 : Int) (b3 : Int) (b4 : Int) (b5 : Int) (b6 : Int), value_Trunc_j1 p3 b1 b2 b3 b4 b5 b6 = some r → ∀ fr1 st1, Sub 72 0 [] fr1 st1 [(2, vs p3), (8, .one (.pt 0 0 0 0))] [.box [ci b1, ci b2, ci b3, ci b4, ci b5, ci b6]] → K8 fr1 st1 := by
      intro b1 b2 b3 b4 b5 b6 h fr1 st1 hS
      unfold value_Trunc_j1 at h
      refine hK8 _ _ (XW.sub hS ?_)
      refine XW.seq (x := cd Try.f20 [1,1,1,1,0]) (y := cd Try.f20 [1,1,1,1,1]) (by kernel_rfl) fun K30 hK30 => ?_
      obtain ⟨r5, c31, h⟩ := bnd_some h
      refine XW.reg (by kernel_rfl) ?_
      refine XO.go [8] 2 [67,68] [] [(67, .ag [ci b1, ci b2, ci b3, ci b4, ci b5, ci b6]), (68, vs p3)] [.box [ci b1, ci b2, ci b3, ci b4, ci b5, ci b6]] [] (by kernel_rfl) trivial ?_
      refine XO.cal 19 [.ag [ci b1, ci b2, ci b3, ci b4, ci b5, ci b6], vs p3] (.tp [vi r5.1, vi r5.2]) [(69, .tp [vi r5.1, vi r5.2]), (67, .ag [ci b1, ci b2, ci b3, ci b4, ci b5, ci b6]), (68, vs p3)] (by kernel_rfl) (c_value_Instant _ _ _ c31) rfl rfl (by kernel_rfl) ?_
      refine XO.go [8] 4 [6,7] [] [(6, vi r5.1), (7, vi r5.2)] [.box [ci b1, ci b2, ci b3, ci b4, ci b5, ci b6]] [] (by kernel_rfl) trivial ?_
      refine XO.done (by kernel_rfl) ?_
      refine hK30 _ _ ?_
      refine XW.ret (by kernel_rfl) ?_
      obtain rfl := Option.some.inj h
      exact FinP.fin (.inr rfl) [] [vi r5.1, vi r5.2] [] (by kernel_rfl) trivial (.tpc (.one (.rfl _ rfl)) (.tpc (.one (.rfl _ rfl)) (.tp0)))
    refine XW.seq (x := cd Try.f20 [1,1,1,0,0]) (y := cd Try.f20 [1,1,1,0,1]) (by kernel_rfl) fun K9 hK9 => ?_
    refine XW.reg (by kernel_rfl) ?_
    refine XO.go [8] 1 [2,8,20] [] [(2, vs p3), (8, .one (.pt 0 0 0 0)), (20, vi p2)] [.box [ci r1.1.year, ci r1.1.month, ci r1.1.day, ci r1.1.hour, ci r1.1.minute, ci r1.1.second]] [] (by kernel_rfl) trivial ?_
    refine XO.done (by kernel_rfl) ?_
    refine hK9 _ _ ?_
    refine XW.block (id := 0) (x := cd Try.f20 [1,1,1,0,1,0]) (by kernel_rfl) ?_
    refine XW.seq (x := cd Try.f20 [1,1,1,0,1,0,0]) (y := cd Try.f20 [1,1,1,0,1,0,1]) (by kernel_rfl) fun K10 hK10 => ?_
    refine XW.reg (by kernel_rfl) ?_
    refine XO.go [8] 2 [2,8,20,21] [] [(2, vs p3), (8, .one (.pt 0 0 0 0)), (20, vi p2), (21, vb (p2 == (1 : Int)))] [.box [ci r1.1.year, ci r1.1.month, ci r1.1.day, ci r1.1.hour, ci r1.1.minute, ci r1.1.second]] [] (by kernel_rfl) trivial ?_
    refine XO.done (by kernel_rfl) ?_
    refine hK10 _ _ ?_
    refine XW.cond (x := .tmp 21) (a := cd Try.f20 [1,1,1,0,1,0,1,0]) (b := cd Try.f20 [1,1,1,0,1,0,1,1]) (t := (p2 == (1 : Int))) (by kernel_rfl) (by kernel_rfl) (fun b11 => ?_) (fun b11 => ?_)
    · have h := ift_t b11 h
      refine XW.reg (by kernel_rfl) ?_
      refine XO.go [8] 4 [2,8] [] [(2, vs p3), (8, .one (.pt 0 0 0 0))] [.box [ci r1.1.year, ci (1 : Int), ci (1 : Int), ci (0 : Int), ci (0 : Int), ci (0 : Int)]] [] (by kernel_rfl) trivial ?_
      refine XO.done (by kernel_rfl) ?_
      exact hJ1 r1.1.year (1 : Int) (1 : Int) (0 : Int) (0 : Int) (0 : Int) h _ _ (Sub.pick [2,8] (by kernel_rfl))
    · have h := ift_f b11 h
      refine XW.seq (x := cd Try.f20 [1,1,1,0,1,0,1,1,0]) (y := cd Try.f20 [1,1,1,0,1,0,1,1,1]) (by kernel_rfl) fun K12 hK12 => ?_
      refine XW.reg (by kernel_rfl) ?_
      refine XO.go [8] 2 [2,8,20,26] [] [(2, vs p3), (8, .one (.pt 0 0 0 0)), (20, vi p2), (26, vb (p2 == (2 : Int)))] [.box [ci r1.1.year, ci r1.1.month, ci r1.1.day, ci r1.1.hour, ci r1.1.minute, ci r1.1.second]] [] (by kernel_rfl) trivial ?_
      refine XO.done (by kernel_rfl) ?_
      refine hK12 _ _ ?_
      refine XW.cond (x := .tmp 26) (a := cd Try.f20 [1,1,1,0,1,0,1,1,1,0]) (b := cd Try.f20 [1,1,1,0,1,0,1,1,1,1]) (t := (p2 == (2 : Int))) (by kernel_rfl) (by kernel_rfl) (fun b13 => ?_) (fun b13 => ?_)
      · have h := ift_t b13 h
        refine XW.reg (by kernel_rfl) ?_
        refine XO.go [8] 6 [2,8] [] [(2, vs p3), (8, .one (.pt 0 0 0 0))] [.box [ci r1.1.year, ci r1.1.month, ci (1 : Int), ci (0 : Int), ci (0 : Int), ci (0 : Int)]] [] (by kernel_rfl) trivial ?_
        refine XO.done (by kernel_rfl) ?_
        exact hJ1 r1.1.year r1.1.month (1 : Int) (0 : Int) (0 : Int) (0 : Int) h _ _ (Sub.pick [2,8] (by kernel_rfl))
      · have h := ift_f b13 h
        refine XW.seq (x := cd Try.f20 [1,1,1,0,1,0,1,1,1,1,0]) (y := cd Try.f20 [1,1,1,0,1,0,1,1,1,1,1]) (by kernel_rfl) fun K14 hK14 => ?_
        refine XW.reg (by kernel_rfl) ?_
        refine XO.go [8] 2 [2,8,20,33] [] [(2, vs p3), (8, .one (.pt 0 0 0 0)), (20, vi p2), (33, vb (p2 == (3 : Int)))] [.box [ci r1.1.year, ci r1.1.month, ci r1.1.day, ci r1.1.hour, ci r1.1.minute, ci r1.1.second]] [] (by kernel_rfl) trivial ?_
        refine XO.done (by kernel_rfl) ?_
        refine hK14 _ _ ?_
        refine XW.cond (x := .tmp 33) (a := cd Try.f20 [1,1,1,0,1,0,1,1,1,1,1,0]) (b := cd Try.f20 [1,1,1,0,1,0,1,1,1,1,1,1]) (t := (p2 == (3 : Int))) (by kernel_rfl) (by kernel_rfl) (fun b15 => ?_) (fun b15 => ?_)
        · have h := ift_t b15 h
          refine XW.reg (by kernel_rfl) ?_
          refine XO.go [8] 8 [2,8] [] [(2, vs p3), (8, .one (.pt 0 0 0 0))] [.box [ci r1.1.year, ci r1.1.month, ci r1.1.day, ci (0 : Int), ci (0 : Int), ci (0 : Int)]] [] (by kernel_rfl) trivial ?_
          refine XO.done (by kernel_rfl) ?_
          exact hJ1 r1.1.year r1.1.month r1.1.day (0 : Int) (0 : Int) (0 : Int) h _ _ (Sub.pick [2,8] (by kernel_rfl))
        · have h := ift_f b15 h
          refine XW.seq (x := cd Try.f20 [1,1,1,0,1,0,1,1,1,1,1,1,0]) (y := cd Try.f20 [1,1,1,0,1,0,1,1,1,1,1,1,1]) (by kernel_rfl) fun K16 hK16 => ?_
          refine XW.reg (by kernel_rfl) ?_
          refine XO.go [8] 2 [2,8,20,42] [] [(2, vs p3), (8, .one (.pt 0 0 0 0)), (20, vi p2), (42, vb (p2 == (4 : Int)))] [.box [ci r1.1.year, ci r1.1.month, ci r1.1.day, ci r1.1.hour, ci r1.1.minute, ci r1.1.second]] [] (by kernel_rfl) trivial ?_
          refine XO.done (by kernel_rfl) ?_
          refine hK16 _ _ ?_
          refine XW.cond (x := .tmp 42) (a := cd Try.f20 [1,1,1,0,1,0,1,1,1,1,1,1,1,0]) (b := cd Try.f20 [1,1,1,0,1,0,1,1,1,1,1,1,1,1]) (t := (p2 == (4 : Int))) (by kernel_rfl) (by kernel_rfl) (fun b17 => ?_) (fun b17 => ?_)
          · have h := ift_t b17 h
            refine XW.reg (by kernel_rfl) ?_
            refine XO.go [8] 4 [2,8] [] [(2, vs p3), (8, .one (.pt 0 0 0 0))] [.box [ci r1.1.year, ci r1.1.month, ci r1.1.day, ci r1.1.hour, ci (0 : Int), ci (0 : Int)]] [] (by kernel_rfl) trivial ?_
            refine XO.done (by kernel_rfl) ?_
            exact hJ1 r1.1.year r1.1.month r1.1.day r1.1.hour (0 : Int) (0 : Int) h _ _ (Sub.pick [2,8] (by kernel_rfl))
          · have h := ift_f b17 h
            refine XW.seq (x := cd Try.f20 [1,1,1,0,1,0,1,1,1,1,1,1,1,1,0]) (y := cd Try.f20 [1,1,1,0,1,0,1,1,1,1,1,1,1,1,1]) (by kernel_rfl) fun K18 hK18 => ?_
            refine XW.reg (by kernel_rfl) ?_
            refine XO.go [8] 2 [2,8,20,46] [] [(2, vs p3), (8, .one (.pt 0 0 0 0)), (20, vi p2), (46, vb (p2 == (5 : Int)))] [.box [ci r1.1.year, ci r1.1.month, ci r1.1.day, ci r1.1.hour, ci r1.1.minute, ci r1.1.second]] [] (by kernel_rfl) trivial ?_
            refine XO.done (by kernel_rfl) ?_
            refine hK18 _ _ ?_
            refine XW.cond (x := .tmp 46) (a := cd Try.f20 [1,1,1,0,1,0,1,1,1,1,1,1,1,1,1,0]) (b := cd Try.f20 [1,1,1,0,1,0,1,1,1,1,1,1,1,1,1,1]) (t := (p2 == (5 : Int))) (by kernel_rfl) (by kernel_rfl) (fun b19 => ?_) (fun b19 => ?_)
            · have h := ift_t b19 h
              refine XW.reg (by kernel_rfl) ?_
              refine XO.go [8] 2 [2,8] [] [(2, vs p3), (8, .one (.pt 0 0 0 0))] [.box [ci r1.1.year, ci r1.1.month, ci r1.1.day, ci r1.1.hour, ci r1.1.minute, ci (0 : Int)]] [] (by kernel_rfl) trivial ?_
              refine XO.done (by kernel_rfl) ?_
              exact hJ1 r1.1.year r1.1.month r1.1.day r1.1.hour r1.1.minute (0 : Int) h _ _ (Sub.pick [2,8] (by kernel_rfl))
            · have h := ift_f b19 h
              refine XW.seq (x := cd Try.f20 [1,1,1,0,1,0,1,1,1,1,1,1,1,1,1,1,0]) (y := cd Try.f20 [1,1,1,0,1,0,1,1,1,1,1,1,1,1,1,1,1]) (by kernel_rfl) fun K20 hK20 => ?_
              refine XW.reg (by kernel_rfl) ?_
              refine XO.go [8] 2 [2,8,20,49] [] [(2, vs p3), (8, .one (.pt 0 0 0 0)), (20, vi p2), (49, vb (p2 == (6 : Int)))] [.box [ci r1.1.year, ci r1.1.month, ci r1.1.day, ci r1.1.hour, ci r1.1.minute, ci r1.1.second]] [] (by kernel_rfl) trivial ?_
              refine XO.done (by kernel_rfl) ?_
              refine hK20 _ _ ?_
              refine XW.cond (x := .tmp 49) (a := cd Try.f20 [1,1,1,0,1,0,1,1,1,1,1,1,1,1,1,1,1,0]) (b := cd Try.f20 [1,1,1,0,1,0,1,1,1,1,1,1,1,1,1,1,1,1]) (t := (p2 == (6 : Int))) (by kernel_rfl) (by kernel_rfl) (fun b21 => ?_) (fun b21 => ?_)
              · have h := ift_t b21 h
                refine XW.skip (by kernel_rfl) ?_
                exact hJ1 r1.1.year r1.1.month r1.1.day r1.1.hour r1.1.minute r1.1.second h _ _ (Sub.pick [2,8] (by kernel_rfl))
              · have h := ift_f b21 h
                refine XW.seq (x := cd Try.f20 [1,1,1,0,1,0,1,1,1,1,1,1,1,1,1,1,1,1,0]) (y := cd Try.f20 [1,1,1,0,1,0,1,1,1,1,1,1,1,1,1,1,1,1,1]) (by kernel_rfl) fun K22 hK22 => ?_
                refine XW.reg (by kernel_rfl) ?_
                refine XO.go [8] 2 [2,8,51] [] [(2, vs p3), (8, .one (.pt 0 0 0 0)), (51, vb (p2 == (7 : Int)))] [.box [ci r1.1.year, ci r1.1.month, ci r1.1.day, ci r1.1.hour, ci r1.1.minute, ci r1.1.second]] [] (by kernel_rfl) trivial ?_
                refine XO.done (by kernel_rfl) ?_
                refine hK22 _ _ ?_
                refine XW.cond (x := .tmp 51) (a := cd Try.f20 [1,1,1,0,1,0,1,1,1,1,1,1,1,1,1,1,1,1,1,0]) (b := cd Try.f20 [1,1,1,0,1,0,1,1,1,1,1,1,1,1,1,1,1,1,1,1]) (t := (p2 == (7 : Int))) (by kernel_rfl) (by kernel_rfl) (fun b23 => ?_) (fun b23 => ?_)
                · have h := ift_t b23 h
                  refine XW.seq (x := cd Try.f20 [1,1,1,0,1,0,1,1,1,1,1,1,1,1,1,1,1,1,1,0,0]) (y := cd Try.f20 [1,1,1,0,1,0,1,1,1,1,1,1,1,1,1,1,1,1,1,0,1]) (by kernel_rfl) fun K24 hK24 => ?_
                  obtain ⟨r2, c25, h⟩ := bnd_some h
                  refine XW.reg (by kernel_rfl) ?_
                  refine XO.go [8] 6 [2,8,54,56,58] [] [(2, vs p3), (8, .one (.pt 0 0 0 0)), (54, vi r1.1.year), (56, vi r1.1.month), (58, vi r1.1.day)] [.box [ci r1.1.year, ci r1.1.month, ci r1.1.day, ci r1.1.hour, ci r1.1.minute, ci r1.1.second]] [] (by kernel_rfl) trivial ?_
                  refine XO.cal 47 [vi r1.1.year, vi r1.1.month, vi r1.1.day] (vi r2) [(59, vi r2), (2, vs p3), (8, .one (.pt 0 0 0 0)), (54, vi r1.1.year), (56, vi r1.1.month), (58, vi r1.1.day)] (by kernel_rfl) (c_value_days _ _ _ _ c25) rfl rfl (by kernel_rfl) ?_
                  refine XO.go [8] 1 [2,8,10] [] [(2, vs p3), (8, .one (.pt 0 0 0 0)), (10, vi r2)] [.box [ci r1.1.year, ci r1.1.month, ci r1.1.day, ci r1.1.hour, ci r1.1.minute, ci r1.1.second]] [] (by kernel_rfl) trivial ?_
                  refine XO.done (by kernel_rfl) ?_
                  refine hK24 _ _ ?_
                  obtain ⟨r3, c26, h⟩ := bnd_some h
                  obtain ⟨y1, y27, h⟩ := bnd_some h
                  obtain ⟨r4, c28, h⟩ := bnd_some h
                  refine XW.reg (by kernel_rfl) ?_
                  refine XO.go [8] 2 [2,8,60,61] [] [(2, vs p3), (8, .one (.pt 0 0 0 0)), (60, vi r2), (61, vi r2)] [.box [ci r1.1.year, ci r1.1.month, ci r1.1.day, ci r1.1.hour, ci r1.1.minute, ci r1.1.second]] [] (by kernel_rfl) trivial ?_
                  refine XO.cal 48 [vi r2] (vi r3) [(62, vi r3), (2, vs p3), (8, .one (.pt 0 0 0 0)), (60, vi r2), (61, vi r2)] (by kernel_rfl) (c_value_weekday _ _ c26) rfl rfl (by kernel_rfl) ?_
                  refine XO.go [8] 3 [2,8,65] [] [(2, vs p3), (8, .one (.pt 0 0 0 0)), (65, vi (IntKind.i64.wrap ((IntKind.i64.wrap ((IntKind.i64.wrap (r2 - r3)) + (1 : Int))) * (86400 : Int))))] [.box [ci r1.1.year, ci r1.1.month, ci r1.1.day, ci r1.1.hour, ci r1.1.minute, ci r1.1.second]] [] (by kernel_rfl) trivial ?_
                  rw [show (IntKind.i64.wrap ((IntKind.i64.wrap ((IntKind.i64.wrap (r2 - r3)) + (1 : Int))) * (86400 : Int))) = y1 from Option.some.inj y27]
                  refine XO.cal 43 [vi y1] (.ag [ci r4.year, ci r4.month, ci r4.day, ci r4.hour, ci r4.minute, ci r4.second]) [(66, .ag [ci r4.year, ci r4.month, ci r4.day, ci r4.hour, ci r4.minute, ci r4.second]), (2, vs p3), (8, .one (.pt 0 0 0 0)), (65, vi y1)] (by kernel_rfl) (c_value_civil _ _ c28) rfl rfl (by kernel_rfl) ?_
                  refine XO.go [8] 1 [2,8] [] [(2, vs p3), (8, .one (.pt 0 0 0 0))] [.box [ci r4.year, ci r4.month, ci r4.day, ci r4.hour, ci r4.minute, ci r4.second]] [] (by kernel_rfl) trivial ?_
                  refine XO.done (by kernel_rfl) ?_
                  exact hJ1 r4.year r4.month r4.day r4.hour r4.minute r4.second h _ _ (Sub.pick [2,8] (by kernel_rfl))
                · have h := ift_f b23 h
                  refine XW.seq (x := cd Try.f20 [1,1,1,0,1,0,1,1,1,1,1,1,1,1,1,1,1,1,1,1,0]) (y := cd Try.f20 [1,1,1,0,1,0,1,1,1,1,1,1,1,1,1,1,1,1,1,1,1]) (by kernel_rfl) fun K29 hK29 => ?_
                  refine XW.reg (by kernel_rfl) ?_
                  refine XO.go [8] 2 [6,7] [] [(6, vi (0 : Int)), (7, vi (3 : Int))] [.box [ci r1.1.year, ci r1.1.month, ci r1.1.day, ci r1.1.hour, ci r1.1.minute, ci r1.1.second]] [] (by kernel_rfl) trivial ?_
                  refine XO.done (by kernel_rfl) ?_
                  refine hK29 _ _ ?_
                  refine XW.ret (by kernel_rfl) ?_
                  obtain rfl := Option.some.inj h
                  exact FinP.fin (.inr rfl) [] [vi (0 : Int), vi (3 : Int)] [] (by kernel_rfl) trivial (.tpc (.one (.rfl _ rfl)) (.tpc (.one (.rfl _ rfl)) (.tp0)))

def ref1_zoneOf_j1 : Option (GZone × Bool) :=
    some ((GZone.mk ByteArray.empty (0 : Int) (0 : Int) (GTurn.mk (0 : Int) (0 : Int) (0 : Int) (0 : Int)) (GTurn.mk (0 : Int) (0 : Int) (0 : Int) (0 : Int))), false)

def ref1_zoneOf_l1 (p1 : ByteArray) (r1 : (List GZone)) : Nat → Int → Option (GZone × Bool)
  | 0, _ => none
  | k1 + 1, x1 =>
    ift (decide (x1 < (r1.length : Int)))
      (bnd (at? r1 x1) fun e1 =>
       ift (e1.name.toList == p1.toList)
         (some (e1, true))
         ((ref1_zoneOf_l1 p1 r1 k1) (IntKind.i64.wrap (x1 + (1 : Int)))))
      (ref1_zoneOf_j1)

def ref1_zoneOf (p1 : ByteArray) : Option (GZone × Bool) :=
    bnd (api_Zones) fun r1 =>
    ref1_zoneOf_l1 p1 r1 BIG (0 : Int)


theorem c_ref1_zoneOf (p1 : ByteArray) (r : (GZone × Bool)) (h : ref1_zoneOf p1 = some r) : PC Try.prog 57 [vs p1] (.tp [.ag [cst r.1.name, ci r.1.offset, ci r.1.summer, ci r.1.start.month, ci r.1.start.week, ci r.1.start.weekday, ci r.1.start.minute, ci r.1.stop.month, ci r.1.stop.week, ci r.1.stop.weekday, ci r.1.stop.minute], vb r.2]) := by
  unfold ref1_zoneOf at h
  refine PC.of (n := 25) (fn := Try.f57) (c := cd Try.f57 []) (by kernel_rfl) (by kernel_rfl) (by kernel_rfl) (Nat.le_of_ble_eq_true rfl) ?_
  refine XW.seq (x := cd Try.f57 [0]) (y := cd Try.f57 [1]) (by kernel_rfl) fun K1 hK1 => ?_
  refine XW.reg (by kernel_rfl) ?_
  refine XO.go [2] 2 [0,2] [] [(0, vs p1), (2, .one (.pt 0 0 0 0))] [.box [cst ByteArray.empty, ci (0 : Int), ci (0 : Int), ci (0 : Int), ci (0 : Int), ci (0 : Int), ci (0 : Int), ci (0 : Int), ci (0 : Int), ci (0 : Int), ci (0 : Int)]] [] (by kernel_rfl) trivial ?_
  refine XO.done (by kernel_rfl) ?_
  refine hK1 _ _ ?_
  refine XW.seq (x := cd Try.f57 [1,0]) (y := cd Try.f57 [1,1]) (by kernel_rfl) fun K2 hK2 => ?_
  obtain ⟨r1, c3, h⟩ := bnd_some h
  refine XW.reg (by kernel_rfl) ?_
  refine XO.cal 77 [] (vl eZone r1) [(6, vl eZone r1), (0, vs p1), (2, .one (.pt 0 0 0 0))] (by kernel_rfl) (c_api_Zones _ c3) rfl rfl (by kernel_rfl) ?_
  refine XO.go [2] 1 [0,2,4] [] [(0, vs p1), (2, .one (.pt 0 0 0 0)), (4, vl eZone r1)] [.box [cst ByteArray.empty, ci (0 : Int), ci (0 : Int), ci (0 : Int), ci (0 : Int), ci (0 : Int), ci (0 : Int), ci (0 : Int), ci (0 : Int), ci (0 : Int), ci (0 : Int)]] [] (by kernel_rfl) trivial ?_
  refine XO.done (by kernel_rfl) ?_
  refine hK2 _ _ ?_
  refine XW.seq (x := cd Try.f57 [1,1,0]) (y := cd Try.f57 [1,1,1]) (by kernel_rfl) fun K4 hK4 => ?_
  have hJ1 : ∀ (_ : Unit), ref1_zoneOf_j1 = some r → ∀ fr1 st1, Sub 25 0 [] fr1 st1 [(2, .one (.pt 0 0 0 0))] [.box [cst ByteArray.empty, ci (0 : Int), ci (0 : Int), ci (0 : Int), ci (0 : Int), ci (0 : Int), ci (0 : Int), ci (0 : Int), ci (0 : Int), ci (0 : Int), ci (0 : Int)]] → K4 fr1 st1 := by
    intro _ h fr1 st1 hS
    unfold ref1_zoneOf_j1 at h
    refine hK4 _ _ (XW.sub hS ?_)
    refine XW.seq (x := cd Try.f57 [1,1,1,0]) (y := cd Try.f57 [1,1,1,1]) (by kernel_rfl) fun K15 hK15 => ?_
    refine XW.reg (by kernel_rfl) ?_
    refine XO.go [2] 3 [2,3] [] [(2, .one (.pt 0 0 0 0)), (3, vb false)] [.box [cst ByteArray.empty, ci (0 : Int), ci (0 : Int), ci (0 : Int), ci (0 : Int), ci (0 : Int), ci (0 : Int), ci (0 : Int), ci (0 : Int), ci (0 : Int), ci (0 : Int)]] [] (by kernel_rfl) trivial ?_
    refine XO.done (by kernel_rfl) ?_
    refine hK15 _ _ ?_
    refine XW.ret (by kernel_rfl) ?_
    obtain rfl := Option.some.inj h
    exact FinP.fin (.inr rfl) [] [.ag [cst ByteArray.empty, ci (0 : Int), ci (0 : Int), ci (0 : Int), ci (0 : Int), ci (0 : Int), ci (0 : Int), ci (0 : Int), ci (0 : Int), ci (0 : Int), ci (0 : Int)], vb false] [] (by kernel_rfl) trivial (.tpc (.ag (.cons (.rfl _ rfl) (.cons (.rfl _ rfl) (.cons (.rfl _ rfl) (.cons (.rfl _ rfl) (.cons (.rfl _ rfl) (.cons (.rfl _ rfl) (.cons (.rfl _ rfl) (.cons (.rfl _ rfl) (.cons (.rfl _ rfl) (.cons (.rfl _ rfl) (.cons (.rfl _ rfl) .nil)))))))))))) (.tpc (.one (.rfl _ rfl)) (.tp0)))
  refine XW.seq (x := cd Try.f57 [1,1,0,0]) (y := cd Try.f57 [1,1,0,1]) (by kernel_rfl) fun K5 hK5 => ?_
  refine XW.reg (by kernel_rfl) ?_
  refine XO.go [2] 2 [0,2,4,8] [] [(0, vs p1), (2, .one (.pt 0 0 0 0)), (4, vl eZone r1), (8, vi ((eZone.els r1).length : Int))] [.box [cst ByteArray.empty, ci (0 : Int), ci (0 : Int), ci (0 : Int), ci (0 : Int), ci (0 : Int), ci (0 : Int), ci (0 : Int), ci (0 : Int), ci (0 : Int), ci (0 : Int)]] [] (by kernel_rfl) trivial ?_
  rw [eZone.len r1]
  refine XO.go [2] 1 [0,2,4,8,9] [] [(0, vs p1), (2, .one (.pt 0 0 0 0)), (4, vl eZone r1), (8, vi (r1.length : Int)), (9, vi (0 : Int))] [.box [cst ByteArray.empty, ci (0 : Int), ci (0 : Int), ci (0 : Int), ci (0 : Int), ci (0 : Int), ci (0 : Int), ci (0 : Int), ci (0 : Int), ci (0 : Int), ci (0 : Int)]] [] (by kernel_rfl) trivial ?_
  refine XO.done (by kernel_rfl) ?_
  refine hK5 _ _ ?_
  refine XW.block (id := 0) (x := cd Try.f57 [1,1,0,1,0]) (by kernel_rfl) ?_
  refine XW.rounds' BIG (x := cd Try.f57 [1,1,0,1,0,0]) (by kernel_rfl) fun Q1 hQ1 => ?_
  have hL1 : ∀ (k1 : Nat) (x1 : Int), ref1_zoneOf_l1 p1 r1 k1 x1 = some r → XR Try.prog 25 0 [] (cd Try.f57 [1,1,0,1,0,0]) Q1 k1 [(0, vs p1), (2, .one (.pt 0 0 0 0)), (4, vl eZone r1), (8, vi (r1.length : Int)), (9, vi x1)] [.box [cst ByteArray.empty, ci (0 : Int), ci (0 : Int), ci (0 : Int), ci (0 : Int), ci (0 : Int), ci (0 : Int), ci (0 : Int), ci (0 : Int), ci (0 : Int), ci (0 : Int)]] := by
    intro k1
    induction k1 with
    | zero => intro x1 h; rw [ref1_zoneOf_l1.eq_1] at h; cases h
    | succ k1 ih1 =>
      intro x1 h
      rw [ref1_zoneOf_l1.eq_2] at h
      refine XW.seq (x := cd Try.f57 [1,1,0,1,0,0,0]) (y := cd Try.f57 [1,1,0,1,0,0,1]) (by kernel_rfl) fun K6 hK6 => ?_
      refine XW.reg (by kernel_rfl) ?_
      refine XO.go [2] 1 [0,2,4,8,9,10] [] [(0, vs p1), (2, .one (.pt 0 0 0 0)), (4, vl eZone r1), (8, vi (r1.length : Int)), (9, vi x1), (10, vb (decide (x1 < (r1.length : Int))))] [.box [cst ByteArray.empty, ci (0 : Int), ci (0 : Int), ci (0 : Int), ci (0 : Int), ci (0 : Int), ci (0 : Int), ci (0 : Int), ci (0 : Int), ci (0 : Int), ci (0 : Int)]] [] (by kernel_rfl) trivial ?_
      refine XO.done (by kernel_rfl) ?_
      refine hK6 _ _ ?_
      refine XW.seq (x := cd Try.f57 [1,1,0,1,0,0,1,0]) (y := cd Try.f57 [1,1,0,1,0,0,1,1]) (by kernel_rfl) fun K7 hK7 => ?_
      refine XW.cond (x := .tmp 10) (a := cd Try.f57 [1,1,0,1,0,0,1,0,0]) (b := cd Try.f57 [1,1,0,1,0,0,1,0,1]) (t := (decide (x1 < (r1.length : Int)))) (by kernel_rfl) (by kernel_rfl) (fun b8 => ?_) (fun b8 => ?_)
      · have h := ift_t b8 h
        refine XW.skip (by kernel_rfl) ?_
        refine hK7 _ _ ?_
        refine XW.seq (x := cd Try.f57 [1,1,0,1,0,0,1,1,0]) (y := cd Try.f57 [1,1,0,1,0,0,1,1,1]) (by kernel_rfl) fun K9 hK9 => ?_
        refine XW.block (id := 1) (x := cd Try.f57 [1,1,0,1,0,0,1,1,0,0]) (by kernel_rfl) ?_
        refine XW.seq (x := cd Try.f57 [1,1,0,1,0,0,1,1,0,0,0]) (y := cd Try.f57 [1,1,0,1,0,0,1,1,0,0,1]) (by kernel_rfl) fun K10 hK10 => ?_
        refine XW.reg (by kernel_rfl) ?_
        refine XO.go [2] 2 [0,2,4,5,8,9] [] [(0, vs p1), (2, .one (.pt 0 0 0 0)), (4, vl eZone r1), (5, vi x1), (8, vi (r1.length : Int)), (9, vi x1)] [.box [cst ByteArray.empty, ci (0 : Int), ci (0 : Int), ci (0 : Int), ci (0 : Int), ci (0 : Int), ci (0 : Int), ci (0 : Int), ci (0 : Int), ci (0 : Int), ci (0 : Int)]] [] (by kernel_rfl) trivial ?_
        refine XO.done (by kernel_rfl) ?_
        refine hK10 _ _ ?_
        refine XW.seq (x := cd Try.f57 [1,1,0,1,0,0,1,1,0,0,1,0]) (y := cd Try.f57 [1,1,0,1,0,0,1,1,0,0,1,1]) (by kernel_rfl) fun K11 hK11 => ?_
        obtain ⟨e1, a12, h⟩ := bnd_some h
        refine XW.reg (by kernel_rfl) ?_
        refine XO.go [2] 7 [0,2,4,5,8,9,18] [[.s (.string e1.name), pi e1.offset, pi e1.summer, pi e1.start.month, pi e1.start.week, pi e1.start.weekday, pi e1.start.minute, pi e1.stop.month, pi e1.stop.week, pi e1.stop.weekday, pi e1.stop.minute]] [(0, vs p1), (2, .one (.pt 0 0 0 0)), (4, vl eZone r1), (5, vi x1), (8, vi (r1.length : Int)), (9, vi x1), (18, vb (e1.name.toList == p1.toList))] [.box [cst ByteArray.empty, ci (0 : Int), ci (0 : Int), ci (0 : Int), ci (0 : Int), ci (0 : Int), ci (0 : Int), ci (0 : Int), ci (0 : Int), ci (0 : Int), ci (0 : Int)]] [0 ≤ x1 ∧ x1 < ((eZone.els r1).length : Int) ∧ elemsOk 11 (eZone.els r1), (eZone.els r1)[x1.toNat]? = some [.s (.string e1.name), pi e1.offset, pi e1.summer, pi e1.start.month, pi e1.start.week, pi e1.start.weekday, pi e1.start.minute, pi e1.stop.month, pi e1.stop.week, pi e1.stop.weekday, pi e1.stop.minute]] (by kernel_rfl) (⟨eZone.inb a12, (eZone.get a12), trivial⟩) ?_
        refine XO.done (by kernel_rfl) ?_
        refine hK11 _ _ ?_
        refine XW.cond (x := .tmp 18) (a := cd Try.f57 [1,1,0,1,0,0,1,1,0,0,1,1,0]) (b := cd Try.f57 [1,1,0,1,0,0,1,1,0,0,1,1,1]) (t := (e1.name.toList == p1.toList)) (by kernel_rfl) (by kernel_rfl) (fun b13 => ?_) (fun b13 => ?_)
        · have h := ift_t b13 h
          refine XW.seq (x := cd Try.f57 [1,1,0,1,0,0,1,1,0,0,1,1,0,0]) (y := cd Try.f57 [1,1,0,1,0,0,1,1,0,0,1,1,0,1]) (by kernel_rfl) fun K14 hK14 => ?_
          refine XW.reg (by kernel_rfl) ?_
          refine XO.go [2] 6 [2,3] [[.s (.string e1.name), pi e1.offset, pi e1.summer, pi e1.start.month, pi e1.start.week, pi e1.start.weekday, pi e1.start.minute, pi e1.stop.month, pi e1.stop.week, pi e1.stop.weekday, pi e1.stop.minute]] [(2, .one (.pt 0 0 0 0)), (3, vb true)] [.box [cst e1.name, ci e1.offset, ci e1.summer, ci e1.start.month, ci e1.start.week, ci e1.start.weekday, ci e1.start.minute, ci e1.stop.month, ci e1.stop.week, ci e1.stop.weekday, ci e1.stop.minute]] [0 ≤ x1 ∧ x1 < ((eZone.els r1).length : Int) ∧ elemsOk 11 (eZone.els r1), (eZone.els r1)[x1.toNat]? = some [.s (.string e1.name), pi e1.offset, pi e1.summer, pi e1.start.month, pi e1.start.week, pi e1.start.weekday, pi e1.start.minute, pi e1.stop.month, pi e1.stop.week, pi e1.stop.weekday, pi e1.stop.minute]] (by kernel_rfl) (⟨eZone.inb a12, (eZone.get a12), trivial⟩) ?_
          refine XO.done (by kernel_rfl) ?_
          refine hK14 _ _ ?_
          refine XW.ret (by kernel_rfl) ?_
          refine hQ1 _ _ _ ?_
          obtain rfl := Option.some.inj h
          exact FinP.fin (.inr rfl) [] [.ag [cst e1.name, ci e1.offset, ci e1.summer, ci e1.start.month, ci e1.start.week, ci e1.start.weekday, ci e1.start.minute, ci e1.stop.month, ci e1.stop.week, ci e1.stop.weekday, ci e1.stop.minute], vb true] [] (by kernel_rfl) trivial (.tpc (.ag (.cons (.rfl _ rfl) (.cons (.rfl _ rfl) (.cons (.rfl _ rfl) (.cons (.rfl _ rfl) (.cons (.rfl _ rfl) (.cons (.rfl _ rfl) (.cons (.rfl _ rfl) (.cons (.rfl _ rfl) (.cons (.rfl _ rfl) (.cons (.rfl _ rfl) (.cons (.rfl _ rfl) .nil)))))))))))) (.tpc (.one (.rfl _ rfl)) (.tp0)))
        · have h := ift_f b13 h
          refine XW.skip (by kernel_rfl) ?_
          refine hK9 _ _ ?_
          refine XW.reg (by kernel_rfl) ?_
          refine XO.go [2] 2 [0,2,4,8,9] [] [(0, vs p1), (2, .one (.pt 0 0 0 0)), (4, vl eZone r1), (8, vi (r1.length : Int)), (9, vi (IntKind.i64.wrap (x1 + (1 : Int))))] [.box [cst ByteArray.empty, ci (0 : Int), ci (0 : Int), ci (0 : Int), ci (0 : Int), ci (0 : Int), ci (0 : Int), ci (0 : Int), ci (0 : Int), ci (0 : Int), ci (0 : Int)]] [] (by kernel_rfl) trivial ?_
          refine XO.done (by kernel_rfl) ?_
          exact XR.sub (Sub.pick [0,2,4,8,9] (by kernel_rfl)) (ih1 (IntKind.i64.wrap (x1 + (1 : Int))) h)
      · have h := ift_f b8 h
        refine XW.exit (id := 0) (by kernel_rfl) ?_
        refine hQ1 _ _ _ ?_
        exact hJ1 () h _ _ (Sub.pick [2] (by kernel_rfl))
  exact XR.sub (Sub.pick [0,2,4,8,9] (by kernel_rfl)) (hL1 BIG (0 : Int) h)

def ref1_within_j1 (x1 : Bool) : Option Bool :=
    some x1

def ref1_within (p1 : Int) (p2 : Int) (p3 : Int) : Option Bool :=
    ift (decide (p2 ≤ p1))
      (ref1_within_j1 (decide (p1 ≤ p3)))
      (ref1_within_j1 false)


theorem c_ref1_within (p1 : Int) (p2 : Int) (p3 : Int) (r : Bool) (h : ref1_within p1 p2 p3 = some r) : PC Try.prog 58 [vi p1, vi p2, vi p3] (vb r) := by
  unfold ref1_within at h
  refine PC.of (n := 15) (fn := Try.f58) (c := cd Try.f58 []) (by kernel_rfl) (by kernel_rfl) (by kernel_rfl) (Nat.le_of_ble_eq_true rfl) ?_
  refine XW.seq (x := cd Try.f58 [0]) (y := cd Try.f58 [1]) (by kernel_rfl) fun K1 hK1 => ?_
  refine XW.reg (by kernel_rfl) ?_
  refine XO.go [] 1 [0,1,2] [] [(0, vi p1), (1, vi p2), (2, vi p3)] [] [] (by kernel_rfl) trivial ?_
  refine XO.done (by kernel_rfl) ?_
  refine hK1 _ _ ?_
  refine XW.seq (x := cd Try.f58 [1,0]) (y := cd Try.f58 [1,1]) (by kernel_rfl) fun K2 hK2 => ?_
  have hJ1 : ∀ (x1 : Bool), ref1_within_j1 x1 = some r → ∀ fr1 st1, Sub 15 0 [] fr1 st1 [(6, vb x1)] [] → K2 fr1 st1 := by
    intro x1 h fr1 st1 hS
    unfold ref1_within_j1 at h
    refine hK2 _ _ (XW.sub hS ?_)
    refine XW.ret (by kernel_rfl) ?_
    obtain rfl := Option.some.inj h
    exact FinP.fin (.inr rfl) [] [vb x1] [] (by kernel_rfl) trivial (.one (.rfl _ rfl))
  rcases Bool.eq_false_or_eq_true (decide (p2 ≤ p1)) with b3 | b3
  · have h := ift_t b3 h
    refine XW.reg (by kernel_rfl) ?_
    refine XO.go [] 4 [0,2,10] [] [(0, vi p1), (2, vi p3), (10, vb (decide (p2 ≤ p1)))] [] [] (by kernel_rfl) trivial ?_
    refine XO.setb 10 true (B := (decide (p2 ≤ p1))) rfl b3 ?_
    refine XO.go [] 5 [6] [] [(6, vb (decide (p1 ≤ p3)))] [] [] (by kernel_rfl) trivial ?_
    refine XO.done (by kernel_rfl) ?_
    exact hJ1 (decide (p1 ≤ p3)) h _ _ (Sub.pick [6] (by kernel_rfl))
  · have h := ift_f b3 h
    refine XW.reg (by kernel_rfl) ?_
    refine XO.go [] 4 [0,2,10] [] [(0, vi p1), (2, vi p3), (10, vb (decide (p2 ≤ p1)))] [] [] (by kernel_rfl) trivial ?_
    refine XO.setb 10 false (B := (decide (p2 ≤ p1))) rfl b3 ?_
    refine XO.go [] 5 [6] [] [(6, vb false)] [] [] (by kernel_rfl) trivial ?_
    refine XO.done (by kernel_rfl) ?_
    exact hJ1 false h _ _ (Sub.pick [6] (by kernel_rfl))

def ref1_yearStart_j1 (x1 : Int) : Option Int :=
    some (IntKind.i64.wrap (x1 - (719528 : Int)))

def ref1_yearStart (p1 : Int) : Option Int :=
    ift (decide ((0 : Int) < p1))
      (bnd (some (IntKind.i64.wrap ((IntKind.i64.wrap (p1 - (1 : Int))).tdiv (4 : Int)))) fun y1 =>
       bnd (some (IntKind.i64.wrap ((IntKind.i64.wrap (p1 - (1 : Int))).tdiv (100 : Int)))) fun y2 =>
       bnd (some (IntKind.i64.wrap ((IntKind.i64.wrap (p1 - (1 : Int))).tdiv (400 : Int)))) fun y3 =>
       bnd (some (IntKind.i64.wrap ((IntKind.i64.wrap ((IntKind.i64.wrap (y1 - y2)) + y3)) + (1 : Int)))) fun y4 =>
       ref1_yearStart_j1 (IntKind.i64.wrap ((IntKind.i64.wrap ((365 : Int) * p1)) + y4)))
      (ref1_yearStart_j1 (IntKind.i64.wrap ((365 : Int) * p1)))


theorem c_ref1_yearStart (p1 : Int) (r : Int) (h : ref1_yearStart p1 = some r) : PC Try.prog 65 [vi p1] (vi r) := by
  unfold ref1_yearStart at h
  refine PC.of (n := 24) (fn := Try.f65) (c := cd Try.f65 []) (by kernel_rfl) (by kernel_rfl) (by kernel_rfl) (Nat.le_of_ble_eq_true rfl) ?_
  refine XW.seq (x := cd Try.f65 [0]) (y := cd Try.f65 [1]) (by kernel_rfl) fun K1 hK1 => ?_
  refine XW.reg (by kernel_rfl) ?_
  refine XO.go [] 1 [0] [] [(0, vi p1)] [] [] (by kernel_rfl) trivial ?_
  refine XO.done (by kernel_rfl) ?_
  refine hK1 _ _ ?_
  refine XW.seq (x := cd Try.f65 [1,0]) (y := cd Try.f65 [1,1]) (by kernel_rfl) fun K2 hK2 => ?_
  refine XW.reg (by kernel_rfl) ?_
  refine XO.go [] 3 [0,3] [] [(0, vi p1), (3, vi (IntKind.i64.wrap ((365 : Int) * p1)))] [] [] (by kernel_rfl) trivial ?_
  refine XO.done (by kernel_rfl) ?_
  refine hK2 _ _ ?_
  refine XW.seq (x := cd Try.f65 [1,1,0]) (y := cd Try.f65 [1,1,1]) (by kernel_rfl) fun K3 hK3 => ?_
  have hJ1 : ∀ (x1 : Int), ref1_yearStart_j1 x1 = some r → ∀ fr1 st1, Sub 24 0 [] fr1 st1 [(3, vi x1)] [] → K3 fr1 st1 := by
    intro x1 h fr1 st1 hS
    unfold ref1_yearStart_j1 at h
    refine hK3 _ _ (XW.sub hS ?_)
    refine XW.seq (x := cd Try.f65 [1,1,1,0]) (y := cd Try.f65 [1,1,1,1]) (by kernel_rfl) fun K10 hK10 => ?_
    refine XW.reg (by kernel_rfl) ?_
    refine XO.go [] 3 [2] [] [(2, vi (IntKind.i64.wrap (x1 - (719528 : Int))))] [] [] (by kernel_rfl) trivial ?_
    refine XO.done (by kernel_rfl) ?_
    refine hK10 _ _ ?_
    refine XW.ret (by kernel_rfl) ?_
    obtain rfl := Option.some.inj h
    exact FinP.fin (.inr rfl) [] [vi (IntKind.i64.wrap (x1 - (719528 : Int)))] [] (by kernel_rfl) trivial (.one (.rfl _ rfl))
  refine XW.seq (x := cd Try.f65 [1,1,0,0]) (y := cd Try.f65 [1,1,0,1]) (by kernel_rfl) fun K4 hK4 => ?_
  refine XW.reg (by kernel_rfl) ?_
  refine XO.go [] 2 [0,3,7] [] [(0, vi p1), (3, vi (IntKind.i64.wrap ((365 : Int) * p1))), (7, vb (decide ((0 : Int) < p1)))] [] [] (by kernel_rfl) trivial ?_
  refine XO.done (by kernel_rfl) ?_
  refine hK4 _ _ ?_
  refine XW.cond (x := .tmp 7) (a := cd Try.f65 [1,1,0,1,0]) (b := cd Try.f65 [1,1,0,1,1]) (t := (decide ((0 : Int) < p1))) (by kernel_rfl) (by kernel_rfl) (fun b5 => ?_) (fun b5 => ?_)
  · have h := ift_t b5 h
    obtain ⟨y1, y6, h⟩ := bnd_some h
    obtain ⟨y2, y7, h⟩ := bnd_some h
    obtain ⟨y3, y8, h⟩ := bnd_some h
    obtain ⟨y4, y9, h⟩ := bnd_some h
    refine XW.reg (by kernel_rfl) ?_
    refine XO.go [] 4 [0,8,11] [] [(0, vi p1), (8, vi (IntKind.i64.wrap ((365 : Int) * p1))), (11, vi (IntKind.i64.wrap ((IntKind.i64.wrap (p1 - (1 : Int))).tdiv (4 : Int))))] [] [(4 : Int) ≠ 0] (by kernel_rfl) (⟨by decide, trivial⟩) ?_
    rw [show (IntKind.i64.wrap ((IntKind.i64.wrap (p1 - (1 : Int))).tdiv (4 : Int))) = y1 from Option.some.inj y6]
    refine XO.go [] 3 [0,8,11,14] [] [(0, vi p1), (8, vi (IntKind.i64.wrap ((365 : Int) * p1))), (11, vi y1), (14, vi (IntKind.i64.wrap ((IntKind.i64.wrap (p1 - (1 : Int))).tdiv (100 : Int))))] [] [(100 : Int) ≠ 0] (by kernel_rfl) (⟨by decide, trivial⟩) ?_
    rw [show (IntKind.i64.wrap ((IntKind.i64.wrap (p1 - (1 : Int))).tdiv (100 : Int))) = y2 from Option.some.inj y7]
    refine XO.go [] 4 [8,15,18] [] [(8, vi (IntKind.i64.wrap ((365 : Int) * p1))), (15, vi (IntKind.i64.wrap (y1 - y2))), (18, vi (IntKind.i64.wrap ((IntKind.i64.wrap (p1 - (1 : Int))).tdiv (400 : Int))))] [] [(400 : Int) ≠ 0] (by kernel_rfl) (⟨by decide, trivial⟩) ?_
    rw [show (IntKind.i64.wrap ((IntKind.i64.wrap (p1 - (1 : Int))).tdiv (400 : Int))) = y3 from Option.some.inj y8]
    refine XO.go [] 2 [8,20] [] [(8, vi (IntKind.i64.wrap ((365 : Int) * p1))), (20, vi (IntKind.i64.wrap ((IntKind.i64.wrap ((IntKind.i64.wrap (y1 - y2)) + y3)) + (1 : Int))))] [] [] (by kernel_rfl) trivial ?_
    rw [show (IntKind.i64.wrap ((IntKind.i64.wrap ((IntKind.i64.wrap (y1 - y2)) + y3)) + (1 : Int))) = y4 from Option.some.inj y9]
    refine XO.go [] 2 [3] [] [(3, vi (IntKind.i64.wrap ((IntKind.i64.wrap ((365 : Int) * p1)) + y4)))] [] [] (by kernel_rfl) trivial ?_
    refine XO.done (by kernel_rfl) ?_
    exact hJ1 (IntKind.i64.wrap ((IntKind.i64.wrap ((365 : Int) * p1)) + y4)) h _ _ (Sub.pick [3] (by kernel_rfl))
  · have h := ift_f b5 h
    refine XW.skip (by kernel_rfl) ?_
    exact hJ1 (IntKind.i64.wrap ((365 : Int) * p1)) h _ _ (Sub.pick [3] (by kernel_rfl))

def ref1_floor_j2 (x2 : Int) : Option Int :=
    some x2

def ref1_floor_j1 (p1 : Int) (p2 : Int) (x1 : Bool) : Option Int :=
    ift x1
      (ref1_floor_j2 (IntKind.i64.wrap ((IntKind.i64.wrap (p1.tdiv p2)) - (1 : Int))))
      (ref1_floor_j2 (IntKind.i64.wrap (p1.tdiv p2)))

def ref1_floor (p1 : Int) (p2 : Int) : Option Int :=
    grd (p2 ≠ 0) <|
    grd (p2 ≠ 0) <|
    ift ((p1.tmod p2) != (0 : Int))
      (ref1_floor_j1 p1 p2 (!((decide (p1 < (0 : Int))) == (decide (p2 < (0 : Int))))))
      (ref1_floor_j1 p1 p2 false)


theorem c_ref1_floor (p1 : Int) (p2 : Int) (r : Int) (h : ref1_floor p1 p2 = some r) : PC Try.prog 68 [vi p1, vi p2] (vi r) := by
  unfold ref1_floor at h
  refine PC.of (n := 23) (fn := Try.f68) (c := cd Try.f68 []) (by kernel_rfl) (by kernel_rfl) (by kernel_rfl) (Nat.le_of_ble_eq_true rfl) ?_
  refine XW.seq (x := cd Try.f68 [0]) (y := cd Try.f68 [1]) (by kernel_rfl) fun K1 hK1 => ?_
  refine XW.reg (by kernel_rfl) ?_
  refine XO.go [] 1 [0,1] [] [(0, vi p1), (1, vi p2)] [] [] (by kernel_rfl) trivial ?_
  refine XO.done (by kernel_rfl) ?_
  refine hK1 _ _ ?_
  refine XW.seq (x := cd Try.f68 [1,0]) (y := cd Try.f68 [1,1]) (by kernel_rfl) fun K2 hK2 => ?_
  obtain ⟨g3, h⟩ := grd_some h
  refine XW.reg (by kernel_rfl) ?_
  refine XO.go [] 4 [0,1,5] [] [(0, vi p1), (1, vi p2), (5, vi (IntKind.i64.wrap (p1.tdiv p2)))] [] [p2 ≠ 0] (by kernel_rfl) (⟨g3, trivial⟩) ?_
  refine XO.done (by kernel_rfl) ?_
  refine hK2 _ _ ?_
  refine XW.seq (x := cd Try.f68 [1,1,0]) (y := cd Try.f68 [1,1,1]) (by kernel_rfl) fun K4 hK4 => ?_
  have hJ2 : ∀ (x2 : Int), ref1_floor_j2 x2 = some r → ∀ fr1 st1, Sub 23 0 [] fr1 st1 [(5, vi x2)] [] → K4 fr1 st1 := by
    intro x2 h fr1 st1 hS
    unfold ref1_floor_j2 at h
    refine hK4 _ _ (XW.sub hS ?_)
    refine XW.seq (x := cd Try.f68 [1,1,1,0]) (y := cd Try.f68 [1,1,1,1]) (by kernel_rfl) fun K9 hK9 => ?_
    refine XW.reg (by kernel_rfl) ?_
    refine XO.go [] 2 [4] [] [(4, vi x2)] [] [] (by kernel_rfl) trivial ?_
    refine XO.done (by kernel_rfl) ?_
    refine hK9 _ _ ?_
    refine XW.ret (by kernel_rfl) ?_
    obtain rfl := Option.some.inj h
    exact FinP.fin (.inr rfl) [] [vi x2] [] (by kernel_rfl) trivial (.one (.rfl _ rfl))
  refine XW.seq (x := cd Try.f68 [1,1,0,0]) (y := cd Try.f68 [1,1,0,1]) (by kernel_rfl) fun K5 hK5 => ?_
  have hJ1 : ∀ (x1 : Bool), ref1_floor_j1 p1 p2 x1 = some r → ∀ fr1 st1, Sub 23 0 [] fr1 st1 [(5, vi (IntKind.i64.wrap (p1.tdiv p2))), (19, vb x1)] [] → K5 fr1 st1 := by
    intro x1 h fr1 st1 hS
    unfold ref1_floor_j1 at h
    refine hK5 _ _ (XW.sub hS ?_)
    refine XW.cond (x := .tmp 19) (a := cd Try.f68 [1,1,0,1,0]) (b := cd Try.f68 [1,1,0,1,1]) (t := x1) (by kernel_rfl) (by kernel_rfl) (fun b8 => ?_) (fun b8 => ?_)
    · have h := ift_t b8 h
      refine XW.reg (by kernel_rfl) ?_
      refine XO.go [] 3 [5] [] [(5, vi (IntKind.i64.wrap ((IntKind.i64.wrap (p1.tdiv p2)) - (1 : Int))))] [] [] (by kernel_rfl) trivial ?_
      refine XO.done (by kernel_rfl) ?_
      exact hJ2 (IntKind.i64.wrap ((IntKind.i64.wrap (p1.tdiv p2)) - (1 : Int))) h _ _ (Sub.pick [5] (by kernel_rfl))
    · have h := ift_f b8 h
      refine XW.skip (by kernel_rfl) ?_
      exact hJ2 (IntKind.i64.wrap (p1.tdiv p2)) h _ _ (Sub.pick [5] (by kernel_rfl))
  obtain ⟨g6, h⟩ := grd_some h
  rcases Bool.eq_false_or_eq_true ((p1.tmod p2) != (0 : Int)) with b7 | b7
  · have h := ift_t b7 h
    refine XW.reg (by kernel_rfl) ?_
    refine XO.go [] 5 [0,1,5,13] [] [(0, vi p1), (1, vi p2), (5, vi (IntKind.i64.wrap (p1.tdiv p2))), (13, vb ((p1.tmod p2) != (0 : Int)))] [] [p2 ≠ 0] (by kernel_rfl) (⟨g6, trivial⟩) ?_
    refine XO.setb 13 true (B := ((p1.tmod p2) != (0 : Int))) rfl b7 ?_
    refine XO.go [] 6 [5,19] [] [(5, vi (IntKind.i64.wrap (p1.tdiv p2))), (19, vb (!((decide (p1 < (0 : Int))) == (decide (p2 < (0 : Int))))))] [] [] (by kernel_rfl) trivial ?_
    refine XO.done (by kernel_rfl) ?_
    exact hJ1 (!((decide (p1 < (0 : Int))) == (decide (p2 < (0 : Int))))) h _ _ (Sub.pick [5,19] (by kernel_rfl))
  · have h := ift_f b7 h
    refine XW.reg (by kernel_rfl) ?_
    refine XO.go [] 5 [0,1,5,13] [] [(0, vi p1), (1, vi p2), (5, vi (IntKind.i64.wrap (p1.tdiv p2))), (13, vb ((p1.tmod p2) != (0 : Int)))] [] [p2 ≠ 0] (by kernel_rfl) (⟨g6, trivial⟩) ?_
    refine XO.setb 13 false (B := ((p1.tmod p2) != (0 : Int))) rfl b7 ?_
    refine XO.go [] 6 [5,19] [] [(5, vi (IntKind.i64.wrap (p1.tdiv p2))), (19, vb false)] [] [] (by kernel_rfl) trivial ?_
    refine XO.done (by kernel_rfl) ?_
    exact hJ1 false h _ _ (Sub.pick [5,19] (by kernel_rfl))

def ref1_leap_j1 (x1 : Bool) : Option Bool :=
    some x1

def ref1_leap (p1 : Int) : Option Bool :=
    ift ((p1.tmod (4 : Int)) == (0 : Int))
      (ift ((p1.tmod (100 : Int)) != (0 : Int))
         (ref1_leap_j1 true)
         (ref1_leap_j1 ((p1.tmod (400 : Int)) == (0 : Int))))
      (ref1_leap_j1 false)


theorem c_ref1_leap (p1 : Int) (r : Bool) (h : ref1_leap p1 = some r) : PC Try.prog 93 [vi p1] (vb r) := by
  unfold ref1_leap at h
  refine PC.of (n := 16) (fn := Try.f93) (c := cd Try.f93 []) (by kernel_rfl) (by kernel_rfl) (by kernel_rfl) (Nat.le_of_ble_eq_true rfl) ?_
  refine XW.seq (x := cd Try.f93 [0]) (y := cd Try.f93 [1]) (by kernel_rfl) fun K1 hK1 => ?_
  refine XW.reg (by kernel_rfl) ?_
  refine XO.go [] 1 [0] [] [(0, vi p1)] [] [] (by kernel_rfl) trivial ?_
  refine XO.done (by kernel_rfl) ?_
  refine hK1 _ _ ?_
  refine XW.seq (x := cd Try.f93 [1,0]) (y := cd Try.f93 [1,1]) (by kernel_rfl) fun K2 hK2 => ?_
  have hJ1 : ∀ (x1 : Bool), ref1_leap_j1 x1 = some r → ∀ fr1 st1, Sub 16 0 [] fr1 st1 [(2, vb x1)] [] → K2 fr1 st1 := by
    intro x1 h fr1 st1 hS
    unfold ref1_leap_j1 at h
    refine hK2 _ _ (XW.sub hS ?_)
    refine XW.ret (by kernel_rfl) ?_
    obtain rfl := Option.some.inj h
    exact FinP.fin (.inr rfl) [] [vb x1] [] (by kernel_rfl) trivial (.one (.rfl _ rfl))
  rcases Bool.eq_false_or_eq_true ((p1.tmod (4 : Int)) == (0 : Int)) with b3 | b3
  · have h := ift_t b3 h
    rcases Bool.eq_false_or_eq_true ((p1.tmod (100 : Int)) != (0 : Int)) with b4 | b4
    · have h := ift_t b4 h
      refine XW.reg (by kernel_rfl) ?_
      refine XO.go [] 4 [0,6] [] [(0, vi p1), (6, vb ((p1.tmod (4 : Int)) == (0 : Int)))] [] [(4 : Int) ≠ 0] (by kernel_rfl) (⟨by decide, trivial⟩) ?_
      refine XO.setb 6 true (B := ((p1.tmod (4 : Int)) == (0 : Int))) rfl b3 ?_
      refine XO.go [] 4 [0,6,10] [] [(0, vi p1), (6, vb true), (10, vb ((p1.tmod (100 : Int)) != (0 : Int)))] [] [(100 : Int) ≠ 0] (by kernel_rfl) (⟨by decide, trivial⟩) ?_
      refine XO.setb 10 true (B := ((p1.tmod (100 : Int)) != (0 : Int))) rfl b4 ?_
      refine XO.go [] 6 [2] [] [(2, vb true)] [] [] (by kernel_rfl) trivial ?_
      refine XO.done (by kernel_rfl) ?_
      exact hJ1 true h _ _ (Sub.pick [2] (by kernel_rfl))
    · have h := ift_f b4 h
      refine XW.reg (by kernel_rfl) ?_
      refine XO.go [] 4 [0,6] [] [(0, vi p1), (6, vb ((p1.tmod (4 : Int)) == (0 : Int)))] [] [(4 : Int) ≠ 0] (by kernel_rfl) (⟨by decide, trivial⟩) ?_
      refine XO.setb 6 true (B := ((p1.tmod (4 : Int)) == (0 : Int))) rfl b3 ?_
      refine XO.go [] 4 [0,6,10] [] [(0, vi p1), (6, vb true), (10, vb ((p1.tmod (100 : Int)) != (0 : Int)))] [] [(100 : Int) ≠ 0] (by kernel_rfl) (⟨by decide, trivial⟩) ?_
      refine XO.setb 10 false (B := ((p1.tmod (100 : Int)) != (0 : Int))) rfl b4 ?_
      refine XO.go [] 6 [2] [] [(2, vb ((p1.tmod (400 : Int)) == (0 : Int)))] [] [(400 : Int) ≠ 0] (by kernel_rfl) (⟨by decide, trivial⟩) ?_
      refine XO.done (by kernel_rfl) ?_
      exact hJ1 ((p1.tmod (400 : Int)) == (0 : Int)) h _ _ (Sub.pick [2] (by kernel_rfl))
  · have h := ift_f b3 h
    refine XW.reg (by kernel_rfl) ?_
    refine XO.go [] 4 [0,6] [] [(0, vi p1), (6, vb ((p1.tmod (4 : Int)) == (0 : Int)))] [] [(4 : Int) ≠ 0] (by kernel_rfl) (⟨by decide, trivial⟩) ?_
    refine XO.setb 6 false (B := ((p1.tmod (4 : Int)) == (0 : Int))) rfl b3 ?_
    refine XO.go [] 10 [2] [] [(2, vb false)] [] [] (by kernel_rfl) trivial ?_
    refine XO.done (by kernel_rfl) ?_
    exact hJ1 false h _ _ (Sub.pick [2] (by kernel_rfl))

def ref1_MonthDays_j1 (x1 : Bool) : Option Int :=
    ift x1
      (some (30 : Int))
      (some (31 : Int))

def ref1_MonthDays (p1 : Int) (p2 : Int) : Option Int :=
    ift (p2 == (2 : Int))
      (bnd (ref1_leap p1) fun r1 =>
       ift r1
         (some (29 : Int))
         (some (28 : Int)))
      (ift (p2 == (4 : Int))
         (ref1_MonthDays_j1 (p2 == (4 : Int)))
         (ift (p2 == (6 : Int))
            (ref1_MonthDays_j1 (p2 == (6 : Int)))
            (ift (p2 == (9 : Int))
               (ref1_MonthDays_j1 (p2 == (9 : Int)))
               (ref1_MonthDays_j1 (p2 == (11 : Int))))))


theorem c_ref1_MonthDays (p1 : Int) (p2 : Int) (r : Int) (h : ref1_MonthDays p1 p2 = some r) : PC Try.prog 69 [vi p1, vi p2] (vi r) := by
  unfold ref1_MonthDays at h
  refine PC.of (n := 15) (fn := Try.f69) (c := cd Try.f69 []) (by kernel_rfl) (by kernel_rfl) (by kernel_rfl) (Nat.le_of_ble_eq_true rfl) ?_
  refine XW.seq (x := cd Try.f69 [0]) (y := cd Try.f69 [1]) (by kernel_rfl) fun K1 hK1 => ?_
  refine XW.reg (by kernel_rfl) ?_
  refine XO.go [] 1 [0,1] [] [(0, vi p1), (1, vi p2)] [] [] (by kernel_rfl) trivial ?_
  refine XO.done (by kernel_rfl) ?_
  refine hK1 _ _ ?_
  refine XW.seq (x := cd Try.f69 [1,0]) (y := cd Try.f69 [1,1]) (by kernel_rfl) fun K2 hK2 => ?_
  refine XW.seq (x := cd Try.f69 [1,0,0]) (y := cd Try.f69 [1,0,1]) (by kernel_rfl) fun K3 hK3 => ?_
  refine XW.reg (by kernel_rfl) ?_
  refine XO.go [] 1 [0,5] [] [(0, vi p1), (5, vi p2)] [] [] (by kernel_rfl) trivial ?_
  refine XO.done (by kernel_rfl) ?_
  refine hK3 _ _ ?_
  refine XW.block (id := 0) (x := cd Try.f69 [1,0,1,0]) (by kernel_rfl) ?_
  refine XW.seq (x := cd Try.f69 [1,0,1,0,0]) (y := cd Try.f69 [1,0,1,0,1]) (by kernel_rfl) fun K4 hK4 => ?_
  refine XW.reg (by kernel_rfl) ?_
  refine XO.go [] 2 [0,5,6] [] [(0, vi p1), (5, vi p2), (6, vb (p2 == (2 : Int)))] [] [] (by kernel_rfl) trivial ?_
  refine XO.done (by kernel_rfl) ?_
  refine hK4 _ _ ?_
  refine XW.cond (x := .tmp 6) (a := cd Try.f69 [1,0,1,0,1,0]) (b := cd Try.f69 [1,0,1,0,1,1]) (t := (p2 == (2 : Int))) (by kernel_rfl) (by kernel_rfl) (fun b5 => ?_) (fun b5 => ?_)
  · have h := ift_t b5 h
    refine XW.seq (x := cd Try.f69 [1,0,1,0,1,0,0]) (y := cd Try.f69 [1,0,1,0,1,0,1]) (by kernel_rfl) fun K6 hK6 => ?_
    refine XW.seq (x := cd Try.f69 [1,0,1,0,1,0,0,0]) (y := cd Try.f69 [1,0,1,0,1,0,0,1]) (by kernel_rfl) fun K7 hK7 => ?_
    obtain ⟨r1, c8, h⟩ := bnd_some h
    refine XW.reg (by kernel_rfl) ?_
    refine XO.go [] 1 [8] [] [(8, vi p1)] [] [] (by kernel_rfl) trivial ?_
    refine XO.cal 93 [vi p1] (vb r1) [(9, vb r1), (8, vi p1)] (by kernel_rfl) (c_ref1_leap _ _ c8) rfl rfl (by kernel_rfl) ?_
    refine XO.done (by kernel_rfl) ?_
    refine hK7 _ _ ?_
    refine XW.cond (x := .tmp 9) (a := cd Try.f69 [1,0,1,0,1,0,0,1,0]) (b := cd Try.f69 [1,0,1,0,1,0,0,1,1]) (t := r1) (by kernel_rfl) (by kernel_rfl) (fun b9 => ?_) (fun b9 => ?_)
    · have h := ift_t b9 h
      refine XW.seq (x := cd Try.f69 [1,0,1,0,1,0,0,1,0,0]) (y := cd Try.f69 [1,0,1,0,1,0,0,1,0,1]) (by kernel_rfl) fun K10 hK10 => ?_
      refine XW.reg (by kernel_rfl) ?_
      refine XO.go [] 1 [4] [] [(4, vi (29 : Int))] [] [] (by kernel_rfl) trivial ?_
      refine XO.done (by kernel_rfl) ?_
      refine hK10 _ _ ?_
      refine XW.ret (by kernel_rfl) ?_
      obtain rfl := Option.some.inj h
      exact FinP.fin (.inr rfl) [] [vi (29 : Int)] [] (by kernel_rfl) trivial (.one (.rfl _ rfl))
    · have h := ift_f b9 h
      refine XW.skip (by kernel_rfl) ?_
      refine hK6 _ _ ?_
      refine XW.seq (x := cd Try.f69 [1,0,1,0,1,0,1,0]) (y := cd Try.f69 [1,0,1,0,1,0,1,1]) (by kernel_rfl) fun K11 hK11 => ?_
      refine XW.reg (by kernel_rfl) ?_
      refine XO.go [] 1 [4] [] [(4, vi (28 : Int))] [] [] (by kernel_rfl) trivial ?_
      refine XO.done (by kernel_rfl) ?_
      refine hK11 _ _ ?_
      refine XW.ret (by kernel_rfl) ?_
      obtain rfl := Option.some.inj h
      exact FinP.fin (.inr rfl) [] [vi (28 : Int)] [] (by kernel_rfl) trivial (.one (.rfl _ rfl))
  · have h := ift_f b5 h
    refine XW.seq (x := cd Try.f69 [1,0,1,0,1,1,0]) (y := cd Try.f69 [1,0,1,0,1,1,1]) (by kernel_rfl) fun K12 hK12 => ?_
    have hJ1 : ∀ (x1 : Bool), ref1_MonthDays_j1 x1 = some r → ∀ fr1 st1, Sub 15 0 [] fr1 st1 [(10, vb x1)] [] → K12 fr1 st1 := by
      intro x1 h fr1 st1 hS
      unfold ref1_MonthDays_j1 at h
      refine hK12 _ _ (XW.sub hS ?_)
      refine XW.cond (x := .tmp 10) (a := cd Try.f69 [1,0,1,0,1,1,1,0]) (b := cd Try.f69 [1,0,1,0,1,1,1,1]) (t := x1) (by kernel_rfl) (by kernel_rfl) (fun b19 => ?_) (fun b19 => ?_)
      · have h := ift_t b19 h
        refine XW.seq (x := cd Try.f69 [1,0,1,0,1,1,1,0,0]) (y := cd Try.f69 [1,0,1,0,1,1,1,0,1]) (by kernel_rfl) fun K20 hK20 => ?_
        refine XW.reg (by kernel_rfl) ?_
        refine XO.go [] 1 [4] [] [(4, vi (30 : Int))] [] [] (by kernel_rfl) trivial ?_
        refine XO.done (by kernel_rfl) ?_
        refine hK20 _ _ ?_
        refine XW.ret (by kernel_rfl) ?_
        obtain rfl := Option.some.inj h
        exact FinP.fin (.inr rfl) [] [vi (30 : Int)] [] (by kernel_rfl) trivial (.one (.rfl _ rfl))
      · have h := ift_f b19 h
        refine XW.skip (by kernel_rfl) ?_
        refine hK2 _ _ ?_
        refine XW.seq (x := cd Try.f69 [1,1,0]) (y := cd Try.f69 [1,1,1]) (by kernel_rfl) fun K21 hK21 => ?_
        refine XW.reg (by kernel_rfl) ?_
        refine XO.go [] 1 [4] [] [(4, vi (31 : Int))] [] [] (by kernel_rfl) trivial ?_
        refine XO.done (by kernel_rfl) ?_
        refine hK21 _ _ ?_
        refine XW.ret (by kernel_rfl) ?_
        obtain rfl := Option.some.inj h
        exact FinP.fin (.inr rfl) [] [vi (31 : Int)] [] (by kernel_rfl) trivial (.one (.rfl _ rfl))
    refine XW.seq (x := cd Try.f69 [1,0,1,0,1,1,0,0]) (y := cd Try.f69 [1,0,1,0,1,1,0,1]) (by kernel_rfl) fun K13 hK13 => ?_
    refine XW.reg (by kernel_rfl) ?_
    refine XO.go [] 2 [5,10] [] [(5, vi p2), (10, vb (p2 == (4 : Int)))] [] [] (by kernel_rfl) trivial ?_
    refine XO.done (by kernel_rfl) ?_
    refine hK13 _ _ ?_
    refine XW.cond (x := .tmp 10) (a := cd Try.f69 [1,0,1,0,1,1,0,1,0]) (b := cd Try.f69 [1,0,1,0,1,1,0,1,1]) (t := (p2 == (4 : Int))) (by kernel_rfl) (by kernel_rfl) (fun b14 => ?_) (fun b14 => ?_)
    · have h := ift_t b14 h
      refine XW.skip (by kernel_rfl) ?_
      exact hJ1 (p2 == (4 : Int)) h _ _ (Sub.pick [10] (by kernel_rfl))
    · have h := ift_f b14 h
      refine XW.seq (x := cd Try.f69 [1,0,1,0,1,1,0,1,1,0]) (y := cd Try.f69 [1,0,1,0,1,1,0,1,1,1]) (by kernel_rfl) fun K15 hK15 => ?_
      refine XW.reg (by kernel_rfl) ?_
      refine XO.go [] 2 [5,10] [] [(5, vi p2), (10, vb (p2 == (6 : Int)))] [] [] (by kernel_rfl) trivial ?_
      refine XO.done (by kernel_rfl) ?_
      refine hK15 _ _ ?_
      refine XW.cond (x := .tmp 10) (a := cd Try.f69 [1,0,1,0,1,1,0,1,1,1,0]) (b := cd Try.f69 [1,0,1,0,1,1,0,1,1,1,1]) (t := (p2 == (6 : Int))) (by kernel_rfl) (by kernel_rfl) (fun b16 => ?_) (fun b16 => ?_)
      · have h := ift_t b16 h
        refine XW.skip (by kernel_rfl) ?_
        exact hJ1 (p2 == (6 : Int)) h _ _ (Sub.pick [10] (by kernel_rfl))
      · have h := ift_f b16 h
        refine XW.seq (x := cd Try.f69 [1,0,1,0,1,1,0,1,1,1,1,0]) (y := cd Try.f69 [1,0,1,0,1,1,0,1,1,1,1,1]) (by kernel_rfl) fun K17 hK17 => ?_
        refine XW.reg (by kernel_rfl) ?_
        refine XO.go [] 2 [5,10] [] [(5, vi p2), (10, vb (p2 == (9 : Int)))] [] [] (by kernel_rfl) trivial ?_
        refine XO.done (by kernel_rfl) ?_
        refine hK17 _ _ ?_
        refine XW.cond (x := .tmp 10) (a := cd Try.f69 [1,0,1,0,1,1,0,1,1,1,1,1,0]) (b := cd Try.f69 [1,0,1,0,1,1,0,1,1,1,1,1,1]) (t := (p2 == (9 : Int))) (by kernel_rfl) (by kernel_rfl) (fun b18 => ?_) (fun b18 => ?_)
        · have h := ift_t b18 h
          refine XW.skip (by kernel_rfl) ?_
          exact hJ1 (p2 == (9 : Int)) h _ _ (Sub.pick [10] (by kernel_rfl))
        · have h := ift_f b18 h
          refine XW.reg (by kernel_rfl) ?_
          refine XO.go [] 2 [10] [] [(10, vb (p2 == (11 : Int)))] [] [] (by kernel_rfl) trivial ?_
          refine XO.done (by kernel_rfl) ?_
          exact hJ1 (p2 == (11 : Int)) h _ _ (Sub.pick [10] (by kernel_rfl))


end Go.Proofs.Ytdkmclmdemngfaa
