/- Printed by a program: what the functions compute, and the proofs of their contracts. -/
import Derived.Test.YtdkmclmdemngfaaDoorChecked
import Derived.Test.YtdkmclmdemngfaaDoorSxMap
import Derived.Test.YtdkmclmdemngfaaDoorGTypes
import Derived.Test.YtdkmclmdemngfaaDoorGU8
namespace Go.Proofs.YtdkmclmdemngfaaDoor
open Go.SX Go
set_option linter.unusedVariables false
set_option linter.unusedSimpArgs false
set_option maxRecDepth 100000

def law1_number (p1 : Int) : Option GValue :=
    some (GValue.mk (2 : Int) p1 (0 : Int) ByteArray.empty [])


theorem c_law1_number (p1 : Int) (r : GValue) (h : law1_number p1 = some r) : PC Tryd.prog 10 [vi p1] (.ag [ci r.kind, ci r.n, ci r.scale, cst r.s, cl eValue r.items]) := by
  unfold law1_number at h
  refine PC.of (n := 5) (fn := Tryd.f10) (c := cd Tryd.f10 []) (by kernel_rfl) (by kernel_rfl) (by kernel_rfl) (Nat.le_of_ble_eq_true rfl) ?_
  refine XW.seq (x := cd Tryd.f10 [0]) (y := cd Tryd.f10 [1]) (by kernel_rfl) fun K1 hK1 => ?_
  refine XW.reg (by kernel_rfl) ?_
  refine XO.go [2] 1 [0,2] [] [(0, vi p1), (2, .one (.pt 0 0 0 0))] [.box [ci (0 : Int), ci (0 : Int), ci (0 : Int), cst ByteArray.empty, .pv (.s (.slice none 0 0))]] [] (by kernel_rfl) trivial ?_
  refine XO.done (by kernel_rfl) ?_
  refine hK1 _ _ ?_
  refine XW.seq (x := cd Tryd.f10 [1,0]) (y := cd Tryd.f10 [1,1]) (by kernel_rfl) fun K2 hK2 => ?_
  refine XW.reg (by kernel_rfl) ?_
  refine XO.go [2] 3 [2] [] [(2, .one (.pt 0 0 0 0))] [.box [ci (2 : Int), ci p1, ci (0 : Int), cst ByteArray.empty, .pv (.s (.slice none 0 0))]] [] (by kernel_rfl) trivial ?_
  refine XO.done (by kernel_rfl) ?_
  refine hK2 _ _ ?_
  refine XW.ret (by kernel_rfl) ?_
  obtain rfl := Option.some.inj h
  exact FinP.fin (.inr rfl) [] [.ag [ci (2 : Int), ci p1, ci (0 : Int), cst ByteArray.empty, .pv (.s (.slice none 0 0))]] [] (by kernel_rfl) trivial (.ag (.cons (.rfl _ rfl) (.cons (.rfl _ rfl) (.cons (.rfl _ rfl) (.cons (.rfl _ rfl) (.cons (.nl) .nil))))))

def value_within_j1 (x1 : Bool) : Option Bool :=
    some x1

def value_within (p1 : Int) (p2 : Int) (p3 : Int) : Option Bool :=
    ift (decide (p2 ≤ p1))
      (value_within_j1 (decide (p1 ≤ p3)))
      (value_within_j1 false)


theorem c_value_within (p1 : Int) (p2 : Int) (p3 : Int) (r : Bool) (h : value_within p1 p2 p3 = some r) : PC Tryd.prog 63 [vi p1, vi p2, vi p3] (vb r) := by
  unfold value_within at h
  refine PC.of (n := 15) (fn := Tryd.f63) (c := cd Tryd.f63 []) (by kernel_rfl) (by kernel_rfl) (by kernel_rfl) (Nat.le_of_ble_eq_true rfl) ?_
  refine XW.seq (x := cd Tryd.f63 [0]) (y := cd Tryd.f63 [1]) (by kernel_rfl) fun K1 hK1 => ?_
  refine XW.reg (by kernel_rfl) ?_
  refine XO.go [] 1 [0,1,2] [] [(0, vi p1), (1, vi p2), (2, vi p3)] [] [] (by kernel_rfl) trivial ?_
  refine XO.done (by kernel_rfl) ?_
  refine hK1 _ _ ?_
  refine XW.seq (x := cd Tryd.f63 [1,0]) (y := cd Tryd.f63 [1,1]) (by kernel_rfl) fun K2 hK2 => ?_
  have hJ1 : ∀ (x1 : Bool), value_within_j1 x1 = some r → ∀ fr1 st1, Sub 15 0 [] fr1 st1 [(6, vb x1)] [] → K2 fr1 st1 := by
    intro x1 h fr1 st1 hS
    unfold value_within_j1 at h
    refine hK2 _ _ (XW.sub hS ?_)
    refine XW.ret (by kernel_rfl) ?_
    obtain rfl := Option.some.inj h
    exact FinP.fin (.inr rfl) [] [vb x1] [] (by kernel_rfl) trivial (.one (.rfl _ rfl))
  rcases Bool.eq_false_or_eq_true (decide (p2 ≤ p1)) with b3 | b3
  · have h := ift_t b3 h
    refine XW.reg (by kernel_rfl) ?_
    refine XO.go [] 4 [0,2,10] [] [(0, vi p1), (2, vi p3), (10, vb (decide (p2 ≤ p1)))] [] [] (by kernel_rfl) trivial ?_
    refine XO.setb 10 true (B := (decide (p2 ≤ p1))) rfl b3 ?_
    refine XO.go [] 5 [6] [] [(6, vb (decide (p1 ≤ p3)))] [] [] (by kernel_rfl) trivial ?_
    refine XO.done (by kernel_rfl) ?_
    exact hJ1 (decide (p1 ≤ p3)) h _ _ (Sub.pick [6] (by kernel_rfl))
  · have h := ift_f b3 h
    refine XW.reg (by kernel_rfl) ?_
    refine XO.go [] 4 [0,2,10] [] [(0, vi p1), (2, vi p3), (10, vb (decide (p2 ≤ p1)))] [] [] (by kernel_rfl) trivial ?_
    refine XO.setb 10 false (B := (decide (p2 ≤ p1))) rfl b3 ?_
    refine XO.go [] 5 [6] [] [(6, vb false)] [] [] (by kernel_rfl) trivial ?_
    refine XO.done (by kernel_rfl) ?_
    exact hJ1 false h _ _ (Sub.pick [6] (by kernel_rfl))

def value_text_j2 (rec1 : Nat → Option Bool) (p1 : ByteArray) (z1 : Nat) (x2 : Bool) : Option Bool :=
    ift x2
      (some false)
      (rec1 (z1 + (Utf8.decode p1 z1).2))

def value_text_j3 : Option Bool :=
    some true

def value_text_l1 (p1 : ByteArray) : Nat → Nat → Option Bool
  | 0, _ => none
  | k1 + 1, z1 =>
    ift (decide (z1 < p1.size))
      (ift (decide (Int.ofNat (Utf8.decode p1 z1).1 < (32 : Int)))
         (value_text_j2 (value_text_l1 p1 k1) p1 z1 true)
         (value_text_j2 (value_text_l1 p1 k1) p1 z1 (Int.ofNat (Utf8.decode p1 z1).1 == (127 : Int))))
      (value_text_j3)

def value_text_j1 (p1 : ByteArray) (x1 : Bool) : Option Bool :=
    ift x1
      (some false)
      (value_text_l1 p1 BIG 0)

def value_text (p1 : ByteArray) : Option Bool :=
    ift (decide ((256 : Int) < (p1.size : Int)))
      (value_text_j1 p1 true)
      (bnd (utf8_ValidString p1) fun r1 =>
       value_text_j1 p1 (!r1))


theorem c_value_text (p1 : ByteArray) (r : Bool) (h : value_text p1 = some r) : PC Tryd.prog 114 [vs p1] (vb r) := by
  unfold value_text at h
  refine PC.of (n := 24) (fn := Tryd.f114) (c := cd Tryd.f114 []) (by kernel_rfl) (by kernel_rfl) (by kernel_rfl) (Nat.le_of_ble_eq_true rfl) ?_
  refine XW.seq (x := cd Tryd.f114 [0]) (y := cd Tryd.f114 [1]) (by kernel_rfl) fun K1 hK1 => ?_
  refine XW.reg (by kernel_rfl) ?_
  refine XO.go [] 1 [0] [] [(0, vs p1)] [] [] (by kernel_rfl) trivial ?_
  refine XO.done (by kernel_rfl) ?_
  refine hK1 _ _ ?_
  refine XW.seq (x := cd Tryd.f114 [1,0]) (y := cd Tryd.f114 [1,1]) (by kernel_rfl) fun K2 hK2 => ?_
  refine XW.seq (x := cd Tryd.f114 [1,0,0]) (y := cd Tryd.f114 [1,0,1]) (by kernel_rfl) fun K3 hK3 => ?_
  have hJ1 : ∀ (x1 : Bool), value_text_j1 p1 x1 = some r → ∀ fr1 st1, Sub 24 0 [] fr1 st1 [(0, vs p1), (12, vb x1)] [] → K3 fr1 st1 := by
    intro x1 h fr1 st1 hS
    unfold value_text_j1 at h
    refine hK3 _ _ (XW.sub hS ?_)
    refine XW.cond (x := .tmp 12) (a := cd Tryd.f114 [1,0,1,0]) (b := cd Tryd.f114 [1,0,1,1]) (t := x1) (by kernel_rfl) (by kernel_rfl) (fun b6 => ?_) (fun b6 => ?_)
    · have h := ift_t b6 h
      refine XW.seq (x := cd Tryd.f114 [1,0,1,0,0]) (y := cd Tryd.f114 [1,0,1,0,1]) (by kernel_rfl) fun K7 hK7 => ?_
      refine XW.reg (by kernel_rfl) ?_
      refine XO.go [] 1 [2] [] [(2, vb false)] [] [] (by kernel_rfl) trivial ?_
      refine XO.done (by kernel_rfl) ?_
      refine hK7 _ _ ?_
      refine XW.ret (by kernel_rfl) ?_
      obtain rfl := Option.some.inj h
      exact FinP.fin (.inr rfl) [] [vb false] [] (by kernel_rfl) trivial (.one (.rfl _ rfl))
    · have h := ift_f b6 h
      refine XW.skip (by kernel_rfl) ?_
      refine hK2 _ _ ?_
      refine XW.seq (x := cd Tryd.f114 [1,1,0]) (y := cd Tryd.f114 [1,1,1]) (by kernel_rfl) fun K8 hK8 => ?_
      have hJ3 : ∀ (_ : Unit), value_text_j3 = some r → ∀ fr1 st1, Sub 24 0 [] fr1 st1 [] [] → K8 fr1 st1 := by
        intro _ h fr1 st1 hS
        unfold value_text_j3 at h
        refine hK8 _ _ (XW.sub hS ?_)
        refine XW.seq (x := cd Tryd.f114 [1,1,1,0]) (y := cd Tryd.f114 [1,1,1,1]) (by kernel_rfl) fun K19 hK19 => ?_
        refine XW.reg (by kernel_rfl) ?_
        refine XO.go [] 1 [2] [] [(2, vb true)] [] [] (by kernel_rfl) trivial ?_
        refine XO.done (by kernel_rfl) ?_
        refine hK19 _ _ ?_
        refine XW.ret (by kernel_rfl) ?_
        obtain rfl := Option.some.inj h
        exact FinP.fin (.inr rfl) [] [vb true] [] (by kernel_rfl) trivial (.one (.rfl _ rfl))
      refine XW.seq (x := cd Tryd.f114 [1,1,0,0]) (y := cd Tryd.f114 [1,1,0,1]) (by kernel_rfl) fun K9 hK9 => ?_
      refine XW.reg (by kernel_rfl) ?_
      refine XO.go [] 1 [13] [] [(13, vs p1)] [] [] (by kernel_rfl) trivial ?_
      refine XO.rng p1 [(14, .one (.pt 0 0 0 0)), (13, vs p1)] [.raw (.stringIter p1 0)] (by kernel_rfl) (by kernel_rfl) (by kernel_rfl) ?_
      refine XO.done (by kernel_rfl) ?_
      refine hK9 _ _ ?_
      refine XW.block (id := 0) (x := cd Tryd.f114 [1,1,0,1,0]) (by kernel_rfl) ?_
      refine XW.rounds' BIG (x := cd Tryd.f114 [1,1,0,1,0,0]) (by kernel_rfl) fun Q1 hQ1 => ?_
      have hL1 : ∀ (k1 : Nat) (z1 : Nat), value_text_l1 p1 k1 z1 = some r → XR Tryd.prog 24 0 [] (cd Tryd.f114 [1,1,0,1,0,0]) Q1 k1 [(14, .one (.pt 0 0 0 0))] [.raw (.stringIter p1 z1)] := by
        intro k1
        induction k1 with
        | zero => intro z1 h; rw [value_text_l1.eq_1] at h; cases h
        | succ k1 ih1 =>
          intro z1 h
          rw [value_text_l1.eq_2] at h
          refine XW.seq (x := cd Tryd.f114 [1,1,0,1,0,0,0]) (y := cd Tryd.f114 [1,1,0,1,0,0,1]) (by kernel_rfl) fun K10 hK10 => ?_
          rcases Bool.eq_false_or_eq_true (decide (z1 < p1.size)) with b11 | b11
          · have h := ift_t b11 h
            refine XW.reg (by kernel_rfl) ?_
            refine XO.nxt 0 p1 z1 [(15, .tp [vb true, vi (Int.ofNat z1), vk .i32 (Int.ofNat (Utf8.decode p1 z1).1)]), (14, .one (.pt 0 0 0 0))] [.raw (.stringIter p1 (z1 + (Utf8.decode p1 z1).2))] (by kernel_rfl) (by kernel_rfl) (by kernel_rfl) (by kernel_rfl) b11 ?_
            refine XO.go [] 1 [14,15,16] [] [(14, .one (.pt 0 0 0 0)), (15, .tp [vb true, vi (Int.ofNat z1), vk .i32 (Int.ofNat (Utf8.decode p1 z1).1)]), (16, vb true)] [.raw (.stringIter p1 (z1 + (Utf8.decode p1 z1).2))] [] (by kernel_rfl) trivial ?_
            refine XO.done (by kernel_rfl) ?_
            refine hK10 _ _ ?_
            refine XW.seq (x := cd Tryd.f114 [1,1,0,1,0,0,1,0]) (y := cd Tryd.f114 [1,1,0,1,0,0,1,1]) (by kernel_rfl) fun K12 hK12 => ?_
            refine XW.cond (x := .tmp 16) (a := cd Tryd.f114 [1,1,0,1,0,0,1,0,0]) (b := cd Tryd.f114 [1,1,0,1,0,0,1,0,1]) (t := true) (by kernel_rfl) (by kernel_rfl) (fun _ => ?_) (fun hx => by cases hx)
            refine XW.skip (by kernel_rfl) ?_
            refine hK12 _ _ ?_
            refine XW.block (id := 1) (x := cd Tryd.f114 [1,1,0,1,0,0,1,1,0]) (by kernel_rfl) ?_
            refine XW.seq (x := cd Tryd.f114 [1,1,0,1,0,0,1,1,0,0]) (y := cd Tryd.f114 [1,1,0,1,0,0,1,1,0,1]) (by kernel_rfl) fun K13 hK13 => ?_
            refine XW.reg (by kernel_rfl) ?_
            refine XO.go [] 2 [4,14] [] [(4, vk .i32 (Int.ofNat (Utf8.decode p1 z1).1)), (14, .one (.pt 0 0 0 0))] [.raw (.stringIter p1 (z1 + (Utf8.decode p1 z1).2))] [] (by kernel_rfl) trivial ?_
            refine XO.done (by kernel_rfl) ?_
            refine hK13 _ _ ?_
            refine XW.seq (x := cd Tryd.f114 [1,1,0,1,0,0,1,1,0,1,0]) (y := cd Tryd.f114 [1,1,0,1,0,0,1,1,0,1,1]) (by kernel_rfl) fun K14 hK14 => ?_
            have hJ2 : ∀ (x2 : Bool), value_text_j2 (value_text_l1 p1 k1) p1 z1 x2 = some r → ∀ fr1 st1, Sub 24 0 [] fr1 st1 [(14, .one (.pt 0 0 0 0)), (23, vb x2)] [.raw (.stringIter p1 (z1 + (Utf8.decode p1 z1).2))] → K14 fr1 st1 := by
              intro x2 h fr1 st1 hS
              unfold value_text_j2 at h
              refine hK14 _ _ (XW.sub hS ?_)
              refine XW.cond (x := .tmp 23) (a := cd Tryd.f114 [1,1,0,1,0,0,1,1,0,1,1,0]) (b := cd Tryd.f114 [1,1,0,1,0,0,1,1,0,1,1,1]) (t := x2) (by kernel_rfl) (by kernel_rfl) (fun b16 => ?_) (fun b16 => ?_)
              · have h := ift_t b16 h
                refine XW.seq (x := cd Tryd.f114 [1,1,0,1,0,0,1,1,0,1,1,0,0]) (y := cd Tryd.f114 [1,1,0,1,0,0,1,1,0,1,1,0,1]) (by kernel_rfl) fun K17 hK17 => ?_
                refine XW.reg (by kernel_rfl) ?_
                refine XO.go [] 1 [2] [] [(2, vb false)] [.raw (.stringIter p1 (z1 + (Utf8.decode p1 z1).2))] [] (by kernel_rfl) trivial ?_
                refine XO.done (by kernel_rfl) ?_
                refine hK17 _ _ ?_
                refine XW.ret (by kernel_rfl) ?_
                refine hQ1 _ _ _ ?_
                obtain rfl := Option.some.inj h
                exact FinP.fin (.inr rfl) [] [vb false] [] (by kernel_rfl) trivial (.one (.rfl _ rfl))
              · have h := ift_f b16 h
                refine XW.skip (by kernel_rfl) ?_
                exact XR.sub (Sub.pick [14] (by kernel_rfl)) (ih1 (z1 + (Utf8.decode p1 z1).2) h)
            rcases Bool.eq_false_or_eq_true (decide (Int.ofNat (Utf8.decode p1 z1).1 < (32 : Int))) with b15 | b15
            · have h := ift_t b15 h
              refine XW.reg (by kernel_rfl) ?_
              refine XO.go [] 3 [4,14,20] [] [(4, vk .i32 (Int.ofNat (Utf8.decode p1 z1).1)), (14, .one (.pt 0 0 0 0)), (20, vb (decide (Int.ofNat (Utf8.decode p1 z1).1 < (32 : Int))))] [.raw (.stringIter p1 (z1 + (Utf8.decode p1 z1).2))] [] (by kernel_rfl) trivial ?_
              refine XO.setb 20 true (B := (decide (Int.ofNat (Utf8.decode p1 z1).1 < (32 : Int)))) rfl b15 ?_
              refine XO.go [] 3 [14,23] [] [(14, .one (.pt 0 0 0 0)), (23, vb true)] [.raw (.stringIter p1 (z1 + (Utf8.decode p1 z1).2))] [] (by kernel_rfl) trivial ?_
              refine XO.done (by kernel_rfl) ?_
              exact hJ2 true h _ _ (Sub.pick [14,23] (by kernel_rfl))
            · have h := ift_f b15 h
              refine XW.reg (by kernel_rfl) ?_
              refine XO.go [] 3 [4,14,20] [] [(4, vk .i32 (Int.ofNat (Utf8.decode p1 z1).1)), (14, .one (.pt 0 0 0 0)), (20, vb (decide (Int.ofNat (Utf8.decode p1 z1).1 < (32 : Int))))] [.raw (.stringIter p1 (z1 + (Utf8.decode p1 z1).2))] [] (by kernel_rfl) trivial ?_
              refine XO.setb 20 false (B := (decide (Int.ofNat (Utf8.decode p1 z1).1 < (32 : Int)))) rfl b15 ?_
              refine XO.go [] 3 [14,23] [] [(14, .one (.pt 0 0 0 0)), (23, vb (Int.ofNat (Utf8.decode p1 z1).1 == (127 : Int)))] [.raw (.stringIter p1 (z1 + (Utf8.decode p1 z1).2))] [] (by kernel_rfl) trivial ?_
              refine XO.done (by kernel_rfl) ?_
              exact hJ2 (Int.ofNat (Utf8.decode p1 z1).1 == (127 : Int)) h _ _ (Sub.pick [14,23] (by kernel_rfl))
          · have h := ift_f b11 h
            refine XW.reg (by kernel_rfl) ?_
            refine XO.nxtE 0 p1 z1 [(15, .tp [vb false]), (14, .one (.pt 0 0 0 0))] (by kernel_rfl) (by kernel_rfl) (by kernel_rfl) b11 ?_
            refine XO.go [] 1 [14,15,16] [] [(14, .one (.pt 0 0 0 0)), (15, .tp [vb false]), (16, vb false)] [.raw (.stringIter p1 z1)] [] (by kernel_rfl) trivial ?_
            refine XO.done (by kernel_rfl) ?_
            refine hK10 _ _ ?_
            refine XW.seq (x := cd Tryd.f114 [1,1,0,1,0,0,1,0]) (y := cd Tryd.f114 [1,1,0,1,0,0,1,1]) (by kernel_rfl) fun K18 hK18 => ?_
            refine XW.cond (x := .tmp 16) (a := cd Tryd.f114 [1,1,0,1,0,0,1,0,0]) (b := cd Tryd.f114 [1,1,0,1,0,0,1,0,1]) (t := false) (by kernel_rfl) (by kernel_rfl) (fun hx => by cases hx) (fun _ => ?_)
            refine XW.exit (id := 0) (by kernel_rfl) ?_
            refine hQ1 _ _ _ ?_
            exact hJ3 () h _ _ (Sub.trans (Sub.pick (fr' := []) [] (by kernel_rfl)) (Sub.take (fr' := []) 0 (Nat.zero_le _) (by kernel_rfl) (by kernel_rfl)))
      exact XR.sub (Sub.pick [14] (by kernel_rfl)) (hL1 BIG 0 h)
  rcases Bool.eq_false_or_eq_true (decide ((256 : Int) < (p1.size : Int))) with b4 | b4
  · have h := ift_t b4 h
    refine XW.reg (by kernel_rfl) ?_
    refine XO.go [] 4 [0,8] [] [(0, vs p1), (8, vb (decide ((256 : Int) < (p1.size : Int))))] [] [] (by kernel_rfl) trivial ?_
    refine XO.setb 8 true (B := (decide ((256 : Int) < (p1.size : Int)))) rfl b4 ?_
    refine XO.go [] 4 [0,12] [] [(0, vs p1), (12, vb true)] [] [] (by kernel_rfl) trivial ?_
    refine XO.done (by kernel_rfl) ?_
    exact hJ1 true h _ _ (Sub.pick [0,12] (by kernel_rfl))
  · have h := ift_f b4 h
    obtain ⟨r1, c5, h⟩ := bnd_some h
    refine XW.reg (by kernel_rfl) ?_
    refine XO.go [] 4 [0,8] [] [(0, vs p1), (8, vb (decide ((256 : Int) < (p1.size : Int))))] [] [] (by kernel_rfl) trivial ?_
    refine XO.setb 8 false (B := (decide ((256 : Int) < (p1.size : Int)))) rfl b4 ?_
    refine XO.go [] 1 [0,8,9] [] [(0, vs p1), (8, vb false), (9, vs p1)] [] [] (by kernel_rfl) trivial ?_
    refine XO.cal 126 [vs p1] (vb r1) [(10, vb r1), (0, vs p1), (8, vb false), (9, vs p1)] (by kernel_rfl) (c_utf8_ValidString _ _ c5) rfl rfl (by kernel_rfl) ?_
    refine XO.go [] 2 [0,12] [] [(0, vs p1), (12, vb (!r1))] [] [] (by kernel_rfl) trivial ?_
    refine XO.done (by kernel_rfl) ?_
    exact hJ1 (!r1) h _ _ (Sub.pick [0,12] (by kernel_rfl))

def value_plain_j2 (x2 : Bool) : Option Bool :=
    some x2

def value_plain_j3 (x3 : Bool) : Option Bool :=
    some x3

def value_plain_j4 (x4 : Bool) : Option Bool :=
    some x4

def value_plain_j5 (x5 : Bool) : Option Bool :=
    some x5

def value_plain_j6 (x6 : Bool) : Option Bool :=
    some x6

def value_plain_j7 (x7 : Bool) : Option Bool :=
    some x7

def value_plain_j8 (x8 : Bool) : Option Bool :=
    some x8

def value_plain_j9 (x9 : Bool) : Option Bool :=
    some x9

def value_plain_j1 (p1 : GValue) (x1 : Bool) : Option Bool :=
    ift (p1.kind == (0 : Int))
      (ift x1
         (ift (p1.s.toList == (ByteArray.mk #[]).toList)
            (value_plain_j2 ((p1.items.length : Int) == (0 : Int)))
            (value_plain_j2 false))
         (value_plain_j2 false))
      (ift (p1.kind == (1 : Int))
         (bnd (value_within p1.n (0 : Int) (1 : Int)) fun r1 =>
          ift r1
            (ift (p1.scale == (0 : Int))
               (ift (p1.s.toList == (ByteArray.mk #[]).toList)
                  (value_plain_j3 ((p1.items.length : Int) == (0 : Int)))
                  (value_plain_j3 false))
               (value_plain_j3 false))
            (value_plain_j3 false))
         (ift (p1.kind == (2 : Int))
            (bnd (value_within p1.n (-999999999999999999 : Int) (999999999999999999 : Int)) fun r2 =>
             ift r2
               (ift (p1.scale == (0 : Int))
                  (ift (p1.s.toList == (ByteArray.mk #[]).toList)
                     (value_plain_j4 ((p1.items.length : Int) == (0 : Int)))
                     (value_plain_j4 false))
                  (value_plain_j4 false))
               (value_plain_j4 false))
            (ift (p1.kind == (3 : Int))
               (bnd (value_within p1.n (-999999999999999999 : Int) (999999999999999999 : Int)) fun r3 =>
                ift r3
                  (bnd (value_within p1.scale (0 : Int) (12 : Int)) fun r4 =>
                   ift r4
                     (ift (p1.s.toList == (ByteArray.mk #[]).toList)
                        (value_plain_j5 ((p1.items.length : Int) == (0 : Int)))
                        (value_plain_j5 false))
                     (value_plain_j5 false))
                  (value_plain_j5 false))
               (ift (p1.kind == (4 : Int))
                  (ift x1
                     (bnd (value_text p1.s) fun r5 =>
                      ift r5
                        (value_plain_j6 ((p1.items.length : Int) == (0 : Int)))
                        (value_plain_j6 false))
                     (value_plain_j6 false))
                  (ift (p1.kind == (5 : Int))
                     (bnd (value_within p1.n (-62135596800 : Int) (253402300799 : Int)) fun r6 =>
                      ift r6
                        (ift (p1.scale == (0 : Int))
                           (ift (p1.s.toList == (ByteArray.mk #[]).toList)
                              (value_plain_j7 ((p1.items.length : Int) == (0 : Int)))
                              (value_plain_j7 false))
                           (value_plain_j7 false))
                        (value_plain_j7 false))
                     (ift (p1.kind == (6 : Int))
                        (ift x1
                           (ift (p1.s.toList == (ByteArray.mk #[]).toList)
                              (value_plain_j8 (decide ((p1.items.length : Int) ≤ (64 : Int))))
                              (value_plain_j8 false))
                           (value_plain_j8 false))
                        (ift (p1.kind == (7 : Int))
                           (ift x1
                              (ift (p1.s.toList == (ByteArray.mk #[]).toList)
                                 (value_plain_j9 (decide ((0 : Int) < (p1.items.length : Int))))
                                 (value_plain_j9 false))
                              (value_plain_j9 false))
                           (some false))))))))

def value_plain (p1 : GValue) : Option Bool :=
    ift (p1.n == (0 : Int))
      (value_plain_j1 p1 (p1.scale == (0 : Int)))
      (value_plain_j1 p1 false)


theorem c_value_plain (p1 : GValue) (r : Bool) (h : value_plain p1 = some r) : PC Tryd.prog 77 [.ag [ci p1.kind, ci p1.n, ci p1.scale, cst p1.s, cl eValue p1.items]] (vb r) := by
  unfold value_plain at h
  refine PC.of (n := 154) (fn := Tryd.f77) (c := cd Tryd.f77 []) (by kernel_rfl) (by kernel_rfl) (by kernel_rfl) (Nat.le_of_ble_eq_true rfl) ?_
  refine XW.seq (x := cd Tryd.f77 [0]) (y := cd Tryd.f77 [1]) (by kernel_rfl) fun K1 hK1 => ?_
  refine XW.reg (by kernel_rfl) ?_
  refine XO.go [] 2 [1] [] [(1, .one (.pv (.rp [[pi p1.kind, pi p1.n, pi p1.scale, .s (.string p1.s), .ro (eValue.els p1.items)]] 0 0)))] [] [] (by kernel_rfl) trivial ?_
  refine XO.done (by kernel_rfl) ?_
  refine hK1 _ _ ?_
  refine XW.seq (x := cd Tryd.f77 [1,0]) (y := cd Tryd.f77 [1,1]) (by kernel_rfl) fun K2 hK2 => ?_
  have hJ1 : ∀ (x1 : Bool), value_plain_j1 p1 x1 = some r → ∀ fr1 st1, Sub 154 0 [] fr1 st1 [(1, .one (.pv (.rp [[pi p1.kind, pi p1.n, pi p1.scale, .s (.string p1.s), .ro (eValue.els p1.items)]] 0 0))), (3, vb x1)] [] → K2 fr1 st1 := by
    intro x1 h fr1 st1 hS
    unfold value_plain_j1 at h
    refine hK2 _ _ (XW.sub hS ?_)
    refine XW.seq (x := cd Tryd.f77 [1,1,0]) (y := cd Tryd.f77 [1,1,1]) (by kernel_rfl) fun K4 hK4 => ?_
    refine XW.seq (x := cd Tryd.f77 [1,1,0,0]) (y := cd Tryd.f77 [1,1,0,1]) (by kernel_rfl) fun K5 hK5 => ?_
    refine XW.reg (by kernel_rfl) ?_
    refine XO.go [] 2 [1,3,13] [[pi p1.kind, pi p1.n, pi p1.scale, .s (.string p1.s), .ro (eValue.els p1.items)]] [(1, .one (.pv (.rp [[pi p1.kind, pi p1.n, pi p1.scale, .s (.string p1.s), .ro (eValue.els p1.items)]] 0 0))), (3, vb x1), (13, vi p1.kind)] [] [([[pi p1.kind, pi p1.n, pi p1.scale, .s (.string p1.s), .ro (eValue.els p1.items)]] : List (List PV))[0]? = some [pi p1.kind, pi p1.n, pi p1.scale, .s (.string p1.s), .ro (eValue.els p1.items)]] (by kernel_rfl) (⟨rfl, trivial⟩) ?_
    refine XO.done (by kernel_rfl) ?_
    refine hK5 _ _ ?_
    refine XW.block (id := 0) (x := cd Tryd.f77 [1,1,0,1,0]) (by kernel_rfl) ?_
    refine XW.seq (x := cd Tryd.f77 [1,1,0,1,0,0]) (y := cd Tryd.f77 [1,1,0,1,0,1]) (by kernel_rfl) fun K6 hK6 => ?_
    refine XW.reg (by kernel_rfl) ?_
    refine XO.go [] 2 [1,3,13,14] [] [(1, .one (.pv (.rp [[pi p1.kind, pi p1.n, pi p1.scale, .s (.string p1.s), .ro (eValue.els p1.items)]] 0 0))), (3, vb x1), (13, vi p1.kind), (14, vb (p1.kind == (0 : Int)))] [] [] (by kernel_rfl) trivial ?_
    refine XO.done (by kernel_rfl) ?_
    refine hK6 _ _ ?_
    refine XW.cond (x := .tmp 14) (a := cd Tryd.f77 [1,1,0,1,0,1,0]) (b := cd Tryd.f77 [1,1,0,1,0,1,1]) (t := (p1.kind == (0 : Int))) (by kernel_rfl) (by kernel_rfl) (fun b7 => ?_) (fun b7 => ?_)
    · have h := ift_t b7 h
      refine XW.seq (x := cd Tryd.f77 [1,1,0,1,0,1,0,0]) (y := cd Tryd.f77 [1,1,0,1,0,1,0,1]) (by kernel_rfl) fun K8 hK8 => ?_
      have hJ2 : ∀ (x2 : Bool), value_plain_j2 x2 = some r → ∀ fr1 st1, Sub 154 0 [] fr1 st1 [(2, vb x2)] [] → K8 fr1 st1 := by
        intro x2 h fr1 st1 hS
        unfold value_plain_j2 at h
        refine hK8 _ _ (XW.sub hS ?_)
        refine XW.ret (by kernel_rfl) ?_
        obtain rfl := Option.some.inj h
        exact FinP.fin (.inr rfl) [] [vb x2] [] (by kernel_rfl) trivial (.one (.rfl _ rfl))
      rcases Bool.eq_false_or_eq_true x1 with b9 | b9
      · have h := ift_t b9 h
        rcases Bool.eq_false_or_eq_true (p1.s.toList == (ByteArray.mk #[]).toList) with b10 | b10
        · have h := ift_t b10 h
          refine XW.reg (by kernel_rfl) ?_
          refine XO.go [] 2 [1,17] [] [(1, .one (.pv (.rp [[pi p1.kind, pi p1.n, pi p1.scale, .s (.string p1.s), .ro (eValue.els p1.items)]] 0 0))), (17, vb x1)] [] [] (by kernel_rfl) trivial ?_
          refine XO.setb 17 true (B := x1) rfl b9 ?_
          refine XO.go [] 5 [1,22] [[pi p1.kind, pi p1.n, pi p1.scale, .s (.string p1.s), .ro (eValue.els p1.items)]] [(1, .one (.pv (.rp [[pi p1.kind, pi p1.n, pi p1.scale, .s (.string p1.s), .ro (eValue.els p1.items)]] 0 0))), (22, vb (p1.s.toList == (ByteArray.mk #[]).toList))] [] [([[pi p1.kind, pi p1.n, pi p1.scale, .s (.string p1.s), .ro (eValue.els p1.items)]] : List (List PV))[0]? = some [pi p1.kind, pi p1.n, pi p1.scale, .s (.string p1.s), .ro (eValue.els p1.items)]] (by kernel_rfl) (⟨rfl, trivial⟩) ?_
          refine XO.setb 22 true (B := (p1.s.toList == (ByteArray.mk #[]).toList)) rfl b10 ?_
          refine XO.go [] 3 [22,25] [[pi p1.kind, pi p1.n, pi p1.scale, .s (.string p1.s), .ro (eValue.els p1.items)]] [(22, vb true), (25, vi ((eValue.els p1.items).length : Int))] [] [([[pi p1.kind, pi p1.n, pi p1.scale, .s (.string p1.s), .ro (eValue.els p1.items)]] : List (List PV))[0]? = some [pi p1.kind, pi p1.n, pi p1.scale, .s (.string p1.s), .ro (eValue.els p1.items)]] (by kernel_rfl) (⟨rfl, trivial⟩) ?_
          rw [eValue.len p1.items]
          refine XO.go [] 3 [2] [] [(2, vb ((p1.items.length : Int) == (0 : Int)))] [] [] (by kernel_rfl) trivial ?_
          refine XO.done (by kernel_rfl) ?_
          exact hJ2 ((p1.items.length : Int) == (0 : Int)) h _ _ (Sub.pick [2] (by kernel_rfl))
        · have h := ift_f b10 h
          refine XW.reg (by kernel_rfl) ?_
          refine XO.go [] 2 [1,17] [] [(1, .one (.pv (.rp [[pi p1.kind, pi p1.n, pi p1.scale, .s (.string p1.s), .ro (eValue.els p1.items)]] 0 0))), (17, vb x1)] [] [] (by kernel_rfl) trivial ?_
          refine XO.setb 17 true (B := x1) rfl b9 ?_
          refine XO.go [] 5 [1,22] [[pi p1.kind, pi p1.n, pi p1.scale, .s (.string p1.s), .ro (eValue.els p1.items)]] [(1, .one (.pv (.rp [[pi p1.kind, pi p1.n, pi p1.scale, .s (.string p1.s), .ro (eValue.els p1.items)]] 0 0))), (22, vb (p1.s.toList == (ByteArray.mk #[]).toList))] [] [([[pi p1.kind, pi p1.n, pi p1.scale, .s (.string p1.s), .ro (eValue.els p1.items)]] : List (List PV))[0]? = some [pi p1.kind, pi p1.n, pi p1.scale, .s (.string p1.s), .ro (eValue.els p1.items)]] (by kernel_rfl) (⟨rfl, trivial⟩) ?_
          refine XO.setb 22 false (B := (p1.s.toList == (ByteArray.mk #[]).toList)) rfl b10 ?_
          refine XO.go [] 6 [2] [] [(2, vb false)] [] [] (by kernel_rfl) trivial ?_
          refine XO.done (by kernel_rfl) ?_
          exact hJ2 false h _ _ (Sub.pick [2] (by kernel_rfl))
      · have h := ift_f b9 h
        refine XW.reg (by kernel_rfl) ?_
        refine XO.go [] 2 [1,17] [] [(1, .one (.pv (.rp [[pi p1.kind, pi p1.n, pi p1.scale, .s (.string p1.s), .ro (eValue.els p1.items)]] 0 0))), (17, vb x1)] [] [] (by kernel_rfl) trivial ?_
        refine XO.setb 17 false (B := x1) rfl b9 ?_
        refine XO.go [] 11 [2] [] [(2, vb false)] [] [] (by kernel_rfl) trivial ?_
        refine XO.done (by kernel_rfl) ?_
        exact hJ2 false h _ _ (Sub.pick [2] (by kernel_rfl))
    · have h := ift_f b7 h
      refine XW.seq (x := cd Tryd.f77 [1,1,0,1,0,1,1,0]) (y := cd Tryd.f77 [1,1,0,1,0,1,1,1]) (by kernel_rfl) fun K11 hK11 => ?_
      refine XW.reg (by kernel_rfl) ?_
      refine XO.go [] 2 [1,3,13,28] [] [(1, .one (.pv (.rp [[pi p1.kind, pi p1.n, pi p1.scale, .s (.string p1.s), .ro (eValue.els p1.items)]] 0 0))), (3, vb x1), (13, vi p1.kind), (28, vb (p1.kind == (1 : Int)))] [] [] (by kernel_rfl) trivial ?_
      refine XO.done (by kernel_rfl) ?_
      refine hK11 _ _ ?_
      refine XW.cond (x := .tmp 28) (a := cd Tryd.f77 [1,1,0,1,0,1,1,1,0]) (b := cd Tryd.f77 [1,1,0,1,0,1,1,1,1]) (t := (p1.kind == (1 : Int))) (by kernel_rfl) (by kernel_rfl) (fun b12 => ?_) (fun b12 => ?_)
      · have h := ift_t b12 h
        refine XW.seq (x := cd Tryd.f77 [1,1,0,1,0,1,1,1,0,0]) (y := cd Tryd.f77 [1,1,0,1,0,1,1,1,0,1]) (by kernel_rfl) fun K13 hK13 => ?_
        have hJ3 : ∀ (x3 : Bool), value_plain_j3 x3 = some r → ∀ fr1 st1, Sub 154 0 [] fr1 st1 [(2, vb x3)] [] → K13 fr1 st1 := by
          intro x3 h fr1 st1 hS
          unfold value_plain_j3 at h
          refine hK13 _ _ (XW.sub hS ?_)
          refine XW.ret (by kernel_rfl) ?_
          obtain rfl := Option.some.inj h
          exact FinP.fin (.inr rfl) [] [vb x3] [] (by kernel_rfl) trivial (.one (.rfl _ rfl))
        obtain ⟨r1, c14, h⟩ := bnd_some h
        rcases Bool.eq_false_or_eq_true r1 with b15 | b15
        · have h := ift_t b15 h
          rcases Bool.eq_false_or_eq_true (p1.scale == (0 : Int)) with b16 | b16
          · have h := ift_t b16 h
            rcases Bool.eq_false_or_eq_true (p1.s.toList == (ByteArray.mk #[]).toList) with b17 | b17
            · have h := ift_t b17 h
              refine XW.reg (by kernel_rfl) ?_
              refine XO.go [] 2 [1,31] [[pi p1.kind, pi p1.n, pi p1.scale, .s (.string p1.s), .ro (eValue.els p1.items)]] [(1, .one (.pv (.rp [[pi p1.kind, pi p1.n, pi p1.scale, .s (.string p1.s), .ro (eValue.els p1.items)]] 0 0))), (31, vi p1.n)] [] [([[pi p1.kind, pi p1.n, pi p1.scale, .s (.string p1.s), .ro (eValue.els p1.items)]] : List (List PV))[0]? = some [pi p1.kind, pi p1.n, pi p1.scale, .s (.string p1.s), .ro (eValue.els p1.items)]] (by kernel_rfl) (⟨rfl, trivial⟩) ?_
              refine XO.cal 63 [vi p1.n, vi (0 : Int), vi (1 : Int)] (vb r1) [(32, vb r1), (1, .one (.pv (.rp [[pi p1.kind, pi p1.n, pi p1.scale, .s (.string p1.s), .ro (eValue.els p1.items)]] 0 0))), (31, vi p1.n)] (by kernel_rfl) (c_value_within _ _ _ _ c14) rfl rfl (by kernel_rfl) ?_
              refine XO.go [] 1 [1,33] [] [(1, .one (.pv (.rp [[pi p1.kind, pi p1.n, pi p1.scale, .s (.string p1.s), .ro (eValue.els p1.items)]] 0 0))), (33, vb r1)] [] [] (by kernel_rfl) trivial ?_
              refine XO.setb 33 true (B := r1) rfl b15 ?_
              refine XO.go [] 5 [1,38] [[pi p1.kind, pi p1.n, pi p1.scale, .s (.string p1.s), .ro (eValue.els p1.items)]] [(1, .one (.pv (.rp [[pi p1.kind, pi p1.n, pi p1.scale, .s (.string p1.s), .ro (eValue.els p1.items)]] 0 0))), (38, vb (p1.scale == (0 : Int)))] [] [([[pi p1.kind, pi p1.n, pi p1.scale, .s (.string p1.s), .ro (eValue.els p1.items)]] : List (List PV))[0]? = some [pi p1.kind, pi p1.n, pi p1.scale, .s (.string p1.s), .ro (eValue.els p1.items)]] (by kernel_rfl) (⟨rfl, trivial⟩) ?_
              refine XO.setb 38 true (B := (p1.scale == (0 : Int))) rfl b16 ?_
              refine XO.go [] 5 [1,43] [[pi p1.kind, pi p1.n, pi p1.scale, .s (.string p1.s), .ro (eValue.els p1.items)]] [(1, .one (.pv (.rp [[pi p1.kind, pi p1.n, pi p1.scale, .s (.string p1.s), .ro (eValue.els p1.items)]] 0 0))), (43, vb (p1.s.toList == (ByteArray.mk #[]).toList))] [] [([[pi p1.kind, pi p1.n, pi p1.scale, .s (.string p1.s), .ro (eValue.els p1.items)]] : List (List PV))[0]? = some [pi p1.kind, pi p1.n, pi p1.scale, .s (.string p1.s), .ro (eValue.els p1.items)]] (by kernel_rfl) (⟨rfl, trivial⟩) ?_
              refine XO.setb 43 true (B := (p1.s.toList == (ByteArray.mk #[]).toList)) rfl b17 ?_
              refine XO.go [] 3 [43,46] [[pi p1.kind, pi p1.n, pi p1.scale, .s (.string p1.s), .ro (eValue.els p1.items)]] [(43, vb true), (46, vi ((eValue.els p1.items).length : Int))] [] [([[pi p1.kind, pi p1.n, pi p1.scale, .s (.string p1.s), .ro (eValue.els p1.items)]] : List (List PV))[0]? = some [pi p1.kind, pi p1.n, pi p1.scale, .s (.string p1.s), .ro (eValue.els p1.items)]] (by kernel_rfl) (⟨rfl, trivial⟩) ?_
              rw [eValue.len p1.items]
              refine XO.go [] 3 [2] [] [(2, vb ((p1.items.length : Int) == (0 : Int)))] [] [] (by kernel_rfl) trivial ?_
              refine XO.done (by kernel_rfl) ?_
              exact hJ3 ((p1.items.length : Int) == (0 : Int)) h _ _ (Sub.pick [2] (by kernel_rfl))
            · have h := ift_f b17 h
              refine XW.reg (by kernel_rfl) ?_
              refine XO.go [] 2 [1,31] [[pi p1.kind, pi p1.n, pi p1.scale, .s (.string p1.s), .ro (eValue.els p1.items)]] [(1, .one (.pv (.rp [[pi p1.kind, pi p1.n, pi p1.scale, .s (.string p1.s), .ro (eValue.els p1.items)]] 0 0))), (31, vi p1.n)] [] [([[pi p1.kind, pi p1.n, pi p1.scale, .s (.string p1.s), .ro (eValue.els p1.items)]] : List (List PV))[0]? = some [pi p1.kind, pi p1.n, pi p1.scale, .s (.string p1.s), .ro (eValue.els p1.items)]] (by kernel_rfl) (⟨rfl, trivial⟩) ?_
              refine XO.cal 63 [vi p1.n, vi (0 : Int), vi (1 : Int)] (vb r1) [(32, vb r1), (1, .one (.pv (.rp [[pi p1.kind, pi p1.n, pi p1.scale, .s (.string p1.s), .ro (eValue.els p1.items)]] 0 0))), (31, vi p1.n)] (by kernel_rfl) (c_value_within _ _ _ _ c14) rfl rfl (by kernel_rfl) ?_
              refine XO.go [] 1 [1,33] [] [(1, .one (.pv (.rp [[pi p1.kind, pi p1.n, pi p1.scale, .s (.string p1.s), .ro (eValue.els p1.items)]] 0 0))), (33, vb r1)] [] [] (by kernel_rfl) trivial ?_
              refine XO.setb 33 true (B := r1) rfl b15 ?_
              refine XO.go [] 5 [1,38] [[pi p1.kind, pi p1.n, pi p1.scale, .s (.string p1.s), .ro (eValue.els p1.items)]] [(1, .one (.pv (.rp [[pi p1.kind, pi p1.n, pi p1.scale, .s (.string p1.s), .ro (eValue.els p1.items)]] 0 0))), (38, vb (p1.scale == (0 : Int)))] [] [([[pi p1.kind, pi p1.n, pi p1.scale, .s (.string p1.s), .ro (eValue.els p1.items)]] : List (List PV))[0]? = some [pi p1.kind, pi p1.n, pi p1.scale, .s (.string p1.s), .ro (eValue.els p1.items)]] (by kernel_rfl) (⟨rfl, trivial⟩) ?_
              refine XO.setb 38 true (B := (p1.scale == (0 : Int))) rfl b16 ?_
              refine XO.go [] 5 [1,43] [[pi p1.kind, pi p1.n, pi p1.scale, .s (.string p1.s), .ro (eValue.els p1.items)]] [(1, .one (.pv (.rp [[pi p1.kind, pi p1.n, pi p1.scale, .s (.string p1.s), .ro (eValue.els p1.items)]] 0 0))), (43, vb (p1.s.toList == (ByteArray.mk #[]).toList))] [] [([[pi p1.kind, pi p1.n, pi p1.scale, .s (.string p1.s), .ro (eValue.els p1.items)]] : List (List PV))[0]? = some [pi p1.kind, pi p1.n, pi p1.scale, .s (.string p1.s), .ro (eValue.els p1.items)]] (by kernel_rfl) (⟨rfl, trivial⟩) ?_
              refine XO.setb 43 false (B := (p1.s.toList == (ByteArray.mk #[]).toList)) rfl b17 ?_
              refine XO.go [] 6 [2] [] [(2, vb false)] [] [] (by kernel_rfl) trivial ?_
              refine XO.done (by kernel_rfl) ?_
              exact hJ3 false h _ _ (Sub.pick [2] (by kernel_rfl))
          · have h := ift_f b16 h
            refine XW.reg (by kernel_rfl) ?_
            refine XO.go [] 2 [1,31] [[pi p1.kind, pi p1.n, pi p1.scale, .s (.string p1.s), .ro (eValue.els p1.items)]] [(1, .one (.pv (.rp [[pi p1.kind, pi p1.n, pi p1.scale, .s (.string p1.s), .ro (eValue.els p1.items)]] 0 0))), (31, vi p1.n)] [] [([[pi p1.kind, pi p1.n, pi p1.scale, .s (.string p1.s), .ro (eValue.els p1.items)]] : List (List PV))[0]? = some [pi p1.kind, pi p1.n, pi p1.scale, .s (.string p1.s), .ro (eValue.els p1.items)]] (by kernel_rfl) (⟨rfl, trivial⟩) ?_
            refine XO.cal 63 [vi p1.n, vi (0 : Int), vi (1 : Int)] (vb r1) [(32, vb r1), (1, .one (.pv (.rp [[pi p1.kind, pi p1.n, pi p1.scale, .s (.string p1.s), .ro (eValue.els p1.items)]] 0 0))), (31, vi p1.n)] (by kernel_rfl) (c_value_within _ _ _ _ c14) rfl rfl (by kernel_rfl) ?_
            refine XO.go [] 1 [1,33] [] [(1, .one (.pv (.rp [[pi p1.kind, pi p1.n, pi p1.scale, .s (.string p1.s), .ro (eValue.els p1.items)]] 0 0))), (33, vb r1)] [] [] (by kernel_rfl) trivial ?_
            refine XO.setb 33 true (B := r1) rfl b15 ?_
            refine XO.go [] 5 [1,38] [[pi p1.kind, pi p1.n, pi p1.scale, .s (.string p1.s), .ro (eValue.els p1.items)]] [(1, .one (.pv (.rp [[pi p1.kind, pi p1.n, pi p1.scale, .s (.string p1.s), .ro (eValue.els p1.items)]] 0 0))), (38, vb (p1.scale == (0 : Int)))] [] [([[pi p1.kind, pi p1.n, pi p1.scale, .s (.string p1.s), .ro (eValue.els p1.items)]] : List (List PV))[0]? = some [pi p1.kind, pi p1.n, pi p1.scale, .s (.string p1.s), .ro (eValue.els p1.items)]] (by kernel_rfl) (⟨rfl, trivial⟩) ?_
            refine XO.setb 38 false (B := (p1.scale == (0 : Int))) rfl b16 ?_
            refine XO.go [] 11 [2] [] [(2, vb false)] [] [] (by kernel_rfl) trivial ?_
            refine XO.done (by kernel_rfl) ?_
            exact hJ3 false h _ _ (Sub.pick [2] (by kernel_rfl))
        · have h := ift_f b15 h
          refine XW.reg (by kernel_rfl) ?_
          refine XO.go [] 2 [1,31] [[pi p1.kind, pi p1.n, pi p1.scale, .s (.string p1.s), .ro (eValue.els p1.items)]] [(1, .one (.pv (.rp [[pi p1.kind, pi p1.n, pi p1.scale, .s (.string p1.s), .ro (eValue.els p1.items)]] 0 0))), (31, vi p1.n)] [] [([[pi p1.kind, pi p1.n, pi p1.scale, .s (.string p1.s), .ro (eValue.els p1.items)]] : List (List PV))[0]? = some [pi p1.kind, pi p1.n, pi p1.scale, .s (.string p1.s), .ro (eValue.els p1.items)]] (by kernel_rfl) (⟨rfl, trivial⟩) ?_
          refine XO.cal 63 [vi p1.n, vi (0 : Int), vi (1 : Int)] (vb r1) [(32, vb r1), (1, .one (.pv (.rp [[pi p1.kind, pi p1.n, pi p1.scale, .s (.string p1.s), .ro (eValue.els p1.items)]] 0 0))), (31, vi p1.n)] (by kernel_rfl) (c_value_within _ _ _ _ c14) rfl rfl (by kernel_rfl) ?_
          refine XO.go [] 1 [1,33] [] [(1, .one (.pv (.rp [[pi p1.kind, pi p1.n, pi p1.scale, .s (.string p1.s), .ro (eValue.els p1.items)]] 0 0))), (33, vb r1)] [] [] (by kernel_rfl) trivial ?_
          refine XO.setb 33 false (B := r1) rfl b15 ?_
          refine XO.go [] 16 [2] [] [(2, vb false)] [] [] (by kernel_rfl) trivial ?_
          refine XO.done (by kernel_rfl) ?_
          exact hJ3 false h _ _ (Sub.pick [2] (by kernel_rfl))
      · have h := ift_f b12 h
        refine XW.seq (x := cd Tryd.f77 [1,1,0,1,0,1,1,1,1,0]) (y := cd Tryd.f77 [1,1,0,1,0,1,1,1,1,1]) (by kernel_rfl) fun K18 hK18 => ?_
        refine XW.reg (by kernel_rfl) ?_
        refine XO.go [] 2 [1,3,13,49] [] [(1, .one (.pv (.rp [[pi p1.kind, pi p1.n, pi p1.scale, .s (.string p1.s), .ro (eValue.els p1.items)]] 0 0))), (3, vb x1), (13, vi p1.kind), (49, vb (p1.kind == (2 : Int)))] [] [] (by kernel_rfl) trivial ?_
        refine XO.done (by kernel_rfl) ?_
        refine hK18 _ _ ?_
        refine XW.cond (x := .tmp 49) (a := cd Tryd.f77 [1,1,0,1,0,1,1,1,1,1,0]) (b := cd Tryd.f77 [1,1,0,1,0,1,1,1,1,1,1]) (t := (p1.kind == (2 : Int))) (by kernel_rfl) (by kernel_rfl) (fun b19 => ?_) (fun b19 => ?_)
        · have h := ift_t b19 h
          refine XW.seq (x := cd Tryd.f77 [1,1,0,1,0,1,1,1,1,1,0,0]) (y := cd Tryd.f77 [1,1,0,1,0,1,1,1,1,1,0,1]) (by kernel_rfl) fun K20 hK20 => ?_
          have hJ4 : ∀ (x4 : Bool), value_plain_j4 x4 = some r → ∀ fr1 st1, Sub 154 0 [] fr1 st1 [(2, vb x4)] [] → K20 fr1 st1 := by
            intro x4 h fr1 st1 hS
            unfold value_plain_j4 at h
            refine hK20 _ _ (XW.sub hS ?_)
            refine XW.ret (by kernel_rfl) ?_
            obtain rfl := Option.some.inj h
            exact FinP.fin (.inr rfl) [] [vb x4] [] (by kernel_rfl) trivial (.one (.rfl _ rfl))
          obtain ⟨r2, c21, h⟩ := bnd_some h
          rcases Bool.eq_false_or_eq_true r2 with b22 | b22
          · have h := ift_t b22 h
            rcases Bool.eq_false_or_eq_true (p1.scale == (0 : Int)) with b23 | b23
            · have h := ift_t b23 h
              rcases Bool.eq_false_or_eq_true (p1.s.toList == (ByteArray.mk #[]).toList) with b24 | b24
              · have h := ift_t b24 h
                refine XW.reg (by kernel_rfl) ?_
                refine XO.go [] 2 [1,52] [[pi p1.kind, pi p1.n, pi p1.scale, .s (.string p1.s), .ro (eValue.els p1.items)]] [(1, .one (.pv (.rp [[pi p1.kind, pi p1.n, pi p1.scale, .s (.string p1.s), .ro (eValue.els p1.items)]] 0 0))), (52, vi p1.n)] [] [([[pi p1.kind, pi p1.n, pi p1.scale, .s (.string p1.s), .ro (eValue.els p1.items)]] : List (List PV))[0]? = some [pi p1.kind, pi p1.n, pi p1.scale, .s (.string p1.s), .ro (eValue.els p1.items)]] (by kernel_rfl) (⟨rfl, trivial⟩) ?_
                refine XO.cal 63 [vi p1.n, vi (-999999999999999999 : Int), vi (999999999999999999 : Int)] (vb r2) [(53, vb r2), (1, .one (.pv (.rp [[pi p1.kind, pi p1.n, pi p1.scale, .s (.string p1.s), .ro (eValue.els p1.items)]] 0 0))), (52, vi p1.n)] (by kernel_rfl) (c_value_within _ _ _ _ c21) rfl rfl (by kernel_rfl) ?_
                refine XO.go [] 1 [1,54] [] [(1, .one (.pv (.rp [[pi p1.kind, pi p1.n, pi p1.scale, .s (.string p1.s), .ro (eValue.els p1.items)]] 0 0))), (54, vb r2)] [] [] (by kernel_rfl) trivial ?_
                refine XO.setb 54 true (B := r2) rfl b22 ?_
                refine XO.go [] 5 [1,59] [[pi p1.kind, pi p1.n, pi p1.scale, .s (.string p1.s), .ro (eValue.els p1.items)]] [(1, .one (.pv (.rp [[pi p1.kind, pi p1.n, pi p1.scale, .s (.string p1.s), .ro (eValue.els p1.items)]] 0 0))), (59, vb (p1.scale == (0 : Int)))] [] [([[pi p1.kind, pi p1.n, pi p1.scale, .s (.string p1.s), .ro (eValue.els p1.items)]] : List (List PV))[0]? = some [pi p1.kind, pi p1.n, pi p1.scale, .s (.string p1.s), .ro (eValue.els p1.items)]] (by kernel_rfl) (⟨rfl, trivial⟩) ?_
                refine XO.setb 59 true (B := (p1.scale == (0 : Int))) rfl b23 ?_
                refine XO.go [] 5 [1,64] [[pi p1.kind, pi p1.n, pi p1.scale, .s (.string p1.s), .ro (eValue.els p1.items)]] [(1, .one (.pv (.rp [[pi p1.kind, pi p1.n, pi p1.scale, .s (.string p1.s), .ro (eValue.els p1.items)]] 0 0))), (64, vb (p1.s.toList == (ByteArray.mk #[]).toList))] [] [([[pi p1.kind, pi p1.n, pi p1.scale, .s (.string p1.s), .ro (eValue.els p1.items)]] : List (List PV))[0]? = some [pi p1.kind, pi p1.n, pi p1.scale, .s (.string p1.s), .ro (eValue.els p1.items)]] (by kernel_rfl) (⟨rfl, trivial⟩) ?_
                refine XO.setb 64 true (B := (p1.s.toList == (ByteArray.mk #[]).toList)) rfl b24 ?_
                refine XO.go [] 3 [64,67] [[pi p1.kind, pi p1.n, pi p1.scale, .s (.string p1.s), .ro (eValue.els p1.items)]] [(64, vb true), (67, vi ((eValue.els p1.items).length : Int))] [] [([[pi p1.kind, pi p1.n, pi p1.scale, .s (.string p1.s), .ro (eValue.els p1.items)]] : List (List PV))[0]? = some [pi p1.kind, pi p1.n, pi p1.scale, .s (.string p1.s), .ro (eValue.els p1.items)]] (by kernel_rfl) (⟨rfl, trivial⟩) ?_
                rw [eValue.len p1.items]
                refine XO.go [] 3 [2] [] [(2, vb ((p1.items.length : Int) == (0 : Int)))] [] [] (by kernel_rfl) trivial ?_
                refine XO.done (by kernel_rfl) ?_
                exact hJ4 ((p1.items.length : Int) == (0 : Int)) h _ _ (Sub.pick [2] (by kernel_rfl))
              · have h := ift_f b24 h
                refine XW.reg (by kernel_rfl) ?_
                refine XO.go [] 2 [1,52] [[pi p1.kind, pi p1.n, pi p1.scale, .s (.string p1.s), .ro (eValue.els p1.items)]] [(1, .one (.pv (.rp [[pi p1.kind, pi p1.n, pi p1.scale, .s (.string p1.s), .ro (eValue.els p1.items)]] 0 0))), (52, vi p1.n)] [] [([[pi p1.kind, pi p1.n, pi p1.scale, .s (.string p1.s), .ro (eValue.els p1.items)]] : List (List PV))[0]? = some [pi p1.kind, pi p1.n, pi p1.scale, .s (.string p1.s), .ro (eValue.els p1.items)]] (by kernel_rfl) (⟨rfl, trivial⟩) ?_
                refine XO.cal 63 [vi p1.n, vi (-999999999999999999 : Int), vi (999999999999999999 : Int)] (vb r2) [(53, vb r2), (1, .one (.pv (.rp [[pi p1.kind, pi p1.n, pi p1.scale, .s (.string p1.s), .ro (eValue.els p1.items)]] 0 0))), (52, vi p1.n)] (by kernel_rfl) (c_value_within _ _ _ _ c21) rfl rfl (by kernel_rfl) ?_
                refine XO.go [] 1 [1,54] [] [(1, .one (.pv (.rp [[pi p1.kind, pi p1.n, pi p1.scale, .s (.string p1.s), .ro (eValue.els p1.items)]] 0 0))), (54, vb r2)] [] [] (by kernel_rfl) trivial ?_
                refine XO.setb 54 true (B := r2) rfl b22 ?_
                refine XO.go [] 5 [1,59] [[pi p1.kind, pi p1.n, pi p1.scale, .s (.string p1.s), .ro (eValue.els p1.items)]] [(1, .one (.pv (.rp [[pi p1.kind, pi p1.n, pi p1.scale, .s (.string p1.s), .ro (eValue.els p1.items)]] 0 0))), (59, vb (p1.scale == (0 : Int)))] [] [([[pi p1.kind, pi p1.n, pi p1.scale, .s (.string p1.s), .ro (eValue.els p1.items)]] : List (List PV))[0]? = some [pi p1.kind, pi p1.n, pi p1.scale, .s (.string p1.s), .ro (eValue.els p1.items)]] (by kernel_rfl) (⟨rfl, trivial⟩) ?_
                refine XO.setb 59 true (B := (p1.scale == (0 : Int))) rfl b23 ?_
                refine XO.go [] 5 [1,64] [[pi p1.kind, pi p1.n, pi p1.scale, .s (.string p1.s), .ro (eValue.els p1.items)]] [(1, .one (.pv (.rp [[pi p1.kind, pi p1.n, pi p1.scale, .s (.string p1.s), .ro (eValue.els p1.items)]] 0 0))), (64, vb (p1.s.toList == (ByteArray.mk #[]).toList))] [] [([[pi p1.kind, pi p1.n, pi p1.scale, .s (.string p1.s), .ro (eValue.els p1.items)]] : List (List PV))[0]? = some [pi p1.kind, pi p1.n, pi p1.scale, .s (.string p1.s), .ro (eValue.els p1.items)]] (by kernel_rfl) (⟨rfl, trivial⟩) ?_
                refine XO.setb 64 false (B := (p1.s.toList == (ByteArray.mk #[]).toList)) rfl b24 ?_
                refine XO.go [] 6 [2] [] [(2, vb false)] [] [] (by kernel_rfl) trivial ?_
                refine XO.done (by kernel_rfl) ?_
                exact hJ4 false h _ _ (Sub.pick [2] (by kernel_rfl))
            · have h := ift_f b23 h
              refine XW.reg (by kernel_rfl) ?_
              refine XO.go [] 2 [1,52] [[pi p1.kind, pi p1.n, pi p1.scale, .s (.string p1.s), .ro (eValue.els p1.items)]] [(1, .one (.pv (.rp [[pi p1.kind, pi p1.n, pi p1.scale, .s (.string p1.s), .ro (eValue.els p1.items)]] 0 0))), (52, vi p1.n)] [] [([[pi p1.kind, pi p1.n, pi p1.scale, .s (.string p1.s), .ro (eValue.els p1.items)]] : List (List PV))[0]? = some [pi p1.kind, pi p1.n, pi p1.scale, .s (.string p1.s), .ro (eValue.els p1.items)]] (by kernel_rfl) (⟨rfl, trivial⟩) ?_
              refine XO.cal 63 [vi p1.n, vi (-999999999999999999 : Int), vi (999999999999999999 : Int)] (vb r2) [(53, vb r2), (1, .one (.pv (.rp [[pi p1.kind, pi p1.n, pi p1.scale, .s (.string p1.s), .ro (eValue.els p1.items)]] 0 0))), (52, vi p1.n)] (by kernel_rfl) (c_value_within _ _ _ _ c21) rfl rfl (by kernel_rfl) ?_
              refine XO.go [] 1 [1,54] [] [(1, .one (.pv (.rp [[pi p1.kind, pi p1.n, pi p1.scale, .s (.string p1.s), .ro (eValue.els p1.items)]] 0 0))), (54, vb r2)] [] [] (by kernel_rfl) trivial ?_
              refine XO.setb 54 true (B := r2) rfl b22 ?_
              refine XO.go [] 5 [1,59] [[pi p1.kind, pi p1.n, pi p1.scale, .s (.string p1.s), .ro (eValue.els p1.items)]] [(1, .one (.pv (.rp [[pi p1.kind, pi p1.n, pi p1.scale, .s (.string p1.s), .ro (eValue.els p1.items)]] 0 0))), (59, vb (p1.scale == (0 : Int)))] [] [([[pi p1.kind, pi p1.n, pi p1.scale, .s (.string p1.s), .ro (eValue.els p1.items)]] : List (List PV))[0]? = some [pi p1.kind, pi p1.n, pi p1.scale, .s (.string p1.s), .ro (eValue.els p1.items)]] (by kernel_rfl) (⟨rfl, trivial⟩) ?_
              refine XO.setb 59 false (B := (p1.scale == (0 : Int))) rfl b23 ?_
              refine XO.go [] 11 [2] [] [(2, vb false)] [] [] (by kernel_rfl) trivial ?_
              refine XO.done (by kernel_rfl) ?_
              exact hJ4 false h _ _ (Sub.pick [2] (by kernel_rfl))
          · have h := ift_f b22 h
            refine XW.reg (by kernel_rfl) ?_
            refine XO.go [] 2 [1,52] [[pi p1.kind, pi p1.n, pi p1.scale, .s (.string p1.s), .ro (eValue.els p1.items)]] [(1, .one (.pv (.rp [[pi p1.kind, pi p1.n, pi p1.scale, .s (.string p1.s), .ro (eValue.els p1.items)]] 0 0))), (52, vi p1.n)] [] [([[pi p1.kind, pi p1.n, pi p1.scale, .s (.string p1.s), .ro (eValue.els p1.items)]] : List (List PV))[0]? = some [pi p1.kind, pi p1.n, pi p1.scale, .s (.string p1.s), .ro (eValue.els p1.items)]] (by kernel_rfl) (⟨rfl, trivial⟩) ?_
            refine XO.cal 63 [vi p1.n, vi (-999999999999999999 : Int), vi (999999999999999999 : Int)] (vb r2) [(53, vb r2), (1, .one (.pv (.rp [[pi p1.kind, pi p1.n, pi p1.scale, .s (.string p1.s), .ro (eValue.els p1.items)]] 0 0))), (52, vi p1.n)] (by kernel_rfl) (c_value_within _ _ _ _ c21) rfl rfl (by kernel_rfl) ?_
            refine XO.go [] 1 [1,54] [] [(1, .one (.pv (.rp [[pi p1.kind, pi p1.n, pi p1.scale, .s (.string p1.s), .ro (eValue.els p1.items)]] 0 0))), (54, vb r2)] [] [] (by kernel_rfl) trivial ?_
            refine XO.setb 54 false (B := r2) rfl b22 ?_
            refine XO.go [] 16 [2] [] [(2, vb false)] [] [] (by kernel_rfl) trivial ?_
            refine XO.done (by kernel_rfl) ?_
            exact hJ4 false h _ _ (Sub.pick [2] (by kernel_rfl))
        · have h := ift_f b19 h
          refine XW.seq (x := cd Tryd.f77 [1,1,0,1,0,1,1,1,1,1,1,0]) (y := cd Tryd.f77 [1,1,0,1,0,1,1,1,1,1,1,1]) (by kernel_rfl) fun K25 hK25 => ?_
          refine XW.reg (by kernel_rfl) ?_
          refine XO.go [] 2 [1,3,13,70] [] [(1, .one (.pv (.rp [[pi p1.kind, pi p1.n, pi p1.scale, .s (.string p1.s), .ro (eValue.els p1.items)]] 0 0))), (3, vb x1), (13, vi p1.kind), (70, vb (p1.kind == (3 : Int)))] [] [] (by kernel_rfl) trivial ?_
          refine XO.done (by kernel_rfl) ?_
          refine hK25 _ _ ?_
          refine XW.cond (x := .tmp 70) (a := cd Tryd.f77 [1,1,0,1,0,1,1,1,1,1,1,1,0]) (b := cd Tryd.f77 [1,1,0,1,0,1,1,1,1,1,1,1,1]) (t := (p1.kind == (3 : Int))) (by kernel_rfl) (by kernel_rfl) (fun b26 => ?_) (fun b26 => ?_)
          · have h := ift_t b26 h
            refine XW.seq (x := cd Tryd.f77 [1,1,0,1,0,1,1,1,1,1,1,1,0,0]) (y := cd Tryd.f77 [1,1,0,1,0,1,1,1,1,1,1,1,0,1]) (by kernel_rfl) fun K27 hK27 => ?_
            have hJ5 : ∀ (x5 : Bool), value_plain_j5 x5 = some r → ∀ fr1 st1, Sub 154 0 [] fr1 st1 [(2, vb x5)] [] → K27 fr1 st1 := by
              intro x5 h fr1 st1 hS
              unfold value_plain_j5 at h
              refine hK27 _ _ (XW.sub hS ?_)
              refine XW.ret (by kernel_rfl) ?_
              obtain rfl := Option.some.inj h
              exact FinP.fin (.inr rfl) [] [vb x5] [] (by kernel_rfl) trivial (.one (.rfl _ rfl))
            obtain ⟨r3, c28, h⟩ := bnd_some h
            rcases Bool.eq_false_or_eq_true r3 with b29 | b29
            · have h := ift_t b29 h
              obtain ⟨r4, c30, h⟩ := bnd_some h
              rcases Bool.eq_false_or_eq_true r4 with b31 | b31
              · have h := ift_t b31 h
                rcases Bool.eq_false_or_eq_true (p1.s.toList == (ByteArray.mk #[]).toList) with b32 | b32
                · have h := ift_t b32 h
                  refine XW.reg (by kernel_rfl) ?_
                  refine XO.go [] 2 [1,73] [[pi p1.kind, pi p1.n, pi p1.scale, .s (.string p1.s), .ro (eValue.els p1.items)]] [(1, .one (.pv (.rp [[pi p1.kind, pi p1.n, pi p1.scale, .s (.string p1.s), .ro (eValue.els p1.items)]] 0 0))), (73, vi p1.n)] [] [([[pi p1.kind, pi p1.n, pi p1.scale, .s (.string p1.s), .ro (eValue.els p1.items)]] : List (List PV))[0]? = some [pi p1.kind, pi p1.n, pi p1.scale, .s (.string p1.s), .ro (eValue.els p1.items)]] (by kernel_rfl) (⟨rfl, trivial⟩) ?_
                  refine XO.cal 63 [vi p1.n, vi (-999999999999999999 : Int), vi (999999999999999999 : Int)] (vb r3) [(74, vb r3), (1, .one (.pv (.rp [[pi p1.kind, pi p1.n, pi p1.scale, .s (.string p1.s), .ro (eValue.els p1.items)]] 0 0))), (73, vi p1.n)] (by kernel_rfl) (c_value_within _ _ _ _ c28) rfl rfl (by kernel_rfl) ?_
                  refine XO.go [] 1 [1,75] [] [(1, .one (.pv (.rp [[pi p1.kind, pi p1.n, pi p1.scale, .s (.string p1.s), .ro (eValue.els p1.items)]] 0 0))), (75, vb r3)] [] [] (by kernel_rfl) trivial ?_
                  refine XO.setb 75 true (B := r3) rfl b29 ?_
                  refine XO.go [] 2 [1,75,77] [[pi p1.kind, pi p1.n, pi p1.scale, .s (.string p1.s), .ro (eValue.els p1.items)]] [(1, .one (.pv (.rp [[pi p1.kind, pi p1.n, pi p1.scale, .s (.string p1.s), .ro (eValue.els p1.items)]] 0 0))), (75, vb true), (77, vi p1.scale)] [] [([[pi p1.kind, pi p1.n, pi p1.scale, .s (.string p1.s), .ro (eValue.els p1.items)]] : List (List PV))[0]? = some [pi p1.kind, pi p1.n, pi p1.scale, .s (.string p1.s), .ro (eValue.els p1.items)]] (by kernel_rfl) (⟨rfl, trivial⟩) ?_
                  refine XO.cal 63 [vi p1.scale, vi (0 : Int), vi (12 : Int)] (vb r4) [(78, vb r4), (1, .one (.pv (.rp [[pi p1.kind, pi p1.n, pi p1.scale, .s (.string p1.s), .ro (eValue.els p1.items)]] 0 0))), (75, vb true), (77, vi p1.scale)] (by kernel_rfl) (c_value_within _ _ _ _ c30) rfl rfl (by kernel_rfl) ?_
                  refine XO.go [] 2 [1,80] [] [(1, .one (.pv (.rp [[pi p1.kind, pi p1.n, pi p1.scale, .s (.string p1.s), .ro (eValue.els p1.items)]] 0 0))), (80, vb r4)] [] [] (by kernel_rfl) trivial ?_
                  refine XO.setb 80 true (B := r4) rfl b31 ?_
                  refine XO.go [] 5 [1,85] [[pi p1.kind, pi p1.n, pi p1.scale, .s (.string p1.s), .ro (eValue.els p1.items)]] [(1, .one (.pv (.rp [[pi p1.kind, pi p1.n, pi p1.scale, .s (.string p1.s), .ro (eValue.els p1.items)]] 0 0))), (85, vb (p1.s.toList == (ByteArray.mk #[]).toList))] [] [([[pi p1.kind, pi p1.n, pi p1.scale, .s (.string p1.s), .ro (eValue.els p1.items)]] : List (List PV))[0]? = some [pi p1.kind, pi p1.n, pi p1.scale, .s (.string p1.s), .ro (eValue.els p1.items)]] (by kernel_rfl) (⟨rfl, trivial⟩) ?_
                  refine XO.setb 85 true (B := (p1.s.toList == (ByteArray.mk #[]).toList)) rfl b32 ?_
                  refine XO.go [] 3 [85,88] [[pi p1.kind, pi p1.n, pi p1.scale, .s (.string p1.s), .ro (eValue.els p1.items)]] [(85, vb true), (88, vi ((eValue.els p1.items).length : Int))] [] [([[pi p1.kind, pi p1.n, pi p1.scale, .s (.string p1.s), .ro (eValue.els p1.items)]] : List (List PV))[0]? = some [pi p1.kind, pi p1.n, pi p1.scale, .s (.string p1.s), .ro (eValue.els p1.items)]] (by kernel_rfl) (⟨rfl, trivial⟩) ?_
                  rw [eValue.len p1.items]
                  refine XO.go [] 3 [2] [] [(2, vb ((p1.items.length : Int) == (0 : Int)))] [] [] (by kernel_rfl) trivial ?_
                  refine XO.done (by kernel_rfl) ?_
                  exact hJ5 ((p1.items.length : Int) == (0 : Int)) h _ _ (Sub.pick [2] (by kernel_rfl))
                · have h := ift_f b32 h
                  refine XW.reg (by kernel_rfl) ?_
                  refine XO.go [] 2 [1,73] [[pi p1.kind, pi p1.n, pi p1.scale, .s (.string p1.s), .ro (eValue.els p1.items)]] [(1, .one (.pv (.rp [[pi p1.kind, pi p1.n, pi p1.scale, .s (.string p1.s), .ro (eValue.els p1.items)]] 0 0))), (73, vi p1.n)] [] [([[pi p1.kind, pi p1.n, pi p1.scale, .s (.string p1.s), .ro (eValue.els p1.items)]] : List (List PV))[0]? = some [pi p1.kind, pi p1.n, pi p1.scale, .s (.string p1.s), .ro (eValue.els p1.items)]] (by kernel_rfl) (⟨rfl, trivial⟩) ?_
                  refine XO.cal 63 [vi p1.n, vi (-999999999999999999 : Int), vi (999999999999999999 : Int)] (vb r3) [(74, vb r3), (1, .one (.pv (.rp [[pi p1.kind, pi p1.n, pi p1.scale, .s (.string p1.s), .ro (eValue.els p1.items)]] 0 0))), (73, vi p1.n)] (by kernel_rfl) (c_value_within _ _ _ _ c28) rfl rfl (by kernel_rfl) ?_
                  refine XO.go [] 1 [1,75] [] [(1, .one (.pv (.rp [[pi p1.kind, pi p1.n, pi p1.scale, .s (.string p1.s), .ro (eValue.els p1.items)]] 0 0))), (75, vb r3)] [] [] (by kernel_rfl) trivial ?_
                  refine XO.setb 75 true (B := r3) rfl b29 ?_
                  refine XO.go [] 2 [1,75,77] [[pi p1.kind, pi p1.n, pi p1.scale, .s (.string p1.s), .ro (eValue.els p1.items)]] [(1, .one (.pv (.rp [[pi p1.kind, pi p1.n, pi p1.scale, .s (.string p1.s), .ro (eValue.els p1.items)]] 0 0))), (75, vb true), (77, vi p1.scale)] [] [([[pi p1.kind, pi p1.n, pi p1.scale, .s (.string p1.s), .ro (eValue.els p1.items)]] : List (List PV))[0]? = some [pi p1.kind, pi p1.n, pi p1.scale, .s (.string p1.s), .ro (eValue.els p1.items)]] (by kernel_rfl) (⟨rfl, trivial⟩) ?_
                  refine XO.cal 63 [vi p1.scale, vi (0 : Int), vi (12 : Int)] (vb r4) [(78, vb r4), (1, .one (.pv (.rp [[pi p1.kind, pi p1.n, pi p1.scale, .s (.string p1.s), .ro (eValue.els p1.items)]] 0 0))), (75, vb true), (77, vi p1.scale)] (by kernel_rfl) (c_value_within _ _ _ _ c30) rfl rfl (by kernel_rfl) ?_
                  refine XO.go [] 2 [1,80] [] [(1, .one (.pv (.rp [[pi p1.kind, pi p1.n, pi p1.scale, .s (.string p1.s), .ro (eValue.els p1.items)]] 0 0))), (80, vb r4)] [] [] (by kernel_rfl) trivial ?_
                  refine XO.setb 80 true (B := r4) rfl b31 ?_
                  refine XO.go [] 5 [1,85] [[pi p1.kind, pi p1.n, pi p1.scale, .s (.string p1.s), .ro (eValue.els p1.items)]] [(1, .one (.pv (.rp [[pi p1.kind, pi p1.n, pi p1.scale, .s (.string p1.s), .ro (eValue.els p1.items)]] 0 0))), (85, vb (p1.s.toList == (ByteArray.mk #[]).toList))] [] [([[pi p1.kind, pi p1.n, pi p1.scale, .s (.string p1.s), .ro (eValue.els p1.items)]] : List (List PV))[0]? = some [pi p1.kind, pi p1.n, pi p1.scale, .s (.string p1.s), .ro (eValue.els p1.items)]] (by kernel_rfl) (⟨rfl, trivial⟩) ?_
                  refine XO.setb 85 false (B := (p1.s.toList == (ByteArray.mk #[]).toList)) rfl b32 ?_
                  refine XO.go [] 6 [2] [] [(2, vb false)] [] [] (by kernel_rfl) trivial ?_
                  refine XO.done (by kernel_rfl) ?_
                  exact hJ5 false h _ _ (Sub.pick [2] (by kernel_rfl))
              · have h := ift_f b31 h
                refine XW.reg (by kernel_rfl) ?_
                refine XO.go [] 2 [1,73] [[pi p1.kind, pi p1.n, pi p1.scale, .s (.string p1.s), .ro (eValue.els p1.items)]] [(1, .one (.pv (.rp [[pi p1.kind, pi p1.n, pi p1.scale, .s (.string p1.s), .ro (eValue.els p1.items)]] 0 0))), (73, vi p1.n)] [] [([[pi p1.kind, pi p1.n, pi p1.scale, .s (.string p1.s), .ro (eValue.els p1.items)]] : List (List PV))[0]? = some [pi p1.kind, pi p1.n, pi p1.scale, .s (.string p1.s), .ro (eValue.els p1.items)]] (by kernel_rfl) (⟨rfl, trivial⟩) ?_
                refine XO.cal 63 [vi p1.n, vi (-999999999999999999 : Int), vi (999999999999999999 : Int)] (vb r3) [(74, vb r3), (1, .one (.pv (.rp [[pi p1.kind, pi p1.n, pi p1.scale, .s (.string p1.s), .ro (eValue.els p1.items)]] 0 0))), (73, vi p1.n)] (by kernel_rfl) (c_value_within _ _ _ _ c28) rfl rfl (by kernel_rfl) ?_
                refine XO.go [] 1 [1,75] [] [(1, .one (.pv (.rp [[pi p1.kind, pi p1.n, pi p1.scale, .s (.string p1.s), .ro (eValue.els p1.items)]] 0 0))), (75, vb r3)] [] [] (by kernel_rfl) trivial ?_
                refine XO.setb 75 true (B := r3) rfl b29 ?_
                refine XO.go [] 2 [1,75,77] [[pi p1.kind, pi p1.n, pi p1.scale, .s (.string p1.s), .ro (eValue.els p1.items)]] [(1, .one (.pv (.rp [[pi p1.kind, pi p1.n, pi p1.scale, .s (.string p1.s), .ro (eValue.els p1.items)]] 0 0))), (75, vb true), (77, vi p1.scale)] [] [([[pi p1.kind, pi p1.n, pi p1.scale, .s (.string p1.s), .ro (eValue.els p1.items)]] : List (List PV))[0]? = some [pi p1.kind, pi p1.n, pi p1.scale, .s (.string p1.s), .ro (eValue.els p1.items)]] (by kernel_rfl) (⟨rfl, trivial⟩) ?_
                refine XO.cal 63 [vi p1.scale, vi (0 : Int), vi (12 : Int)] (vb r4) [(78, vb r4), (1, .one (.pv (.rp [[pi p1.kind, pi p1.n, pi p1.scale, .s (.string p1.s), .ro (eValue.els p1.items)]] 0 0))), (75, vb true), (77, vi p1.scale)] (by kernel_rfl) (c_value_within _ _ _ _ c30) rfl rfl (by kernel_rfl) ?_
                refine XO.go [] 2 [1,80] [] [(1, .one (.pv (.rp [[pi p1.kind, pi p1.n, pi p1.scale, .s (.string p1.s), .ro (eValue.els p1.items)]] 0 0))), (80, vb r4)] [] [] (by kernel_rfl) trivial ?_
                refine XO.setb 80 false (B := r4) rfl b31 ?_
                refine XO.go [] 11 [2] [] [(2, vb false)] [] [] (by kernel_rfl) trivial ?_
                refine XO.done (by kernel_rfl) ?_
                exact hJ5 false h _ _ (Sub.pick [2] (by kernel_rfl))
            · have h := ift_f b29 h
              refine XW.reg (by kernel_rfl) ?_
              refine XO.go [] 2 [1,73] [[pi p1.kind, pi p1.n, pi p1.scale, .s (.string p1.s), .ro (eValue.els p1.items)]] [(1, .one (.pv (.rp [[pi p1.kind, pi p1.n, pi p1.scale, .s (.string p1.s), .ro (eValue.els p1.items)]] 0 0))), (73, vi p1.n)] [] [([[pi p1.kind, pi p1.n, pi p1.scale, .s (.string p1.s), .ro (eValue.els p1.items)]] : List (List PV))[0]? = some [pi p1.kind, pi p1.n, pi p1.scale, .s (.string p1.s), .ro (eValue.els p1.items)]] (by kernel_rfl) (⟨rfl, trivial⟩) ?_
              refine XO.cal 63 [vi p1.n, vi (-999999999999999999 : Int), vi (999999999999999999 : Int)] (vb r3) [(74, vb r3), (1, .one (.pv (.rp [[pi p1.kind, pi p1.n, pi p1.scale, .s (.string p1.s), .ro (eValue.els p1.items)]] 0 0))), (73, vi p1.n)] (by kernel_rfl) (c_value_within _ _ _ _ c28) rfl rfl (by kernel_rfl) ?_
              refine XO.go [] 1 [1,75] [] [(1, .one (.pv (.rp [[pi p1.kind, pi p1.n, pi p1.scale, .s (.string p1.s), .ro (eValue.els p1.items)]] 0 0))), (75, vb r3)] [] [] (by kernel_rfl) trivial ?_
              refine XO.setb 75 false (B := r3) rfl b29 ?_
              refine XO.go [] 16 [2] [] [(2, vb false)] [] [] (by kernel_rfl) trivial ?_
              refine XO.done (by kernel_rfl) ?_
              exact hJ5 false h _ _ (Sub.pick [2] (by kernel_rfl))
          · have h := ift_f b26 h
            refine XW.seq (x := cd Tryd.f77 [1,1,0,1,0,1,1,1,1,1,1,1,1,0]) (y := cd Tryd.f77 [1,1,0,1,0,1,1,1,1,1,1,1,1,1]) (by kernel_rfl) fun K33 hK33 => ?_
            refine XW.reg (by kernel_rfl) ?_
            refine XO.go [] 2 [1,3,13,91] [] [(1, .one (.pv (.rp [[pi p1.kind, pi p1.n, pi p1.scale, .s (.string p1.s), .ro (eValue.els p1.items)]] 0 0))), (3, vb x1), (13, vi p1.kind), (91, vb (p1.kind == (4 : Int)))] [] [] (by kernel_rfl) trivial ?_
            refine XO.done (by kernel_rfl) ?_
            refine hK33 _ _ ?_
            refine XW.cond (x := .tmp 91) (a := cd Tryd.f77 [1,1,0,1,0,1,1,1,1,1,1,1,1,1,0]) (b := cd Tryd.f77 [1,1,0,1,0,1,1,1,1,1,1,1,1,1,1]) (t := (p1.kind == (4 : Int))) (by kernel_rfl) (by kernel_rfl) (fun b34 => ?_) (fun b34 => ?_)
            · have h := ift_t b34 h
              refine XW.seq (x := cd Tryd.f77 [1,1,0,1,0,1,1,1,1,1,1,1,1,1,0,0]) (y := cd Tryd.f77 [1,1,0,1,0,1,1,1,1,1,1,1,1,1,0,1]) (by kernel_rfl) fun K35 hK35 => ?_
              have hJ6 : ∀ (x6 : Bool), value_plain_j6 x6 = some r → ∀ fr1 st1, Sub 154 0 [] fr1 st1 [(2, vb x6)] [] → K35 fr1 st1 := by
                intro x6 h fr1 st1 hS
                unfold value_plain_j6 at h
                refine hK35 _ _ (XW.sub hS ?_)
                refine XW.ret (by kernel_rfl) ?_
                obtain rfl := Option.some.inj h
                exact FinP.fin (.inr rfl) [] [vb x6] [] (by kernel_rfl) trivial (.one (.rfl _ rfl))
              rcases Bool.eq_false_or_eq_true x1 with b36 | b36
              · have h := ift_t b36 h
                obtain ⟨r5, c37, h⟩ := bnd_some h
                rcases Bool.eq_false_or_eq_true r5 with b38 | b38
                · have h := ift_t b38 h
                  refine XW.reg (by kernel_rfl) ?_
                  refine XO.go [] 2 [1,94] [] [(1, .one (.pv (.rp [[pi p1.kind, pi p1.n, pi p1.scale, .s (.string p1.s), .ro (eValue.els p1.items)]] 0 0))), (94, vb x1)] [] [] (by kernel_rfl) trivial ?_
                  refine XO.setb 94 true (B := x1) rfl b36 ?_
                  refine XO.go [] 2 [1,94,96] [[pi p1.kind, pi p1.n, pi p1.scale, .s (.string p1.s), .ro (eValue.els p1.items)]] [(1, .one (.pv (.rp [[pi p1.kind, pi p1.n, pi p1.scale, .s (.string p1.s), .ro (eValue.els p1.items)]] 0 0))), (94, vb true), (96, vs p1.s)] [] [([[pi p1.kind, pi p1.n, pi p1.scale, .s (.string p1.s), .ro (eValue.els p1.items)]] : List (List PV))[0]? = some [pi p1.kind, pi p1.n, pi p1.scale, .s (.string p1.s), .ro (eValue.els p1.items)]] (by kernel_rfl) (⟨rfl, trivial⟩) ?_
                  refine XO.cal 114 [vs p1.s] (vb r5) [(97, vb r5), (1, .one (.pv (.rp [[pi p1.kind, pi p1.n, pi p1.scale, .s (.string p1.s), .ro (eValue.els p1.items)]] 0 0))), (94, vb true), (96, vs p1.s)] (by kernel_rfl) (c_value_text _ _ c37) rfl rfl (by kernel_rfl) ?_
                  refine XO.go [] 2 [1,99] [] [(1, .one (.pv (.rp [[pi p1.kind, pi p1.n, pi p1.scale, .s (.string p1.s), .ro (eValue.els p1.items)]] 0 0))), (99, vb r5)] [] [] (by kernel_rfl) trivial ?_
                  refine XO.setb 99 true (B := r5) rfl b38 ?_
                  refine XO.go [] 3 [99,102] [[pi p1.kind, pi p1.n, pi p1.scale, .s (.string p1.s), .ro (eValue.els p1.items)]] [(99, vb true), (102, vi ((eValue.els p1.items).length : Int))] [] [([[pi p1.kind, pi p1.n, pi p1.scale, .s (.string p1.s), .ro (eValue.els p1.items)]] : List (List PV))[0]? = some [pi p1.kind, pi p1.n, pi p1.scale, .s (.string p1.s), .ro (eValue.els p1.items)]] (by kernel_rfl) (⟨rfl, trivial⟩) ?_
                  rw [eValue.len p1.items]
                  refine XO.go [] 3 [2] [] [(2, vb ((p1.items.length : Int) == (0 : Int)))] [] [] (by kernel_rfl) trivial ?_
                  refine XO.done (by kernel_rfl) ?_
                  exact hJ6 ((p1.items.length : Int) == (0 : Int)) h _ _ (Sub.pick [2] (by kernel_rfl))
                · have h := ift_f b38 h
                  refine XW.reg (by kernel_rfl) ?_
                  refine XO.go [] 2 [1,94] [] [(1, .one (.pv (.rp [[pi p1.kind, pi p1.n, pi p1.scale, .s (.string p1.s), .ro (eValue.els p1.items)]] 0 0))), (94, vb x1)] [] [] (by kernel_rfl) trivial ?_
                  refine XO.setb 94 true (B := x1) rfl b36 ?_
                  refine XO.go [] 2 [1,94,96] [[pi p1.kind, pi p1.n, pi p1.scale, .s (.string p1.s), .ro (eValue.els p1.items)]] [(1, .one (.pv (.rp [[pi p1.kind, pi p1.n, pi p1.scale, .s (.string p1.s), .ro (eValue.els p1.items)]] 0 0))), (94, vb true), (96, vs p1.s)] [] [([[pi p1.kind, pi p1.n, pi p1.scale, .s (.string p1.s), .ro (eValue.els p1.items)]] : List (List PV))[0]? = some [pi p1.kind, pi p1.n, pi p1.scale, .s (.string p1.s), .ro (eValue.els p1.items)]] (by kernel_rfl) (⟨rfl, trivial⟩) ?_
                  refine XO.cal 114 [vs p1.s] (vb r5) [(97, vb r5), (1, .one (.pv (.rp [[pi p1.kind, pi p1.n, pi p1.scale, .s (.string p1.s), .ro (eValue.els p1.items)]] 0 0))), (94, vb true), (96, vs p1.s)] (by kernel_rfl) (c_value_text _ _ c37) rfl rfl (by kernel_rfl) ?_
                  refine XO.go [] 2 [1,99] [] [(1, .one (.pv (.rp [[pi p1.kind, pi p1.n, pi p1.scale, .s (.string p1.s), .ro (eValue.els p1.items)]] 0 0))), (99, vb r5)] [] [] (by kernel_rfl) trivial ?_
                  refine XO.setb 99 false (B := r5) rfl b38 ?_
                  refine XO.go [] 6 [2] [] [(2, vb false)] [] [] (by kernel_rfl) trivial ?_
                  refine XO.done (by kernel_rfl) ?_
                  exact hJ6 false h _ _ (Sub.pick [2] (by kernel_rfl))
              · have h := ift_f b36 h
                refine XW.reg (by kernel_rfl) ?_
                refine XO.go [] 2 [1,94] [] [(1, .one (.pv (.rp [[pi p1.kind, pi p1.n, pi p1.scale, .s (.string p1.s), .ro (eValue.els p1.items)]] 0 0))), (94, vb x1)] [] [] (by kernel_rfl) trivial ?_
                refine XO.setb 94 false (B := x1) rfl b36 ?_
                refine XO.go [] 11 [2] [] [(2, vb false)] [] [] (by kernel_rfl) trivial ?_
                refine XO.done (by kernel_rfl) ?_
                exact hJ6 false h _ _ (Sub.pick [2] (by kernel_rfl))
            · have h := ift_f b34 h
              refine XW.seq (x := cd Tryd.f77 [1,1,0,1,0,1,1,1,1,1,1,1,1,1,1,0]) (y := cd Tryd.f77 [1,1,0,1,0,1,1,1,1,1,1,1,1,1,1,1]) (by kernel_rfl) fun K39 hK39 => ?_
              refine XW.reg (by kernel_rfl) ?_
              refine XO.go [] 2 [1,3,13,105] [] [(1, .one (.pv (.rp [[pi p1.kind, pi p1.n, pi p1.scale, .s (.string p1.s), .ro (eValue.els p1.items)]] 0 0))), (3, vb x1), (13, vi p1.kind), (105, vb (p1.kind == (5 : Int)))] [] [] (by kernel_rfl) trivial ?_
              refine XO.done (by kernel_rfl) ?_
              refine hK39 _ _ ?_
              refine XW.cond (x := .tmp 105) (a := cd Tryd.f77 [1,1,0,1,0,1,1,1,1,1,1,1,1,1,1,1,0]) (b := cd Tryd.f77 [1,1,0,1,0,1,1,1,1,1,1,1,1,1,1,1,1]) (t := (p1.kind == (5 : Int))) (by kernel_rfl) (by kernel_rfl) (fun b40 => ?_) (fun b40 => ?_)
              · have h := ift_t b40 h
                refine XW.seq (x := cd Tryd.f77 [1,1,0,1,0,1,1,1,1,1,1,1,1,1,1,1,0,0]) (y := cd Tryd.f77 [1,1,0,1,0,1,1,1,1,1,1,1,1,1,1,1,0,1]) (by kernel_rfl) fun K41 hK41 => ?_
                have hJ7 : ∀ (x7 : Bool), value_plain_j7 x7 = some r → ∀ fr1 st1, Sub 154 0 [] fr1 st1 [(2, vb x7)] [] → K41 fr1 st1 := by
                  intro x7 h fr1 st1 hS
                  unfold value_plain_j7 at h
                  refine hK41 _ _ (XW.sub hS ?_)
                  refine XW.ret (by kernel_rfl) ?_
                  obtain rfl := Option.some.inj h
                  exact FinP.fin (.inr rfl) [] [vb x7] [] (by kernel_rfl) trivial (.one (.rfl _ rfl))
                obtain ⟨r6, c42, h⟩ := bnd_some h
                rcases Bool.eq_false_or_eq_true r6 with b43 | b43
                · have h := ift_t b43 h
                  rcases Bool.eq_false_or_eq_true (p1.scale == (0 : Int)) with b44 | b44
                  · have h := ift_t b44 h
                    rcases Bool.eq_false_or_eq_true (p1.s.toList == (ByteArray.mk #[]).toList) with b45 | b45
                    · have h := ift_t b45 h
                      refine XW.reg (by kernel_rfl) ?_
                      refine XO.go [] 2 [1,108] [[pi p1.kind, pi p1.n, pi p1.scale, .s (.string p1.s), .ro (eValue.els p1.items)]] [(1, .one (.pv (.rp [[pi p1.kind, pi p1.n, pi p1.scale, .s (.string p1.s), .ro (eValue.els p1.items)]] 0 0))), (108, vi p1.n)] [] [([[pi p1.kind, pi p1.n, pi p1.scale, .s (.string p1.s), .ro (eValue.els p1.items)]] : List (List PV))[0]? = some [pi p1.kind, pi p1.n, pi p1.scale, .s (.string p1.s), .ro (eValue.els p1.items)]] (by kernel_rfl) (⟨rfl, trivial⟩) ?_
                      refine XO.cal 63 [vi p1.n, vi (-62135596800 : Int), vi (253402300799 : Int)] (vb r6) [(109, vb r6), (1, .one (.pv (.rp [[pi p1.kind, pi p1.n, pi p1.scale, .s (.string p1.s), .ro (eValue.els p1.items)]] 0 0))), (108, vi p1.n)] (by kernel_rfl) (c_value_within _ _ _ _ c42) rfl rfl (by kernel_rfl) ?_
                      refine XO.go [] 1 [1,110] [] [(1, .one (.pv (.rp [[pi p1.kind, pi p1.n, pi p1.scale, .s (.string p1.s), .ro (eValue.els p1.items)]] 0 0))), (110, vb r6)] [] [] (by kernel_rfl) trivial ?_
                      refine XO.setb 110 true (B := r6) rfl b43 ?_
                      refine XO.go [] 5 [1,115] [[pi p1.kind, pi p1.n, pi p1.scale, .s (.string p1.s), .ro (eValue.els p1.items)]] [(1, .one (.pv (.rp [[pi p1.kind, pi p1.n, pi p1.scale, .s (.string p1.s), .ro (eValue.els p1.items)]] 0 0))), (115, vb (p1.scale == (0 : Int)))] [] [([[pi p1.kind, pi p1.n, pi p1.scale, .s (.string p1.s), .ro (eValue.els p1.items)]] : List (List PV))[0]? = some [pi p1.kind, pi p1.n, pi p1.scale, .s (.string p1.s), .ro (eValue.els p1.items)]] (by kernel_rfl) (⟨rfl, trivial⟩) ?_
                      refine XO.setb 115 true (B := (p1.scale == (0 : Int))) rfl b44 ?_
                      refine XO.go [] 5 [1,120] [[pi p1.kind, pi p1.n, pi p1.scale, .s (.string p1.s), .ro (eValue.els p1.items)]] [(1, .one (.pv (.rp [[pi p1.kind, pi p1.n, pi p1.scale, .s (.string p1.s), .ro (eValue.els p1.items)]] 0 0))), (120, vb (p1.s.toList == (ByteArray.mk #[]).toList))] [] [([[pi p1.kind, pi p1.n, pi p1.scale, .s (.string p1.s), .ro (eValue.els p1.items)]] : List (List PV))[0]? = some [pi p1.kind, pi p1.n, pi p1.scale, .s (.string p1.s), .ro (eValue.els p1.items)]] (by kernel_rfl) (⟨rfl, trivial⟩) ?_
                      refine XO.setb 120 true (B := (p1.s.toList == (ByteArray.mk #[]).toList)) rfl b45 ?_
                      refine XO.go [] 3 [120,123] [[pi p1.kind, pi p1.n, pi p1.scale, .s (.string p1.s), .ro (eValue.els p1.items)]] [(120, vb true), (123, vi ((eValue.els p1.items).length : Int))] [] [([[pi p1.kind, pi p1.n, pi p1.scale, .s (.string p1.s), .ro (eValue.els p1.items)]] : List (List PV))[0]? = some [pi p1.kind, pi p1.n, pi p1.scale, .s (.string p1.s), .ro (eValue.els p1.items)]] (by kernel_rfl) (⟨rfl, trivial⟩) ?_
                      rw [eValue.len p1.items]
                      refine XO.go [] 3 [2] [] [(2, vb ((p1.items.length : Int) == (0 : Int)))] [] [] (by kernel_rfl) trivial ?_
                      refine XO.done (by kernel_rfl) ?_
                      exact hJ7 ((p1.items.length : Int) == (0 : Int)) h _ _ (Sub.pick [2] (by kernel_rfl))
                    · have h := ift_f b45 h
                      refine XW.reg (by kernel_rfl) ?_
                      refine XO.go [] 2 [1,108] [[pi p1.kind, pi p1.n, pi p1.scale, .s (.string p1.s), .ro (eValue.els p1.items)]] [(1, .one (.pv (.rp [[pi p1.kind, pi p1.n, pi p1.scale, .s (.string p1.s), .ro (eValue.els p1.items)]] 0 0))), (108, vi p1.n)] [] [([[pi p1.kind, pi p1.n, pi p1.scale, .s (.string p1.s), .ro (eValue.els p1.items)]] : List (List PV))[0]? = some [pi p1.kind, pi p1.n, pi p1.scale, .s (.string p1.s), .ro (eValue.els p1.items)]] (by kernel_rfl) (⟨rfl, trivial⟩) ?_
                      refine XO.cal 63 [vi p1.n, vi (-62135596800 : Int), vi (253402300799 : Int)] (vb r6) [(109, vb r6), (1, .one (.pv (.rp [[pi p1.kind, pi p1.n, pi p1.scale, .s (.string p1.s), .ro (eValue.els p1.items)]] 0 0))), (108, vi p1.n)] (by kernel_rfl) (c_value_within _ _ _ _ c42) rfl rfl (by kernel_rfl) ?_
                      refine XO.go [] 1 [1,110] [] [(1, .one (.pv (.rp [[pi p1.kind, pi p1.n, pi p1.scale, .s (.string p1.s), .ro (eValue.els p1.items)]] 0 0))), (110, vb r6)] [] [] (by kernel_rfl) trivial ?_
                      refine XO.setb 110 true (B := r6) rfl b43 ?_
                      refine XO.go [] 5 [1,115] [[pi p1.kind, pi p1.n, pi p1.scale, .s (.string p1.s), .ro (eValue.els p1.items)]] [(1, .one (.pv (.rp [[pi p1.kind, pi p1.n, pi p1.scale, .s (.string p1.s), .ro (eValue.els p1.items)]] 0 0))), (115, vb (p1.scale == (0 : Int)))] [] [([[pi p1.kind, pi p1.n, pi p1.scale, .s (.string p1.s), .ro (eValue.els p1.items)]] : List (List PV))[0]? = some [pi p1.kind, pi p1.n, pi p1.scale, .s (.string p1.s), .ro (eValue.els p1.items)]] (by kernel_rfl) (⟨rfl, trivial⟩) ?_
                      refine XO.setb 115 true (B := (p1.scale == (0 : Int))) rfl b44 ?_
                      refine XO.go [] 5 [1,120] [[pi p1.kind, pi p1.n, pi p1.scale, .s (.string p1.s), .ro (eValue.els p1.items)]] [(1, .one (.pv (.rp [[pi p1.kind, pi p1.n, pi p1.scale, .s (.string p1.s), .ro (eValue.els p1.items)]] 0 0))), (120, vb (p1.s.toList == (ByteArray.mk #[]).toList))] [] [([[pi p1.kind, pi p1.n, pi p1.scale, .s (.string p1.s), .ro (eValue.els p1.items)]] : List (List PV))[0]? = some [pi p1.kind, pi p1.n, pi p1.scale, .s (.string p1.s), .ro (eValue.els p1.items)]] (by kernel_rfl) (⟨rfl, trivial⟩) ?_
                      refine XO.setb 120 false (B := (p1.s.toList == (ByteArray.mk #[]).toList)) rfl b45 ?_
                      refine XO.go [] 6 [2] [] [(2, vb false)] [] [] (by kernel_rfl) trivial ?_
                      refine XO.done (by kernel_rfl) ?_
                      exact hJ7 false h _ _ (Sub.pick [2] (by kernel_rfl))
                  · have h := ift_f b44 h
                    refine XW.reg (by kernel_rfl) ?_
                    refine XO.go [] 2 [1,108] [[pi p1.kind, pi p1.n, pi p1.scale, .s (.string p1.s), .ro (eValue.els p1.items)]] [(1, .one (.pv (.rp [[pi p1.kind, pi p1.n, pi p1.scale, .s (.string p1.s), .ro (eValue.els p1.items)]] 0 0))), (108, vi p1.n)] [] [([[pi p1.kind, pi p1.n, pi p1.scale, .s (.string p1.s), .ro (eValue.els p1.items)]] : List (List PV))[0]? = some [pi p1.kind, pi p1.n, pi p1.scale, .s (.string p1.s), .ro (eValue.els p1.items)]] (by kernel_rfl) (⟨rfl, trivial⟩) ?_
                    refine XO.cal 63 [vi p1.n, vi (-62135596800 : Int), vi (253402300799 : Int)] (vb r6) [(109, vb r6), (1, .one (.pv (.rp [[pi p1.kind, pi p1.n, pi p1.scale, .s (.string p1.s), .ro (eValue.els p1.items)]] 0 0))), (108, vi p1.n)] (by kernel_rfl) (c_value_within _ _ _ _ c42) rfl rfl (by kernel_rfl) ?_
                    refine XO.go [] 1 [1,110] [] [(1, .one (.pv (.rp [[pi p1.kind, pi p1.n, pi p1.scale, .s (.string p1.s), .ro (eValue.els p1.items)]] 0 0))), (110, vb r6)] [] [] (by kernel_rfl) trivial ?_
                    refine XO.setb 110 true (B := r6) rfl b43 ?_
                    refine XO.go [] 5 [1,115] [[pi p1.kind, pi p1.n, pi p1.scale, .s (.string p1.s), .ro (eValue.els p1.items)]] [(1, .one (.pv (.rp [[pi p1.kind, pi p1.n, pi p1.scale, .s (.string p1.s), .ro (eValue.els p1.items)]] 0 0))), (115, vb (p1.scale == (0 : Int)))] [] [([[pi p1.kind, pi p1.n, pi p1.scale, .s (.string p1.s), .ro (eValue.els p1.items)]] : List (List PV))[0]? = some [pi p1.kind, pi p1.n, pi p1.scale, .s (.string p1.s), .ro (eValue.els p1.items)]] (by kernel_rfl) (⟨rfl, trivial⟩) ?_
                    refine XO.setb 115 false (B := (p1.scale == (0 : Int))) rfl b44 ?_
                    refine XO.go [] 11 [2] [] [(2, vb false)] [] [] (by kernel_rfl) trivial ?_
                    refine XO.done (by kernel_rfl) ?_
                    exact hJ7 false h _ _ (Sub.pick [2] (by kernel_rfl))
                · have h := ift_f b43 h
                  refine XW.reg (by kernel_rfl) ?_
                  refine XO.go [] 2 [1,108] [[pi p1.kind, pi p1.n, pi p1.scale, .s (.string p1.s), .ro (eValue.els p1.items)]] [(1, .one (.pv (.rp [[pi p1.kind, pi p1.n, pi p1.scale, .s (.string p1.s), .ro (eValue.els p1.items)]] 0 0))), (108, vi p1.n)] [] [([[pi p1.kind, pi p1.n, pi p1.scale, .s (.string p1.s), .ro (eValue.els p1.items)]] : List (List PV))[0]? = some [pi p1.kind, pi p1.n, pi p1.scale, .s (.string p1.s), .ro (eValue.els p1.items)]] (by kernel_rfl) (⟨rfl, trivial⟩) ?_
                  refine XO.cal 63 [vi p1.n, vi (-62135596800 : Int), vi (253402300799 : Int)] (vb r6) [(109, vb r6), (1, .one (.pv (.rp [[pi p1.kind, pi p1.n, pi p1.scale, .s (.string p1.s), .ro (eValue.els p1.items)]] 0 0))), (108, vi p1.n)] (by kernel_rfl) (c_value_within _ _ _ _ c42) rfl rfl (by kernel_rfl) ?_
                  refine XO.go [] 1 [1,110] [] [(1, .one (.pv (.rp [[pi p1.kind, pi p1.n, pi p1.scale, .s (.string p1.s), .ro (eValue.els p1.items)]] 0 0))), (110, vb r6)] [] [] (by kernel_rfl) trivial ?_
                  refine XO.setb 110 false (B := r6) rfl b43 ?_
                  refine XO.go [] 16 [2] [] [(2, vb false)] [] [] (by kernel_rfl) trivial ?_
                  refine XO.done (by kernel_rfl) ?_
                  exact hJ7 false h _ _ (Sub.pick [2] (by kernel_rfl))
              · have h := ift_f b40 h
                refine XW.seq (x := cd Tryd.f77 [1,1,0,1,0,1,1,1,1,1,1,1,1,1,1,1,1,0]) (y := cd Tryd.f77 [1,1,0,1,0,1,1,1,1,1,1,1,1,1,1,1,1,1]) (by kernel_rfl) fun K46 hK46 => ?_
                refine XW.reg (by kernel_rfl) ?_
                refine XO.go [] 2 [1,3,13,126] [] [(1, .one (.pv (.rp [[pi p1.kind, pi p1.n, pi p1.scale, .s (.string p1.s), .ro (eValue.els p1.items)]] 0 0))), (3, vb x1), (13, vi p1.kind), (126, vb (p1.kind == (6 : Int)))] [] [] (by kernel_rfl) trivial ?_
                refine XO.done (by kernel_rfl) ?_
                refine hK46 _ _ ?_
                refine XW.cond (x := .tmp 126) (a := cd Tryd.f77 [1,1,0,1,0,1,1,1,1,1,1,1,1,1,1,1,1,1,0]) (b := cd Tryd.f77 [1,1,0,1,0,1,1,1,1,1,1,1,1,1,1,1,1,1,1]) (t := (p1.kind == (6 : Int))) (by kernel_rfl) (by kernel_rfl) (fun b47 => ?_) (fun b47 => ?_)
                · have h := ift_t b47 h
                  refine XW.seq (x := cd Tryd.f77 [1,1,0,1,0,1,1,1,1,1,1,1,1,1,1,1,1,1,0,0]) (y := cd Tryd.f77 [1,1,0,1,0,1,1,1,1,1,1,1,1,1,1,1,1,1,0,1]) (by kernel_rfl) fun K48 hK48 => ?_
                  have hJ8 : ∀ (x8 : Bool), value_plain_j8 x8 = some r → ∀ fr1 st1, Sub 154 0 [] fr1 st1 [(2, vb x8)] [] → K48 fr1 st1 := by
                    intro x8 h fr1 st1 hS
                    unfold value_plain_j8 at h
                    refine hK48 _ _ (XW.sub hS ?_)
                    refine XW.ret (by kernel_rfl) ?_
                    obtain rfl := Option.some.inj h
                    exact FinP.fin (.inr rfl) [] [vb x8] [] (by kernel_rfl) trivial (.one (.rfl _ rfl))
                  rcases Bool.eq_false_or_eq_true x1 with b49 | b49
                  · have h := ift_t b49 h
                    rcases Bool.eq_false_or_eq_true (p1.s.toList == (ByteArray.mk #[]).toList) with b50 | b50
                    · have h := ift_t b50 h
                      refine XW.reg (by kernel_rfl) ?_
                      refine XO.go [] 2 [1,129] [] [(1, .one (.pv (.rp [[pi p1.kind, pi p1.n, pi p1.scale, .s (.string p1.s), .ro (eValue.els p1.items)]] 0 0))), (129, vb x1)] [] [] (by kernel_rfl) trivial ?_
                      refine XO.setb 129 true (B := x1) rfl b49 ?_
                      refine XO.go [] 5 [1,134] [[pi p1.kind, pi p1.n, pi p1.scale, .s (.string p1.s), .ro (eValue.els p1.items)]] [(1, .one (.pv (.rp [[pi p1.kind, pi p1.n, pi p1.scale, .s (.string p1.s), .ro (eValue.els p1.items)]] 0 0))), (134, vb (p1.s.toList == (ByteArray.mk #[]).toList))] [] [([[pi p1.kind, pi p1.n, pi p1.scale, .s (.string p1.s), .ro (eValue.els p1.items)]] : List (List PV))[0]? = some [pi p1.kind, pi p1.n, pi p1.scale, .s (.string p1.s), .ro (eValue.els p1.items)]] (by kernel_rfl) (⟨rfl, trivial⟩) ?_
                      refine XO.setb 134 true (B := (p1.s.toList == (ByteArray.mk #[]).toList)) rfl b50 ?_
                      refine XO.go [] 3 [134,137] [[pi p1.kind, pi p1.n, pi p1.scale, .s (.string p1.s), .ro (eValue.els p1.items)]] [(134, vb true), (137, vi ((eValue.els p1.items).length : Int))] [] [([[pi p1.kind, pi p1.n, pi p1.scale, .s (.string p1.s), .ro (eValue.els p1.items)]] : List (List PV))[0]? = some [pi p1.kind, pi p1.n, pi p1.scale, .s (.string p1.s), .ro (eValue.els p1.items)]] (by kernel_rfl) (⟨rfl, trivial⟩) ?_
                      rw [eValue.len p1.items]
                      refine XO.go [] 3 [2] [] [(2, vb (decide ((p1.items.length : Int) ≤ (64 : Int))))] [] [] (by kernel_rfl) trivial ?_
                      refine XO.done (by kernel_rfl) ?_
                      exact hJ8 (decide ((p1.items.length : Int) ≤ (64 : Int))) h _ _ (Sub.pick [2] (by kernel_rfl))
                    · have h := ift_f b50 h
                      refine XW.reg (by kernel_rfl) ?_
                      refine XO.go [] 2 [1,129] [] [(1, .one (.pv (.rp [[pi p1.kind, pi p1.n, pi p1.scale, .s (.string p1.s), .ro (eValue.els p1.items)]] 0 0))), (129, vb x1)] [] [] (by kernel_rfl) trivial ?_
                      refine XO.setb 129 true (B := x1) rfl b49 ?_
                      refine XO.go [] 5 [1,134] [[pi p1.kind, pi p1.n, pi p1.scale, .s (.string p1.s), .ro (eValue.els p1.items)]] [(1, .one (.pv (.rp [[pi p1.kind, pi p1.n, pi p1.scale, .s (.string p1.s), .ro (eValue.els p1.items)]] 0 0))), (134, vb (p1.s.toList == (ByteArray.mk #[]).toList))] [] [([[pi p1.kind, pi p1.n, pi p1.scale, .s (.string p1.s), .ro (eValue.els p1.items)]] : List (List PV))[0]? = some [pi p1.kind, pi p1.n, pi p1.scale, .s (.string p1.s), .ro (eValue.els p1.items)]] (by kernel_rfl) (⟨rfl, trivial⟩) ?_
                      refine XO.setb 134 false (B := (p1.s.toList == (ByteArray.mk #[]).toList)) rfl b50 ?_
                      refine XO.go [] 6 [2] [] [(2, vb false)] [] [] (by kernel_rfl) trivial ?_
                      refine XO.done (by kernel_rfl) ?_
                      exact hJ8 false h _ _ (Sub.pick [2] (by kernel_rfl))
                  · have h := ift_f b49 h
                    refine XW.reg (by kernel_rfl) ?_
                    refine XO.go [] 2 [1,129] [] [(1, .one (.pv (.rp [[pi p1.kind, pi p1.n, pi p1.scale, .s (.string p1.s), .ro (eValue.els p1.items)]] 0 0))), (129, vb x1)] [] [] (by kernel_rfl) trivial ?_
                    refine XO.setb 129 false (B := x1) rfl b49 ?_
                    refine XO.go [] 11 [2] [] [(2, vb false)] [] [] (by kernel_rfl) trivial ?_
                    refine XO.done (by kernel_rfl) ?_
                    exact hJ8 false h _ _ (Sub.pick [2] (by kernel_rfl))
                · have h := ift_f b47 h
                  refine XW.seq (x := cd Tryd.f77 [1,1,0,1,0,1,1,1,1,1,1,1,1,1,1,1,1,1,1,0]) (y := cd Tryd.f77 [1,1,0,1,0,1,1,1,1,1,1,1,1,1,1,1,1,1,1,1]) (by kernel_rfl) fun K51 hK51 => ?_
                  refine XW.reg (by kernel_rfl) ?_
                  refine XO.go [] 2 [1,3,140] [] [(1, .one (.pv (.rp [[pi p1.kind, pi p1.n, pi p1.scale, .s (.string p1.s), .ro (eValue.els p1.items)]] 0 0))), (3, vb x1), (140, vb (p1.kind == (7 : Int)))] [] [] (by kernel_rfl) trivial ?_
                  refine XO.done (by kernel_rfl) ?_
                  refine hK51 _ _ ?_
                  refine XW.cond (x := .tmp 140) (a := cd Tryd.f77 [1,1,0,1,0,1,1,1,1,1,1,1,1,1,1,1,1,1,1,1,0]) (b := cd Tryd.f77 [1,1,0,1,0,1,1,1,1,1,1,1,1,1,1,1,1,1,1,1,1]) (t := (p1.kind == (7 : Int))) (by kernel_rfl) (by kernel_rfl) (fun b52 => ?_) (fun b52 => ?_)
                  · have h := ift_t b52 h
                    refine XW.seq (x := cd Tryd.f77 [1,1,0,1,0,1,1,1,1,1,1,1,1,1,1,1,1,1,1,1,0,0]) (y := cd Tryd.f77 [1,1,0,1,0,1,1,1,1,1,1,1,1,1,1,1,1,1,1,1,0,1]) (by kernel_rfl) fun K53 hK53 => ?_
                    have hJ9 : ∀ (x9 : Bool), value_plain_j9 x9 = some r → ∀ fr1 st1, Sub 154 0 [] fr1 st1 [(2, vb x9)] [] → K53 fr1 st1 := by
                      intro x9 h fr1 st1 hS
                      unfold value_plain_j9 at h
                      refine hK53 _ _ (XW.sub hS ?_)
                      refine XW.ret (by kernel_rfl) ?_
                      obtain rfl := Option.some.inj h
                      exact FinP.fin (.inr rfl) [] [vb x9] [] (by kernel_rfl) trivial (.one (.rfl _ rfl))
                    rcases Bool.eq_false_or_eq_true x1 with b54 | b54
                    · have h := ift_t b54 h
                      rcases Bool.eq_false_or_eq_true (p1.s.toList == (ByteArray.mk #[]).toList) with b55 | b55
                      · have h := ift_t b55 h
                        refine XW.reg (by kernel_rfl) ?_
                        refine XO.go [] 2 [1,143] [] [(1, .one (.pv (.rp [[pi p1.kind, pi p1.n, pi p1.scale, .s (.string p1.s), .ro (eValue.els p1.items)]] 0 0))), (143, vb x1)] [] [] (by kernel_rfl) trivial ?_
                        refine XO.setb 143 true (B := x1) rfl b54 ?_
                        refine XO.go [] 5 [1,148] [[pi p1.kind, pi p1.n, pi p1.scale, .s (.string p1.s), .ro (eValue.els p1.items)]] [(1, .one (.pv (.rp [[pi p1.kind, pi p1.n, pi p1.scale, .s (.string p1.s), .ro (eValue.els p1.items)]] 0 0))), (148, vb (p1.s.toList == (ByteArray.mk #[]).toList))] [] [([[pi p1.kind, pi p1.n, pi p1.scale, .s (.string p1.s), .ro (eValue.els p1.items)]] : List (List PV))[0]? = some [pi p1.kind, pi p1.n, pi p1.scale, .s (.string p1.s), .ro (eValue.els p1.items)]] (by kernel_rfl) (⟨rfl, trivial⟩) ?_
                        refine XO.setb 148 true (B := (p1.s.toList == (ByteArray.mk #[]).toList)) rfl b55 ?_
                        refine XO.go [] 3 [148,151] [[pi p1.kind, pi p1.n, pi p1.scale, .s (.string p1.s), .ro (eValue.els p1.items)]] [(148, vb true), (151, vi ((eValue.els p1.items).length : Int))] [] [([[pi p1.kind, pi p1.n, pi p1.scale, .s (.string p1.s), .ro (eValue.els p1.items)]] : List (List PV))[0]? = some [pi p1.kind, pi p1.n, pi p1.scale, .s (.string p1.s), .ro (eValue.els p1.items)]] (by kernel_rfl) (⟨rfl, trivial⟩) ?_
                        rw [eValue.len p1.items]
                        refine XO.go [] 3 [2] [] [(2, vb (decide ((0 : Int) < (p1.items.length : Int))))] [] [] (by kernel_rfl) trivial ?_
                        refine XO.done (by kernel_rfl) ?_
                        exact hJ9 (decide ((0 : Int) < (p1.items.length : Int))) h _ _ (Sub.pick [2] (by kernel_rfl))
                      · have h := ift_f b55 h
                        refine XW.reg (by kernel_rfl) ?_
                        refine XO.go [] 2 [1,143] [] [(1, .one (.pv (.rp [[pi p1.kind, pi p1.n, pi p1.scale, .s (.string p1.s), .ro (eValue.els p1.items)]] 0 0))), (143, vb x1)] [] [] (by kernel_rfl) trivial ?_
                        refine XO.setb 143 true (B := x1) rfl b54 ?_
                        refine XO.go [] 5 [1,148] [[pi p1.kind, pi p1.n, pi p1.scale, .s (.string p1.s), .ro (eValue.els p1.items)]] [(1, .one (.pv (.rp [[pi p1.kind, pi p1.n, pi p1.scale, .s (.string p1.s), .ro (eValue.els p1.items)]] 0 0))), (148, vb (p1.s.toList == (ByteArray.mk #[]).toList))] [] [([[pi p1.kind, pi p1.n, pi p1.scale, .s (.string p1.s), .ro (eValue.els p1.items)]] : List (List PV))[0]? = some [pi p1.kind, pi p1.n, pi p1.scale, .s (.string p1.s), .ro (eValue.els p1.items)]] (by kernel_rfl) (⟨rfl, trivial⟩) ?_
                        refine XO.setb 148 false (B := (p1.s.toList == (ByteArray.mk #[]).toList)) rfl b55 ?_
                        refine XO.go [] 6 [2] [] [(2, vb false)] [] [] (by kernel_rfl) trivial ?_
                        refine XO.done (by kernel_rfl) ?_
                        exact hJ9 false h _ _ (Sub.pick [2] (by kernel_rfl))
                    · have h := ift_f b54 h
                      refine XW.reg (by kernel_rfl) ?_
                      refine XO.go [] 2 [1,143] [] [(1, .one (.pv (.rp [[pi p1.kind, pi p1.n, pi p1.scale, .s (.string p1.s), .ro (eValue.els p1.items)]] 0 0))), (143, vb x1)] [] [] (by kernel_rfl) trivial ?_
                      refine XO.setb 143 false (B := x1) rfl b54 ?_
                      refine XO.go [] 11 [2] [] [(2, vb false)] [] [] (by kernel_rfl) trivial ?_
                      refine XO.done (by kernel_rfl) ?_
                      exact hJ9 false h _ _ (Sub.pick [2] (by kernel_rfl))
                  · have h := ift_f b52 h
                    refine XW.skip (by kernel_rfl) ?_
                    refine hK4 _ _ ?_
                    refine XW.seq (x := cd Tryd.f77 [1,1,1,0]) (y := cd Tryd.f77 [1,1,1,1]) (by kernel_rfl) fun K56 hK56 => ?_
                    refine XW.reg (by kernel_rfl) ?_
                    refine XO.go [] 1 [2] [] [(2, vb false)] [] [] (by kernel_rfl) trivial ?_
                    refine XO.done (by kernel_rfl) ?_
                    refine hK56 _ _ ?_
                    refine XW.ret (by kernel_rfl) ?_
                    obtain rfl := Option.some.inj h
                    exact FinP.fin (.inr rfl) [] [vb false] [] (by kernel_rfl) trivial (.one (.rfl _ rfl))
  rcases Bool.eq_false_or_eq_true (p1.n == (0 : Int)) with b3 | b3
  · have h := ift_t b3 h
    refine XW.reg (by kernel_rfl) ?_
    refine XO.go [] 4 [1,7] [[pi p1.kind, pi p1.n, pi p1.scale, .s (.string p1.s), .ro (eValue.els p1.items)]] [(1, .one (.pv (.rp [[pi p1.kind, pi p1.n, pi p1.scale, .s (.string p1.s), .ro (eValue.els p1.items)]] 0 0))), (7, vb (p1.n == (0 : Int)))] [] [([[pi p1.kind, pi p1.n, pi p1.scale, .s (.string p1.s), .ro (eValue.els p1.items)]] : List (List PV))[0]? = some [pi p1.kind, pi p1.n, pi p1.scale, .s (.string p1.s), .ro (eValue.els p1.items)]] (by kernel_rfl) (⟨rfl, trivial⟩) ?_
    refine XO.setb 7 true (B := (p1.n == (0 : Int))) rfl b3 ?_
    refine XO.go [] 5 [1,3] [[pi p1.kind, pi p1.n, pi p1.scale, .s (.string p1.s), .ro (eValue.els p1.items)]] [(1, .one (.pv (.rp [[pi p1.kind, pi p1.n, pi p1.scale, .s (.string p1.s), .ro (eValue.els p1.items)]] 0 0))), (3, vb (p1.scale == (0 : Int)))] [] [([[pi p1.kind, pi p1.n, pi p1.scale, .s (.string p1.s), .ro (eValue.els p1.items)]] : List (List PV))[0]? = some [pi p1.kind, pi p1.n, pi p1.scale, .s (.string p1.s), .ro (eValue.els p1.items)]] (by kernel_rfl) (⟨rfl, trivial⟩) ?_
    refine XO.done (by kernel_rfl) ?_
    exact hJ1 (p1.scale == (0 : Int)) h _ _ (Sub.pick [1,3] (by kernel_rfl))
  · have h := ift_f b3 h
    refine XW.reg (by kernel_rfl) ?_
    refine XO.go [] 4 [1,7] [[pi p1.kind, pi p1.n, pi p1.scale, .s (.string p1.s), .ro (eValue.els p1.items)]] [(1, .one (.pv (.rp [[pi p1.kind, pi p1.n, pi p1.scale, .s (.string p1.s), .ro (eValue.els p1.items)]] 0 0))), (7, vb (p1.n == (0 : Int)))] [] [([[pi p1.kind, pi p1.n, pi p1.scale, .s (.string p1.s), .ro (eValue.els p1.items)]] : List (List PV))[0]? = some [pi p1.kind, pi p1.n, pi p1.scale, .s (.string p1.s), .ro (eValue.els p1.items)]] (by kernel_rfl) (⟨rfl, trivial⟩) ?_
    refine XO.setb 7 false (B := (p1.n == (0 : Int))) rfl b3 ?_
    refine XO.go [] 5 [1,3] [] [(1, .one (.pv (.rp [[pi p1.kind, pi p1.n, pi p1.scale, .s (.string p1.s), .ro (eValue.els p1.items)]] 0 0))), (3, vb false)] [] [] (by kernel_rfl) trivial ?_
    refine XO.done (by kernel_rfl) ?_
    exact hJ1 false h _ _ (Sub.pick [1,3] (by kernel_rfl))

def slices_IndexFunc_api_Value_api_Value_of_value_sound_1_j1 (z2 : Int) : Option (Int × Int) :=
    some ((-1 : Int), z2)

def slices_IndexFunc_api_Value_api_Value_of_value_sound_1_l1 (q_value_sound_1_s : GValue → Int → Int → Option (Bool × Int)) (p1 : (List GValue)) (p2 : Int) : Nat → Int → Int → Option (Int × Int)
  | 0, _, _ => none
  | k1 + 1, z1, x1 =>
    ift (decide (x1 < (p1.length : Int)))
      (bnd (at? p1 x1) fun e1 =>
       bnd (q_value_sound_1_s e1 p2 z1) fun r1 =>
       ift r1.1
         (some (x1, r1.2))
         ((slices_IndexFunc_api_Value_api_Value_of_value_sound_1_l1 q_value_sound_1_s p1 p2 k1) r1.2 (IntKind.i64.wrap (x1 + (1 : Int)))))
      (slices_IndexFunc_api_Value_api_Value_of_value_sound_1_j1 z1)

def value_sound_j2 (q_slices_ContainsFunc_api_Value_api_Value_of_value_sound_1 : (List GValue) → Int → Int → Option (Bool × Int)) (p1 : GValue) (p2 : Int) (z1 : Int) (x1 : Bool) : Option (Bool × Int) :=
    ift x1
      (some (false, z1))
      (bnd (q_slices_ContainsFunc_api_Value_api_Value_of_value_sound_1 p1.items p2 z1) fun r2 =>
       some ((!r2.1), r2.2))

def value_sound_j1 (q_slices_ContainsFunc_api_Value_api_Value_of_value_sound_1 : (List GValue) → Int → Int → Option (Bool × Int)) (p1 : GValue) (p2 : Int) (z1 : Int) : Option (Bool × Int) :=
    ift (decide ((4 : Int) < p2))
      (value_sound_j2 q_slices_ContainsFunc_api_Value_api_Value_of_value_sound_1 p1 p2 z1 true)
      (ift (decide ((256 : Int) < z1))
         (value_sound_j2 q_slices_ContainsFunc_api_Value_api_Value_of_value_sound_1 p1 p2 z1 true)
         (bnd (value_plain p1) fun r1 =>
          value_sound_j2 q_slices_ContainsFunc_api_Value_api_Value_of_value_sound_1 p1 p2 z1 (!r1)))

mutual

def slices_ContainsFunc_api_Value_api_Value_of_value_sound_1 : Nat → (List GValue) → Int → Int → Option (Bool × Int)
  | 0, _, _, _ => none
  | k0 + 1, p1, p2, p3 =>
    bnd ((slices_IndexFunc_api_Value_api_Value_of_value_sound_1 k0) p1 p2 p3) fun r1 =>
    some ((decide ((0 : Int) ≤ r1.1)), r1.2)

def slices_IndexFunc_api_Value_api_Value_of_value_sound_1 : Nat → (List GValue) → Int → Int → Option (Int × Int)
  | 0, _, _, _ => none
  | k0 + 1, p1, p2, p3 =>
    slices_IndexFunc_api_Value_api_Value_of_value_sound_1_l1 (value_sound_1_s k0) p1 p2 BIG p3 (0 : Int)

def value_sound : Nat → GValue → Int → Int → Option (Bool × Int)
  | 0, _, _, _ => none
  | k0 + 1, p1, p2, p3 =>
    ift (p1.kind != (0 : Int))
      (value_sound_j1 (slices_ContainsFunc_api_Value_api_Value_of_value_sound_1 k0) p1 p2 (IntKind.i64.wrap (p3 + (1 : Int))))
      (value_sound_j1 (slices_ContainsFunc_api_Value_api_Value_of_value_sound_1 k0) p1 p2 p3)

def value_sound_1_s : Nat → GValue → Int → Int → Option (Bool × Int)
  | 0, _, _, _ => none
  | k0 + 1, p1, p2, p3 =>
    bnd ((value_sound k0) p1 (IntKind.i64.wrap (p2 + (1 : Int))) p3) fun r1 =>
    some ((!r1.1), r1.2)

end


mutual

theorem c_slices_ContainsFunc_api_Value_api_Value_of_value_sound_1 : ∀ (k0 : Nat) (p1 : (List GValue)) (p2 : Int) (p3 : Int) (r : (Bool × Int)), slices_ContainsFunc_api_Value_api_Value_of_value_sound_1 k0 p1 p2 p3 = some r → MC Tryd.prog 39 [vl eValue p1, .one (.fn 78 [.pv (.rp [[pi p2]] 0 0), .pt 0 0 0 0])] [.box [.pt 1 0 0 0], .box [ci p3]] (vb r.1) [.box [.pt 1 0 0 0], .box [ci r.2]]
  | 0, _, _, _, r, h => by rw [slices_ContainsFunc_api_Value_api_Value_of_value_sound_1.eq_1] at h; cases h
  | k0 + 1, p1, p2, p3, r, h => by
    rw [slices_ContainsFunc_api_Value_api_Value_of_value_sound_1.eq_2] at h
    refine MC.of 2 (n := 9) (fn := Tryd.f39) (c := cd Tryd.f39 []) (by kernel_rfl) (by kernel_rfl) (by kernel_rfl) (Nat.le_of_ble_eq_true rfl) rfl ?_
    refine XW.seq (x := cd Tryd.f39 [0]) (y := cd Tryd.f39 [1]) (by kernel_rfl) fun K1 hK1 => ?_
    refine XW.reg (by kernel_rfl) ?_
    refine XO.go [] 1 [0,1] [] [(0, vl eValue p1), (1, .one (.fn 78 [.pv (.rp [[pi p2]] 0 0), .pt 0 0 0 0]))] [.box [.pt 1 0 0 0], .box [ci p3]] [] (by kernel_rfl) trivial ?_
    refine XO.done (by kernel_rfl) ?_
    refine hK1 _ _ ?_
    refine XW.seq (x := cd Tryd.f39 [1,0]) (y := cd Tryd.f39 [1,1]) (by kernel_rfl) fun K2 hK2 => ?_
    obtain ⟨r1, c3, h⟩ := bnd_some h
    refine XW.reg (by kernel_rfl) ?_
    refine XO.go [] 2 [5,6] [] [(5, vl eValue p1), (6, .one (.fn 78 [.pv (.rp [[pi p2]] 0 0), .pt 0 0 0 0]))] [.box [.pt 1 0 0 0], .box [ci p3]] [] (by kernel_rfl) trivial ?_
    refine XO.calm 86 [vl eValue p1, .one (.fn 78 [.pv (.rp [[pi p2]] 0 0), .pt 0 0 0 0])] [.box [.pt 1 0 0 0], .box [ci p3]] [.box [.pt 1 0 0 0], .box [ci r1.2]] (vi r1.1) [0, 1] [(7, vi r1.1), (5, vl eValue p1), (6, .one (.fn 78 [.pv (.rp [[pi p2]] 0 0), .pt 0 0 0 0]))] [.box [.pt 1 0 0 0], .box [ci r1.2]] (by kernel_rfl) (c_slices_IndexFunc_api_Value_api_Value_of_value_sound_1 k0 _ _ _ _ c3) (by kernel_rfl) (by kernel_rfl) (by kernel_rfl) (by kernel_rfl) ?_
    refine XO.go [] 2 [4] [] [(4, vb (decide ((0 : Int) ≤ r1.1)))] [.box [.pt 1 0 0 0], .box [ci r1.2]] [] (by kernel_rfl) trivial ?_
    refine XO.done (by kernel_rfl) ?_
    refine hK2 _ _ ?_
    refine XW.ret (by kernel_rfl) ?_
    obtain rfl := Option.some.inj h
    exact FinM.fin (.inr rfl) [] [vb (decide ((0 : Int) ≤ r1.1))] [] (by kernel_rfl) trivial (by kernel_rfl) (by kernel_rfl) (.one (.rfl _ rfl))

theorem c_slices_IndexFunc_api_Value_api_Value_of_value_sound_1 : ∀ (k0 : Nat) (p1 : (List GValue)) (p2 : Int) (p3 : Int) (r : (Int × Int)), slices_IndexFunc_api_Value_api_Value_of_value_sound_1 k0 p1 p2 p3 = some r → MC Tryd.prog 86 [vl eValue p1, .one (.fn 78 [.pv (.rp [[pi p2]] 0 0), .pt 0 0 0 0])] [.box [.pt 1 0 0 0], .box [ci p3]] (vi r.1) [.box [.pt 1 0 0 0], .box [ci r.2]]
  | 0, _, _, _, r, h => by rw [slices_IndexFunc_api_Value_api_Value_of_value_sound_1.eq_1] at h; cases h
  | k0 + 1, p1, p2, p3, r, h => by
    rw [slices_IndexFunc_api_Value_api_Value_of_value_sound_1.eq_2] at h
    refine MC.of 2 (n := 19) (fn := Tryd.f86) (c := cd Tryd.f86 []) (by kernel_rfl) (by kernel_rfl) (by kernel_rfl) (Nat.le_of_ble_eq_true rfl) rfl ?_
    refine XW.seq (x := cd Tryd.f86 [0]) (y := cd Tryd.f86 [1]) (by kernel_rfl) fun K1 hK1 => ?_
    refine XW.reg (by kernel_rfl) ?_
    refine XO.go [] 1 [0,1] [] [(0, vl eValue p1), (1, .one (.fn 78 [.pv (.rp [[pi p2]] 0 0), .pt 0 0 0 0]))] [.box [.pt 1 0 0 0], .box [ci p3]] [] (by kernel_rfl) trivial ?_
    refine XO.done (by kernel_rfl) ?_
    refine hK1 _ _ ?_
    refine XW.seq (x := cd Tryd.f86 [1,0]) (y := cd Tryd.f86 [1,1]) (by kernel_rfl) fun K2 hK2 => ?_
    have hJ1 : ∀ (z2 : Int), slices_IndexFunc_api_Value_api_Value_of_value_sound_1_j1 z2 = some r → ∀ fr1 st1, Sub 19 2 [] fr1 st1 [] [.box [.pt 1 0 0 0], .box [ci z2]] → K2 fr1 st1 := by
      intro z2 h fr1 st1 hS
      unfold slices_IndexFunc_api_Value_api_Value_of_value_sound_1_j1 at h
      refine hK2 _ _ (XW.sub hS ?_)
      refine XW.seq (x := cd Tryd.f86 [1,1,0]) (y := cd Tryd.f86 [1,1,1]) (by kernel_rfl) fun K14 hK14 => ?_
      refine XW.reg (by kernel_rfl) ?_
      refine XO.go [] 1 [4] [] [(4, vi (-1 : Int))] [.box [.pt 1 0 0 0], .box [ci z2]] [] (by kernel_rfl) trivial ?_
      refine XO.done (by kernel_rfl) ?_
      refine hK14 _ _ ?_
      refine XW.ret (by kernel_rfl) ?_
      obtain rfl := Option.some.inj h
      exact FinM.fin (.inr rfl) [] [vi (-1 : Int)] [] (by kernel_rfl) trivial (by kernel_rfl) (by kernel_rfl) (.one (.rfl _ rfl))
    refine XW.seq (x := cd Tryd.f86 [1,0,0]) (y := cd Tryd.f86 [1,0,1]) (by kernel_rfl) fun K3 hK3 => ?_
    refine XW.reg (by kernel_rfl) ?_
    refine XO.go [] 2 [0,1,7] [] [(0, vl eValue p1), (1, .one (.fn 78 [.pv (.rp [[pi p2]] 0 0), .pt 0 0 0 0])), (7, vi ((eValue.els p1).length : Int))] [.box [.pt 1 0 0 0], .box [ci p3]] [] (by kernel_rfl) trivial ?_
    rw [eValue.len p1]
    refine XO.go [] 1 [0,1,7,8] [] [(0, vl eValue p1), (1, .one (.fn 78 [.pv (.rp [[pi p2]] 0 0), .pt 0 0 0 0])), (7, vi (p1.length : Int)), (8, vi (0 : Int))] [.box [.pt 1 0 0 0], .box [ci p3]] [] (by kernel_rfl) trivial ?_
    refine XO.done (by kernel_rfl) ?_
    refine hK3 _ _ ?_
    refine XW.block (id := 0) (x := cd Tryd.f86 [1,0,1,0]) (by kernel_rfl) ?_
    refine XW.rounds' BIG (x := cd Tryd.f86 [1,0,1,0,0]) (by kernel_rfl) fun Q1 hQ1 => ?_
    have hL1 : ∀ (k1 : Nat) (z1 : Int) (x1 : Int), slices_IndexFunc_api_Value_api_Value_of_value_sound_1_l1 (value_sound_1_s k0) p1 p2 k1 z1 x1 = some r → XR Tryd.prog 19 2 [] (cd Tryd.f86 [1,0,1,0,0]) Q1 k1 [(0, vl eValue p1), (1, .one (.fn 78 [.pv (.rp [[pi p2]] 0 0), .pt 0 0 0 0])), (7, vi (p1.length : Int)), (8, vi x1)] [.box [.pt 1 0 0 0], .box [ci z1]] := by
      intro k1
      induction k1 with
      | zero => intro z1 x1 h; rw [slices_IndexFunc_api_Value_api_Value_of_value_sound_1_l1.eq_1] at h; cases h
      | succ k1 ih1 =>
        intro z1 x1 h
        rw [slices_IndexFunc_api_Value_api_Value_of_value_sound_1_l1.eq_2] at h
        refine XW.seq (x := cd Tryd.f86 [1,0,1,0,0,0]) (y := cd Tryd.f86 [1,0,1,0,0,1]) (by kernel_rfl) fun K4 hK4 => ?_
        refine XW.reg (by kernel_rfl) ?_
        refine XO.go [] 1 [0,1,7,8,9] [] [(0, vl eValue p1), (1, .one (.fn 78 [.pv (.rp [[pi p2]] 0 0), .pt 0 0 0 0])), (7, vi (p1.length : Int)), (8, vi x1), (9, vb (decide (x1 < (p1.length : Int))))] [.box [.pt 1 0 0 0], .box [ci z1]] [] (by kernel_rfl) trivial ?_
        refine XO.done (by kernel_rfl) ?_
        refine hK4 _ _ ?_
        refine XW.seq (x := cd Tryd.f86 [1,0,1,0,0,1,0]) (y := cd Tryd.f86 [1,0,1,0,0,1,1]) (by kernel_rfl) fun K5 hK5 => ?_
        refine XW.cond (x := .tmp 9) (a := cd Tryd.f86 [1,0,1,0,0,1,0,0]) (b := cd Tryd.f86 [1,0,1,0,0,1,0,1]) (t := (decide (x1 < (p1.length : Int)))) (by kernel_rfl) (by kernel_rfl) (fun b6 => ?_) (fun b6 => ?_)
        · have h := ift_t b6 h
          refine XW.skip (by kernel_rfl) ?_
          refine hK5 _ _ ?_
          refine XW.seq (x := cd Tryd.f86 [1,0,1,0,0,1,1,0]) (y := cd Tryd.f86 [1,0,1,0,0,1,1,1]) (by kernel_rfl) fun K7 hK7 => ?_
          refine XW.block (id := 1) (x := cd Tryd.f86 [1,0,1,0,0,1,1,0,0]) (by kernel_rfl) ?_
          refine XW.seq (x := cd Tryd.f86 [1,0,1,0,0,1,1,0,0,0]) (y := cd Tryd.f86 [1,0,1,0,0,1,1,0,0,1]) (by kernel_rfl) fun K8 hK8 => ?_
          refine XW.reg (by kernel_rfl) ?_
          refine XO.go [] 2 [0,1,5,7,8] [] [(0, vl eValue p1), (1, .one (.fn 78 [.pv (.rp [[pi p2]] 0 0), .pt 0 0 0 0])), (5, vi x1), (7, vi (p1.length : Int)), (8, vi x1)] [.box [.pt 1 0 0 0], .box [ci z1]] [] (by kernel_rfl) trivial ?_
          refine XO.done (by kernel_rfl) ?_
          refine hK8 _ _ ?_
          refine XW.seq (x := cd Tryd.f86 [1,0,1,0,0,1,1,0,0,1,0]) (y := cd Tryd.f86 [1,0,1,0,0,1,1,0,0,1,1]) (by kernel_rfl) fun K9 hK9 => ?_
          obtain ⟨e1, a10, h⟩ := bnd_some h
          obtain ⟨r1, c11, h⟩ := bnd_some h
          refine XW.reg (by kernel_rfl) ?_
          refine XO.go [] 5 [0,1,5,7,8,11,15] [[pi e1.kind, pi e1.n, pi e1.scale, .s (.string e1.s), .ro (eValue.els e1.items)]] [(0, vl eValue p1), (1, .one (.fn 78 [.pv (.rp [[pi p2]] 0 0), .pt 0 0 0 0])), (5, vi x1), (7, vi (p1.length : Int)), (8, vi x1), (11, .one (.fn 78 [.pv (.rp [[pi p2]] 0 0), .pt 0 0 0 0])), (15, .ag [ci e1.kind, ci e1.n, ci e1.scale, cst e1.s, cl eValue e1.items])] [.box [.pt 1 0 0 0], .box [ci z1]] [0 ≤ x1 ∧ x1 < ((eValue.els p1).length : Int) ∧ elemsOk 5 (eValue.els p1), (eValue.els p1)[x1.toNat]? = some [pi e1.kind, pi e1.n, pi e1.scale, .s (.string e1.s), .ro (eValue.els e1.items)]] (by kernel_rfl) (⟨eValue.inb a10, ((eValue.get a10).trans (by cases e1; rfl)), trivial⟩) ?_
          refine XO.calm 78 [.ag [ci e1.kind, ci e1.n, ci e1.scale, cst e1.s, cl eValue e1.items], .one (.pv (.rp [[pi p2]] 0 0)), .one (.pt 0 0 0 0)] [.box [.pt 1 0 0 0], .box [ci z1]] [.box [.pt 1 0 0 0], .box [ci r1.2]] (vb r1.1) [0, 1] [(16, vb r1.1), (0, vl eValue p1), (1, .one (.fn 78 [.pv (.rp [[pi p2]] 0 0), .pt 0 0 0 0])), (5, vi x1), (7, vi (p1.length : Int)), (8, vi x1), (11, .one (.fn 78 [.pv (.rp [[pi p2]] 0 0), .pt 0 0 0 0])), (15, .ag [ci e1.kind, ci e1.n, ci e1.scale, cst e1.s, cl eValue e1.items])] [.box [.pt 1 0 0 0], .box [ci r1.2]] (by kernel_rfl) (c_value_sound_1_s k0 _ _ _ _ c11) (by kernel_rfl) (by kernel_rfl) (by kernel_rfl) (by kernel_rfl) ?_
          refine XO.done (by kernel_rfl) ?_
          refine hK9 _ _ ?_
          refine XW.cond (x := .tmp 16) (a := cd Tryd.f86 [1,0,1,0,0,1,1,0,0,1,1,0]) (b := cd Tryd.f86 [1,0,1,0,0,1,1,0,0,1,1,1]) (t := r1.1) (by kernel_rfl) (by kernel_rfl) (fun b12 => ?_) (fun b12 => ?_)
          · have h := ift_t b12 h
            refine XW.seq (x := cd Tryd.f86 [1,0,1,0,0,1,1,0,0,1,1,0,0]) (y := cd Tryd.f86 [1,0,1,0,0,1,1,0,0,1,1,0,1]) (by kernel_rfl) fun K13 hK13 => ?_
            refine XW.reg (by kernel_rfl) ?_
            refine XO.go [] 2 [4] [] [(4, vi x1)] [.box [.pt 1 0 0 0], .box [ci r1.2]] [] (by kernel_rfl) trivial ?_
            refine XO.done (by kernel_rfl) ?_
            refine hK13 _ _ ?_
            refine XW.ret (by kernel_rfl) ?_
            refine hQ1 _ _ _ ?_
            obtain rfl := Option.some.inj h
            exact FinM.fin (.inr rfl) [] [vi x1] [] (by kernel_rfl) trivial (by kernel_rfl) (by kernel_rfl) (.one (.rfl _ rfl))
          · have h := ift_f b12 h
            refine XW.skip (by kernel_rfl) ?_
            refine hK7 _ _ ?_
            refine XW.reg (by kernel_rfl) ?_
            refine XO.go [] 2 [0,1,7,8] [] [(0, vl eValue p1), (1, .one (.fn 78 [.pv (.rp [[pi p2]] 0 0), .pt 0 0 0 0])), (7, vi (p1.length : Int)), (8, vi (IntKind.i64.wrap (x1 + (1 : Int))))] [.box [.pt 1 0 0 0], .box [ci r1.2]] [] (by kernel_rfl) trivial ?_
            refine XO.done (by kernel_rfl) ?_
            exact XR.sub (Sub.pick [0,1,7,8] (by kernel_rfl)) (ih1 r1.2 (IntKind.i64.wrap (x1 + (1 : Int))) h)
        · have h := ift_f b6 h
          refine XW.exit (id := 0) (by kernel_rfl) ?_
          refine hQ1 _ _ _ ?_
          exact hJ1 z1 h _ _ (Sub.pick [] (by kernel_rfl))
    exact XR.sub (Sub.pick [0,1,7,8] (by kernel_rfl)) (hL1 BIG p3 (0 : Int) h)

theorem c_value_sound : ∀ (k0 : Nat) (p1 : GValue) (p2 : Int) (p3 : Int) (r : (Bool × Int)), value_sound k0 p1 p2 p3 = some r → MC Tryd.prog 31 [.ag [ci p1.kind, ci p1.n, ci p1.scale, cst p1.s, cl eValue p1.items], vi p2, .one (.pt 0 0 0 0)] [.box [ci p3]] (vb r.1) [.box [ci r.2]]
  | 0, _, _, _, r, h => by rw [value_sound.eq_1] at h; cases h
  | k0 + 1, p1, p2, p3, r, h => by
    rw [value_sound.eq_2] at h
    refine MC.of 1 (n := 33) (fn := Tryd.f31) (c := cd Tryd.f31 []) (by kernel_rfl) (by kernel_rfl) (by kernel_rfl) (Nat.le_of_ble_eq_true rfl) rfl ?_
    refine XW.seq (x := cd Tryd.f31 [0]) (y := cd Tryd.f31 [1]) (by kernel_rfl) fun K1 hK1 => ?_
    refine XW.reg (by kernel_rfl) ?_
    refine XO.go [5] 4 [3,4,5] [] [(3, .one (.pv (.rp [[pi p1.kind, pi p1.n, pi p1.scale, .s (.string p1.s), .ro (eValue.els p1.items)]] 0 0))), (4, .one (.pv (.rp [[pi p2]] 0 0))), (5, .one (.pt 1 0 0 0))] [.box [ci p3], .box [.pt 0 0 0 0]] [] (by kernel_rfl) trivial ?_
    refine XO.done (by kernel_rfl) ?_
    refine hK1 _ _ ?_
    refine XW.seq (x := cd Tryd.f31 [1,0]) (y := cd Tryd.f31 [1,1]) (by kernel_rfl) fun K2 hK2 => ?_
    have hJ1 : ∀ (z1 : Int), value_sound_j1 (slices_ContainsFunc_api_Value_api_Value_of_value_sound_1 k0) p1 p2 z1 = some r → ∀ fr1 st1, Sub 33 1 [] fr1 st1 [(3, .one (.pv (.rp [[pi p1.kind, pi p1.n, pi p1.scale, .s (.string p1.s), .ro (eValue.els p1.items)]] 0 0))), (4, .one (.pv (.rp [[pi p2]] 0 0))), (5, .one (.pt 1 0 0 0))] [.box [ci z1], .box [.pt 0 0 0 0]] → K2 fr1 st1 := by
      intro z1 h fr1 st1 hS
      unfold value_sound_j1 at h
      refine hK2 _ _ (XW.sub hS ?_)
      refine XW.seq (x := cd Tryd.f31 [1,1,0]) (y := cd Tryd.f31 [1,1,1]) (by kernel_rfl) fun K5 hK5 => ?_
      refine XW.seq (x := cd Tryd.f31 [1,1,0,0]) (y := cd Tryd.f31 [1,1,0,1]) (by kernel_rfl) fun K6 hK6 => ?_
      have hJ2 : ∀ (x1 : Bool), value_sound_j2 (slices_ContainsFunc_api_Value_api_Value_of_value_sound_1 k0) p1 p2 z1 x1 = some r → ∀ fr1 st1, Sub 33 1 [] fr1 st1 [(3, .one (.pv (.rp [[pi p1.kind, pi p1.n, pi p1.scale, .s (.string p1.s), .ro (eValue.els p1.items)]] 0 0))), (4, .one (.pv (.rp [[pi p2]] 0 0))), (5, .one (.pt 1 0 0 0)), (27, vb x1)] [.box [ci z1], .box [.pt 0 0 0 0]] → K6 fr1 st1 := by
        intro x1 h fr1 st1 hS
        unfold value_sound_j2 at h
        refine hK6 _ _ (XW.sub hS ?_)
        refine XW.cond (x := .tmp 27) (a := cd Tryd.f31 [1,1,0,1,0]) (b := cd Tryd.f31 [1,1,0,1,1]) (t := x1) (by kernel_rfl) (by kernel_rfl) (fun b10 => ?_) (fun b10 => ?_)
        · have h := ift_t b10 h
          refine XW.seq (x := cd Tryd.f31 [1,1,0,1,0,0]) (y := cd Tryd.f31 [1,1,0,1,0,1]) (by kernel_rfl) fun K11 hK11 => ?_
          refine XW.reg (by kernel_rfl) ?_
          refine XO.go [5] 1 [6] [] [(6, vb false)] [.box [ci z1], .box [.pt 0 0 0 0]] [] (by kernel_rfl) trivial ?_
          refine XO.done (by kernel_rfl) ?_
          refine hK11 _ _ ?_
          refine XW.ret (by kernel_rfl) ?_
          obtain rfl := Option.some.inj h
          exact FinM.fin (.inr rfl) [] [vb false] [] (by kernel_rfl) trivial (by kernel_rfl) (by kernel_rfl) (.one (.rfl _ rfl))
        · have h := ift_f b10 h
          refine XW.skip (by kernel_rfl) ?_
          refine hK5 _ _ ?_
          refine XW.seq (x := cd Tryd.f31 [1,1,1,0]) (y := cd Tryd.f31 [1,1,1,1]) (by kernel_rfl) fun K12 hK12 => ?_
          obtain ⟨r2, c13, h⟩ := bnd_some h
          refine XW.reg (by kernel_rfl) ?_
          refine XO.go [5] 3 [29,30] [[pi p1.kind, pi p1.n, pi p1.scale, .s (.string p1.s), .ro (eValue.els p1.items)]] [(29, vl eValue p1.items), (30, .one (.fn 78 [.pv (.rp [[pi p2]] 0 0), .pt 1 0 0 0]))] [.box [ci z1], .box [.pt 0 0 0 0]] [([[pi p1.kind, pi p1.n, pi p1.scale, .s (.string p1.s), .ro (eValue.els p1.items)]] : List (List PV))[0]? = some [pi p1.kind, pi p1.n, pi p1.scale, .s (.string p1.s), .ro (eValue.els p1.items)]] (by kernel_rfl) (⟨rfl, trivial⟩) ?_
          refine XO.calm 39 [vl eValue p1.items, .one (.fn 78 [.pv (.rp [[pi p2]] 0 0), .pt 0 0 0 0])] [.box [.pt 1 0 0 0], .box [ci z1]] [.box [.pt 1 0 0 0], .box [ci r2.2]] (vb r2.1) [1, 0] [(31, vb r2.1), (29, vl eValue p1.items), (30, .one (.fn 78 [.pv (.rp [[pi p2]] 0 0), .pt 1 0 0 0]))] [.box [ci r2.2], .box [.pt 0 0 0 0]] (by kernel_rfl) (c_slices_ContainsFunc_api_Value_api_Value_of_value_sound_1 k0 _ _ _ _ c13) (by kernel_rfl) (by kernel_rfl) (by kernel_rfl) (by kernel_rfl) ?_
          refine XO.go [5] 2 [6] [] [(6, vb (!r2.1))] [.box [ci r2.2], .box [.pt 0 0 0 0]] [] (by kernel_rfl) trivial ?_
          refine XO.done (by kernel_rfl) ?_
          refine hK12 _ _ ?_
          refine XW.ret (by kernel_rfl) ?_
          obtain rfl := Option.some.inj h
          exact FinM.fin (.inr rfl) [] [vb (!r2.1)] [] (by kernel_rfl) trivial (by kernel_rfl) (by kernel_rfl) (.one (.rfl _ rfl))
      rcases Bool.eq_false_or_eq_true (decide ((4 : Int) < p2)) with b7 | b7
      · have h := ift_t b7 h
        refine XW.reg (by kernel_rfl) ?_
        refine XO.go [5] 3 [3,4,5,17] [[pi p2]] [(3, .one (.pv (.rp [[pi p1.kind, pi p1.n, pi p1.scale, .s (.string p1.s), .ro (eValue.els p1.items)]] 0 0))), (4, .one (.pv (.rp [[pi p2]] 0 0))), (5, .one (.pt 1 0 0 0)), (17, vb (decide ((4 : Int) < p2)))] [.box [ci z1], .box [.pt 0 0 0 0]] [([[pi p2]] : List (List PV))[0]? = some [pi p2]] (by kernel_rfl) (⟨rfl, trivial⟩) ?_
        refine XO.setb 17 true (B := (decide ((4 : Int) < p2))) rfl b7 ?_
        refine XO.go [5] 10 [3,4,5,27] [] [(3, .one (.pv (.rp [[pi p1.kind, pi p1.n, pi p1.scale, .s (.string p1.s), .ro (eValue.els p1.items)]] 0 0))), (4, .one (.pv (.rp [[pi p2]] 0 0))), (5, .one (.pt 1 0 0 0)), (27, vb true)] [.box [ci z1], .box [.pt 0 0 0 0]] [] (by kernel_rfl) trivial ?_
        refine XO.done (by kernel_rfl) ?_
        exact hJ2 true h _ _ (Sub.pick [3,4,5,27] (by kernel_rfl))
      · have h := ift_f b7 h
        rcases Bool.eq_false_or_eq_true (decide ((256 : Int) < z1)) with b8 | b8
        · have h := ift_t b8 h
          refine XW.reg (by kernel_rfl) ?_
          refine XO.go [5] 3 [3,4,5,17] [[pi p2]] [(3, .one (.pv (.rp [[pi p1.kind, pi p1.n, pi p1.scale, .s (.string p1.s), .ro (eValue.els p1.items)]] 0 0))), (4, .one (.pv (.rp [[pi p2]] 0 0))), (5, .one (.pt 1 0 0 0)), (17, vb (decide ((4 : Int) < p2)))] [.box [ci z1], .box [.pt 0 0 0 0]] [([[pi p2]] : List (List PV))[0]? = some [pi p2]] (by kernel_rfl) (⟨rfl, trivial⟩) ?_
          refine XO.setb 17 false (B := (decide ((4 : Int) < p2))) rfl b7 ?_
          refine XO.go [5] 6 [3,4,5,23] [] [(3, .one (.pv (.rp [[pi p1.kind, pi p1.n, pi p1.scale, .s (.string p1.s), .ro (eValue.els p1.items)]] 0 0))), (4, .one (.pv (.rp [[pi p2]] 0 0))), (5, .one (.pt 1 0 0 0)), (23, vb (decide ((256 : Int) < z1)))] [.box [ci z1], .box [.pt 0 0 0 0]] [] (by kernel_rfl) trivial ?_
          refine XO.setb 23 true (B := (decide ((256 : Int) < z1))) rfl b8 ?_
          refine XO.go [5] 4 [3,4,5,27] [] [(3, .one (.pv (.rp [[pi p1.kind, pi p1.n, pi p1.scale, .s (.string p1.s), .ro (eValue.els p1.items)]] 0 0))), (4, .one (.pv (.rp [[pi p2]] 0 0))), (5, .one (.pt 1 0 0 0)), (27, vb true)] [.box [ci z1], .box [.pt 0 0 0 0]] [] (by kernel_rfl) trivial ?_
          refine XO.done (by kernel_rfl) ?_
          exact hJ2 true h _ _ (Sub.pick [3,4,5,27] (by kernel_rfl))
        · have h := ift_f b8 h
          obtain ⟨r1, c9, h⟩ := bnd_some h
          refine XW.reg (by kernel_rfl) ?_
          refine XO.go [5] 3 [3,4,5,17] [[pi p2]] [(3, .one (.pv (.rp [[pi p1.kind, pi p1.n, pi p1.scale, .s (.string p1.s), .ro (eValue.els p1.items)]] 0 0))), (4, .one (.pv (.rp [[pi p2]] 0 0))), (5, .one (.pt 1 0 0 0)), (17, vb (decide ((4 : Int) < p2)))] [.box [ci z1], .box [.pt 0 0 0 0]] [([[pi p2]] : List (List PV))[0]? = some [pi p2]] (by kernel_rfl) (⟨rfl, trivial⟩) ?_
          refine XO.setb 17 false (B := (decide ((4 : Int) < p2))) rfl b7 ?_
          refine XO.go [5] 6 [3,4,5,23] [] [(3, .one (.pv (.rp [[pi p1.kind, pi p1.n, pi p1.scale, .s (.string p1.s), .ro (eValue.els p1.items)]] 0 0))), (4, .one (.pv (.rp [[pi p2]] 0 0))), (5, .one (.pt 1 0 0 0)), (23, vb (decide ((256 : Int) < z1)))] [.box [ci z1], .box [.pt 0 0 0 0]] [] (by kernel_rfl) trivial ?_
          refine XO.setb 23 false (B := (decide ((256 : Int) < z1))) rfl b8 ?_
          refine XO.go [5] 1 [3,4,5,23,24] [[pi p1.kind, pi p1.n, pi p1.scale, .s (.string p1.s), .ro (eValue.els p1.items)]] [(3, .one (.pv (.rp [[pi p1.kind, pi p1.n, pi p1.scale, .s (.string p1.s), .ro (eValue.els p1.items)]] 0 0))), (4, .one (.pv (.rp [[pi p2]] 0 0))), (5, .one (.pt 1 0 0 0)), (23, vb false), (24, .ag [ci p1.kind, ci p1.n, ci p1.scale, cst p1.s, cl eValue p1.items])] [.box [ci z1], .box [.pt 0 0 0 0]] [([[pi p1.kind, pi p1.n, pi p1.scale, .s (.string p1.s), .ro (eValue.els p1.items)]] : List (List PV))[0]? = some [pi p1.kind, pi p1.n, pi p1.scale, .s (.string p1.s), .ro (eValue.els p1.items)]] (by kernel_rfl) (⟨rfl, trivial⟩) ?_
          refine XO.cal 77 [.ag [ci p1.kind, ci p1.n, ci p1.scale, cst p1.s, cl eValue p1.items]] (vb r1) [(25, vb r1), (3, .one (.pv (.rp [[pi p1.kind, pi p1.n, pi p1.scale, .s (.string p1.s), .ro (eValue.els p1.items)]] 0 0))), (4, .one (.pv (.rp [[pi p2]] 0 0))), (5, .one (.pt 1 0 0 0)), (23, vb false), (24, .ag [ci p1.kind, ci p1.n, ci p1.scale, cst p1.s, cl eValue p1.items])] (by kernel_rfl) (c_value_plain _ _ c9) rfl rfl (by kernel_rfl) ?_
          refine XO.go [5] 2 [3,4,5,27] [] [(3, .one (.pv (.rp [[pi p1.kind, pi p1.n, pi p1.scale, .s (.string p1.s), .ro (eValue.els p1.items)]] 0 0))), (4, .one (.pv (.rp [[pi p2]] 0 0))), (5, .one (.pt 1 0 0 0)), (27, vb (!r1))] [.box [ci z1], .box [.pt 0 0 0 0]] [] (by kernel_rfl) trivial ?_
          refine XO.done (by kernel_rfl) ?_
          exact hJ2 (!r1) h _ _ (Sub.pick [3,4,5,27] (by kernel_rfl))
    refine XW.seq (x := cd Tryd.f31 [1,0,0]) (y := cd Tryd.f31 [1,0,1]) (by kernel_rfl) fun K3 hK3 => ?_
    refine XW.reg (by kernel_rfl) ?_
    refine XO.go [5] 3 [3,4,5,9] [[pi p1.kind, pi p1.n, pi p1.scale, .s (.string p1.s), .ro (eValue.els p1.items)]] [(3, .one (.pv (.rp [[pi p1.kind, pi p1.n, pi p1.scale, .s (.string p1.s), .ro (eValue.els p1.items)]] 0 0))), (4, .one (.pv (.rp [[pi p2]] 0 0))), (5, .one (.pt 1 0 0 0)), (9, vb (p1.kind != (0 : Int)))] [.box [ci p3], .box [.pt 0 0 0 0]] [([[pi p1.kind, pi p1.n, pi p1.scale, .s (.string p1.s), .ro (eValue.els p1.items)]] : List (List PV))[0]? = some [pi p1.kind, pi p1.n, pi p1.scale, .s (.string p1.s), .ro (eValue.els p1.items)]] (by kernel_rfl) (⟨rfl, trivial⟩) ?_
    refine XO.done (by kernel_rfl) ?_
    refine hK3 _ _ ?_
    refine XW.cond (x := .tmp 9) (a := cd Tryd.f31 [1,0,1,0]) (b := cd Tryd.f31 [1,0,1,1]) (t := (p1.kind != (0 : Int))) (by kernel_rfl) (by kernel_rfl) (fun b4 => ?_) (fun b4 => ?_)
    · have h := ift_t b4 h
      refine XW.reg (by kernel_rfl) ?_
      refine XO.go [5] 6 [3,4,5] [] [(3, .one (.pv (.rp [[pi p1.kind, pi p1.n, pi p1.scale, .s (.string p1.s), .ro (eValue.els p1.items)]] 0 0))), (4, .one (.pv (.rp [[pi p2]] 0 0))), (5, .one (.pt 1 0 0 0))] [.box [ci (IntKind.i64.wrap (p3 + (1 : Int)))], .box [.pt 0 0 0 0]] [] (by kernel_rfl) trivial ?_
      refine XO.done (by kernel_rfl) ?_
      exact hJ1 (IntKind.i64.wrap (p3 + (1 : Int))) h _ _ (Sub.pick [3,4,5] (by kernel_rfl))
    · have h := ift_f b4 h
      refine XW.skip (by kernel_rfl) ?_
      exact hJ1 p3 h _ _ (Sub.pick [3,4,5] (by kernel_rfl))

theorem c_value_sound_1_s : ∀ (k0 : Nat) (p1 : GValue) (p2 : Int) (p3 : Int) (r : (Bool × Int)), value_sound_1_s k0 p1 p2 p3 = some r → MC Tryd.prog 78 [.ag [ci p1.kind, ci p1.n, ci p1.scale, cst p1.s, cl eValue p1.items], .one (.pv (.rp [[pi p2]] 0 0)), .one (.pt 0 0 0 0)] [.box [.pt 1 0 0 0], .box [ci p3]] (vb r.1) [.box [.pt 1 0 0 0], .box [ci r.2]]
  | 0, _, _, _, r, h => by rw [value_sound_1_s.eq_1] at h; cases h
  | k0 + 1, p1, p2, p3, r, h => by
    rw [value_sound_1_s.eq_2] at h
    refine MC.of 2 (n := 11) (fn := Tryd.f78) (c := cd Tryd.f78 []) (by kernel_rfl) (by kernel_rfl) (by kernel_rfl) (Nat.le_of_ble_eq_true rfl) rfl ?_
    refine XW.seq (x := cd Tryd.f78 [0]) (y := cd Tryd.f78 [1]) (by kernel_rfl) fun K1 hK1 => ?_
    refine XW.reg (by kernel_rfl) ?_
    refine XO.go [] 2 [1,2,3] [] [(1, .one (.pv (.rp [[pi p2]] 0 0))), (2, .one (.pt 0 0 0 0)), (3, .one (.pv (.rp [[pi p1.kind, pi p1.n, pi p1.scale, .s (.string p1.s), .ro (eValue.els p1.items)]] 0 0)))] [.box [.pt 1 0 0 0], .box [ci p3]] [] (by kernel_rfl) trivial ?_
    refine XO.done (by kernel_rfl) ?_
    refine hK1 _ _ ?_
    refine XW.seq (x := cd Tryd.f78 [1,0]) (y := cd Tryd.f78 [1,1]) (by kernel_rfl) fun K2 hK2 => ?_
    obtain ⟨r1, c3, h⟩ := bnd_some h
    refine XW.reg (by kernel_rfl) ?_
    refine XO.go [] 4 [5,7,8] [[pi p1.kind, pi p1.n, pi p1.scale, .s (.string p1.s), .ro (eValue.els p1.items)], [pi p2]] [(5, .ag [ci p1.kind, ci p1.n, ci p1.scale, cst p1.s, cl eValue p1.items]), (7, vi (IntKind.i64.wrap (p2 + (1 : Int)))), (8, .one (.pt 1 0 0 0))] [.box [.pt 1 0 0 0], .box [ci p3]] [([[pi p1.kind, pi p1.n, pi p1.scale, .s (.string p1.s), .ro (eValue.els p1.items)]] : List (List PV))[0]? = some [pi p1.kind, pi p1.n, pi p1.scale, .s (.string p1.s), .ro (eValue.els p1.items)], ([[pi p2]] : List (List PV))[0]? = some [pi p2]] (by kernel_rfl) (⟨rfl, rfl, trivial⟩) ?_
    refine XO.calm 31 [.ag [ci p1.kind, ci p1.n, ci p1.scale, cst p1.s, cl eValue p1.items], vi (IntKind.i64.wrap (p2 + (1 : Int))), .one (.pt 0 0 0 0)] [.box [ci p3]] [.box [ci r1.2]] (vb r1.1) [1] [(9, vb r1.1), (5, .ag [ci p1.kind, ci p1.n, ci p1.scale, cst p1.s, cl eValue p1.items]), (7, vi (IntKind.i64.wrap (p2 + (1 : Int)))), (8, .one (.pt 1 0 0 0))] [.box [.pt 1 0 0 0], .box [ci r1.2]] (by kernel_rfl) (c_value_sound k0 _ _ _ _ c3) (by kernel_rfl) (by kernel_rfl) (by kernel_rfl) (by kernel_rfl) ?_
    refine XO.go [] 2 [4] [] [(4, vb (!r1.1))] [.box [.pt 1 0 0 0], .box [ci r1.2]] [] (by kernel_rfl) trivial ?_
    refine XO.done (by kernel_rfl) ?_
    refine hK2 _ _ ?_
    refine XW.ret (by kernel_rfl) ?_
    obtain rfl := Option.some.inj h
    exact FinM.fin (.inr rfl) [] [vb (!r1.1)] [] (by kernel_rfl) trivial (by kernel_rfl) (by kernel_rfl) (.one (.rfl _ rfl))

end

def value_Sound (p1 : GValue) : Option Bool :=
    bnd (value_sound BIG p1 (1 : Int) (0 : Int)) fun r1 =>
    some r1.1


theorem c_value_Sound (p1 : GValue) (r : Bool) (h : value_Sound p1 = some r) : PC Tryd.prog 9 [.ag [ci p1.kind, ci p1.n, ci p1.scale, cst p1.s, cl eValue p1.items]] (vb r) := by
  unfold value_Sound at h
  refine PC.of (n := 6) (fn := Tryd.f9) (c := cd Tryd.f9 []) (by kernel_rfl) (by kernel_rfl) (by kernel_rfl) (Nat.le_of_ble_eq_true rfl) ?_
  refine XW.seq (x := cd Tryd.f9 [0]) (y := cd Tryd.f9 [1]) (by kernel_rfl) fun K1 hK1 => ?_
  refine XW.reg (by kernel_rfl) ?_
  refine XO.go [3] 2 [1] [] [(1, .one (.pv (.rp [[pi p1.kind, pi p1.n, pi p1.scale, .s (.string p1.s), .ro (eValue.els p1.items)]] 0 0)))] [] [] (by kernel_rfl) trivial ?_
  refine XO.done (by kernel_rfl) ?_
  refine hK1 _ _ ?_
  refine XW.seq (x := cd Tryd.f9 [1,0]) (y := cd Tryd.f9 [1,1]) (by kernel_rfl) fun K2 hK2 => ?_
  refine XW.reg (by kernel_rfl) ?_
  refine XO.go [3] 2 [1,3] [] [(1, .one (.pv (.rp [[pi p1.kind, pi p1.n, pi p1.scale, .s (.string p1.s), .ro (eValue.els p1.items)]] 0 0))), (3, .one (.pt 0 0 0 0))] [.box [ci (0 : Int)]] [] (by kernel_rfl) trivial ?_
  refine XO.done (by kernel_rfl) ?_
  refine hK2 _ _ ?_
  refine XW.seq (x := cd Tryd.f9 [1,1,0]) (y := cd Tryd.f9 [1,1,1]) (by kernel_rfl) fun K3 hK3 => ?_
  obtain ⟨r1, c4, h⟩ := bnd_some h
  refine XW.reg (by kernel_rfl) ?_
  refine XO.go [3] 1 [3,4] [[pi p1.kind, pi p1.n, pi p1.scale, .s (.string p1.s), .ro (eValue.els p1.items)]] [(3, .one (.pt 0 0 0 0)), (4, .ag [ci p1.kind, ci p1.n, ci p1.scale, cst p1.s, cl eValue p1.items])] [.box [ci (0 : Int)]] [([[pi p1.kind, pi p1.n, pi p1.scale, .s (.string p1.s), .ro (eValue.els p1.items)]] : List (List PV))[0]? = some [pi p1.kind, pi p1.n, pi p1.scale, .s (.string p1.s), .ro (eValue.els p1.items)]] (by kernel_rfl) (⟨rfl, trivial⟩) ?_
  refine XO.calm 31 [.ag [ci p1.kind, ci p1.n, ci p1.scale, cst p1.s, cl eValue p1.items], vi (1 : Int), .one (.pt 0 0 0 0)] [.box [ci (0 : Int)]] [.box [ci r1.2]] (vb r1.1) [0] [(5, vb r1.1), (3, .one (.pt 0 0 0 0)), (4, .ag [ci p1.kind, ci p1.n, ci p1.scale, cst p1.s, cl eValue p1.items])] [.box [ci r1.2]] (by kernel_rfl) (c_value_sound BIG _ _ _ _ c4) (by kernel_rfl) (by kernel_rfl) (by kernel_rfl) (by kernel_rfl) ?_
  refine XO.go [3] 1 [2] [] [(2, vb r1.1)] [.box [ci r1.2]] [] (by kernel_rfl) trivial ?_
  refine XO.done (by kernel_rfl) ?_
  refine hK3 _ _ ?_
  refine XW.ret (by kernel_rfl) ?_
  obtain rfl := Option.some.inj h
  exact FinP.fin (.inr rfl) [] [vb r1.1] [] (by kernel_rfl) trivial (.one (.rfl _ rfl))

def ref1_within_j1 (x1 : Bool) : Option Bool :=
    some x1

def ref1_within (p1 : Int) (p2 : Int) (p3 : Int) : Option Bool :=
    ift (decide (p2 ≤ p1))
      (ref1_within_j1 (decide (p1 ≤ p3)))
      (ref1_within_j1 false)


theorem c_ref1_within (p1 : Int) (p2 : Int) (p3 : Int) (r : Bool) (h : ref1_within p1 p2 p3 = some r) : PC Tryd.prog 68 [vi p1, vi p2, vi p3] (vb r) := by
  unfold ref1_within at h
  refine PC.of (n := 15) (fn := Tryd.f68) (c := cd Tryd.f68 []) (by kernel_rfl) (by kernel_rfl) (by kernel_rfl) (Nat.le_of_ble_eq_true rfl) ?_
  refine XW.seq (x := cd Tryd.f68 [0]) (y := cd Tryd.f68 [1]) (by kernel_rfl) fun K1 hK1 => ?_
  refine XW.reg (by kernel_rfl) ?_
  refine XO.go [] 1 [0,1,2] [] [(0, vi p1), (1, vi p2), (2, vi p3)] [] [] (by kernel_rfl) trivial ?_
  refine XO.done (by kernel_rfl) ?_
  refine hK1 _ _ ?_
  refine XW.seq (x := cd Tryd.f68 [1,0]) (y := cd Tryd.f68 [1,1]) (by kernel_rfl) fun K2 hK2 => ?_
  have hJ1 : ∀ (x1 : Bool), ref1_within_j1 x1 = some r → ∀ fr1 st1, Sub 15 0 [] fr1 st1 [(6, vb x1)] [] → K2 fr1 st1 := by
    intro x1 h fr1 st1 hS
    unfold ref1_within_j1 at h
    refine hK2 _ _ (XW.sub hS ?_)
    refine XW.ret (by kernel_rfl) ?_
    obtain rfl := Option.some.inj h
    exact FinP.fin (.inr rfl) [] [vb x1] [] (by kernel_rfl) trivial (.one (.rfl _ rfl))
  rcases Bool.eq_false_or_eq_true (decide (p2 ≤ p1)) with b3 | b3
  · have h := ift_t b3 h
    refine XW.reg (by kernel_rfl) ?_
    refine XO.go [] 4 [0,2,10] [] [(0, vi p1), (2, vi p3), (10, vb (decide (p2 ≤ p1)))] [] [] (by kernel_rfl) trivial ?_
    refine XO.setb 10 true (B := (decide (p2 ≤ p1))) rfl b3 ?_
    refine XO.go [] 5 [6] [] [(6, vb (decide (p1 ≤ p3)))] [] [] (by kernel_rfl) trivial ?_
    refine XO.done (by kernel_rfl) ?_
    exact hJ1 (decide (p1 ≤ p3)) h _ _ (Sub.pick [6] (by kernel_rfl))
  · have h := ift_f b3 h
    refine XW.reg (by kernel_rfl) ?_
    refine XO.go [] 4 [0,2,10] [] [(0, vi p1), (2, vi p3), (10, vb (decide (p2 ≤ p1)))] [] [] (by kernel_rfl) trivial ?_
    refine XO.setb 10 false (B := (decide (p2 ≤ p1))) rfl b3 ?_
    refine XO.go [] 5 [6] [] [(6, vb false)] [] [] (by kernel_rfl) trivial ?_
    refine XO.done (by kernel_rfl) ?_
    exact hJ1 false h _ _ (Sub.pick [6] (by kernel_rfl))

def ref1_characters_j2 (rec1 : Int → Option Bool) (x2 : Int) (x3 : Bool) : Option Bool :=
    ift x3
      (some false)
      (rec1 (IntKind.i64.wrap (x2 + (1 : Int))))

def ref1_characters_j3 : Option Bool :=
    some true

def ref1_characters_l1 (p1 : ByteArray) : Nat → Int → Option Bool
  | 0, _ => none
  | k1 + 1, x2 =>
    ift (decide (x2 < (p1.size : Int)))
      (grd (0 ≤ x2 ∧ x2 < (p1.size : Int)) <|
       bnd (some (decide (((p1.data.toList.getD x2.toNat 0).toNat : Int) < (32 : Int)))) fun y1 =>
       ift y1
         (ref1_characters_j2 (ref1_characters_l1 p1 k1) x2 true)
         (grd (0 ≤ x2 ∧ x2 < (p1.size : Int)) <|
          ref1_characters_j2 (ref1_characters_l1 p1 k1) x2 (((p1.data.toList.getD x2.toNat 0).toNat : Int) == (127 : Int))))
      (ref1_characters_j3)

def ref1_characters_j1 (p1 : ByteArray) (x1 : Bool) : Option Bool :=
    ift x1
      (some false)
      (ref1_characters_l1 p1 BIG (0 : Int))

def ref1_characters (p1 : ByteArray) : Option Bool :=
    bnd (utf8_ValidString p1) fun r1 =>
    ift (!r1)
      (ref1_characters_j1 p1 true)
      (ref1_characters_j1 p1 (decide ((256 : Int) < (p1.size : Int))))


theorem c_ref1_characters (p1 : ByteArray) (r : Bool) (h : ref1_characters p1 = some r) : PC Tryd.prog 115 [vs p1] (vb r) := by
  unfold ref1_characters at h
  refine PC.of (n := 28) (fn := Tryd.f115) (c := cd Tryd.f115 []) (by kernel_rfl) (by kernel_rfl) (by kernel_rfl) (Nat.le_of_ble_eq_true rfl) ?_
  refine XW.seq (x := cd Tryd.f115 [0]) (y := cd Tryd.f115 [1]) (by kernel_rfl) fun K1 hK1 => ?_
  refine XW.reg (by kernel_rfl) ?_
  refine XO.go [] 1 [0] [] [(0, vs p1)] [] [] (by kernel_rfl) trivial ?_
  refine XO.done (by kernel_rfl) ?_
  refine hK1 _ _ ?_
  refine XW.seq (x := cd Tryd.f115 [1,0]) (y := cd Tryd.f115 [1,1]) (by kernel_rfl) fun K2 hK2 => ?_
  refine XW.seq (x := cd Tryd.f115 [1,0,0]) (y := cd Tryd.f115 [1,0,1]) (by kernel_rfl) fun K3 hK3 => ?_
  have hJ1 : ∀ (x1 : Bool), ref1_characters_j1 p1 x1 = some r → ∀ fr1 st1, Sub 28 0 [] fr1 st1 [(0, vs p1), (11, vb x1)] [] → K3 fr1 st1 := by
    intro x1 h fr1 st1 hS
    unfold ref1_characters_j1 at h
    refine hK3 _ _ (XW.sub hS ?_)
    refine XW.cond (x := .tmp 11) (a := cd Tryd.f115 [1,0,1,0]) (b := cd Tryd.f115 [1,0,1,1]) (t := x1) (by kernel_rfl) (by kernel_rfl) (fun b6 => ?_) (fun b6 => ?_)
    · have h := ift_t b6 h
      refine XW.seq (x := cd Tryd.f115 [1,0,1,0,0]) (y := cd Tryd.f115 [1,0,1,0,1]) (by kernel_rfl) fun K7 hK7 => ?_
      refine XW.reg (by kernel_rfl) ?_
      refine XO.go [] 1 [2] [] [(2, vb false)] [] [] (by kernel_rfl) trivial ?_
      refine XO.done (by kernel_rfl) ?_
      refine hK7 _ _ ?_
      refine XW.ret (by kernel_rfl) ?_
      obtain rfl := Option.some.inj h
      exact FinP.fin (.inr rfl) [] [vb false] [] (by kernel_rfl) trivial (.one (.rfl _ rfl))
    · have h := ift_f b6 h
      refine XW.skip (by kernel_rfl) ?_
      refine hK2 _ _ ?_
      refine XW.seq (x := cd Tryd.f115 [1,1,0]) (y := cd Tryd.f115 [1,1,1]) (by kernel_rfl) fun K8 hK8 => ?_
      have hJ3 : ∀ (_ : Unit), ref1_characters_j3 = some r → ∀ fr1 st1, Sub 28 0 [] fr1 st1 [] [] → K8 fr1 st1 := by
        intro _ h fr1 st1 hS
        unfold ref1_characters_j3 at h
        refine hK8 _ _ (XW.sub hS ?_)
        refine XW.seq (x := cd Tryd.f115 [1,1,1,0]) (y := cd Tryd.f115 [1,1,1,1]) (by kernel_rfl) fun K21 hK21 => ?_
        refine XW.reg (by kernel_rfl) ?_
        refine XO.go [] 1 [2] [] [(2, vb true)] [] [] (by kernel_rfl) trivial ?_
        refine XO.done (by kernel_rfl) ?_
        refine hK21 _ _ ?_
        refine XW.ret (by kernel_rfl) ?_
        obtain rfl := Option.some.inj h
        exact FinP.fin (.inr rfl) [] [vb true] [] (by kernel_rfl) trivial (.one (.rfl _ rfl))
      refine XW.seq (x := cd Tryd.f115 [1,1,0,0]) (y := cd Tryd.f115 [1,1,0,1]) (by kernel_rfl) fun K9 hK9 => ?_
      refine XW.reg (by kernel_rfl) ?_
      refine XO.go [] 1 [0,3] [] [(0, vs p1), (3, vi (0 : Int))] [] [] (by kernel_rfl) trivial ?_
      refine XO.done (by kernel_rfl) ?_
      refine hK9 _ _ ?_
      refine XW.block (id := 0) (x := cd Tryd.f115 [1,1,0,1,0]) (by kernel_rfl) ?_
      refine XW.rounds' BIG (x := cd Tryd.f115 [1,1,0,1,0,0]) (by kernel_rfl) fun Q1 hQ1 => ?_
      have hL1 : ∀ (k1 : Nat) (x2 : Int), ref1_characters_l1 p1 k1 x2 = some r → XR Tryd.prog 28 0 [] (cd Tryd.f115 [1,1,0,1,0,0]) Q1 k1 [(0, vs p1), (3, vi x2)] [] := by
        intro k1
        induction k1 with
        | zero => intro x2 h; rw [ref1_characters_l1.eq_1] at h; cases h
        | succ k1 ih1 =>
          intro x2 h
          rw [ref1_characters_l1.eq_2] at h
          refine XW.seq (x := cd Tryd.f115 [1,1,0,1,0,0,0]) (y := cd Tryd.f115 [1,1,0,1,0,0,1]) (by kernel_rfl) fun K10 hK10 => ?_
          refine XW.seq (x := cd Tryd.f115 [1,1,0,1,0,0,0,0]) (y := cd Tryd.f115 [1,1,0,1,0,0,0,1]) (by kernel_rfl) fun K11 hK11 => ?_
          refine XW.reg (by kernel_rfl) ?_
          refine XO.go [] 4 [0,3,15] [] [(0, vs p1), (3, vi x2), (15, vb (decide (x2 < (p1.size : Int))))] [] [] (by kernel_rfl) trivial ?_
          refine XO.done (by kernel_rfl) ?_
          refine hK11 _ _ ?_
          refine XW.cond (x := .tmp 15) (a := cd Tryd.f115 [1,1,0,1,0,0,0,1,0]) (b := cd Tryd.f115 [1,1,0,1,0,0,0,1,1]) (t := (decide (x2 < (p1.size : Int)))) (by kernel_rfl) (by kernel_rfl) (fun b12 => ?_) (fun b12 => ?_)
          · have h := ift_t b12 h
            refine XW.skip (by kernel_rfl) ?_
            refine hK10 _ _ ?_
            refine XW.seq (x := cd Tryd.f115 [1,1,0,1,0,0,1,0]) (y := cd Tryd.f115 [1,1,0,1,0,0,1,1]) (by kernel_rfl) fun K13 hK13 => ?_
            refine XW.block (id := 1) (x := cd Tryd.f115 [1,1,0,1,0,0,1,0,0]) (by kernel_rfl) ?_
            refine XW.seq (x := cd Tryd.f115 [1,1,0,1,0,0,1,0,0,0]) (y := cd Tryd.f115 [1,1,0,1,0,0,1,0,0,1]) (by kernel_rfl) fun K14 hK14 => ?_
            have hJ2 : ∀ (x3 : Bool), ref1_characters_j2 (ref1_characters_l1 p1 k1) x2 x3 = some r → ∀ fr1 st1, Sub 28 0 [] fr1 st1 [(0, vs p1), (3, vi x2), (27, vb x3)] [] → K14 fr1 st1 := by
              intro x3 h fr1 st1 hS
              unfold ref1_characters_j2 at h
              refine hK14 _ _ (XW.sub hS ?_)
              refine XW.cond (x := .tmp 27) (a := cd Tryd.f115 [1,1,0,1,0,0,1,0,0,1,0]) (b := cd Tryd.f115 [1,1,0,1,0,0,1,0,0,1,1]) (t := x3) (by kernel_rfl) (by kernel_rfl) (fun b19 => ?_) (fun b19 => ?_)
              · have h := ift_t b19 h
                refine XW.seq (x := cd Tryd.f115 [1,1,0,1,0,0,1,0,0,1,0,0]) (y := cd Tryd.f115 [1,1,0,1,0,0,1,0,0,1,0,1]) (by kernel_rfl) fun K20 hK20 => ?_
                refine XW.reg (by kernel_rfl) ?_
                refine XO.go [] 1 [2] [] [(2, vb false)] [] [] (by kernel_rfl) trivial ?_
                refine XO.done (by kernel_rfl) ?_
                refine hK20 _ _ ?_
                refine XW.ret (by kernel_rfl) ?_
                refine hQ1 _ _ _ ?_
                obtain rfl := Option.some.inj h
                exact FinP.fin (.inr rfl) [] [vb false] [] (by kernel_rfl) trivial (.one (.rfl _ rfl))
              · have h := ift_f b19 h
                refine XW.skip (by kernel_rfl) ?_
                refine hK13 _ _ ?_
                refine XW.reg (by kernel_rfl) ?_
                refine XO.go [] 3 [0,3] [] [(0, vs p1), (3, vi (IntKind.i64.wrap (x2 + (1 : Int))))] [] [] (by kernel_rfl) trivial ?_
                refine XO.done (by kernel_rfl) ?_
                exact XR.sub (Sub.pick [0,3] (by kernel_rfl)) (ih1 (IntKind.i64.wrap (x2 + (1 : Int))) h)
            obtain ⟨g15, h⟩ := grd_some h
            obtain ⟨y1, hy16, h⟩ := bnd_some h
            rcases Bool.eq_false_or_eq_true y1 with b17 | b17
            · have h := ift_t b17 h
              refine XW.reg (by kernel_rfl) ?_
              refine XO.go [] 4 [0,3,21] [] [(0, vs p1), (3, vi x2), (21, vb (decide (((p1.data.toList.getD x2.toNat 0).toNat : Int) < (32 : Int))))] [] [0 ≤ x2 ∧ x2 < (p1.size : Int)] (by kernel_rfl) (⟨g15, trivial⟩) ?_
              rw [show (decide (((p1.data.toList.getD x2.toNat 0).toNat : Int) < (32 : Int))) = y1 from Option.some.inj hy16]
              refine XO.go [] 1 [0,3,22] [] [(0, vs p1), (3, vi x2), (22, vb y1)] [] [] (by kernel_rfl) trivial ?_
              refine XO.setb 22 true (B := y1) rfl b17 ?_
              refine XO.go [] 5 [0,3,27] [] [(0, vs p1), (3, vi x2), (27, vb true)] [] [] (by kernel_rfl) trivial ?_
              refine XO.done (by kernel_rfl) ?_
              exact hJ2 true h _ _ (Sub.pick [0,3,27] (by kernel_rfl))
            · have h := ift_f b17 h
              obtain ⟨g18, h⟩ := grd_some h
              refine XW.reg (by kernel_rfl) ?_
              refine XO.go [] 4 [0,3,21] [] [(0, vs p1), (3, vi x2), (21, vb (decide (((p1.data.toList.getD x2.toNat 0).toNat : Int) < (32 : Int))))] [] [0 ≤ x2 ∧ x2 < (p1.size : Int)] (by kernel_rfl) (⟨g15, trivial⟩) ?_
              rw [show (decide (((p1.data.toList.getD x2.toNat 0).toNat : Int) < (32 : Int))) = y1 from Option.some.inj hy16]
              refine XO.go [] 1 [0,3,22] [] [(0, vs p1), (3, vi x2), (22, vb y1)] [] [] (by kernel_rfl) trivial ?_
              refine XO.setb 22 false (B := y1) rfl b17 ?_
              refine XO.go [] 5 [0,3,27] [] [(0, vs p1), (3, vi x2), (27, vb (((p1.data.toList.getD x2.toNat 0).toNat : Int) == (127 : Int)))] [] [0 ≤ x2 ∧ x2 < (p1.size : Int)] (by kernel_rfl) (⟨g18, trivial⟩) ?_
              refine XO.done (by kernel_rfl) ?_
              exact hJ2 (((p1.data.toList.getD x2.toNat 0).toNat : Int) == (127 : Int)) h _ _ (Sub.pick [0,3,27] (by kernel_rfl))
          · have h := ift_f b12 h
            refine XW.exit (id := 0) (by kernel_rfl) ?_
            refine hQ1 _ _ _ ?_
            exact hJ3 () h _ _ (Sub.pick [] (by kernel_rfl))
      exact XR.sub (Sub.pick [0,3] (by kernel_rfl)) (hL1 BIG (0 : Int) h)
  obtain ⟨r1, c4, h⟩ := bnd_some h
  rcases Bool.eq_false_or_eq_true (!r1) with b5 | b5
  · have h := ift_t b5 h
    refine XW.reg (by kernel_rfl) ?_
    refine XO.go [] 1 [0,4] [] [(0, vs p1), (4, vs p1)] [] [] (by kernel_rfl) trivial ?_
    refine XO.cal 126 [vs p1] (vb r1) [(5, vb r1), (0, vs p1), (4, vs p1)] (by kernel_rfl) (c_utf8_ValidString _ _ c4) rfl rfl (by kernel_rfl) ?_
    refine XO.go [] 2 [0,7] [] [(0, vs p1), (7, vb (!r1))] [] [] (by kernel_rfl) trivial ?_
    refine XO.setb 7 true (B := (!r1)) rfl b5 ?_
    refine XO.go [] 4 [0,11] [] [(0, vs p1), (11, vb true)] [] [] (by kernel_rfl) trivial ?_
    refine XO.done (by kernel_rfl) ?_
    exact hJ1 true h _ _ (Sub.pick [0,11] (by kernel_rfl))
  · have h := ift_f b5 h
    refine XW.reg (by kernel_rfl) ?_
    refine XO.go [] 1 [0,4] [] [(0, vs p1), (4, vs p1)] [] [] (by kernel_rfl) trivial ?_
    refine XO.cal 126 [vs p1] (vb r1) [(5, vb r1), (0, vs p1), (4, vs p1)] (by kernel_rfl) (c_utf8_ValidString _ _ c4) rfl rfl (by kernel_rfl) ?_
    refine XO.go [] 2 [0,7] [] [(0, vs p1), (7, vb (!r1))] [] [] (by kernel_rfl) trivial ?_
    refine XO.setb 7 false (B := (!r1)) rfl b5 ?_
    refine XO.go [] 4 [0,11] [] [(0, vs p1), (11, vb (decide ((256 : Int) < (p1.size : Int))))] [] [] (by kernel_rfl) trivial ?_
    refine XO.done (by kernel_rfl) ?_
    exact hJ1 (decide ((256 : Int) < (p1.size : Int))) h _ _ (Sub.pick [0,11] (by kernel_rfl))

def ref1_alone_j2 (x2 : Bool) : Option Bool :=
    some x2

def ref1_alone_j3 (x3 : Bool) : Option Bool :=
    some x3

def ref1_alone_j4 (x4 : Bool) : Option Bool :=
    some x4

def ref1_alone_j5 (x5 : Bool) : Option Bool :=
    some x5

def ref1_alone_j6 (x6 : Bool) : Option Bool :=
    some x6

def ref1_alone_j7 (x7 : Bool) : Option Bool :=
    some x7

def ref1_alone_j8 (x8 : Bool) : Option Bool :=
    some x8

def ref1_alone_j9 (x9 : Bool) : Option Bool :=
    some x9

def ref1_alone_j1 (p1 : GValue) (x1 : Bool) : Option Bool :=
    ift (p1.kind == (0 : Int))
      (ift x1
         (ift (p1.n == (0 : Int))
            (ref1_alone_j2 (p1.scale == (0 : Int)))
            (ref1_alone_j2 false))
         (ref1_alone_j2 false))
      (ift (p1.kind == (1 : Int))
         (ift x1
            (bnd (ref1_within p1.n (0 : Int) (1 : Int)) fun r1 =>
             ift r1
               (ref1_alone_j3 (p1.scale == (0 : Int)))
               (ref1_alone_j3 false))
            (ref1_alone_j3 false))
         (ift (p1.kind == (2 : Int))
            (ift x1
               (bnd (ref1_within p1.n (-999999999999999999 : Int) (999999999999999999 : Int)) fun r2 =>
                ift r2
                  (ref1_alone_j4 (p1.scale == (0 : Int)))
                  (ref1_alone_j4 false))
               (ref1_alone_j4 false))
            (ift (p1.kind == (3 : Int))
               (ift x1
                  (bnd (ref1_within p1.n (-999999999999999999 : Int) (999999999999999999 : Int)) fun r3 =>
                   ift r3
                     (bnd (ref1_within p1.scale (0 : Int) (12 : Int)) fun r4 =>
                      ref1_alone_j5 r4)
                     (ref1_alone_j5 false))
                  (ref1_alone_j5 false))
               (ift (p1.kind == (4 : Int))
                  (ift ((p1.items.length : Int) == (0 : Int))
                     (ift (p1.n == (0 : Int))
                        (ift (p1.scale == (0 : Int))
                           (bnd (ref1_characters p1.s) fun r5 =>
                            ref1_alone_j6 r5)
                           (ref1_alone_j6 false))
                        (ref1_alone_j6 false))
                     (ref1_alone_j6 false))
                  (ift (p1.kind == (5 : Int))
                     (ift x1
                        (bnd (ref1_within p1.n (-62135596800 : Int) (253402300799 : Int)) fun r6 =>
                         ift r6
                           (ref1_alone_j7 (p1.scale == (0 : Int)))
                           (ref1_alone_j7 false))
                        (ref1_alone_j7 false))
                     (ift (p1.kind == (6 : Int))
                        (ift (p1.s.toList == (ByteArray.mk #[]).toList)
                           (ift (p1.n == (0 : Int))
                              (ift (p1.scale == (0 : Int))
                                 (ref1_alone_j8 (decide ((p1.items.length : Int) ≤ (64 : Int))))
                                 (ref1_alone_j8 false))
                              (ref1_alone_j8 false))
                           (ref1_alone_j8 false))
                        (ift (p1.kind == (7 : Int))
                           (ift (p1.s.toList == (ByteArray.mk #[]).toList)
                              (ift (p1.n == (0 : Int))
                                 (ift (p1.scale == (0 : Int))
                                    (ref1_alone_j9 (decide ((0 : Int) < (p1.items.length : Int))))
                                    (ref1_alone_j9 false))
                                 (ref1_alone_j9 false))
                              (ref1_alone_j9 false))
                           (some false))))))))

def ref1_alone (p1 : GValue) : Option Bool :=
    ift (p1.s.toList == (ByteArray.mk #[]).toList)
      (ref1_alone_j1 p1 ((p1.items.length : Int) == (0 : Int)))
      (ref1_alone_j1 p1 false)


theorem c_ref1_alone (p1 : GValue) (r : Bool) (h : ref1_alone p1 = some r) : PC Tryd.prog 79 [.ag [ci p1.kind, ci p1.n, ci p1.scale, cst p1.s, cl eValue p1.items]] (vb r) := by
  unfold ref1_alone at h
  refine PC.of (n := 143) (fn := Tryd.f79) (c := cd Tryd.f79 []) (by kernel_rfl) (by kernel_rfl) (by kernel_rfl) (Nat.le_of_ble_eq_true rfl) ?_
  refine XW.seq (x := cd Tryd.f79 [0]) (y := cd Tryd.f79 [1]) (by kernel_rfl) fun K1 hK1 => ?_
  refine XW.reg (by kernel_rfl) ?_
  refine XO.go [] 2 [1] [] [(1, .one (.pv (.rp [[pi p1.kind, pi p1.n, pi p1.scale, .s (.string p1.s), .ro (eValue.els p1.items)]] 0 0)))] [] [] (by kernel_rfl) trivial ?_
  refine XO.done (by kernel_rfl) ?_
  refine hK1 _ _ ?_
  refine XW.seq (x := cd Tryd.f79 [1,0]) (y := cd Tryd.f79 [1,1]) (by kernel_rfl) fun K2 hK2 => ?_
  have hJ1 : ∀ (x1 : Bool), ref1_alone_j1 p1 x1 = some r → ∀ fr1 st1, Sub 143 0 [] fr1 st1 [(1, .one (.pv (.rp [[pi p1.kind, pi p1.n, pi p1.scale, .s (.string p1.s), .ro (eValue.els p1.items)]] 0 0))), (3, vb x1)] [] → K2 fr1 st1 := by
    intro x1 h fr1 st1 hS
    unfold ref1_alone_j1 at h
    refine hK2 _ _ (XW.sub hS ?_)
    refine XW.seq (x := cd Tryd.f79 [1,1,0]) (y := cd Tryd.f79 [1,1,1]) (by kernel_rfl) fun K4 hK4 => ?_
    refine XW.seq (x := cd Tryd.f79 [1,1,0,0]) (y := cd Tryd.f79 [1,1,0,1]) (by kernel_rfl) fun K5 hK5 => ?_
    refine XW.reg (by kernel_rfl) ?_
    refine XO.go [] 2 [1,3,14] [[pi p1.kind, pi p1.n, pi p1.scale, .s (.string p1.s), .ro (eValue.els p1.items)]] [(1, .one (.pv (.rp [[pi p1.kind, pi p1.n, pi p1.scale, .s (.string p1.s), .ro (eValue.els p1.items)]] 0 0))), (3, vb x1), (14, vi p1.kind)] [] [([[pi p1.kind, pi p1.n, pi p1.scale, .s (.string p1.s), .ro (eValue.els p1.items)]] : List (List PV))[0]? = some [pi p1.kind, pi p1.n, pi p1.scale, .s (.string p1.s), .ro (eValue.els p1.items)]] (by kernel_rfl) (⟨rfl, trivial⟩) ?_
    refine XO.done (by kernel_rfl) ?_
    refine hK5 _ _ ?_
    refine XW.block (id := 0) (x := cd Tryd.f79 [1,1,0,1,0]) (by kernel_rfl) ?_
    refine XW.seq (x := cd Tryd.f79 [1,1,0,1,0,0]) (y := cd Tryd.f79 [1,1,0,1,0,1]) (by kernel_rfl) fun K6 hK6 => ?_
    refine XW.reg (by kernel_rfl) ?_
    refine XO.go [] 2 [1,3,14,15] [] [(1, .one (.pv (.rp [[pi p1.kind, pi p1.n, pi p1.scale, .s (.string p1.s), .ro (eValue.els p1.items)]] 0 0))), (3, vb x1), (14, vi p1.kind), (15, vb (p1.kind == (0 : Int)))] [] [] (by kernel_rfl) trivial ?_
    refine XO.done (by kernel_rfl) ?_
    refine hK6 _ _ ?_
    refine XW.cond (x := .tmp 15) (a := cd Tryd.f79 [1,1,0,1,0,1,0]) (b := cd Tryd.f79 [1,1,0,1,0,1,1]) (t := (p1.kind == (0 : Int))) (by kernel_rfl) (by kernel_rfl) (fun b7 => ?_) (fun b7 => ?_)
    · have h := ift_t b7 h
      refine XW.seq (x := cd Tryd.f79 [1,1,0,1,0,1,0,0]) (y := cd Tryd.f79 [1,1,0,1,0,1,0,1]) (by kernel_rfl) fun K8 hK8 => ?_
      have hJ2 : ∀ (x2 : Bool), ref1_alone_j2 x2 = some r → ∀ fr1 st1, Sub 143 0 [] fr1 st1 [(2, vb x2)] [] → K8 fr1 st1 := by
        intro x2 h fr1 st1 hS
        unfold ref1_alone_j2 at h
        refine hK8 _ _ (XW.sub hS ?_)
        refine XW.ret (by kernel_rfl) ?_
        obtain rfl := Option.some.inj h
        exact FinP.fin (.inr rfl) [] [vb x2] [] (by kernel_rfl) trivial (.one (.rfl _ rfl))
      rcases Bool.eq_false_or_eq_true x1 with b9 | b9
      · have h := ift_t b9 h
        rcases Bool.eq_false_or_eq_true (p1.n == (0 : Int)) with b10 | b10
        · have h := ift_t b10 h
          refine XW.reg (by kernel_rfl) ?_
          refine XO.go [] 2 [1,18] [] [(1, .one (.pv (.rp [[pi p1.kind, pi p1.n, pi p1.scale, .s (.string p1.s), .ro (eValue.els p1.items)]] 0 0))), (18, vb x1)] [] [] (by kernel_rfl) trivial ?_
          refine XO.setb 18 true (B := x1) rfl b9 ?_
          refine XO.go [] 5 [1,23] [[pi p1.kind, pi p1.n, pi p1.scale, .s (.string p1.s), .ro (eValue.els p1.items)]] [(1, .one (.pv (.rp [[pi p1.kind, pi p1.n, pi p1.scale, .s (.string p1.s), .ro (eValue.els p1.items)]] 0 0))), (23, vb (p1.n == (0 : Int)))] [] [([[pi p1.kind, pi p1.n, pi p1.scale, .s (.string p1.s), .ro (eValue.els p1.items)]] : List (List PV))[0]? = some [pi p1.kind, pi p1.n, pi p1.scale, .s (.string p1.s), .ro (eValue.els p1.items)]] (by kernel_rfl) (⟨rfl, trivial⟩) ?_
          refine XO.setb 23 true (B := (p1.n == (0 : Int))) rfl b10 ?_
          refine XO.go [] 5 [2] [[pi p1.kind, pi p1.n, pi p1.scale, .s (.string p1.s), .ro (eValue.els p1.items)]] [(2, vb (p1.scale == (0 : Int)))] [] [([[pi p1.kind, pi p1.n, pi p1.scale, .s (.string p1.s), .ro (eValue.els p1.items)]] : List (List PV))[0]? = some [pi p1.kind, pi p1.n, pi p1.scale, .s (.string p1.s), .ro (eValue.els p1.items)]] (by kernel_rfl) (⟨rfl, trivial⟩) ?_
          refine XO.done (by kernel_rfl) ?_
          exact hJ2 (p1.scale == (0 : Int)) h _ _ (Sub.pick [2] (by kernel_rfl))
        · have h := ift_f b10 h
          refine XW.reg (by kernel_rfl) ?_
          refine XO.go [] 2 [1,18] [] [(1, .one (.pv (.rp [[pi p1.kind, pi p1.n, pi p1.scale, .s (.string p1.s), .ro (eValue.els p1.items)]] 0 0))), (18, vb x1)] [] [] (by kernel_rfl) trivial ?_
          refine XO.setb 18 true (B := x1) rfl b9 ?_
          refine XO.go [] 5 [1,23] [[pi p1.kind, pi p1.n, pi p1.scale, .s (.string p1.s), .ro (eValue.els p1.items)]] [(1, .one (.pv (.rp [[pi p1.kind, pi p1.n, pi p1.scale, .s (.string p1.s), .ro (eValue.els p1.items)]] 0 0))), (23, vb (p1.n == (0 : Int)))] [] [([[pi p1.kind, pi p1.n, pi p1.scale, .s (.string p1.s), .ro (eValue.els p1.items)]] : List (List PV))[0]? = some [pi p1.kind, pi p1.n, pi p1.scale, .s (.string p1.s), .ro (eValue.els p1.items)]] (by kernel_rfl) (⟨rfl, trivial⟩) ?_
          refine XO.setb 23 false (B := (p1.n == (0 : Int))) rfl b10 ?_
          refine XO.go [] 5 [2] [] [(2, vb false)] [] [] (by kernel_rfl) trivial ?_
          refine XO.done (by kernel_rfl) ?_
          exact hJ2 false h _ _ (Sub.pick [2] (by kernel_rfl))
      · have h := ift_f b9 h
        refine XW.reg (by kernel_rfl) ?_
        refine XO.go [] 2 [1,18] [] [(1, .one (.pv (.rp [[pi p1.kind, pi p1.n, pi p1.scale, .s (.string p1.s), .ro (eValue.els p1.items)]] 0 0))), (18, vb x1)] [] [] (by kernel_rfl) trivial ?_
        refine XO.setb 18 false (B := x1) rfl b9 ?_
        refine XO.go [] 10 [2] [] [(2, vb false)] [] [] (by kernel_rfl) trivial ?_
        refine XO.done (by kernel_rfl) ?_
        exact hJ2 false h _ _ (Sub.pick [2] (by kernel_rfl))
    · have h := ift_f b7 h
      refine XW.seq (x := cd Tryd.f79 [1,1,0,1,0,1,1,0]) (y := cd Tryd.f79 [1,1,0,1,0,1,1,1]) (by kernel_rfl) fun K11 hK11 => ?_
      refine XW.reg (by kernel_rfl) ?_
      refine XO.go [] 2 [1,3,14,28] [] [(1, .one (.pv (.rp [[pi p1.kind, pi p1.n, pi p1.scale, .s (.string p1.s), .ro (eValue.els p1.items)]] 0 0))), (3, vb x1), (14, vi p1.kind), (28, vb (p1.kind == (1 : Int)))] [] [] (by kernel_rfl) trivial ?_
      refine XO.done (by kernel_rfl) ?_
      refine hK11 _ _ ?_
      refine XW.cond (x := .tmp 28) (a := cd Tryd.f79 [1,1,0,1,0,1,1,1,0]) (b := cd Tryd.f79 [1,1,0,1,0,1,1,1,1]) (t := (p1.kind == (1 : Int))) (by kernel_rfl) (by kernel_rfl) (fun b12 => ?_) (fun b12 => ?_)
      · have h := ift_t b12 h
        refine XW.seq (x := cd Tryd.f79 [1,1,0,1,0,1,1,1,0,0]) (y := cd Tryd.f79 [1,1,0,1,0,1,1,1,0,1]) (by kernel_rfl) fun K13 hK13 => ?_
        have hJ3 : ∀ (x3 : Bool), ref1_alone_j3 x3 = some r → ∀ fr1 st1, Sub 143 0 [] fr1 st1 [(2, vb x3)] [] → K13 fr1 st1 := by
          intro x3 h fr1 st1 hS
          unfold ref1_alone_j3 at h
          refine hK13 _ _ (XW.sub hS ?_)
          refine XW.ret (by kernel_rfl) ?_
          obtain rfl := Option.some.inj h
          exact FinP.fin (.inr rfl) [] [vb x3] [] (by kernel_rfl) trivial (.one (.rfl _ rfl))
        rcases Bool.eq_false_or_eq_true x1 with b14 | b14
        · have h := ift_t b14 h
          obtain ⟨r1, c15, h⟩ := bnd_some h
          rcases Bool.eq_false_or_eq_true r1 with b16 | b16
          · have h := ift_t b16 h
            refine XW.reg (by kernel_rfl) ?_
            refine XO.go [] 2 [1,31] [] [(1, .one (.pv (.rp [[pi p1.kind, pi p1.n, pi p1.scale, .s (.string p1.s), .ro (eValue.els p1.items)]] 0 0))), (31, vb x1)] [] [] (by kernel_rfl) trivial ?_
            refine XO.setb 31 true (B := x1) rfl b14 ?_
            refine XO.go [] 2 [1,31,33] [[pi p1.kind, pi p1.n, pi p1.scale, .s (.string p1.s), .ro (eValue.els p1.items)]] [(1, .one (.pv (.rp [[pi p1.kind, pi p1.n, pi p1.scale, .s (.string p1.s), .ro (eValue.els p1.items)]] 0 0))), (31, vb true), (33, vi p1.n)] [] [([[pi p1.kind, pi p1.n, pi p1.scale, .s (.string p1.s), .ro (eValue.els p1.items)]] : List (List PV))[0]? = some [pi p1.kind, pi p1.n, pi p1.scale, .s (.string p1.s), .ro (eValue.els p1.items)]] (by kernel_rfl) (⟨rfl, trivial⟩) ?_
            refine XO.cal 68 [vi p1.n, vi (0 : Int), vi (1 : Int)] (vb r1) [(34, vb r1), (1, .one (.pv (.rp [[pi p1.kind, pi p1.n, pi p1.scale, .s (.string p1.s), .ro (eValue.els p1.items)]] 0 0))), (31, vb true), (33, vi p1.n)] (by kernel_rfl) (c_ref1_within _ _ _ _ c15) rfl rfl (by kernel_rfl) ?_
            refine XO.go [] 2 [1,36] [] [(1, .one (.pv (.rp [[pi p1.kind, pi p1.n, pi p1.scale, .s (.string p1.s), .ro (eValue.els p1.items)]] 0 0))), (36, vb r1)] [] [] (by kernel_rfl) trivial ?_
            refine XO.setb 36 true (B := r1) rfl b16 ?_
            refine XO.go [] 5 [2] [[pi p1.kind, pi p1.n, pi p1.scale, .s (.string p1.s), .ro (eValue.els p1.items)]] [(2, vb (p1.scale == (0 : Int)))] [] [([[pi p1.kind, pi p1.n, pi p1.scale, .s (.string p1.s), .ro (eValue.els p1.items)]] : List (List PV))[0]? = some [pi p1.kind, pi p1.n, pi p1.scale, .s (.string p1.s), .ro (eValue.els p1.items)]] (by kernel_rfl) (⟨rfl, trivial⟩) ?_
            refine XO.done (by kernel_rfl) ?_
            exact hJ3 (p1.scale == (0 : Int)) h _ _ (Sub.pick [2] (by kernel_rfl))
          · have h := ift_f b16 h
            refine XW.reg (by kernel_rfl) ?_
            refine XO.go [] 2 [1,31] [] [(1, .one (.pv (.rp [[pi p1.kind, pi p1.n, pi p1.scale, .s (.string p1.s), .ro (eValue.els p1.items)]] 0 0))), (31, vb x1)] [] [] (by kernel_rfl) trivial ?_
            refine XO.setb 31 true (B := x1) rfl b14 ?_
            refine XO.go [] 2 [1,31,33] [[pi p1.kind, pi p1.n, pi p1.scale, .s (.string p1.s), .ro (eValue.els p1.items)]] [(1, .one (.pv (.rp [[pi p1.kind, pi p1.n, pi p1.scale, .s (.string p1.s), .ro (eValue.els p1.items)]] 0 0))), (31, vb true), (33, vi p1.n)] [] [([[pi p1.kind, pi p1.n, pi p1.scale, .s (.string p1.s), .ro (eValue.els p1.items)]] : List (List PV))[0]? = some [pi p1.kind, pi p1.n, pi p1.scale, .s (.string p1.s), .ro (eValue.els p1.items)]] (by kernel_rfl) (⟨rfl, trivial⟩) ?_
            refine XO.cal 68 [vi p1.n, vi (0 : Int), vi (1 : Int)] (vb r1) [(34, vb r1), (1, .one (.pv (.rp [[pi p1.kind, pi p1.n, pi p1.scale, .s (.string p1.s), .ro (eValue.els p1.items)]] 0 0))), (31, vb true), (33, vi p1.n)] (by kernel_rfl) (c_ref1_within _ _ _ _ c15) rfl rfl (by kernel_rfl) ?_
            refine XO.go [] 2 [1,36] [] [(1, .one (.pv (.rp [[pi p1.kind, pi p1.n, pi p1.scale, .s (.string p1.s), .ro (eValue.els p1.items)]] 0 0))), (36, vb r1)] [] [] (by kernel_rfl) trivial ?_
            refine XO.setb 36 false (B := r1) rfl b16 ?_
            refine XO.go [] 5 [2] [] [(2, vb false)] [] [] (by kernel_rfl) trivial ?_
            refine XO.done (by kernel_rfl) ?_
            exact hJ3 false h _ _ (Sub.pick [2] (by kernel_rfl))
        · have h := ift_f b14 h
          refine XW.reg (by kernel_rfl) ?_
          refine XO.go [] 2 [1,31] [] [(1, .one (.pv (.rp [[pi p1.kind, pi p1.n, pi p1.scale, .s (.string p1.s), .ro (eValue.els p1.items)]] 0 0))), (31, vb x1)] [] [] (by kernel_rfl) trivial ?_
          refine XO.setb 31 false (B := x1) rfl b14 ?_
          refine XO.go [] 10 [2] [] [(2, vb false)] [] [] (by kernel_rfl) trivial ?_
          refine XO.done (by kernel_rfl) ?_
          exact hJ3 false h _ _ (Sub.pick [2] (by kernel_rfl))
      · have h := ift_f b12 h
        refine XW.seq (x := cd Tryd.f79 [1,1,0,1,0,1,1,1,1,0]) (y := cd Tryd.f79 [1,1,0,1,0,1,1,1,1,1]) (by kernel_rfl) fun K17 hK17 => ?_
        refine XW.reg (by kernel_rfl) ?_
        refine XO.go [] 2 [1,3,14,41] [] [(1, .one (.pv (.rp [[pi p1.kind, pi p1.n, pi p1.scale, .s (.string p1.s), .ro (eValue.els p1.items)]] 0 0))), (3, vb x1), (14, vi p1.kind), (41, vb (p1.kind == (2 : Int)))] [] [] (by kernel_rfl) trivial ?_
        refine XO.done (by kernel_rfl) ?_
        refine hK17 _ _ ?_
        refine XW.cond (x := .tmp 41) (a := cd Tryd.f79 [1,1,0,1,0,1,1,1,1,1,0]) (b := cd Tryd.f79 [1,1,0,1,0,1,1,1,1,1,1]) (t := (p1.kind == (2 : Int))) (by kernel_rfl) (by kernel_rfl) (fun b18 => ?_) (fun b18 => ?_)
        · have h := ift_t b18 h
          refine XW.seq (x := cd Tryd.f79 [1,1,0,1,0,1,1,1,1,1,0,0]) (y := cd Tryd.f79 [1,1,0,1,0,1,1,1,1,1,0,1]) (by kernel_rfl) fun K19 hK19 => ?_
          have hJ4 : ∀ (x4 : Bool), ref1_alone_j4 x4 = some r → ∀ fr1 st1, Sub 143 0 [] fr1 st1 [(2, vb x4)] [] → K19 fr1 st1 := by
            intro x4 h fr1 st1 hS
            unfold ref1_alone_j4 at h
            refine hK19 _ _ (XW.sub hS ?_)
            refine XW.ret (by kernel_rfl) ?_
            obtain rfl := Option.some.inj h
            exact FinP.fin (.inr rfl) [] [vb x4] [] (by kernel_rfl) trivial (.one (.rfl _ rfl))
          rcases Bool.eq_false_or_eq_true x1 with b20 | b20
          · have h := ift_t b20 h
            obtain ⟨r2, c21, h⟩ := bnd_some h
            rcases Bool.eq_false_or_eq_true r2 with b22 | b22
            · have h := ift_t b22 h
              refine XW.reg (by kernel_rfl) ?_
              refine XO.go [] 2 [1,44] [] [(1, .one (.pv (.rp [[pi p1.kind, pi p1.n, pi p1.scale, .s (.string p1.s), .ro (eValue.els p1.items)]] 0 0))), (44, vb x1)] [] [] (by kernel_rfl) trivial ?_
              refine XO.setb 44 true (B := x1) rfl b20 ?_
              refine XO.go [] 2 [1,44,46] [[pi p1.kind, pi p1.n, pi p1.scale, .s (.string p1.s), .ro (eValue.els p1.items)]] [(1, .one (.pv (.rp [[pi p1.kind, pi p1.n, pi p1.scale, .s (.string p1.s), .ro (eValue.els p1.items)]] 0 0))), (44, vb true), (46, vi p1.n)] [] [([[pi p1.kind, pi p1.n, pi p1.scale, .s (.string p1.s), .ro (eValue.els p1.items)]] : List (List PV))[0]? = some [pi p1.kind, pi p1.n, pi p1.scale, .s (.string p1.s), .ro (eValue.els p1.items)]] (by kernel_rfl) (⟨rfl, trivial⟩) ?_
              refine XO.cal 68 [vi p1.n, vi (-999999999999999999 : Int), vi (999999999999999999 : Int)] (vb r2) [(47, vb r2), (1, .one (.pv (.rp [[pi p1.kind, pi p1.n, pi p1.scale, .s (.string p1.s), .ro (eValue.els p1.items)]] 0 0))), (44, vb true), (46, vi p1.n)] (by kernel_rfl) (c_ref1_within _ _ _ _ c21) rfl rfl (by kernel_rfl) ?_
              refine XO.go [] 2 [1,49] [] [(1, .one (.pv (.rp [[pi p1.kind, pi p1.n, pi p1.scale, .s (.string p1.s), .ro (eValue.els p1.items)]] 0 0))), (49, vb r2)] [] [] (by kernel_rfl) trivial ?_
              refine XO.setb 49 true (B := r2) rfl b22 ?_
              refine XO.go [] 5 [2] [[pi p1.kind, pi p1.n, pi p1.scale, .s (.string p1.s), .ro (eValue.els p1.items)]] [(2, vb (p1.scale == (0 : Int)))] [] [([[pi p1.kind, pi p1.n, pi p1.scale, .s (.string p1.s), .ro (eValue.els p1.items)]] : List (List PV))[0]? = some [pi p1.kind, pi p1.n, pi p1.scale, .s (.string p1.s), .ro (eValue.els p1.items)]] (by kernel_rfl) (⟨rfl, trivial⟩) ?_
              refine XO.done (by kernel_rfl) ?_
              exact hJ4 (p1.scale == (0 : Int)) h _ _ (Sub.pick [2] (by kernel_rfl))
            · have h := ift_f b22 h
              refine XW.reg (by kernel_rfl) ?_
              refine XO.go [] 2 [1,44] [] [(1, .one (.pv (.rp [[pi p1.kind, pi p1.n, pi p1.scale, .s (.string p1.s), .ro (eValue.els p1.items)]] 0 0))), (44, vb x1)] [] [] (by kernel_rfl) trivial ?_
              refine XO.setb 44 true (B := x1) rfl b20 ?_
              refine XO.go [] 2 [1,44,46] [[pi p1.kind, pi p1.n, pi p1.scale, .s (.string p1.s), .ro (eValue.els p1.items)]] [(1, .one (.pv (.rp [[pi p1.kind, pi p1.n, pi p1.scale, .s (.string p1.s), .ro (eValue.els p1.items)]] 0 0))), (44, vb true), (46, vi p1.n)] [] [([[pi p1.kind, pi p1.n, pi p1.scale, .s (.string p1.s), .ro (eValue.els p1.items)]] : List (List PV))[0]? = some [pi p1.kind, pi p1.n, pi p1.scale, .s (.string p1.s), .ro (eValue.els p1.items)]] (by kernel_rfl) (⟨rfl, trivial⟩) ?_
              refine XO.cal 68 [vi p1.n, vi (-999999999999999999 : Int), vi (999999999999999999 : Int)] (vb r2) [(47, vb r2), (1, .one (.pv (.rp [[pi p1.kind, pi p1.n, pi p1.scale, .s (.string p1.s), .ro (eValue.els p1.items)]] 0 0))), (44, vb true), (46, vi p1.n)] (by kernel_rfl) (c_ref1_within _ _ _ _ c21) rfl rfl (by kernel_rfl) ?_
              refine XO.go [] 2 [1,49] [] [(1, .one (.pv (.rp [[pi p1.kind, pi p1.n, pi p1.scale, .s (.string p1.s), .ro (eValue.els p1.items)]] 0 0))), (49, vb r2)] [] [] (by kernel_rfl) trivial ?_
              refine XO.setb 49 false (B := r2) rfl b22 ?_
              refine XO.go [] 5 [2] [] [(2, vb false)] [] [] (by kernel_rfl) trivial ?_
              refine XO.done (by kernel_rfl) ?_
              exact hJ4 false h _ _ (Sub.pick [2] (by kernel_rfl))
          · have h := ift_f b20 h
            refine XW.reg (by kernel_rfl) ?_
            refine XO.go [] 2 [1,44] [] [(1, .one (.pv (.rp [[pi p1.kind, pi p1.n, pi p1.scale, .s (.string p1.s), .ro (eValue.els p1.items)]] 0 0))), (44, vb x1)] [] [] (by kernel_rfl) trivial ?_
            refine XO.setb 44 false (B := x1) rfl b20 ?_
            refine XO.go [] 10 [2] [] [(2, vb false)] [] [] (by kernel_rfl) trivial ?_
            refine XO.done (by kernel_rfl) ?_
            exact hJ4 false h _ _ (Sub.pick [2] (by kernel_rfl))
        · have h := ift_f b18 h
          refine XW.seq (x := cd Tryd.f79 [1,1,0,1,0,1,1,1,1,1,1,0]) (y := cd Tryd.f79 [1,1,0,1,0,1,1,1,1,1,1,1]) (by kernel_rfl) fun K23 hK23 => ?_
          refine XW.reg (by kernel_rfl) ?_
          refine XO.go [] 2 [1,3,14,54] [] [(1, .one (.pv (.rp [[pi p1.kind, pi p1.n, pi p1.scale, .s (.string p1.s), .ro (eValue.els p1.items)]] 0 0))), (3, vb x1), (14, vi p1.kind), (54, vb (p1.kind == (3 : Int)))] [] [] (by kernel_rfl) trivial ?_
          refine XO.done (by kernel_rfl) ?_
          refine hK23 _ _ ?_
          refine XW.cond (x := .tmp 54) (a := cd Tryd.f79 [1,1,0,1,0,1,1,1,1,1,1,1,0]) (b := cd Tryd.f79 [1,1,0,1,0,1,1,1,1,1,1,1,1]) (t := (p1.kind == (3 : Int))) (by kernel_rfl) (by kernel_rfl) (fun b24 => ?_) (fun b24 => ?_)
          · have h := ift_t b24 h
            refine XW.seq (x := cd Tryd.f79 [1,1,0,1,0,1,1,1,1,1,1,1,0,0]) (y := cd Tryd.f79 [1,1,0,1,0,1,1,1,1,1,1,1,0,1]) (by kernel_rfl) fun K25 hK25 => ?_
            have hJ5 : ∀ (x5 : Bool), ref1_alone_j5 x5 = some r → ∀ fr1 st1, Sub 143 0 [] fr1 st1 [(2, vb x5)] [] → K25 fr1 st1 := by
              intro x5 h fr1 st1 hS
              unfold ref1_alone_j5 at h
              refine hK25 _ _ (XW.sub hS ?_)
              refine XW.ret (by kernel_rfl) ?_
              obtain rfl := Option.some.inj h
              exact FinP.fin (.inr rfl) [] [vb x5] [] (by kernel_rfl) trivial (.one (.rfl _ rfl))
            rcases Bool.eq_false_or_eq_true x1 with b26 | b26
            · have h := ift_t b26 h
              obtain ⟨r3, c27, h⟩ := bnd_some h
              rcases Bool.eq_false_or_eq_true r3 with b28 | b28
              · have h := ift_t b28 h
                obtain ⟨r4, c29, h⟩ := bnd_some h
                refine XW.reg (by kernel_rfl) ?_
                refine XO.go [] 2 [1,57] [] [(1, .one (.pv (.rp [[pi p1.kind, pi p1.n, pi p1.scale, .s (.string p1.s), .ro (eValue.els p1.items)]] 0 0))), (57, vb x1)] [] [] (by kernel_rfl) trivial ?_
                refine XO.setb 57 true (B := x1) rfl b26 ?_
                refine XO.go [] 2 [1,57,59] [[pi p1.kind, pi p1.n, pi p1.scale, .s (.string p1.s), .ro (eValue.els p1.items)]] [(1, .one (.pv (.rp [[pi p1.kind, pi p1.n, pi p1.scale, .s (.string p1.s), .ro (eValue.els p1.items)]] 0 0))), (57, vb true), (59, vi p1.n)] [] [([[pi p1.kind, pi p1.n, pi p1.scale, .s (.string p1.s), .ro (eValue.els p1.items)]] : List (List PV))[0]? = some [pi p1.kind, pi p1.n, pi p1.scale, .s (.string p1.s), .ro (eValue.els p1.items)]] (by kernel_rfl) (⟨rfl, trivial⟩) ?_
                refine XO.cal 68 [vi p1.n, vi (-999999999999999999 : Int), vi (999999999999999999 : Int)] (vb r3) [(60, vb r3), (1, .one (.pv (.rp [[pi p1.kind, pi p1.n, pi p1.scale, .s (.string p1.s), .ro (eValue.els p1.items)]] 0 0))), (57, vb true), (59, vi p1.n)] (by kernel_rfl) (c_ref1_within _ _ _ _ c27) rfl rfl (by kernel_rfl) ?_
                refine XO.go [] 2 [1,62] [] [(1, .one (.pv (.rp [[pi p1.kind, pi p1.n, pi p1.scale, .s (.string p1.s), .ro (eValue.els p1.items)]] 0 0))), (62, vb r3)] [] [] (by kernel_rfl) trivial ?_
                refine XO.setb 62 true (B := r3) rfl b28 ?_
                refine XO.go [] 2 [62,64] [[pi p1.kind, pi p1.n, pi p1.scale, .s (.string p1.s), .ro (eValue.els p1.items)]] [(62, vb true), (64, vi p1.scale)] [] [([[pi p1.kind, pi p1.n, pi p1.scale, .s (.string p1.s), .ro (eValue.els p1.items)]] : List (List PV))[0]? = some [pi p1.kind, pi p1.n, pi p1.scale, .s (.string p1.s), .ro (eValue.els p1.items)]] (by kernel_rfl) (⟨rfl, trivial⟩) ?_
                refine XO.cal 68 [vi p1.scale, vi (0 : Int), vi (12 : Int)] (vb r4) [(65, vb r4), (62, vb true), (64, vi p1.scale)] (by kernel_rfl) (c_ref1_within _ _ _ _ c29) rfl rfl (by kernel_rfl) ?_
                refine XO.go [] 2 [2] [] [(2, vb r4)] [] [] (by kernel_rfl) trivial ?_
                refine XO.done (by kernel_rfl) ?_
                exact hJ5 r4 h _ _ (Sub.pick [2] (by kernel_rfl))
              · have h := ift_f b28 h
                refine XW.reg (by kernel_rfl) ?_
                refine XO.go [] 2 [1,57] [] [(1, .one (.pv (.rp [[pi p1.kind, pi p1.n, pi p1.scale, .s (.string p1.s), .ro (eValue.els p1.items)]] 0 0))), (57, vb x1)] [] [] (by kernel_rfl) trivial ?_
                refine XO.setb 57 true (B := x1) rfl b26 ?_
                refine XO.go [] 2 [1,57,59] [[pi p1.kind, pi p1.n, pi p1.scale, .s (.string p1.s), .ro (eValue.els p1.items)]] [(1, .one (.pv (.rp [[pi p1.kind, pi p1.n, pi p1.scale, .s (.string p1.s), .ro (eValue.els p1.items)]] 0 0))), (57, vb true), (59, vi p1.n)] [] [([[pi p1.kind, pi p1.n, pi p1.scale, .s (.string p1.s), .ro (eValue.els p1.items)]] : List (List PV))[0]? = some [pi p1.kind, pi p1.n, pi p1.scale, .s (.string p1.s), .ro (eValue.els p1.items)]] (by kernel_rfl) (⟨rfl, trivial⟩) ?_
                refine XO.cal 68 [vi p1.n, vi (-999999999999999999 : Int), vi (999999999999999999 : Int)] (vb r3) [(60, vb r3), (1, .one (.pv (.rp [[pi p1.kind, pi p1.n, pi p1.scale, .s (.string p1.s), .ro (eValue.els p1.items)]] 0 0))), (57, vb true), (59, vi p1.n)] (by kernel_rfl) (c_ref1_within _ _ _ _ c27) rfl rfl (by kernel_rfl) ?_
                refine XO.go [] 2 [1,62] [] [(1, .one (.pv (.rp [[pi p1.kind, pi p1.n, pi p1.scale, .s (.string p1.s), .ro (eValue.els p1.items)]] 0 0))), (62, vb r3)] [] [] (by kernel_rfl) trivial ?_
                refine XO.setb 62 false (B := r3) rfl b28 ?_
                refine XO.go [] 5 [2] [] [(2, vb false)] [] [] (by kernel_rfl) trivial ?_
                refine XO.done (by kernel_rfl) ?_
                exact hJ5 false h _ _ (Sub.pick [2] (by kernel_rfl))
            · have h := ift_f b26 h
              refine XW.reg (by kernel_rfl) ?_
              refine XO.go [] 2 [1,57] [] [(1, .one (.pv (.rp [[pi p1.kind, pi p1.n, pi p1.scale, .s (.string p1.s), .ro (eValue.els p1.items)]] 0 0))), (57, vb x1)] [] [] (by kernel_rfl) trivial ?_
              refine XO.setb 57 false (B := x1) rfl b26 ?_
              refine XO.go [] 10 [2] [] [(2, vb false)] [] [] (by kernel_rfl) trivial ?_
              refine XO.done (by kernel_rfl) ?_
              exact hJ5 false h _ _ (Sub.pick [2] (by kernel_rfl))
          · have h := ift_f b24 h
            refine XW.seq (x := cd Tryd.f79 [1,1,0,1,0,1,1,1,1,1,1,1,1,0]) (y := cd Tryd.f79 [1,1,0,1,0,1,1,1,1,1,1,1,1,1]) (by kernel_rfl) fun K30 hK30 => ?_
            refine XW.reg (by kernel_rfl) ?_
            refine XO.go [] 2 [1,3,14,67] [] [(1, .one (.pv (.rp [[pi p1.kind, pi p1.n, pi p1.scale, .s (.string p1.s), .ro (eValue.els p1.items)]] 0 0))), (3, vb x1), (14, vi p1.kind), (67, vb (p1.kind == (4 : Int)))] [] [] (by kernel_rfl) trivial ?_
            refine XO.done (by kernel_rfl) ?_
            refine hK30 _ _ ?_
            refine XW.cond (x := .tmp 67) (a := cd Tryd.f79 [1,1,0,1,0,1,1,1,1,1,1,1,1,1,0]) (b := cd Tryd.f79 [1,1,0,1,0,1,1,1,1,1,1,1,1,1,1]) (t := (p1.kind == (4 : Int))) (by kernel_rfl) (by kernel_rfl) (fun b31 => ?_) (fun b31 => ?_)
            · have h := ift_t b31 h
              refine XW.seq (x := cd Tryd.f79 [1,1,0,1,0,1,1,1,1,1,1,1,1,1,0,0]) (y := cd Tryd.f79 [1,1,0,1,0,1,1,1,1,1,1,1,1,1,0,1]) (by kernel_rfl) fun K32 hK32 => ?_
              have hJ6 : ∀ (x6 : Bool), ref1_alone_j6 x6 = some r → ∀ fr1 st1, Sub 143 0 [] fr1 st1 [(2, vb x6)] [] → K32 fr1 st1 := by
                intro x6 h fr1 st1 hS
                unfold ref1_alone_j6 at h
                refine hK32 _ _ (XW.sub hS ?_)
                refine XW.ret (by kernel_rfl) ?_
                obtain rfl := Option.some.inj h
                exact FinP.fin (.inr rfl) [] [vb x6] [] (by kernel_rfl) trivial (.one (.rfl _ rfl))
              rcases Bool.eq_false_or_eq_true ((p1.items.length : Int) == (0 : Int)) with b33 | b33
              · have h := ift_t b33 h
                rcases Bool.eq_false_or_eq_true (p1.n == (0 : Int)) with b34 | b34
                · have h := ift_t b34 h
                  rcases Bool.eq_false_or_eq_true (p1.scale == (0 : Int)) with b35 | b35
                  · have h := ift_t b35 h
                    obtain ⟨r5, c36, h⟩ := bnd_some h
                    refine XW.reg (by kernel_rfl) ?_
                    refine XO.go [] 3 [1,71] [[pi p1.kind, pi p1.n, pi p1.scale, .s (.string p1.s), .ro (eValue.els p1.items)]] [(1, .one (.pv (.rp [[pi p1.kind, pi p1.n, pi p1.scale, .s (.string p1.s), .ro (eValue.els p1.items)]] 0 0))), (71, vi ((eValue.els p1.items).length : Int))] [] [([[pi p1.kind, pi p1.n, pi p1.scale, .s (.string p1.s), .ro (eValue.els p1.items)]] : List (List PV))[0]? = some [pi p1.kind, pi p1.n, pi p1.scale, .s (.string p1.s), .ro (eValue.els p1.items)]] (by kernel_rfl) (⟨rfl, trivial⟩) ?_
                    rw [eValue.len p1.items]
                    refine XO.go [] 2 [1,73] [] [(1, .one (.pv (.rp [[pi p1.kind, pi p1.n, pi p1.scale, .s (.string p1.s), .ro (eValue.els p1.items)]] 0 0))), (73, vb ((p1.items.length : Int) == (0 : Int)))] [] [] (by kernel_rfl) trivial ?_
                    refine XO.setb 73 true (B := ((p1.items.length : Int) == (0 : Int))) rfl b33 ?_
                    refine XO.go [] 5 [1,78] [[pi p1.kind, pi p1.n, pi p1.scale, .s (.string p1.s), .ro (eValue.els p1.items)]] [(1, .one (.pv (.rp [[pi p1.kind, pi p1.n, pi p1.scale, .s (.string p1.s), .ro (eValue.els p1.items)]] 0 0))), (78, vb (p1.n == (0 : Int)))] [] [([[pi p1.kind, pi p1.n, pi p1.scale, .s (.string p1.s), .ro (eValue.els p1.items)]] : List (List PV))[0]? = some [pi p1.kind, pi p1.n, pi p1.scale, .s (.string p1.s), .ro (eValue.els p1.items)]] (by kernel_rfl) (⟨rfl, trivial⟩) ?_
                    refine XO.setb 78 true (B := (p1.n == (0 : Int))) rfl b34 ?_
                    refine XO.go [] 5 [1,83] [[pi p1.kind, pi p1.n, pi p1.scale, .s (.string p1.s), .ro (eValue.els p1.items)]] [(1, .one (.pv (.rp [[pi p1.kind, pi p1.n, pi p1.scale, .s (.string p1.s), .ro (eValue.els p1.items)]] 0 0))), (83, vb (p1.scale == (0 : Int)))] [] [([[pi p1.kind, pi p1.n, pi p1.scale, .s (.string p1.s), .ro (eValue.els p1.items)]] : List (List PV))[0]? = some [pi p1.kind, pi p1.n, pi p1.scale, .s (.string p1.s), .ro (eValue.els p1.items)]] (by kernel_rfl) (⟨rfl, trivial⟩) ?_
                    refine XO.setb 83 true (B := (p1.scale == (0 : Int))) rfl b35 ?_
                    refine XO.go [] 2 [83,85] [[pi p1.kind, pi p1.n, pi p1.scale, .s (.string p1.s), .ro (eValue.els p1.items)]] [(83, vb true), (85, vs p1.s)] [] [([[pi p1.kind, pi p1.n, pi p1.scale, .s (.string p1.s), .ro (eValue.els p1.items)]] : List (List PV))[0]? = some [pi p1.kind, pi p1.n, pi p1.scale, .s (.string p1.s), .ro (eValue.els p1.items)]] (by kernel_rfl) (⟨rfl, trivial⟩) ?_
                    refine XO.cal 115 [vs p1.s] (vb r5) [(86, vb r5), (83, vb true), (85, vs p1.s)] (by kernel_rfl) (c_ref1_characters _ _ c36) rfl rfl (by kernel_rfl) ?_
                    refine XO.go [] 2 [2] [] [(2, vb r5)] [] [] (by kernel_rfl) trivial ?_
                    refine XO.done (by kernel_rfl) ?_
                    exact hJ6 r5 h _ _ (Sub.pick [2] (by kernel_rfl))
                  · have h := ift_f b35 h
                    refine XW.reg (by kernel_rfl) ?_
                    refine XO.go [] 3 [1,71] [[pi p1.kind, pi p1.n, pi p1.scale, .s (.string p1.s), .ro (eValue.els p1.items)]] [(1, .one (.pv (.rp [[pi p1.kind, pi p1.n, pi p1.scale, .s (.string p1.s), .ro (eValue.els p1.items)]] 0 0))), (71, vi ((eValue.els p1.items).length : Int))] [] [([[pi p1.kind, pi p1.n, pi p1.scale, .s (.string p1.s), .ro (eValue.els p1.items)]] : List (List PV))[0]? = some [pi p1.kind, pi p1.n, pi p1.scale, .s (.string p1.s), .ro (eValue.els p1.items)]] (by kernel_rfl) (⟨rfl, trivial⟩) ?_
                    rw [eValue.len p1.items]
                    refine XO.go [] 2 [1,73] [] [(1, .one (.pv (.rp [[pi p1.kind, pi p1.n, pi p1.scale, .s (.string p1.s), .ro (eValue.els p1.items)]] 0 0))), (73, vb ((p1.items.length : Int) == (0 : Int)))] [] [] (by kernel_rfl) trivial ?_
                    refine XO.setb 73 true (B := ((p1.items.length : Int) == (0 : Int))) rfl b33 ?_
                    refine XO.go [] 5 [1,78] [[pi p1.kind, pi p1.n, pi p1.scale, .s (.string p1.s), .ro (eValue.els p1.items)]] [(1, .one (.pv (.rp [[pi p1.kind, pi p1.n, pi p1.scale, .s (.string p1.s), .ro (eValue.els p1.items)]] 0 0))), (78, vb (p1.n == (0 : Int)))] [] [([[pi p1.kind, pi p1.n, pi p1.scale, .s (.string p1.s), .ro (eValue.els p1.items)]] : List (List PV))[0]? = some [pi p1.kind, pi p1.n, pi p1.scale, .s (.string p1.s), .ro (eValue.els p1.items)]] (by kernel_rfl) (⟨rfl, trivial⟩) ?_
                    refine XO.setb 78 true (B := (p1.n == (0 : Int))) rfl b34 ?_
                    refine XO.go [] 5 [1,83] [[pi p1.kind, pi p1.n, pi p1.scale, .s (.string p1.s), .ro (eValue.els p1.items)]] [(1, .one (.pv (.rp [[pi p1.kind, pi p1.n, pi p1.scale, .s (.string p1.s), .ro (eValue.els p1.items)]] 0 0))), (83, vb (p1.scale == (0 : Int)))] [] [([[pi p1.kind, pi p1.n, pi p1.scale, .s (.string p1.s), .ro (eValue.els p1.items)]] : List (List PV))[0]? = some [pi p1.kind, pi p1.n, pi p1.scale, .s (.string p1.s), .ro (eValue.els p1.items)]] (by kernel_rfl) (⟨rfl, trivial⟩) ?_
                    refine XO.setb 83 false (B := (p1.scale == (0 : Int))) rfl b35 ?_
                    refine XO.go [] 5 [2] [] [(2, vb false)] [] [] (by kernel_rfl) trivial ?_
                    refine XO.done (by kernel_rfl) ?_
                    exact hJ6 false h _ _ (Sub.pick [2] (by kernel_rfl))
                · have h := ift_f b34 h
                  refine XW.reg (by kernel_rfl) ?_
                  refine XO.go [] 3 [1,71] [[pi p1.kind, pi p1.n, pi p1.scale, .s (.string p1.s), .ro (eValue.els p1.items)]] [(1, .one (.pv (.rp [[pi p1.kind, pi p1.n, pi p1.scale, .s (.string p1.s), .ro (eValue.els p1.items)]] 0 0))), (71, vi ((eValue.els p1.items).length : Int))] [] [([[pi p1.kind, pi p1.n, pi p1.scale, .s (.string p1.s), .ro (eValue.els p1.items)]] : List (List PV))[0]? = some [pi p1.kind, pi p1.n, pi p1.scale, .s (.string p1.s), .ro (eValue.els p1.items)]] (by kernel_rfl) (⟨rfl, trivial⟩) ?_
                  rw [eValue.len p1.items]
                  refine XO.go [] 2 [1,73] [] [(1, .one (.pv (.rp [[pi p1.kind, pi p1.n, pi p1.scale, .s (.string p1.s), .ro (eValue.els p1.items)]] 0 0))), (73, vb ((p1.items.length : Int) == (0 : Int)))] [] [] (by kernel_rfl) trivial ?_
                  refine XO.setb 73 true (B := ((p1.items.length : Int) == (0 : Int))) rfl b33 ?_
                  refine XO.go [] 5 [1,78] [[pi p1.kind, pi p1.n, pi p1.scale, .s (.string p1.s), .ro (eValue.els p1.items)]] [(1, .one (.pv (.rp [[pi p1.kind, pi p1.n, pi p1.scale, .s (.string p1.s), .ro (eValue.els p1.items)]] 0 0))), (78, vb (p1.n == (0 : Int)))] [] [([[pi p1.kind, pi p1.n, pi p1.scale, .s (.string p1.s), .ro (eValue.els p1.items)]] : List (List PV))[0]? = some [pi p1.kind, pi p1.n, pi p1.scale, .s (.string p1.s), .ro (eValue.els p1.items)]] (by kernel_rfl) (⟨rfl, trivial⟩) ?_
                  refine XO.setb 78 false (B := (p1.n == (0 : Int))) rfl b34 ?_
                  refine XO.go [] 10 [2] [] [(2, vb false)] [] [] (by kernel_rfl) trivial ?_
                  refine XO.done (by kernel_rfl) ?_
                  exact hJ6 false h _ _ (Sub.pick [2] (by kernel_rfl))
              · have h := ift_f b33 h
                refine XW.reg (by kernel_rfl) ?_
                refine XO.go [] 3 [1,71] [[pi p1.kind, pi p1.n, pi p1.scale, .s (.string p1.s), .ro (eValue.els p1.items)]] [(1, .one (.pv (.rp [[pi p1.kind, pi p1.n, pi p1.scale, .s (.string p1.s), .ro (eValue.els p1.items)]] 0 0))), (71, vi ((eValue.els p1.items).length : Int))] [] [([[pi p1.kind, pi p1.n, pi p1.scale, .s (.string p1.s), .ro (eValue.els p1.items)]] : List (List PV))[0]? = some [pi p1.kind, pi p1.n, pi p1.scale, .s (.string p1.s), .ro (eValue.els p1.items)]] (by kernel_rfl) (⟨rfl, trivial⟩) ?_
                rw [eValue.len p1.items]
                refine XO.go [] 2 [1,73] [] [(1, .one (.pv (.rp [[pi p1.kind, pi p1.n, pi p1.scale, .s (.string p1.s), .ro (eValue.els p1.items)]] 0 0))), (73, vb ((p1.items.length : Int) == (0 : Int)))] [] [] (by kernel_rfl) trivial ?_
                refine XO.setb 73 false (B := ((p1.items.length : Int) == (0 : Int))) rfl b33 ?_
                refine XO.go [] 15 [2] [] [(2, vb false)] [] [] (by kernel_rfl) trivial ?_
                refine XO.done (by kernel_rfl) ?_
                exact hJ6 false h _ _ (Sub.pick [2] (by kernel_rfl))
            · have h := ift_f b31 h
              refine XW.seq (x := cd Tryd.f79 [1,1,0,1,0,1,1,1,1,1,1,1,1,1,1,0]) (y := cd Tryd.f79 [1,1,0,1,0,1,1,1,1,1,1,1,1,1,1,1]) (by kernel_rfl) fun K37 hK37 => ?_
              refine XW.reg (by kernel_rfl) ?_
              refine XO.go [] 2 [1,3,14,88] [] [(1, .one (.pv (.rp [[pi p1.kind, pi p1.n, pi p1.scale, .s (.string p1.s), .ro (eValue.els p1.items)]] 0 0))), (3, vb x1), (14, vi p1.kind), (88, vb (p1.kind == (5 : Int)))] [] [] (by kernel_rfl) trivial ?_
              refine XO.done (by kernel_rfl) ?_
              refine hK37 _ _ ?_
              refine XW.cond (x := .tmp 88) (a := cd Tryd.f79 [1,1,0,1,0,1,1,1,1,1,1,1,1,1,1,1,0]) (b := cd Tryd.f79 [1,1,0,1,0,1,1,1,1,1,1,1,1,1,1,1,1]) (t := (p1.kind == (5 : Int))) (by kernel_rfl) (by kernel_rfl) (fun b38 => ?_) (fun b38 => ?_)
              · have h := ift_t b38 h
                refine XW.seq (x := cd Tryd.f79 [1,1,0,1,0,1,1,1,1,1,1,1,1,1,1,1,0,0]) (y := cd Tryd.f79 [1,1,0,1,0,1,1,1,1,1,1,1,1,1,1,1,0,1]) (by kernel_rfl) fun K39 hK39 => ?_
                have hJ7 : ∀ (x7 : Bool), ref1_alone_j7 x7 = some r → ∀ fr1 st1, Sub 143 0 [] fr1 st1 [(2, vb x7)] [] → K39 fr1 st1 := by
                  intro x7 h fr1 st1 hS
                  unfold ref1_alone_j7 at h
                  refine hK39 _ _ (XW.sub hS ?_)
                  refine XW.ret (by kernel_rfl) ?_
                  obtain rfl := Option.some.inj h
                  exact FinP.fin (.inr rfl) [] [vb x7] [] (by kernel_rfl) trivial (.one (.rfl _ rfl))
                rcases Bool.eq_false_or_eq_true x1 with b40 | b40
                · have h := ift_t b40 h
                  obtain ⟨r6, c41, h⟩ := bnd_some h
                  rcases Bool.eq_false_or_eq_true r6 with b42 | b42
                  · have h := ift_t b42 h
                    refine XW.reg (by kernel_rfl) ?_
                    refine XO.go [] 2 [1,91] [] [(1, .one (.pv (.rp [[pi p1.kind, pi p1.n, pi p1.scale, .s (.string p1.s), .ro (eValue.els p1.items)]] 0 0))), (91, vb x1)] [] [] (by kernel_rfl) trivial ?_
                    refine XO.setb 91 true (B := x1) rfl b40 ?_
                    refine XO.go [] 2 [1,91,93] [[pi p1.kind, pi p1.n, pi p1.scale, .s (.string p1.s), .ro (eValue.els p1.items)]] [(1, .one (.pv (.rp [[pi p1.kind, pi p1.n, pi p1.scale, .s (.string p1.s), .ro (eValue.els p1.items)]] 0 0))), (91, vb true), (93, vi p1.n)] [] [([[pi p1.kind, pi p1.n, pi p1.scale, .s (.string p1.s), .ro (eValue.els p1.items)]] : List (List PV))[0]? = some [pi p1.kind, pi p1.n, pi p1.scale, .s (.string p1.s), .ro (eValue.els p1.items)]] (by kernel_rfl) (⟨rfl, trivial⟩) ?_
                    refine XO.cal 68 [vi p1.n, vi (-62135596800 : Int), vi (253402300799 : Int)] (vb r6) [(94, vb r6), (1, .one (.pv (.rp [[pi p1.kind, pi p1.n, pi p1.scale, .s (.string p1.s), .ro (eValue.els p1.items)]] 0 0))), (91, vb true), (93, vi p1.n)] (by kernel_rfl) (c_ref1_within _ _ _ _ c41) rfl rfl (by kernel_rfl) ?_
                    refine XO.go [] 2 [1,96] [] [(1, .one (.pv (.rp [[pi p1.kind, pi p1.n, pi p1.scale, .s (.string p1.s), .ro (eValue.els p1.items)]] 0 0))), (96, vb r6)] [] [] (by kernel_rfl) trivial ?_
                    refine XO.setb 96 true (B := r6) rfl b42 ?_
                    refine XO.go [] 5 [2] [[pi p1.kind, pi p1.n, pi p1.scale, .s (.string p1.s), .ro (eValue.els p1.items)]] [(2, vb (p1.scale == (0 : Int)))] [] [([[pi p1.kind, pi p1.n, pi p1.scale, .s (.string p1.s), .ro (eValue.els p1.items)]] : List (List PV))[0]? = some [pi p1.kind, pi p1.n, pi p1.scale, .s (.string p1.s), .ro (eValue.els p1.items)]] (by kernel_rfl) (⟨rfl, trivial⟩) ?_
                    refine XO.done (by kernel_rfl) ?_
                    exact hJ7 (p1.scale == (0 : Int)) h _ _ (Sub.pick [2] (by kernel_rfl))
                  · have h := ift_f b42 h
                    refine XW.reg (by kernel_rfl) ?_
                    refine XO.go [] 2 [1,91] [] [(1, .one (.pv (.rp [[pi p1.kind, pi p1.n, pi p1.scale, .s (.string p1.s), .ro (eValue.els p1.items)]] 0 0))), (91, vb x1)] [] [] (by kernel_rfl) trivial ?_
                    refine XO.setb 91 true (B := x1) rfl b40 ?_
                    refine XO.go [] 2 [1,91,93] [[pi p1.kind, pi p1.n, pi p1.scale, .s (.string p1.s), .ro (eValue.els p1.items)]] [(1, .one (.pv (.rp [[pi p1.kind, pi p1.n, pi p1.scale, .s (.string p1.s), .ro (eValue.els p1.items)]] 0 0))), (91, vb true), (93, vi p1.n)] [] [([[pi p1.kind, pi p1.n, pi p1.scale, .s (.string p1.s), .ro (eValue.els p1.items)]] : List (List PV))[0]? = some [pi p1.kind, pi p1.n, pi p1.scale, .s (.string p1.s), .ro (eValue.els p1.items)]] (by kernel_rfl) (⟨rfl, trivial⟩) ?_
                    refine XO.cal 68 [vi p1.n, vi (-62135596800 : Int), vi (253402300799 : Int)] (vb r6) [(94, vb r6), (1, .one (.pv (.rp [[pi p1.kind, pi p1.n, pi p1.scale, .s (.string p1.s), .ro (eValue.els p1.items)]] 0 0))), (91, vb true), (93, vi p1.n)] (by kernel_rfl) (c_ref1_within _ _ _ _ c41) rfl rfl (by kernel_rfl) ?_
                    refine XO.go [] 2 [1,96] [] [(1, .one (.pv (.rp [[pi p1.kind, pi p1.n, pi p1.scale, .s (.string p1.s), .ro (eValue.els p1.items)]] 0 0))), (96, vb r6)] [] [] (by kernel_rfl) trivial ?_
                    refine XO.setb 96 false (B := r6) rfl b42 ?_
                    refine XO.go [] 5 [2] [] [(2, vb false)] [] [] (by kernel_rfl) trivial ?_
                    refine XO.done (by kernel_rfl) ?_
                    exact hJ7 false h _ _ (Sub.pick [2] (by kernel_rfl))
                · have h := ift_f b40 h
                  refine XW.reg (by kernel_rfl) ?_
                  refine XO.go [] 2 [1,91] [] [(1, .one (.pv (.rp [[pi p1.kind, pi p1.n, pi p1.scale, .s (.string p1.s), .ro (eValue.els p1.items)]] 0 0))), (91, vb x1)] [] [] (by kernel_rfl) trivial ?_
                  refine XO.setb 91 false (B := x1) rfl b40 ?_
                  refine XO.go [] 10 [2] [] [(2, vb false)] [] [] (by kernel_rfl) trivial ?_
                  refine XO.done (by kernel_rfl) ?_
                  exact hJ7 false h _ _ (Sub.pick [2] (by kernel_rfl))
              · have h := ift_f b38 h
                refine XW.seq (x := cd Tryd.f79 [1,1,0,1,0,1,1,1,1,1,1,1,1,1,1,1,1,0]) (y := cd Tryd.f79 [1,1,0,1,0,1,1,1,1,1,1,1,1,1,1,1,1,1]) (by kernel_rfl) fun K43 hK43 => ?_
                refine XW.reg (by kernel_rfl) ?_
                refine XO.go [] 2 [1,14,101] [] [(1, .one (.pv (.rp [[pi p1.kind, pi p1.n, pi p1.scale, .s (.string p1.s), .ro (eValue.els p1.items)]] 0 0))), (14, vi p1.kind), (101, vb (p1.kind == (6 : Int)))] [] [] (by kernel_rfl) trivial ?_
                refine XO.done (by kernel_rfl) ?_
                refine hK43 _ _ ?_
                refine XW.cond (x := .tmp 101) (a := cd Tryd.f79 [1,1,0,1,0,1,1,1,1,1,1,1,1,1,1,1,1,1,0]) (b := cd Tryd.f79 [1,1,0,1,0,1,1,1,1,1,1,1,1,1,1,1,1,1,1]) (t := (p1.kind == (6 : Int))) (by kernel_rfl) (by kernel_rfl) (fun b44 => ?_) (fun b44 => ?_)
                · have h := ift_t b44 h
                  refine XW.seq (x := cd Tryd.f79 [1,1,0,1,0,1,1,1,1,1,1,1,1,1,1,1,1,1,0,0]) (y := cd Tryd.f79 [1,1,0,1,0,1,1,1,1,1,1,1,1,1,1,1,1,1,0,1]) (by kernel_rfl) fun K45 hK45 => ?_
                  have hJ8 : ∀ (x8 : Bool), ref1_alone_j8 x8 = some r → ∀ fr1 st1, Sub 143 0 [] fr1 st1 [(2, vb x8)] [] → K45 fr1 st1 := by
                    intro x8 h fr1 st1 hS
                    unfold ref1_alone_j8 at h
                    refine hK45 _ _ (XW.sub hS ?_)
                    refine XW.ret (by kernel_rfl) ?_
                    obtain rfl := Option.some.inj h
                    exact FinP.fin (.inr rfl) [] [vb x8] [] (by kernel_rfl) trivial (.one (.rfl _ rfl))
                  rcases Bool.eq_false_or_eq_true (p1.s.toList == (ByteArray.mk #[]).toList) with b46 | b46
                  · have h := ift_t b46 h
                    rcases Bool.eq_false_or_eq_true (p1.n == (0 : Int)) with b47 | b47
                    · have h := ift_t b47 h
                      rcases Bool.eq_false_or_eq_true (p1.scale == (0 : Int)) with b48 | b48
                      · have h := ift_t b48 h
                        refine XW.reg (by kernel_rfl) ?_
                        refine XO.go [] 4 [1,106] [[pi p1.kind, pi p1.n, pi p1.scale, .s (.string p1.s), .ro (eValue.els p1.items)]] [(1, .one (.pv (.rp [[pi p1.kind, pi p1.n, pi p1.scale, .s (.string p1.s), .ro (eValue.els p1.items)]] 0 0))), (106, vb (p1.s.toList == (ByteArray.mk #[]).toList))] [] [([[pi p1.kind, pi p1.n, pi p1.scale, .s (.string p1.s), .ro (eValue.els p1.items)]] : List (List PV))[0]? = some [pi p1.kind, pi p1.n, pi p1.scale, .s (.string p1.s), .ro (eValue.els p1.items)]] (by kernel_rfl) (⟨rfl, trivial⟩) ?_
                        refine XO.setb 106 true (B := (p1.s.toList == (ByteArray.mk #[]).toList)) rfl b46 ?_
                        refine XO.go [] 5 [1,111] [[pi p1.kind, pi p1.n, pi p1.scale, .s (.string p1.s), .ro (eValue.els p1.items)]] [(1, .one (.pv (.rp [[pi p1.kind, pi p1.n, pi p1.scale, .s (.string p1.s), .ro (eValue.els p1.items)]] 0 0))), (111, vb (p1.n == (0 : Int)))] [] [([[pi p1.kind, pi p1.n, pi p1.scale, .s (.string p1.s), .ro (eValue.els p1.items)]] : List (List PV))[0]? = some [pi p1.kind, pi p1.n, pi p1.scale, .s (.string p1.s), .ro (eValue.els p1.items)]] (by kernel_rfl) (⟨rfl, trivial⟩) ?_
                        refine XO.setb 111 true (B := (p1.n == (0 : Int))) rfl b47 ?_
                        refine XO.go [] 5 [1,116] [[pi p1.kind, pi p1.n, pi p1.scale, .s (.string p1.s), .ro (eValue.els p1.items)]] [(1, .one (.pv (.rp [[pi p1.kind, pi p1.n, pi p1.scale, .s (.string p1.s), .ro (eValue.els p1.items)]] 0 0))), (116, vb (p1.scale == (0 : Int)))] [] [([[pi p1.kind, pi p1.n, pi p1.scale, .s (.string p1.s), .ro (eValue.els p1.items)]] : List (List PV))[0]? = some [pi p1.kind, pi p1.n, pi p1.scale, .s (.string p1.s), .ro (eValue.els p1.items)]] (by kernel_rfl) (⟨rfl, trivial⟩) ?_
                        refine XO.setb 116 true (B := (p1.scale == (0 : Int))) rfl b48 ?_
                        refine XO.go [] 3 [116,119] [[pi p1.kind, pi p1.n, pi p1.scale, .s (.string p1.s), .ro (eValue.els p1.items)]] [(116, vb true), (119, vi ((eValue.els p1.items).length : Int))] [] [([[pi p1.kind, pi p1.n, pi p1.scale, .s (.string p1.s), .ro (eValue.els p1.items)]] : List (List PV))[0]? = some [pi p1.kind, pi p1.n, pi p1.scale, .s (.string p1.s), .ro (eValue.els p1.items)]] (by kernel_rfl) (⟨rfl, trivial⟩) ?_
                        rw [eValue.len p1.items]
                        refine XO.go [] 3 [2] [] [(2, vb (decide ((p1.items.length : Int) ≤ (64 : Int))))] [] [] (by kernel_rfl) trivial ?_
                        refine XO.done (by kernel_rfl) ?_
                        exact hJ8 (decide ((p1.items.length : Int) ≤ (64 : Int))) h _ _ (Sub.pick [2] (by kernel_rfl))
                      · have h := ift_f b48 h
                        refine XW.reg (by kernel_rfl) ?_
                        refine XO.go [] 4 [1,106] [[pi p1.kind, pi p1.n, pi p1.scale, .s (.string p1.s), .ro (eValue.els p1.items)]] [(1, .one (.pv (.rp [[pi p1.kind, pi p1.n, pi p1.scale, .s (.string p1.s), .ro (eValue.els p1.items)]] 0 0))), (106, vb (p1.s.toList == (ByteArray.mk #[]).toList))] [] [([[pi p1.kind, pi p1.n, pi p1.scale, .s (.string p1.s), .ro (eValue.els p1.items)]] : List (List PV))[0]? = some [pi p1.kind, pi p1.n, pi p1.scale, .s (.string p1.s), .ro (eValue.els p1.items)]] (by kernel_rfl) (⟨rfl, trivial⟩) ?_
                        refine XO.setb 106 true (B := (p1.s.toList == (ByteArray.mk #[]).toList)) rfl b46 ?_
                        refine XO.go [] 5 [1,111] [[pi p1.kind, pi p1.n, pi p1.scale, .s (.string p1.s), .ro (eValue.els p1.items)]] [(1, .one (.pv (.rp [[pi p1.kind, pi p1.n, pi p1.scale, .s (.string p1.s), .ro (eValue.els p1.items)]] 0 0))), (111, vb (p1.n == (0 : Int)))] [] [([[pi p1.kind, pi p1.n, pi p1.scale, .s (.string p1.s), .ro (eValue.els p1.items)]] : List (List PV))[0]? = some [pi p1.kind, pi p1.n, pi p1.scale, .s (.string p1.s), .ro (eValue.els p1.items)]] (by kernel_rfl) (⟨rfl, trivial⟩) ?_
                        refine XO.setb 111 true (B := (p1.n == (0 : Int))) rfl b47 ?_
                        refine XO.go [] 5 [1,116] [[pi p1.kind, pi p1.n, pi p1.scale, .s (.string p1.s), .ro (eValue.els p1.items)]] [(1, .one (.pv (.rp [[pi p1.kind, pi p1.n, pi p1.scale, .s (.string p1.s), .ro (eValue.els p1.items)]] 0 0))), (116, vb (p1.scale == (0 : Int)))] [] [([[pi p1.kind, pi p1.n, pi p1.scale, .s (.string p1.s), .ro (eValue.els p1.items)]] : List (List PV))[0]? = some [pi p1.kind, pi p1.n, pi p1.scale, .s (.string p1.s), .ro (eValue.els p1.items)]] (by kernel_rfl) (⟨rfl, trivial⟩) ?_
                        refine XO.setb 116 false (B := (p1.scale == (0 : Int))) rfl b48 ?_
                        refine XO.go [] 6 [2] [] [(2, vb false)] [] [] (by kernel_rfl) trivial ?_
                        refine XO.done (by kernel_rfl) ?_
                        exact hJ8 false h _ _ (Sub.pick [2] (by kernel_rfl))
                    · have h := ift_f b47 h
                      refine XW.reg (by kernel_rfl) ?_
                      refine XO.go [] 4 [1,106] [[pi p1.kind, pi p1.n, pi p1.scale, .s (.string p1.s), .ro (eValue.els p1.items)]] [(1, .one (.pv (.rp [[pi p1.kind, pi p1.n, pi p1.scale, .s (.string p1.s), .ro (eValue.els p1.items)]] 0 0))), (106, vb (p1.s.toList == (ByteArray.mk #[]).toList))] [] [([[pi p1.kind, pi p1.n, pi p1.scale, .s (.string p1.s), .ro (eValue.els p1.items)]] : List (List PV))[0]? = some [pi p1.kind, pi p1.n, pi p1.scale, .s (.string p1.s), .ro (eValue.els p1.items)]] (by kernel_rfl) (⟨rfl, trivial⟩) ?_
                      refine XO.setb 106 true (B := (p1.s.toList == (ByteArray.mk #[]).toList)) rfl b46 ?_
                      refine XO.go [] 5 [1,111] [[pi p1.kind, pi p1.n, pi p1.scale, .s (.string p1.s), .ro (eValue.els p1.items)]] [(1, .one (.pv (.rp [[pi p1.kind, pi p1.n, pi p1.scale, .s (.string p1.s), .ro (eValue.els p1.items)]] 0 0))), (111, vb (p1.n == (0 : Int)))] [] [([[pi p1.kind, pi p1.n, pi p1.scale, .s (.string p1.s), .ro (eValue.els p1.items)]] : List (List PV))[0]? = some [pi p1.kind, pi p1.n, pi p1.scale, .s (.string p1.s), .ro (eValue.els p1.items)]] (by kernel_rfl) (⟨rfl, trivial⟩) ?_
                      refine XO.setb 111 false (B := (p1.n == (0 : Int))) rfl b47 ?_
                      refine XO.go [] 11 [2] [] [(2, vb false)] [] [] (by kernel_rfl) trivial ?_
                      refine XO.done (by kernel_rfl) ?_
                      exact hJ8 false h _ _ (Sub.pick [2] (by kernel_rfl))
                  · have h := ift_f b46 h
                    refine XW.reg (by kernel_rfl) ?_
                    refine XO.go [] 4 [1,106] [[pi p1.kind, pi p1.n, pi p1.scale, .s (.string p1.s), .ro (eValue.els p1.items)]] [(1, .one (.pv (.rp [[pi p1.kind, pi p1.n, pi p1.scale, .s (.string p1.s), .ro (eValue.els p1.items)]] 0 0))), (106, vb (p1.s.toList == (ByteArray.mk #[]).toList))] [] [([[pi p1.kind, pi p1.n, pi p1.scale, .s (.string p1.s), .ro (eValue.els p1.items)]] : List (List PV))[0]? = some [pi p1.kind, pi p1.n, pi p1.scale, .s (.string p1.s), .ro (eValue.els p1.items)]] (by kernel_rfl) (⟨rfl, trivial⟩) ?_
                    refine XO.setb 106 false (B := (p1.s.toList == (ByteArray.mk #[]).toList)) rfl b46 ?_
                    refine XO.go [] 16 [2] [] [(2, vb false)] [] [] (by kernel_rfl) trivial ?_
                    refine XO.done (by kernel_rfl) ?_
                    exact hJ8 false h _ _ (Sub.pick [2] (by kernel_rfl))
                · have h := ift_f b44 h
                  refine XW.seq (x := cd Tryd.f79 [1,1,0,1,0,1,1,1,1,1,1,1,1,1,1,1,1,1,1,0]) (y := cd Tryd.f79 [1,1,0,1,0,1,1,1,1,1,1,1,1,1,1,1,1,1,1,1]) (by kernel_rfl) fun K49 hK49 => ?_
                  refine XW.reg (by kernel_rfl) ?_
                  refine XO.go [] 2 [1,122] [] [(1, .one (.pv (.rp [[pi p1.kind, pi p1.n, pi p1.scale, .s (.string p1.s), .ro (eValue.els p1.items)]] 0 0))), (122, vb (p1.kind == (7 : Int)))] [] [] (by kernel_rfl) trivial ?_
                  refine XO.done (by kernel_rfl) ?_
                  refine hK49 _ _ ?_
                  refine XW.cond (x := .tmp 122) (a := cd Tryd.f79 [1,1,0,1,0,1,1,1,1,1,1,1,1,1,1,1,1,1,1,1,0]) (b := cd Tryd.f79 [1,1,0,1,0,1,1,1,1,1,1,1,1,1,1,1,1,1,1,1,1]) (t := (p1.kind == (7 : Int))) (by kernel_rfl) (by kernel_rfl) (fun b50 => ?_) (fun b50 => ?_)
                  · have h := ift_t b50 h
                    refine XW.seq (x := cd Tryd.f79 [1,1,0,1,0,1,1,1,1,1,1,1,1,1,1,1,1,1,1,1,0,0]) (y := cd Tryd.f79 [1,1,0,1,0,1,1,1,1,1,1,1,1,1,1,1,1,1,1,1,0,1]) (by kernel_rfl) fun K51 hK51 => ?_
                    have hJ9 : ∀ (x9 : Bool), ref1_alone_j9 x9 = some r → ∀ fr1 st1, Sub 143 0 [] fr1 st1 [(2, vb x9)] [] → K51 fr1 st1 := by
                      intro x9 h fr1 st1 hS
                      unfold ref1_alone_j9 at h
                      refine hK51 _ _ (XW.sub hS ?_)
                      refine XW.ret (by kernel_rfl) ?_
                      obtain rfl := Option.some.inj h
                      exact FinP.fin (.inr rfl) [] [vb x9] [] (by kernel_rfl) trivial (.one (.rfl _ rfl))
                    rcases Bool.eq_false_or_eq_true (p1.s.toList == (ByteArray.mk #[]).toList) with b52 | b52
                    · have h := ift_t b52 h
                      rcases Bool.eq_false_or_eq_true (p1.n == (0 : Int)) with b53 | b53
                      · have h := ift_t b53 h
                        rcases Bool.eq_false_or_eq_true (p1.scale == (0 : Int)) with b54 | b54
                        · have h := ift_t b54 h
                          refine XW.reg (by kernel_rfl) ?_
                          refine XO.go [] 4 [1,127] [[pi p1.kind, pi p1.n, pi p1.scale, .s (.string p1.s), .ro (eValue.els p1.items)]] [(1, .one (.pv (.rp [[pi p1.kind, pi p1.n, pi p1.scale, .s (.string p1.s), .ro (eValue.els p1.items)]] 0 0))), (127, vb (p1.s.toList == (ByteArray.mk #[]).toList))] [] [([[pi p1.kind, pi p1.n, pi p1.scale, .s (.string p1.s), .ro (eValue.els p1.items)]] : List (List PV))[0]? = some [pi p1.kind, pi p1.n, pi p1.scale, .s (.string p1.s), .ro (eValue.els p1.items)]] (by kernel_rfl) (⟨rfl, trivial⟩) ?_
                          refine XO.setb 127 true (B := (p1.s.toList == (ByteArray.mk #[]).toList)) rfl b52 ?_
                          refine XO.go [] 5 [1,132] [[pi p1.kind, pi p1.n, pi p1.scale, .s (.string p1.s), .ro (eValue.els p1.items)]] [(1, .one (.pv (.rp [[pi p1.kind, pi p1.n, pi p1.scale, .s (.string p1.s), .ro (eValue.els p1.items)]] 0 0))), (132, vb (p1.n == (0 : Int)))] [] [([[pi p1.kind, pi p1.n, pi p1.scale, .s (.string p1.s), .ro (eValue.els p1.items)]] : List (List PV))[0]? = some [pi p1.kind, pi p1.n, pi p1.scale, .s (.string p1.s), .ro (eValue.els p1.items)]] (by kernel_rfl) (⟨rfl, trivial⟩) ?_
                          refine XO.setb 132 true (B := (p1.n == (0 : Int))) rfl b53 ?_
                          refine XO.go [] 5 [1,137] [[pi p1.kind, pi p1.n, pi p1.scale, .s (.string p1.s), .ro (eValue.els p1.items)]] [(1, .one (.pv (.rp [[pi p1.kind, pi p1.n, pi p1.scale, .s (.string p1.s), .ro (eValue.els p1.items)]] 0 0))), (137, vb (p1.scale == (0 : Int)))] [] [([[pi p1.kind, pi p1.n, pi p1.scale, .s (.string p1.s), .ro (eValue.els p1.items)]] : List (List PV))[0]? = some [pi p1.kind, pi p1.n, pi p1.scale, .s (.string p1.s), .ro (eValue.els p1.items)]] (by kernel_rfl) (⟨rfl, trivial⟩) ?_
                          refine XO.setb 137 true (B := (p1.scale == (0 : Int))) rfl b54 ?_
                          refine XO.go [] 3 [137,140] [[pi p1.kind, pi p1.n, pi p1.scale, .s (.string p1.s), .ro (eValue.els p1.items)]] [(137, vb true), (140, vi ((eValue.els p1.items).length : Int))] [] [([[pi p1.kind, pi p1.n, pi p1.scale, .s (.string p1.s), .ro (eValue.els p1.items)]] : List (List PV))[0]? = some [pi p1.kind, pi p1.n, pi p1.scale, .s (.string p1.s), .ro (eValue.els p1.items)]] (by kernel_rfl) (⟨rfl, trivial⟩) ?_
                          rw [eValue.len p1.items]
                          refine XO.go [] 3 [2] [] [(2, vb (decide ((0 : Int) < (p1.items.length : Int))))] [] [] (by kernel_rfl) trivial ?_
                          refine XO.done (by kernel_rfl) ?_
                          exact hJ9 (decide ((0 : Int) < (p1.items.length : Int))) h _ _ (Sub.pick [2] (by kernel_rfl))
                        · have h := ift_f b54 h
                          refine XW.reg (by kernel_rfl) ?_
                          refine XO.go [] 4 [1,127] [[pi p1.kind, pi p1.n, pi p1.scale, .s (.string p1.s), .ro (eValue.els p1.items)]] [(1, .one (.pv (.rp [[pi p1.kind, pi p1.n, pi p1.scale, .s (.string p1.s), .ro (eValue.els p1.items)]] 0 0))), (127, vb (p1.s.toList == (ByteArray.mk #[]).toList))] [] [([[pi p1.kind, pi p1.n, pi p1.scale, .s (.string p1.s), .ro (eValue.els p1.items)]] : List (List PV))[0]? = some [pi p1.kind, pi p1.n, pi p1.scale, .s (.string p1.s), .ro (eValue.els p1.items)]] (by kernel_rfl) (⟨rfl, trivial⟩) ?_
                          refine XO.setb 127 true (B := (p1.s.toList == (ByteArray.mk #[]).toList)) rfl b52 ?_
                          refine XO.go [] 5 [1,132] [[pi p1.kind, pi p1.n, pi p1.scale, .s (.string p1.s), .ro (eValue.els p1.items)]] [(1, .one (.pv (.rp [[pi p1.kind, pi p1.n, pi p1.scale, .s (.string p1.s), .ro (eValue.els p1.items)]] 0 0))), (132, vb (p1.n == (0 : Int)))] [] [([[pi p1.kind, pi p1.n, pi p1.scale, .s (.string p1.s), .ro (eValue.els p1.items)]] : List (List PV))[0]? = some [pi p1.kind, pi p1.n, pi p1.scale, .s (.string p1.s), .ro (eValue.els p1.items)]] (by kernel_rfl) (⟨rfl, trivial⟩) ?_
                          refine XO.setb 132 true (B := (p1.n == (0 : Int))) rfl b53 ?_
                          refine XO.go [] 5 [1,137] [[pi p1.kind, pi p1.n, pi p1.scale, .s (.string p1.s), .ro (eValue.els p1.items)]] [(1, .one (.pv (.rp [[pi p1.kind, pi p1.n, pi p1.scale, .s (.string p1.s), .ro (eValue.els p1.items)]] 0 0))), (137, vb (p1.scale == (0 : Int)))] [] [([[pi p1.kind, pi p1.n, pi p1.scale, .s (.string p1.s), .ro (eValue.els p1.items)]] : List (List PV))[0]? = some [pi p1.kind, pi p1.n, pi p1.scale, .s (.string p1.s), .ro (eValue.els p1.items)]] (by kernel_rfl) (⟨rfl, trivial⟩) ?_
                          refine XO.setb 137 false (B := (p1.scale == (0 : Int))) rfl b54 ?_
                          refine XO.go [] 6 [2] [] [(2, vb false)] [] [] (by kernel_rfl) trivial ?_
                          refine XO.done (by kernel_rfl) ?_
                          exact hJ9 false h _ _ (Sub.pick [2] (by kernel_rfl))
                      · have h := ift_f b53 h
                        refine XW.reg (by kernel_rfl) ?_
                        refine XO.go [] 4 [1,127] [[pi p1.kind, pi p1.n, pi p1.scale, .s (.string p1.s), .ro (eValue.els p1.items)]] [(1, .one (.pv (.rp [[pi p1.kind, pi p1.n, pi p1.scale, .s (.string p1.s), .ro (eValue.els p1.items)]] 0 0))), (127, vb (p1.s.toList == (ByteArray.mk #[]).toList))] [] [([[pi p1.kind, pi p1.n, pi p1.scale, .s (.string p1.s), .ro (eValue.els p1.items)]] : List (List PV))[0]? = some [pi p1.kind, pi p1.n, pi p1.scale, .s (.string p1.s), .ro (eValue.els p1.items)]] (by kernel_rfl) (⟨rfl, trivial⟩) ?_
                        refine XO.setb 127 true (B := (p1.s.toList == (ByteArray.mk #[]).toList)) rfl b52 ?_
                        refine XO.go [] 5 [1,132] [[pi p1.kind, pi p1.n, pi p1.scale, .s (.string p1.s), .ro (eValue.els p1.items)]] [(1, .one (.pv (.rp [[pi p1.kind, pi p1.n, pi p1.scale, .s (.string p1.s), .ro (eValue.els p1.items)]] 0 0))), (132, vb (p1.n == (0 : Int)))] [] [([[pi p1.kind, pi p1.n, pi p1.scale, .s (.string p1.s), .ro (eValue.els p1.items)]] : List (List PV))[0]? = some [pi p1.kind, pi p1.n, pi p1.scale, .s (.string p1.s), .ro (eValue.els p1.items)]] (by kernel_rfl) (⟨rfl, trivial⟩) ?_
                        refine XO.setb 132 false (B := (p1.n == (0 : Int))) rfl b53 ?_
                        refine XO.go [] 11 [2] [] [(2, vb false)] [] [] (by kernel_rfl) trivial ?_
                        refine XO.done (by kernel_rfl) ?_
                        exact hJ9 false h _ _ (Sub.pick [2] (by kernel_rfl))
                    · have h := ift_f b52 h
                      refine XW.reg (by kernel_rfl) ?_
                      refine XO.go [] 4 [1,127] [[pi p1.kind, pi p1.n, pi p1.scale, .s (.string p1.s), .ro (eValue.els p1.items)]] [(1, .one (.pv (.rp [[pi p1.kind, pi p1.n, pi p1.scale, .s (.string p1.s), .ro (eValue.els p1.items)]] 0 0))), (127, vb (p1.s.toList == (ByteArray.mk #[]).toList))] [] [([[pi p1.kind, pi p1.n, pi p1.scale, .s (.string p1.s), .ro (eValue.els p1.items)]] : List (List PV))[0]? = some [pi p1.kind, pi p1.n, pi p1.scale, .s (.string p1.s), .ro (eValue.els p1.items)]] (by kernel_rfl) (⟨rfl, trivial⟩) ?_
                      refine XO.setb 127 false (B := (p1.s.toList == (ByteArray.mk #[]).toList)) rfl b52 ?_
                      refine XO.go [] 16 [2] [] [(2, vb false)] [] [] (by kernel_rfl) trivial ?_
                      refine XO.done (by kernel_rfl) ?_
                      exact hJ9 false h _ _ (Sub.pick [2] (by kernel_rfl))
                  · have h := ift_f b50 h
                    refine XW.skip (by kernel_rfl) ?_
                    refine hK4 _ _ ?_
                    refine XW.seq (x := cd Tryd.f79 [1,1,1,0]) (y := cd Tryd.f79 [1,1,1,1]) (by kernel_rfl) fun K55 hK55 => ?_
                    refine XW.reg (by kernel_rfl) ?_
                    refine XO.go [] 1 [2] [] [(2, vb false)] [] [] (by kernel_rfl) trivial ?_
                    refine XO.done (by kernel_rfl) ?_
                    refine hK55 _ _ ?_
                    refine XW.ret (by kernel_rfl) ?_
                    obtain rfl := Option.some.inj h
                    exact FinP.fin (.inr rfl) [] [vb false] [] (by kernel_rfl) trivial (.one (.rfl _ rfl))
  rcases Bool.eq_false_or_eq_true (p1.s.toList == (ByteArray.mk #[]).toList) with b3 | b3
  · have h := ift_t b3 h
    refine XW.reg (by kernel_rfl) ?_
    refine XO.go [] 4 [1,7] [[pi p1.kind, pi p1.n, pi p1.scale, .s (.string p1.s), .ro (eValue.els p1.items)]] [(1, .one (.pv (.rp [[pi p1.kind, pi p1.n, pi p1.scale, .s (.string p1.s), .ro (eValue.els p1.items)]] 0 0))), (7, vb (p1.s.toList == (ByteArray.mk #[]).toList))] [] [([[pi p1.kind, pi p1.n, pi p1.scale, .s (.string p1.s), .ro (eValue.els p1.items)]] : List (List PV))[0]? = some [pi p1.kind, pi p1.n, pi p1.scale, .s (.string p1.s), .ro (eValue.els p1.items)]] (by kernel_rfl) (⟨rfl, trivial⟩) ?_
    refine XO.setb 7 true (B := (p1.s.toList == (ByteArray.mk #[]).toList)) rfl b3 ?_
    refine XO.go [] 3 [1,7,10] [[pi p1.kind, pi p1.n, pi p1.scale, .s (.string p1.s), .ro (eValue.els p1.items)]] [(1, .one (.pv (.rp [[pi p1.kind, pi p1.n, pi p1.scale, .s (.string p1.s), .ro (eValue.els p1.items)]] 0 0))), (7, vb true), (10, vi ((eValue.els p1.items).length : Int))] [] [([[pi p1.kind, pi p1.n, pi p1.scale, .s (.string p1.s), .ro (eValue.els p1.items)]] : List (List PV))[0]? = some [pi p1.kind, pi p1.n, pi p1.scale, .s (.string p1.s), .ro (eValue.els p1.items)]] (by kernel_rfl) (⟨rfl, trivial⟩) ?_
    rw [eValue.len p1.items]
    refine XO.go [] 3 [1,3] [] [(1, .one (.pv (.rp [[pi p1.kind, pi p1.n, pi p1.scale, .s (.string p1.s), .ro (eValue.els p1.items)]] 0 0))), (3, vb ((p1.items.length : Int) == (0 : Int)))] [] [] (by kernel_rfl) trivial ?_
    refine XO.done (by kernel_rfl) ?_
    exact hJ1 ((p1.items.length : Int) == (0 : Int)) h _ _ (Sub.pick [1,3] (by kernel_rfl))
  · have h := ift_f b3 h
    refine XW.reg (by kernel_rfl) ?_
    refine XO.go [] 4 [1,7] [[pi p1.kind, pi p1.n, pi p1.scale, .s (.string p1.s), .ro (eValue.els p1.items)]] [(1, .one (.pv (.rp [[pi p1.kind, pi p1.n, pi p1.scale, .s (.string p1.s), .ro (eValue.els p1.items)]] 0 0))), (7, vb (p1.s.toList == (ByteArray.mk #[]).toList))] [] [([[pi p1.kind, pi p1.n, pi p1.scale, .s (.string p1.s), .ro (eValue.els p1.items)]] : List (List PV))[0]? = some [pi p1.kind, pi p1.n, pi p1.scale, .s (.string p1.s), .ro (eValue.els p1.items)]] (by kernel_rfl) (⟨rfl, trivial⟩) ?_
    refine XO.setb 7 false (B := (p1.s.toList == (ByteArray.mk #[]).toList)) rfl b3 ?_
    refine XO.go [] 6 [1,3] [] [(1, .one (.pv (.rp [[pi p1.kind, pi p1.n, pi p1.scale, .s (.string p1.s), .ro (eValue.els p1.items)]] 0 0))), (3, vb false)] [] [] (by kernel_rfl) trivial ?_
    refine XO.done (by kernel_rfl) ?_
    exact hJ1 false h _ _ (Sub.pick [1,3] (by kernel_rfl))

def ref1_sound_j3 (z3 : Int) : Option (Bool × Int) :=
    some (true, z3)

def ref1_sound_l1 (q_ref1_sound : GValue → Int → Int → Option (Bool × Int)) (p1 : GValue) (p2 : Int) : Nat → Int → Int → Option (Bool × Int)
  | 0, _, _ => none
  | k1 + 1, z2, x2 =>
    ift (decide (x2 < (p1.items.length : Int)))
      (bnd (at? p1.items x2) fun e1 =>
       bnd (q_ref1_sound e1 (IntKind.i64.wrap (p2 + (1 : Int))) z2) fun r2 =>
       ift (!r2.1)
         (some (false, r2.2))
         ((ref1_sound_l1 q_ref1_sound p1 p2 k1) r2.2 (IntKind.i64.wrap (x2 + (1 : Int)))))
      (ref1_sound_j3 z2)

def ref1_sound_j2 (q_ref1_sound : GValue → Int → Int → Option (Bool × Int)) (p1 : GValue) (p2 : Int) (z1 : Int) (x1 : Bool) : Option (Bool × Int) :=
    ift x1
      (some (false, z1))
      (ref1_sound_l1 q_ref1_sound p1 p2 BIG z1 (0 : Int))

def ref1_sound_j1 (q_ref1_sound : GValue → Int → Int → Option (Bool × Int)) (p1 : GValue) (p2 : Int) (z1 : Int) : Option (Bool × Int) :=
    ift (decide ((4 : Int) < p2))
      (ref1_sound_j2 q_ref1_sound p1 p2 z1 true)
      (ift (decide ((256 : Int) < z1))
         (ref1_sound_j2 q_ref1_sound p1 p2 z1 true)
         (bnd (ref1_alone p1) fun r1 =>
          ref1_sound_j2 q_ref1_sound p1 p2 z1 (!r1)))

def ref1_sound : Nat → GValue → Int → Int → Option (Bool × Int)
  | 0, _, _, _ => none
  | k0 + 1, p1, p2, p3 =>
    ift (p1.kind != (0 : Int))
      (ref1_sound_j1 (ref1_sound k0) p1 p2 (IntKind.i64.wrap (p3 + (1 : Int))))
      (ref1_sound_j1 (ref1_sound k0) p1 p2 p3)


theorem c_ref1_sound : ∀ (k0 : Nat) (p1 : GValue) (p2 : Int) (p3 : Int) (r : (Bool × Int)), ref1_sound k0 p1 p2 p3 = some r → MC Tryd.prog 32 [.ag [ci p1.kind, ci p1.n, ci p1.scale, cst p1.s, cl eValue p1.items], vi p2, .one (.pt 0 0 0 0)] [.box [ci p3]] (vb r.1) [.box [ci r.2]]
  | 0, _, _, _, r, h => by rw [ref1_sound.eq_1] at h; cases h
  | k0 + 1, p1, p2, p3, r, h => by
    rw [ref1_sound.eq_2] at h
    refine MC.of 1 (n := 46) (fn := Tryd.f32) (c := cd Tryd.f32 []) (by kernel_rfl) (by kernel_rfl) (by kernel_rfl) (Nat.le_of_ble_eq_true rfl) rfl ?_
    refine XW.seq (x := cd Tryd.f32 [0]) (y := cd Tryd.f32 [1]) (by kernel_rfl) fun K1 hK1 => ?_
    refine XW.reg (by kernel_rfl) ?_
    refine XO.go [] 2 [1,2,3] [] [(1, vi p2), (2, .one (.pt 0 0 0 0)), (3, .one (.pv (.rp [[pi p1.kind, pi p1.n, pi p1.scale, .s (.string p1.s), .ro (eValue.els p1.items)]] 0 0)))] [.box [ci p3]] [] (by kernel_rfl) trivial ?_
    refine XO.done (by kernel_rfl) ?_
    refine hK1 _ _ ?_
    refine XW.seq (x := cd Tryd.f32 [1,0]) (y := cd Tryd.f32 [1,1]) (by kernel_rfl) fun K2 hK2 => ?_
    have hJ1 : ∀ (z1 : Int), ref1_sound_j1 (ref1_sound k0) p1 p2 z1 = some r → ∀ fr1 st1, Sub 46 1 [] fr1 st1 [(1, vi p2), (2, .one (.pt 0 0 0 0)), (3, .one (.pv (.rp [[pi p1.kind, pi p1.n, pi p1.scale, .s (.string p1.s), .ro (eValue.els p1.items)]] 0 0)))] [.box [ci z1]] → K2 fr1 st1 := by
      intro z1 h fr1 st1 hS
      unfold ref1_sound_j1 at h
      refine hK2 _ _ (XW.sub hS ?_)
      refine XW.seq (x := cd Tryd.f32 [1,1,0]) (y := cd Tryd.f32 [1,1,1]) (by kernel_rfl) fun K5 hK5 => ?_
      refine XW.seq (x := cd Tryd.f32 [1,1,0,0]) (y := cd Tryd.f32 [1,1,0,1]) (by kernel_rfl) fun K6 hK6 => ?_
      have hJ2 : ∀ (x1 : Bool), ref1_sound_j2 (ref1_sound k0) p1 p2 z1 x1 = some r → ∀ fr1 st1, Sub 46 1 [] fr1 st1 [(1, vi p2), (2, .one (.pt 0 0 0 0)), (3, .one (.pv (.rp [[pi p1.kind, pi p1.n, pi p1.scale, .s (.string p1.s), .ro (eValue.els p1.items)]] 0 0))), (28, vb x1)] [.box [ci z1]] → K6 fr1 st1 := by
        intro x1 h fr1 st1 hS
        unfold ref1_sound_j2 at h
        refine hK6 _ _ (XW.sub hS ?_)
        refine XW.cond (x := .tmp 28) (a := cd Tryd.f32 [1,1,0,1,0]) (b := cd Tryd.f32 [1,1,0,1,1]) (t := x1) (by kernel_rfl) (by kernel_rfl) (fun b10 => ?_) (fun b10 => ?_)
        · have h := ift_t b10 h
          refine XW.seq (x := cd Tryd.f32 [1,1,0,1,0,0]) (y := cd Tryd.f32 [1,1,0,1,0,1]) (by kernel_rfl) fun K11 hK11 => ?_
          refine XW.reg (by kernel_rfl) ?_
          refine XO.go [] 1 [6] [] [(6, vb false)] [.box [ci z1]] [] (by kernel_rfl) trivial ?_
          refine XO.done (by kernel_rfl) ?_
          refine hK11 _ _ ?_
          refine XW.ret (by kernel_rfl) ?_
          obtain rfl := Option.some.inj h
          exact FinM.fin (.inr rfl) [] [vb false] [] (by kernel_rfl) trivial (by kernel_rfl) (by kernel_rfl) (.one (.rfl _ rfl))
        · have h := ift_f b10 h
          refine XW.skip (by kernel_rfl) ?_
          refine hK5 _ _ ?_
          refine XW.seq (x := cd Tryd.f32 [1,1,1,0]) (y := cd Tryd.f32 [1,1,1,1]) (by kernel_rfl) fun K12 hK12 => ?_
          have hJ3 : ∀ (z3 : Int), ref1_sound_j3 z3 = some r → ∀ fr1 st1, Sub 46 1 [] fr1 st1 [] [.box [ci z3]] → K12 fr1 st1 := by
            intro z3 h fr1 st1 hS
            unfold ref1_sound_j3 at h
            refine hK12 _ _ (XW.sub hS ?_)
            refine XW.seq (x := cd Tryd.f32 [1,1,1,1,0]) (y := cd Tryd.f32 [1,1,1,1,1]) (by kernel_rfl) fun K24 hK24 => ?_
            refine XW.reg (by kernel_rfl) ?_
            refine XO.go [] 1 [6] [] [(6, vb true)] [.box [ci z3]] [] (by kernel_rfl) trivial ?_
            refine XO.done (by kernel_rfl) ?_
            refine hK24 _ _ ?_
            refine XW.ret (by kernel_rfl) ?_
            obtain rfl := Option.some.inj h
            exact FinM.fin (.inr rfl) [] [vb true] [] (by kernel_rfl) trivial (by kernel_rfl) (by kernel_rfl) (.one (.rfl _ rfl))
          refine XW.seq (x := cd Tryd.f32 [1,1,1,0,0]) (y := cd Tryd.f32 [1,1,1,0,1]) (by kernel_rfl) fun K13 hK13 => ?_
          refine XW.reg (by kernel_rfl) ?_
          refine XO.go [] 3 [1,2,3,31] [[pi p1.kind, pi p1.n, pi p1.scale, .s (.string p1.s), .ro (eValue.els p1.items)]] [(1, vi p2), (2, .one (.pt 0 0 0 0)), (3, .one (.pv (.rp [[pi p1.kind, pi p1.n, pi p1.scale, .s (.string p1.s), .ro (eValue.els p1.items)]] 0 0))), (31, vi ((eValue.els p1.items).length : Int))] [.box [ci z1]] [([[pi p1.kind, pi p1.n, pi p1.scale, .s (.string p1.s), .ro (eValue.els p1.items)]] : List (List PV))[0]? = some [pi p1.kind, pi p1.n, pi p1.scale, .s (.string p1.s), .ro (eValue.els p1.items)]] (by kernel_rfl) (⟨rfl, trivial⟩) ?_
          rw [eValue.len p1.items]
          refine XO.go [] 1 [1,2,3,31,32] [] [(1, vi p2), (2, .one (.pt 0 0 0 0)), (3, .one (.pv (.rp [[pi p1.kind, pi p1.n, pi p1.scale, .s (.string p1.s), .ro (eValue.els p1.items)]] 0 0))), (31, vi (p1.items.length : Int)), (32, vi (0 : Int))] [.box [ci z1]] [] (by kernel_rfl) trivial ?_
          refine XO.done (by kernel_rfl) ?_
          refine hK13 _ _ ?_
          refine XW.block (id := 0) (x := cd Tryd.f32 [1,1,1,0,1,0]) (by kernel_rfl) ?_
          refine XW.rounds' BIG (x := cd Tryd.f32 [1,1,1,0,1,0,0]) (by kernel_rfl) fun Q1 hQ1 => ?_
          have hL1 : ∀ (k1 : Nat) (z2 : Int) (x2 : Int), ref1_sound_l1 (ref1_sound k0) p1 p2 k1 z2 x2 = some r → XR Tryd.prog 46 1 [] (cd Tryd.f32 [1,1,1,0,1,0,0]) Q1 k1 [(1, vi p2), (2, .one (.pt 0 0 0 0)), (3, .one (.pv (.rp [[pi p1.kind, pi p1.n, pi p1.scale, .s (.string p1.s), .ro (eValue.els p1.items)]] 0 0))), (31, vi (p1.items.length : Int)), (32, vi x2)] [.box [ci z2]] := by
            intro k1
            induction k1 with
            | zero => intro z2 x2 h; rw [ref1_sound_l1.eq_1] at h; cases h
            | succ k1 ih1 =>
              intro z2 x2 h
              rw [ref1_sound_l1.eq_2] at h
              refine XW.seq (x := cd Tryd.f32 [1,1,1,0,1,0,0,0]) (y := cd Tryd.f32 [1,1,1,0,1,0,0,1]) (by kernel_rfl) fun K14 hK14 => ?_
              refine XW.reg (by kernel_rfl) ?_
              refine XO.go [] 1 [1,2,3,31,32,33] [] [(1, vi p2), (2, .one (.pt 0 0 0 0)), (3, .one (.pv (.rp [[pi p1.kind, pi p1.n, pi p1.scale, .s (.string p1.s), .ro (eValue.els p1.items)]] 0 0))), (31, vi (p1.items.length : Int)), (32, vi x2), (33, vb (decide (x2 < (p1.items.length : Int))))] [.box [ci z2]] [] (by kernel_rfl) trivial ?_
              refine XO.done (by kernel_rfl) ?_
              refine hK14 _ _ ?_
              refine XW.seq (x := cd Tryd.f32 [1,1,1,0,1,0,0,1,0]) (y := cd Tryd.f32 [1,1,1,0,1,0,0,1,1]) (by kernel_rfl) fun K15 hK15 => ?_
              refine XW.cond (x := .tmp 33) (a := cd Tryd.f32 [1,1,1,0,1,0,0,1,0,0]) (b := cd Tryd.f32 [1,1,1,0,1,0,0,1,0,1]) (t := (decide (x2 < (p1.items.length : Int)))) (by kernel_rfl) (by kernel_rfl) (fun b16 => ?_) (fun b16 => ?_)
              · have h := ift_t b16 h
                refine XW.skip (by kernel_rfl) ?_
                refine hK15 _ _ ?_
                refine XW.seq (x := cd Tryd.f32 [1,1,1,0,1,0,0,1,1,0]) (y := cd Tryd.f32 [1,1,1,0,1,0,0,1,1,1]) (by kernel_rfl) fun K17 hK17 => ?_
                refine XW.block (id := 1) (x := cd Tryd.f32 [1,1,1,0,1,0,0,1,1,0,0]) (by kernel_rfl) ?_
                refine XW.seq (x := cd Tryd.f32 [1,1,1,0,1,0,0,1,1,0,0,0]) (y := cd Tryd.f32 [1,1,1,0,1,0,0,1,1,0,0,1]) (by kernel_rfl) fun K18 hK18 => ?_
                refine XW.reg (by kernel_rfl) ?_
                refine XO.go [] 2 [1,2,3,7,31,32] [] [(1, vi p2), (2, .one (.pt 0 0 0 0)), (3, .one (.pv (.rp [[pi p1.kind, pi p1.n, pi p1.scale, .s (.string p1.s), .ro (eValue.els p1.items)]] 0 0))), (7, vi x2), (31, vi (p1.items.length : Int)), (32, vi x2)] [.box [ci z2]] [] (by kernel_rfl) trivial ?_
                refine XO.done (by kernel_rfl) ?_
                refine hK18 _ _ ?_
                refine XW.seq (x := cd Tryd.f32 [1,1,1,0,1,0,0,1,1,0,0,1,0]) (y := cd Tryd.f32 [1,1,1,0,1,0,0,1,1,0,0,1,1]) (by kernel_rfl) fun K19 hK19 => ?_
                obtain ⟨e1, a20, h⟩ := bnd_some h
                obtain ⟨r2, c21, h⟩ := bnd_some h
                refine XW.reg (by kernel_rfl) ?_
                refine XO.go [] 8 [1,2,3,31,32,39,41,42] [[pi p1.kind, pi p1.n, pi p1.scale, .s (.string p1.s), .ro (eValue.els p1.items)], [pi e1.kind, pi e1.n, pi e1.scale, .s (.string e1.s), .ro (eValue.els e1.items)]] [(1, vi p2), (2, .one (.pt 0 0 0 0)), (3, .one (.pv (.rp [[pi p1.kind, pi p1.n, pi p1.scale, .s (.string p1.s), .ro (eValue.els p1.items)]] 0 0))), (31, vi (p1.items.length : Int)), (32, vi x2), (39, .ag [ci e1.kind, ci e1.n, ci e1.scale, cst e1.s, cl eValue e1.items]), (41, vi (IntKind.i64.wrap (p2 + (1 : Int)))), (42, .one (.pt 0 0 0 0))] [.box [ci z2]] [([[pi p1.kind, pi p1.n, pi p1.scale, .s (.string p1.s), .ro (eValue.els p1.items)]] : List (List PV))[0]? = some [pi p1.kind, pi p1.n, pi p1.scale, .s (.string p1.s), .ro (eValue.els p1.items)], 0 ≤ x2 ∧ x2 < ((eValue.els p1.items).length : Int) ∧ elemsOk 5 (eValue.els p1.items), (eValue.els p1.items)[x2.toNat]? = some [pi e1.kind, pi e1.n, pi e1.scale, .s (.string e1.s), .ro (eValue.els e1.items)]] (by kernel_rfl) (⟨rfl, eValue.inb a20, ((eValue.get a20).trans (by cases e1; rfl)), trivial⟩) ?_
                refine XO.calm 32 [.ag [ci e1.kind, ci e1.n, ci e1.scale, cst e1.s, cl eValue e1.items], vi (IntKind.i64.wrap (p2 + (1 : Int))), .one (.pt 0 0 0 0)] [.box [ci z2]] [.box [ci r2.2]] (vb r2.1) [0] [(43, vb r2.1), (1, vi p2), (2, .one (.pt 0 0 0 0)), (3, .one (.pv (.rp [[pi p1.kind, pi p1.n, pi p1.scale, .s (.string p1.s), .ro (eValue.els p1.items)]] 0 0))), (31, vi (p1.items.length : Int)), (32, vi x2), (39, .ag [ci e1.kind, ci e1.n, ci e1.scale, cst e1.s, cl eValue e1.items]), (41, vi (IntKind.i64.wrap (p2 + (1 : Int)))), (42, .one (.pt 0 0 0 0))] [.box [ci r2.2]] (by kernel_rfl) (c_ref1_sound k0 _ _ _ _ c21) (by kernel_rfl) (by kernel_rfl) (by kernel_rfl) (by kernel_rfl) ?_
                refine XO.go [] 1 [1,2,3,31,32,44] [] [(1, vi p2), (2, .one (.pt 0 0 0 0)), (3, .one (.pv (.rp [[pi p1.kind, pi p1.n, pi p1.scale, .s (.string p1.s), .ro (eValue.els p1.items)]] 0 0))), (31, vi (p1.items.length : Int)), (32, vi x2), (44, vb (!r2.1))] [.box [ci r2.2]] [] (by kernel_rfl) trivial ?_
                refine XO.done (by kernel_rfl) ?_
                refine hK19 _ _ ?_
                refine XW.cond (x := .tmp 44) (a := cd Tryd.f32 [1,1,1,0,1,0,0,1,1,0,0,1,1,0]) (b := cd Tryd.f32 [1,1,1,0,1,0,0,1,1,0,0,1,1,1]) (t := (!r2.1)) (by kernel_rfl) (by kernel_rfl) (fun b22 => ?_) (fun b22 => ?_)
                · have h := ift_t b22 h
                  refine XW.seq (x := cd Tryd.f32 [1,1,1,0,1,0,0,1,1,0,0,1,1,0,0]) (y := cd Tryd.f32 [1,1,1,0,1,0,0,1,1,0,0,1,1,0,1]) (by kernel_rfl) fun K23 hK23 => ?_
                  refine XW.reg (by kernel_rfl) ?_
                  refine XO.go [] 1 [6] [] [(6, vb false)] [.box [ci r2.2]] [] (by kernel_rfl) trivial ?_
                  refine XO.done (by kernel_rfl) ?_
                  refine hK23 _ _ ?_
                  refine XW.ret (by kernel_rfl) ?_
                  refine hQ1 _ _ _ ?_
                  obtain rfl := Option.some.inj h
                  exact FinM.fin (.inr rfl) [] [vb false] [] (by kernel_rfl) trivial (by kernel_rfl) (by kernel_rfl) (.one (.rfl _ rfl))
                · have h := ift_f b22 h
                  refine XW.skip (by kernel_rfl) ?_
                  refine hK17 _ _ ?_
                  refine XW.reg (by kernel_rfl) ?_
                  refine XO.go [] 2 [1,2,3,31,32] [] [(1, vi p2), (2, .one (.pt 0 0 0 0)), (3, .one (.pv (.rp [[pi p1.kind, pi p1.n, pi p1.scale, .s (.string p1.s), .ro (eValue.els p1.items)]] 0 0))), (31, vi (p1.items.length : Int)), (32, vi (IntKind.i64.wrap (x2 + (1 : Int))))] [.box [ci r2.2]] [] (by kernel_rfl) trivial ?_
                  refine XO.done (by kernel_rfl) ?_
                  exact XR.sub (Sub.pick [1,2,3,31,32] (by kernel_rfl)) (ih1 r2.2 (IntKind.i64.wrap (x2 + (1 : Int))) h)
              · have h := ift_f b16 h
                refine XW.exit (id := 0) (by kernel_rfl) ?_
                refine hQ1 _ _ _ ?_
                exact hJ3 z2 h _ _ (Sub.pick [] (by kernel_rfl))
          exact XR.sub (Sub.pick [1,2,3,31,32] (by kernel_rfl)) (hL1 BIG z1 (0 : Int) h)
      rcases Bool.eq_false_or_eq_true (decide ((4 : Int) < p2)) with b7 | b7
      · have h := ift_t b7 h
        refine XW.reg (by kernel_rfl) ?_
        refine XO.go [] 3 [1,2,3,18] [] [(1, vi p2), (2, .one (.pt 0 0 0 0)), (3, .one (.pv (.rp [[pi p1.kind, pi p1.n, pi p1.scale, .s (.string p1.s), .ro (eValue.els p1.items)]] 0 0))), (18, vb (decide ((4 : Int) < p2)))] [.box [ci z1]] [] (by kernel_rfl) trivial ?_
        refine XO.setb 18 true (B := (decide ((4 : Int) < p2))) rfl b7 ?_
        refine XO.go [] 10 [1,2,3,28] [] [(1, vi p2), (2, .one (.pt 0 0 0 0)), (3, .one (.pv (.rp [[pi p1.kind, pi p1.n, pi p1.scale, .s (.string p1.s), .ro (eValue.els p1.items)]] 0 0))), (28, vb true)] [.box [ci z1]] [] (by kernel_rfl) trivial ?_
        refine XO.done (by kernel_rfl) ?_
        exact hJ2 true h _ _ (Sub.pick [1,2,3,28] (by kernel_rfl))
      · have h := ift_f b7 h
        rcases Bool.eq_false_or_eq_true (decide ((256 : Int) < z1)) with b8 | b8
        · have h := ift_t b8 h
          refine XW.reg (by kernel_rfl) ?_
          refine XO.go [] 3 [1,2,3,18] [] [(1, vi p2), (2, .one (.pt 0 0 0 0)), (3, .one (.pv (.rp [[pi p1.kind, pi p1.n, pi p1.scale, .s (.string p1.s), .ro (eValue.els p1.items)]] 0 0))), (18, vb (decide ((4 : Int) < p2)))] [.box [ci z1]] [] (by kernel_rfl) trivial ?_
          refine XO.setb 18 false (B := (decide ((4 : Int) < p2))) rfl b7 ?_
          refine XO.go [] 6 [1,2,3,24] [] [(1, vi p2), (2, .one (.pt 0 0 0 0)), (3, .one (.pv (.rp [[pi p1.kind, pi p1.n, pi p1.scale, .s (.string p1.s), .ro (eValue.els p1.items)]] 0 0))), (24, vb (decide ((256 : Int) < z1)))] [.box [ci z1]] [] (by kernel_rfl) trivial ?_
          refine XO.setb 24 true (B := (decide ((256 : Int) < z1))) rfl b8 ?_
          refine XO.go [] 4 [1,2,3,28] [] [(1, vi p2), (2, .one (.pt 0 0 0 0)), (3, .one (.pv (.rp [[pi p1.kind, pi p1.n, pi p1.scale, .s (.string p1.s), .ro (eValue.els p1.items)]] 0 0))), (28, vb true)] [.box [ci z1]] [] (by kernel_rfl) trivial ?_
          refine XO.done (by kernel_rfl) ?_
          exact hJ2 true h _ _ (Sub.pick [1,2,3,28] (by kernel_rfl))
        · have h := ift_f b8 h
          obtain ⟨r1, c9, h⟩ := bnd_some h
          refine XW.reg (by kernel_rfl) ?_
          refine XO.go [] 3 [1,2,3,18] [] [(1, vi p2), (2, .one (.pt 0 0 0 0)), (3, .one (.pv (.rp [[pi p1.kind, pi p1.n, pi p1.scale, .s (.string p1.s), .ro (eValue.els p1.items)]] 0 0))), (18, vb (decide ((4 : Int) < p2)))] [.box [ci z1]] [] (by kernel_rfl) trivial ?_
          refine XO.setb 18 false (B := (decide ((4 : Int) < p2))) rfl b7 ?_
          refine XO.go [] 6 [1,2,3,24] [] [(1, vi p2), (2, .one (.pt 0 0 0 0)), (3, .one (.pv (.rp [[pi p1.kind, pi p1.n, pi p1.scale, .s (.string p1.s), .ro (eValue.els p1.items)]] 0 0))), (24, vb (decide ((256 : Int) < z1)))] [.box [ci z1]] [] (by kernel_rfl) trivial ?_
          refine XO.setb 24 false (B := (decide ((256 : Int) < z1))) rfl b8 ?_
          refine XO.go [] 1 [1,2,3,24,25] [[pi p1.kind, pi p1.n, pi p1.scale, .s (.string p1.s), .ro (eValue.els p1.items)]] [(1, vi p2), (2, .one (.pt 0 0 0 0)), (3, .one (.pv (.rp [[pi p1.kind, pi p1.n, pi p1.scale, .s (.string p1.s), .ro (eValue.els p1.items)]] 0 0))), (24, vb false), (25, .ag [ci p1.kind, ci p1.n, ci p1.scale, cst p1.s, cl eValue p1.items])] [.box [ci z1]] [([[pi p1.kind, pi p1.n, pi p1.scale, .s (.string p1.s), .ro (eValue.els p1.items)]] : List (List PV))[0]? = some [pi p1.kind, pi p1.n, pi p1.scale, .s (.string p1.s), .ro (eValue.els p1.items)]] (by kernel_rfl) (⟨rfl, trivial⟩) ?_
          refine XO.cal 79 [.ag [ci p1.kind, ci p1.n, ci p1.scale, cst p1.s, cl eValue p1.items]] (vb r1) [(26, vb r1), (1, vi p2), (2, .one (.pt 0 0 0 0)), (3, .one (.pv (.rp [[pi p1.kind, pi p1.n, pi p1.scale, .s (.string p1.s), .ro (eValue.els p1.items)]] 0 0))), (24, vb false), (25, .ag [ci p1.kind, ci p1.n, ci p1.scale, cst p1.s, cl eValue p1.items])] (by kernel_rfl) (c_ref1_alone _ _ c9) rfl rfl (by kernel_rfl) ?_
          refine XO.go [] 2 [1,2,3,28] [] [(1, vi p2), (2, .one (.pt 0 0 0 0)), (3, .one (.pv (.rp [[pi p1.kind, pi p1.n, pi p1.scale, .s (.string p1.s), .ro (eValue.els p1.items)]] 0 0))), (28, vb (!r1))] [.box [ci z1]] [] (by kernel_rfl) trivial ?_
          refine XO.done (by kernel_rfl) ?_
          exact hJ2 (!r1) h _ _ (Sub.pick [1,2,3,28] (by kernel_rfl))
    refine XW.seq (x := cd Tryd.f32 [1,0,0]) (y := cd Tryd.f32 [1,0,1]) (by kernel_rfl) fun K3 hK3 => ?_
    refine XW.reg (by kernel_rfl) ?_
    refine XO.go [] 3 [1,2,3,10] [[pi p1.kind, pi p1.n, pi p1.scale, .s (.string p1.s), .ro (eValue.els p1.items)]] [(1, vi p2), (2, .one (.pt 0 0 0 0)), (3, .one (.pv (.rp [[pi p1.kind, pi p1.n, pi p1.scale, .s (.string p1.s), .ro (eValue.els p1.items)]] 0 0))), (10, vb (p1.kind != (0 : Int)))] [.box [ci p3]] [([[pi p1.kind, pi p1.n, pi p1.scale, .s (.string p1.s), .ro (eValue.els p1.items)]] : List (List PV))[0]? = some [pi p1.kind, pi p1.n, pi p1.scale, .s (.string p1.s), .ro (eValue.els p1.items)]] (by kernel_rfl) (⟨rfl, trivial⟩) ?_
    refine XO.done (by kernel_rfl) ?_
    refine hK3 _ _ ?_
    refine XW.cond (x := .tmp 10) (a := cd Tryd.f32 [1,0,1,0]) (b := cd Tryd.f32 [1,0,1,1]) (t := (p1.kind != (0 : Int))) (by kernel_rfl) (by kernel_rfl) (fun b4 => ?_) (fun b4 => ?_)
    · have h := ift_t b4 h
      refine XW.reg (by kernel_rfl) ?_
      refine XO.go [] 6 [1,2,3] [] [(1, vi p2), (2, .one (.pt 0 0 0 0)), (3, .one (.pv (.rp [[pi p1.kind, pi p1.n, pi p1.scale, .s (.string p1.s), .ro (eValue.els p1.items)]] 0 0)))] [.box [ci (IntKind.i64.wrap (p3 + (1 : Int)))]] [] (by kernel_rfl) trivial ?_
      refine XO.done (by kernel_rfl) ?_
      exact hJ1 (IntKind.i64.wrap (p3 + (1 : Int))) h _ _ (Sub.pick [1,2,3] (by kernel_rfl))
    · have h := ift_f b4 h
      refine XW.skip (by kernel_rfl) ?_
      exact hJ1 p3 h _ _ (Sub.pick [1,2,3] (by kernel_rfl))

def ref1_Sound (p1 : GValue) : Option Bool :=
    bnd (ref1_sound BIG p1 (1 : Int) (0 : Int)) fun r1 =>
    some r1.1


theorem c_ref1_Sound (p1 : GValue) (r : Bool) (h : ref1_Sound p1 = some r) : PC Tryd.prog 11 [.ag [ci p1.kind, ci p1.n, ci p1.scale, cst p1.s, cl eValue p1.items]] (vb r) := by
  unfold ref1_Sound at h
  refine PC.of (n := 6) (fn := Tryd.f11) (c := cd Tryd.f11 []) (by kernel_rfl) (by kernel_rfl) (by kernel_rfl) (Nat.le_of_ble_eq_true rfl) ?_
  refine XW.seq (x := cd Tryd.f11 [0]) (y := cd Tryd.f11 [1]) (by kernel_rfl) fun K1 hK1 => ?_
  refine XW.reg (by kernel_rfl) ?_
  refine XO.go [3] 2 [1] [] [(1, .one (.pv (.rp [[pi p1.kind, pi p1.n, pi p1.scale, .s (.string p1.s), .ro (eValue.els p1.items)]] 0 0)))] [] [] (by kernel_rfl) trivial ?_
  refine XO.done (by kernel_rfl) ?_
  refine hK1 _ _ ?_
  refine XW.seq (x := cd Tryd.f11 [1,0]) (y := cd Tryd.f11 [1,1]) (by kernel_rfl) fun K2 hK2 => ?_
  refine XW.reg (by kernel_rfl) ?_
  refine XO.go [3] 2 [1,3] [] [(1, .one (.pv (.rp [[pi p1.kind, pi p1.n, pi p1.scale, .s (.string p1.s), .ro (eValue.els p1.items)]] 0 0))), (3, .one (.pt 0 0 0 0))] [.box [ci (0 : Int)]] [] (by kernel_rfl) trivial ?_
  refine XO.done (by kernel_rfl) ?_
  refine hK2 _ _ ?_
  refine XW.seq (x := cd Tryd.f11 [1,1,0]) (y := cd Tryd.f11 [1,1,1]) (by kernel_rfl) fun K3 hK3 => ?_
  obtain ⟨r1, c4, h⟩ := bnd_some h
  refine XW.reg (by kernel_rfl) ?_
  refine XO.go [3] 1 [3,4] [[pi p1.kind, pi p1.n, pi p1.scale, .s (.string p1.s), .ro (eValue.els p1.items)]] [(3, .one (.pt 0 0 0 0)), (4, .ag [ci p1.kind, ci p1.n, ci p1.scale, cst p1.s, cl eValue p1.items])] [.box [ci (0 : Int)]] [([[pi p1.kind, pi p1.n, pi p1.scale, .s (.string p1.s), .ro (eValue.els p1.items)]] : List (List PV))[0]? = some [pi p1.kind, pi p1.n, pi p1.scale, .s (.string p1.s), .ro (eValue.els p1.items)]] (by kernel_rfl) (⟨rfl, trivial⟩) ?_
  refine XO.calm 32 [.ag [ci p1.kind, ci p1.n, ci p1.scale, cst p1.s, cl eValue p1.items], vi (1 : Int), .one (.pt 0 0 0 0)] [.box [ci (0 : Int)]] [.box [ci r1.2]] (vb r1.1) [0] [(5, vb r1.1), (3, .one (.pt 0 0 0 0)), (4, .ag [ci p1.kind, ci p1.n, ci p1.scale, cst p1.s, cl eValue p1.items])] [.box [ci r1.2]] (by kernel_rfl) (c_ref1_sound BIG _ _ _ _ c4) (by kernel_rfl) (by kernel_rfl) (by kernel_rfl) (by kernel_rfl) ?_
  refine XO.go [3] 1 [2] [] [(2, vb r1.1)] [.box [ci r1.2]] [] (by kernel_rfl) trivial ?_
  refine XO.done (by kernel_rfl) ?_
  refine hK3 _ _ ?_
  refine XW.ret (by kernel_rfl) ?_
  obtain rfl := Option.some.inj h
  exact FinP.fin (.inr rfl) [] [vb r1.1] [] (by kernel_rfl) trivial (.one (.rfl _ rfl))

def value_leaf_j1 (x1 : Bool) : Option Bool :=
    some x1

def value_leaf (p1 : GType) : Option Bool :=
    ift (p1.kind != (6 : Int))
      (value_leaf_j1 (p1.kind != (7 : Int)))
      (value_leaf_j1 false)


theorem c_value_leaf (p1 : GType) (r : Bool) (h : value_leaf p1 = some r) : PC Tryd.prog 116 [.ag [ci p1.kind, ci p1.scale, cl eField p1.fields]] (vb r) := by
  unfold value_leaf at h
  refine PC.of (n := 11) (fn := Tryd.f116) (c := cd Tryd.f116 []) (by kernel_rfl) (by kernel_rfl) (by kernel_rfl) (Nat.le_of_ble_eq_true rfl) ?_
  refine XW.seq (x := cd Tryd.f116 [0]) (y := cd Tryd.f116 [1]) (by kernel_rfl) fun K1 hK1 => ?_
  refine XW.reg (by kernel_rfl) ?_
  refine XO.go [] 2 [1] [] [(1, .one (.pv (.rp [[pi p1.kind, pi p1.scale, .ro (eField.els p1.fields)]] 0 0)))] [] [] (by kernel_rfl) trivial ?_
  refine XO.done (by kernel_rfl) ?_
  refine hK1 _ _ ?_
  refine XW.seq (x := cd Tryd.f116 [1,0]) (y := cd Tryd.f116 [1,1]) (by kernel_rfl) fun K2 hK2 => ?_
  have hJ1 : ∀ (x1 : Bool), value_leaf_j1 x1 = some r → ∀ fr1 st1, Sub 11 0 [] fr1 st1 [(2, vb x1)] [] → K2 fr1 st1 := by
    intro x1 h fr1 st1 hS
    unfold value_leaf_j1 at h
    refine hK2 _ _ (XW.sub hS ?_)
    refine XW.ret (by kernel_rfl) ?_
    obtain rfl := Option.some.inj h
    exact FinP.fin (.inr rfl) [] [vb x1] [] (by kernel_rfl) trivial (.one (.rfl _ rfl))
  rcases Bool.eq_false_or_eq_true (p1.kind != (6 : Int)) with b3 | b3
  · have h := ift_t b3 h
    refine XW.reg (by kernel_rfl) ?_
    refine XO.go [] 4 [1,6] [[pi p1.kind, pi p1.scale, .ro (eField.els p1.fields)]] [(1, .one (.pv (.rp [[pi p1.kind, pi p1.scale, .ro (eField.els p1.fields)]] 0 0))), (6, vb (p1.kind != (6 : Int)))] [] [([[pi p1.kind, pi p1.scale, .ro (eField.els p1.fields)]] : List (List PV))[0]? = some [pi p1.kind, pi p1.scale, .ro (eField.els p1.fields)]] (by kernel_rfl) (⟨rfl, trivial⟩) ?_
    refine XO.setb 6 true (B := (p1.kind != (6 : Int))) rfl b3 ?_
    refine XO.go [] 5 [2] [[pi p1.kind, pi p1.scale, .ro (eField.els p1.fields)]] [(2, vb (p1.kind != (7 : Int)))] [] [([[pi p1.kind, pi p1.scale, .ro (eField.els p1.fields)]] : List (List PV))[0]? = some [pi p1.kind, pi p1.scale, .ro (eField.els p1.fields)]] (by kernel_rfl) (⟨rfl, trivial⟩) ?_
    refine XO.done (by kernel_rfl) ?_
    exact hJ1 (p1.kind != (7 : Int)) h _ _ (Sub.pick [2] (by kernel_rfl))
  · have h := ift_f b3 h
    refine XW.reg (by kernel_rfl) ?_
    refine XO.go [] 4 [1,6] [[pi p1.kind, pi p1.scale, .ro (eField.els p1.fields)]] [(1, .one (.pv (.rp [[pi p1.kind, pi p1.scale, .ro (eField.els p1.fields)]] 0 0))), (6, vb (p1.kind != (6 : Int)))] [] [([[pi p1.kind, pi p1.scale, .ro (eField.els p1.fields)]] : List (List PV))[0]? = some [pi p1.kind, pi p1.scale, .ro (eField.els p1.fields)]] (by kernel_rfl) (⟨rfl, trivial⟩) ?_
    refine XO.setb 6 false (B := (p1.kind != (6 : Int))) rfl b3 ?_
    refine XO.go [] 5 [2] [] [(2, vb false)] [] [] (by kernel_rfl) trivial ?_
    refine XO.done (by kernel_rfl) ?_
    exact hJ1 false h _ _ (Sub.pick [2] (by kernel_rfl))

def value_Name_1_j1 (x1 : Bool) : Option Bool :=
    some x1

def value_Name_1 (p1 : Int) : Option Bool :=
    ift (decide (p1 < (97 : Int)))
      (ift (decide (p1 < (48 : Int)))
         (value_Name_1_j1 (p1 != (95 : Int)))
         (ift (decide ((57 : Int) < p1))
            (value_Name_1_j1 (p1 != (95 : Int)))
            (value_Name_1_j1 false)))
      (ift (decide ((122 : Int) < p1))
         (ift (decide (p1 < (48 : Int)))
            (value_Name_1_j1 (p1 != (95 : Int)))
            (ift (decide ((57 : Int) < p1))
               (value_Name_1_j1 (p1 != (95 : Int)))
               (value_Name_1_j1 false)))
         (value_Name_1_j1 false))


theorem c_value_Name_1 (p1 : Int) (r : Bool) (h : value_Name_1 p1 = some r) : PC Tryd.prog 134 [vk .i32 p1] (vb r) := by
  unfold value_Name_1 at h
  refine PC.of (n := 21) (fn := Tryd.f134) (c := cd Tryd.f134 []) (by kernel_rfl) (by kernel_rfl) (by kernel_rfl) (Nat.le_of_ble_eq_true rfl) ?_
  refine XW.seq (x := cd Tryd.f134 [0]) (y := cd Tryd.f134 [1]) (by kernel_rfl) fun K1 hK1 => ?_
  refine XW.reg (by kernel_rfl) ?_
  refine XO.go [] 1 [0] [] [(0, vk .i32 p1)] [] [] (by kernel_rfl) trivial ?_
  refine XO.done (by kernel_rfl) ?_
  refine hK1 _ _ ?_
  refine XW.seq (x := cd Tryd.f134 [1,0]) (y := cd Tryd.f134 [1,1]) (by kernel_rfl) fun K2 hK2 => ?_
  have hJ1 : ∀ (x1 : Bool), value_Name_1_j1 x1 = some r → ∀ fr1 st1, Sub 21 0 [] fr1 st1 [(2, vb x1)] [] → K2 fr1 st1 := by
    intro x1 h fr1 st1 hS
    unfold value_Name_1_j1 at h
    refine hK2 _ _ (XW.sub hS ?_)
    refine XW.ret (by kernel_rfl) ?_
    obtain rfl := Option.some.inj h
    exact FinP.fin (.inr rfl) [] [vb x1] [] (by kernel_rfl) trivial (.one (.rfl _ rfl))
  rcases Bool.eq_false_or_eq_true (decide (p1 < (97 : Int))) with b3 | b3
  · have h := ift_t b3 h
    rcases Bool.eq_false_or_eq_true (decide (p1 < (48 : Int))) with b4 | b4
    · have h := ift_t b4 h
      refine XW.reg (by kernel_rfl) ?_
      refine XO.go [] 3 [0,5] [] [(0, vk .i32 p1), (5, vb (decide (p1 < (97 : Int))))] [] [] (by kernel_rfl) trivial ?_
      refine XO.setb 5 true (B := (decide (p1 < (97 : Int)))) rfl b3 ?_
      refine XO.go [] 7 [0,9,12] [] [(0, vk .i32 p1), (9, vb true), (12, vb (decide (p1 < (48 : Int))))] [] [] (by kernel_rfl) trivial ?_
      refine XO.setb 12 true (B := (decide (p1 < (48 : Int)))) rfl b4 ?_
      refine XO.go [] 9 [2] [] [(2, vb (p1 != (95 : Int)))] [] [] (by kernel_rfl) trivial ?_
      refine XO.done (by kernel_rfl) ?_
      exact hJ1 (p1 != (95 : Int)) h _ _ (Sub.pick [2] (by kernel_rfl))
    · have h := ift_f b4 h
      rcases Bool.eq_false_or_eq_true (decide ((57 : Int) < p1)) with b5 | b5
      · have h := ift_t b5 h
        refine XW.reg (by kernel_rfl) ?_
        refine XO.go [] 3 [0,5] [] [(0, vk .i32 p1), (5, vb (decide (p1 < (97 : Int))))] [] [] (by kernel_rfl) trivial ?_
        refine XO.setb 5 true (B := (decide (p1 < (97 : Int)))) rfl b3 ?_
        refine XO.go [] 7 [0,9,12] [] [(0, vk .i32 p1), (9, vb true), (12, vb (decide (p1 < (48 : Int))))] [] [] (by kernel_rfl) trivial ?_
        refine XO.setb 12 false (B := (decide (p1 < (48 : Int)))) rfl b4 ?_
        refine XO.go [] 5 [0,17] [] [(0, vk .i32 p1), (17, vb (decide ((57 : Int) < p1)))] [] [] (by kernel_rfl) trivial ?_
        refine XO.setb 17 true (B := (decide ((57 : Int) < p1))) rfl b5 ?_
        refine XO.go [] 4 [2] [] [(2, vb (p1 != (95 : Int)))] [] [] (by kernel_rfl) trivial ?_
        refine XO.done (by kernel_rfl) ?_
        exact hJ1 (p1 != (95 : Int)) h _ _ (Sub.pick [2] (by kernel_rfl))
      · have h := ift_f b5 h
        refine XW.reg (by kernel_rfl) ?_
        refine XO.go [] 3 [0,5] [] [(0, vk .i32 p1), (5, vb (decide (p1 < (97 : Int))))] [] [] (by kernel_rfl) trivial ?_
        refine XO.setb 5 true (B := (decide (p1 < (97 : Int)))) rfl b3 ?_
        refine XO.go [] 7 [0,9,12] [] [(0, vk .i32 p1), (9, vb true), (12, vb (decide (p1 < (48 : Int))))] [] [] (by kernel_rfl) trivial ?_
        refine XO.setb 12 false (B := (decide (p1 < (48 : Int)))) rfl b4 ?_
        refine XO.go [] 5 [0,17] [] [(0, vk .i32 p1), (17, vb (decide ((57 : Int) < p1)))] [] [] (by kernel_rfl) trivial ?_
        refine XO.setb 17 false (B := (decide ((57 : Int) < p1))) rfl b5 ?_
        refine XO.go [] 4 [2] [] [(2, vb false)] [] [] (by kernel_rfl) trivial ?_
        refine XO.done (by kernel_rfl) ?_
        exact hJ1 false h _ _ (Sub.pick [2] (by kernel_rfl))
  · have h := ift_f b3 h
    rcases Bool.eq_false_or_eq_true (decide ((122 : Int) < p1)) with b6 | b6
    · have h := ift_t b6 h
      rcases Bool.eq_false_or_eq_true (decide (p1 < (48 : Int))) with b7 | b7
      · have h := ift_t b7 h
        refine XW.reg (by kernel_rfl) ?_
        refine XO.go [] 3 [0,5] [] [(0, vk .i32 p1), (5, vb (decide (p1 < (97 : Int))))] [] [] (by kernel_rfl) trivial ?_
        refine XO.setb 5 false (B := (decide (p1 < (97 : Int)))) rfl b3 ?_
        refine XO.go [] 4 [0,9] [] [(0, vk .i32 p1), (9, vb (decide ((122 : Int) < p1)))] [] [] (by kernel_rfl) trivial ?_
        refine XO.setb 9 true (B := (decide ((122 : Int) < p1))) rfl b6 ?_
        refine XO.go [] 3 [0,9,12] [] [(0, vk .i32 p1), (9, vb true), (12, vb (decide (p1 < (48 : Int))))] [] [] (by kernel_rfl) trivial ?_
        refine XO.setb 12 true (B := (decide (p1 < (48 : Int)))) rfl b7 ?_
        refine XO.go [] 9 [2] [] [(2, vb (p1 != (95 : Int)))] [] [] (by kernel_rfl) trivial ?_
        refine XO.done (by kernel_rfl) ?_
        exact hJ1 (p1 != (95 : Int)) h _ _ (Sub.pick [2] (by kernel_rfl))
      · have h := ift_f b7 h
        rcases Bool.eq_false_or_eq_true (decide ((57 : Int) < p1)) with b8 | b8
        · have h := ift_t b8 h
          refine XW.reg (by kernel_rfl) ?_
          refine XO.go [] 3 [0,5] [] [(0, vk .i32 p1), (5, vb (decide (p1 < (97 : Int))))] [] [] (by kernel_rfl) trivial ?_
          refine XO.setb 5 false (B := (decide (p1 < (97 : Int)))) rfl b3 ?_
          refine XO.go [] 4 [0,9] [] [(0, vk .i32 p1), (9, vb (decide ((122 : Int) < p1)))] [] [] (by kernel_rfl) trivial ?_
          refine XO.setb 9 true (B := (decide ((122 : Int) < p1))) rfl b6 ?_
          refine XO.go [] 3 [0,9,12] [] [(0, vk .i32 p1), (9, vb true), (12, vb (decide (p1 < (48 : Int))))] [] [] (by kernel_rfl) trivial ?_
          refine XO.setb 12 false (B := (decide (p1 < (48 : Int)))) rfl b7 ?_
          refine XO.go [] 5 [0,17] [] [(0, vk .i32 p1), (17, vb (decide ((57 : Int) < p1)))] [] [] (by kernel_rfl) trivial ?_
          refine XO.setb 17 true (B := (decide ((57 : Int) < p1))) rfl b8 ?_
          refine XO.go [] 4 [2] [] [(2, vb (p1 != (95 : Int)))] [] [] (by kernel_rfl) trivial ?_
          refine XO.done (by kernel_rfl) ?_
          exact hJ1 (p1 != (95 : Int)) h _ _ (Sub.pick [2] (by kernel_rfl))
        · have h := ift_f b8 h
          refine XW.reg (by kernel_rfl) ?_
          refine XO.go [] 3 [0,5] [] [(0, vk .i32 p1), (5, vb (decide (p1 < (97 : Int))))] [] [] (by kernel_rfl) trivial ?_
          refine XO.setb 5 false (B := (decide (p1 < (97 : Int)))) rfl b3 ?_
          refine XO.go [] 4 [0,9] [] [(0, vk .i32 p1), (9, vb (decide ((122 : Int) < p1)))] [] [] (by kernel_rfl) trivial ?_
          refine XO.setb 9 true (B := (decide ((122 : Int) < p1))) rfl b6 ?_
          refine XO.go [] 3 [0,9,12] [] [(0, vk .i32 p1), (9, vb true), (12, vb (decide (p1 < (48 : Int))))] [] [] (by kernel_rfl) trivial ?_
          refine XO.setb 12 false (B := (decide (p1 < (48 : Int)))) rfl b7 ?_
          refine XO.go [] 5 [0,17] [] [(0, vk .i32 p1), (17, vb (decide ((57 : Int) < p1)))] [] [] (by kernel_rfl) trivial ?_
          refine XO.setb 17 false (B := (decide ((57 : Int) < p1))) rfl b8 ?_
          refine XO.go [] 4 [2] [] [(2, vb false)] [] [] (by kernel_rfl) trivial ?_
          refine XO.done (by kernel_rfl) ?_
          exact hJ1 false h _ _ (Sub.pick [2] (by kernel_rfl))
    · have h := ift_f b6 h
      refine XW.reg (by kernel_rfl) ?_
      refine XO.go [] 3 [0,5] [] [(0, vk .i32 p1), (5, vb (decide (p1 < (97 : Int))))] [] [] (by kernel_rfl) trivial ?_
      refine XO.setb 5 false (B := (decide (p1 < (97 : Int)))) rfl b3 ?_
      refine XO.go [] 4 [0,9] [] [(0, vk .i32 p1), (9, vb (decide ((122 : Int) < p1)))] [] [] (by kernel_rfl) trivial ?_
      refine XO.setb 9 false (B := (decide ((122 : Int) < p1))) rfl b6 ?_
      refine XO.go [] 12 [2] [] [(2, vb false)] [] [] (by kernel_rfl) trivial ?_
      refine XO.done (by kernel_rfl) ?_
      exact hJ1 false h _ _ (Sub.pick [2] (by kernel_rfl))


end Go.Proofs.YtdkmclmdemngfaaDoor
