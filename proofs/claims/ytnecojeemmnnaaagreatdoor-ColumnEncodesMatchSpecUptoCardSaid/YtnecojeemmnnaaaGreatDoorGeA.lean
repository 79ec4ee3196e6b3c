/- The shelf's contract of utf8.ValidString, laid at this program. slices.CompactFunc at []int with a comparison of one's own: the library's text walked (after the shelf's walk of slices.Compact). bytes.Compare of two texts' bytes: the walk of the comparison that sorts texts. slices.CompactFunc at []string with a comparison that lays blocks: the library's text walked. slices.CompactFunc at []string: the walk. slices.Clone, SortFunc and CompactFunc at numbers and at texts: the contracts that the printed proofs use. Printed by a program: what the functions compute, and the proofs of their contracts. -/
import Derived.Test.YtnecojeemmnnaaaGreatDoorProg
import Derived.Test.YtnecojeemmnnaaaGreatDoorChecked
import Derived.WalkKit
import Derived.Deep.RegionWith
import Derived.Deep.RegionHeld3
import Derived.Deep.LoopGhost
import Derived.Deep.Draws
import Derived.Lib.Walk
import Derived.Sort.WalkA
import Derived.Sort.WalkB12
import Derived.Lib.SliceRun
import Derived.Lib.SlicesS
import Derived.Lib.SlicesCompact
import Derived.Laws.IdiomStrings
import Derived.Lib.Bytealg
import Derived.Sort.Grow
import Derived.Shelf.SlSortCmp.Kit1
import Derived.Shelf.Lay
import Derived.Shelf.SlSortCmp.NoneTotal
import Derived.Ground.SlsfProg
import Derived.Ground.Names2Prog
import Derived.Shelf.Slices.Clone
import Derived.Test.YtnecojeemmnnaaaGreatDoorSxC
set_option linter.unusedVariables false
set_option linter.unusedSimpArgs false
set_option linter.unnecessarySimpa false
namespace Go.Proofs.YtnecojeemmnnaaaGreatDoor
open Go Go.SX Go.Shelf Go.Lib
def Ly : Ren where
 f := fun n => if n = 196 then 202 else if n = 259 then 227 else n
 t := fun n => if n = 0 then 0 else if n = 3 then 3 else if n = 4 then 4 else if n = 5 then 5 else if n = 9 then 9 else if n = 12 then 12 else if n = 46 then 180 else if n = 53 then 142 else if n = 119 then 236 else if n = 138 then 238 else if n = 139 then 239 else n
 g := fun n => if n = 3 then 1 else if n = 4 then 2 else n
set_option maxRecDepth 100000 in
theorem HQ : Lays.n196 Tryz.prog Ly where
 mixed := by kernel_rfl
 f196 := by kernel_rfl
 f259 := by kernel_rfl
 t0 := by kernel_rfl
 a0 := fun w => by kernel_rfl
 z0 := fun w => by kernel_rfl
 v0 := fun w => by kernel_rfl
 t3 := by kernel_rfl
 a3 := fun w => by kernel_rfl
 z3 := fun w => by kernel_rfl
 v3 := fun w => by kernel_rfl
 t4 := by kernel_rfl
 a4 := fun w => by kernel_rfl
 z4 := fun w => by kernel_rfl
 v4 := fun w => by kernel_rfl
 t5 := by kernel_rfl
 a5 := fun w => by kernel_rfl
 z5 := fun w => by kernel_rfl
 v5 := fun w => by kernel_rfl
 t9 := by kernel_rfl
 a9 := fun w => by kernel_rfl
 z9 := fun w => by kernel_rfl
 v9 := fun w => by kernel_rfl
 t12 := by kernel_rfl
 a12 := fun w => by kernel_rfl
 z12 := fun w => by kernel_rfl
 v12 := fun w => by kernel_rfl
 t46 := by kernel_rfl
 a46 := fun w => by kernel_rfl
 z46 := fun w => by kernel_rfl
 v46 := fun w => by kernel_rfl
 t53 := by kernel_rfl
 a53 := fun w => by kernel_rfl
 z53 := fun w => by kernel_rfl
 v53 := fun w => by kernel_rfl
 t119 := by kernel_rfl
 a119 := fun w => by kernel_rfl
 z119 := fun w => by kernel_rfl
 t138 := by kernel_rfl
 a138 := fun w => by kernel_rfl
 z138 := fun w => by kernel_rfl
 v138 := fun w => by kernel_rfl
 t139 := by kernel_rfl
 a139 := fun w => by kernel_rfl
 z139 := fun w => by kernel_rfl
 v139 := fun w => by kernel_rfl
 g3 := by kernel_rfl
 g4 := by kernel_rfl
def utf8_ValidString (p1 : ByteArray) : Option Bool := cr (p1.size ≤ 9223372036854775807) <| some (validD p1.data.toList)
theorem qw (p1 : ByteArray) (r : Bool) (h : utf8_ValidString p1 = some r) : PC Tryz.prog 202 [vs p1] (vb r) := by
 unfold utf8_ValidString at h
 obtain ⟨g1, h⟩ := dB h
 obtain rfl := Option.some.inj h
 exact zc HQ (by kernel_rfl) (by kernel_rfl) p1 g1
end Go.Proofs.YtnecojeemmnnaaaGreatDoor
namespace Go.Proofs.YtnecojeemmnnaaaGreatDoor
open Go Go.Proofs Go.RowKit Go.Lib Go.Sort
theorem LN {w wr : World} {n blk off : Nat} {dk : Array Int} {i : Nat} (hi : i < dk.size) (hwr : wr = putRow encI (Sort.ahead w n) blk off dk) (x : Int) :
  wr.setCell ⟨blk, off + i, none⟩ (encI x) = putRow encI (Sort.ahead w n) blk off (dk.setIfInBounds i x) := by
 subst hwr
 exact putRow_set encI _ blk off dk i x hi
theorem Ot (x y : Int) (e : x = y) (h1 : -9223372036854775808 ≤ y) (h2 : y < 9223372036854775808) : IntKind.i64.wrap x = y := by
 subst e; simp [IntKind.wrap, IntKind.bits, IntKind.signed]; omega
theorem f104 (x y : Int) (hx : -2000000000000000000 ≤ x ∧ x ≤ 2000000000000000000) (hy : -2000000000000000000 ≤ y ∧ y ≤ 2000000000000000000) (W : World) :
  Calls Tryz.prog 104 #[.int .i64 x, .int .i64 y] W fun e w' => e = .returned (.int .i64 (x - y)) ∧ w' = W := by
 have t3 : Tryz.prog.underlying 3 = some (.int .i64) := by kernel_rfl
 go_enter Tryz.func104, Tryz.ntmps104
 go_wp2
 go_ret
 exact ⟨by first | rfl | go_num, rfl⟩
theorem Pw (x y : Int) (hx : -2000000000000000000 ≤ x ∧ x ≤ 2000000000000000000) (hy : -2000000000000000000 ≤ y ∧ y ≤ 2000000000000000000) (a : Addr) (W : World) (ha : W.cell? a = some (.func (.func 104) #[] #[])) :
  Calls Tryz.prog 161 #[.int .i64 x, .int .i64 y, .pointer (some a)] W fun e w' => e = .returned (.bool (decide (x = y))) ∧ ∃ q, w' = W.drewN q := by
 have t3 : Tryz.prog.underlying 3 = some (.int .i64) := by kernel_rfl
 have h := fun W => f104 x y hx hy W
 go_enter Tryz.func161, Tryz.ntmps161
 go_wp2_with (go_at_call 104; refine (h _).mono ?_; rintro e w' ⟨rfl, rfl⟩)
 go_ret
 refine ⟨?_, 0, rfl⟩
 have : decide (x - y = 0) = decide (x = y) := by rw [decide_eq_decide]; omega
 first | rw [← this]; rfl | simp [this]
set_option maxHeartbeats 4000000 in
set_option maxRecDepth 1000000 in
theorem Pb (blk off cap : Nat) (d : Array Int) (w : World) (a : Addr) (ha : w.cell? a = some (.func (.func 104) #[] #[])) (hab : a.block ≠ blk) (hbd : ∀ j, j < d.size → -2000000000000000000 ≤ d[j]! ∧ d[j]! ≤ 2000000000000000000)
  (hH : Holds encI w blk off d) (hsz : d.size ≤ 9223372036854775807) (hcap : d.size ≤ cap) :
  Calls Tryz.prog 160 #[.slice (some ⟨blk, off, none⟩) d.size cap, .func (.func 161) #[] #[.pointer (some a)]] w fun e w' => e = .returned (.slice (some ⟨blk, off, none⟩) (compactUpTo d d.size).length cap) ∧ ∃ q, w' = putRow encI (Sort.ahead w q) blk off (compactUpTo d d.size ++ List.replicate (d.size - (compactUpTo d d.size).length) 0).toArray := by
 have mixed : Tryz.prog.follows .mixedOrders = true := by kernel_rfl
 have t51 : Tryz.prog.underlying 51 = some (.slice 3) := by kernel_rfl
 have t3 : Tryz.prog.underlying 3 = some (.int .i64) := by kernel_rfl
 have v3 : ∀ w, (zeroValue 3).run Tryz.prog w = .ok (Value.int IntKind.i64 0) w := fun w => by kernel_rfl
 have same : ∀ q, (∀ j, j < d.size → keeps d j = true) → (compactUpTo d d.size).length = d.size ∧ w.drewN q = putRow encI (Sort.ahead w q) blk off (compactUpTo d d.size ++ List.replicate (d.size - (compactUpTo d d.size).length) 0).toArray := by
  intro q hall
  have e : compactUpTo d d.size = d.toList := by rw [compactUpTo_all d _ hall, range_map_get]
  rw [e]
  refine ⟨by simp, ?_⟩
  simp only [Array.length_toList, Nat.sub_self, List.replicate_zero, List.append_nil, Array.toArray_toList]
  exact (putRow_self encI (Sort.ahead w q) blk off d (holds_ahead encI w q blk off d hH)).symm
 have HS : Aside (∀ q, (∀ j, j < d.size → keeps d j = true) → (compactUpTo d d.size).length = d.size ∧ w.drewN q = putRow encI (Sort.ahead w q) blk off (compactUpTo d d.size ++ List.replicate (d.size - (compactUpTo d d.size).length) 0).toArray) := same
 clear same
 have heq : Aside (∀ x y, (-2000000000000000000 ≤ x ∧ x ≤ 2000000000000000000) → (-2000000000000000000 ≤ y ∧ y ≤ 2000000000000000000) → ∀ W : World, W.cell? a = some (.func (.func 104) #[] #[]) → Calls Tryz.prog 161 #[.int .i64 x, .int .i64 y, .pointer (some a)] W fun e w' => e = .returned (.bool (decide (x = y))) ∧ ∃ q, w' = W.drewN q) := fun x y hx hy W hW => Pw x y hx hy a W hW
 have BD : Aside (∀ j, j < d.size → -2000000000000000000 ≤ d[j]! ∧ d[j]! ≤ 2000000000000000000) := hbd
 have HA : Aside (w.cell? a = some (.func (.func 104) #[] #[])) := ha
 clear ha hbd
 by_cases h2 : d.size < 2
 ·have HH : Aside (Holds encI w blk off d) := hH
  clear hH
  go_enter Tryz.func160, Tryz.ntmps160
  go_wp2
  go_ret
  obtain ⟨e1, e2⟩ := HS.out 0 (fun j hj => keeps_lt_one d j (by omega))
  exact ⟨by rw [e1]; rfl, 0, e2⟩
 ·go_enter Tryz.func160, Tryz.ntmps160
  go_wp2
  go_loopg [5] d.size (fun g s5 wr => ∃ k q : Nat, 1 ≤ k ∧ k ≤ d.size ∧ d.size - k ≤ g ∧ s5 = .int .i64 k ∧ wr = w.drewN q ∧ ∀ j, j < k → keeps d j = true)
  case atStart => exact ⟨1, 0, Nat.le_refl _, by omega, by omega, rfl, rfl, keeps_lt_one d⟩
  case round =>
   obtain ⟨k, q, hk1, hk, hg, rfl, rfl, hall⟩ := hrel
   by_cases hlt : k < d.size
   ·obtain ⟨c1, f1⟩ := hH k hlt
    obtain ⟨c0, f0⟩ := hH (k - 1) (by omega)
    have A : Aside (∀ j, j < k → keeps d j = true) := hall
    have HH : Aside (Holds encI w blk off d) := hH
    clear hall hH
    have hx := BD.out k hlt
    have hy := BD.out (k - 1) (by omega)
    generalize hxe : d[k]! = x at c1 hx
    generalize hye : d[k - 1]! = y at c0 hy
    have B : Aside (d[k]! = x ∧ d[k - 1]! = y) := ⟨hxe, hye⟩
    clear hxe hye
    have E : Aside (∀ n, Calls Tryz.prog 161 #[.int .i64 x, .int .i64 y, .pointer (some a)] (w.drewN n) fun e w' => e = .returned (.bool (decide (x = y))) ∧ ∃ q, w' = (w.drewN n).drewN q) := fun n => heq.out x y hx hy _ (by simpa using HA.out)
    have hk0 : (0 : Int) ≤ (k : Int) := Int.natCast_nonneg _
    have hk2 : (k : Int) < (d.size : Int) := by omega
    have hk3 : IntKind.i64.wrap ((k : Int) - 1) = ((k - 1 : Nat) : Int) := Ot _ _ (by omega) (by omega) (by omega)
    have hk4 : (0 : Int) ≤ ((k - 1 : Nat) : Int) := Int.natCast_nonneg _
    have hk5 : ((k - 1 : Nat) : Int) < (d.size : Int) := by omega
    clear hx hy
    by_cases hdup : x = y
    ·subst hdup
     go_wp2_with fail
     go_region_held3 (fun w' => w'.cell? ⟨blk, off + k, none⟩ = some (encI x) ∧ w'.cell? ⟨blk, off + (k - 1), none⟩ = some (encI x)) (go_keep) (first | (go_at_call 161; refine (E.out (q + 1)).mono ?_; rintro e w' ⟨rfl, q', rfl⟩))
     go_wp2
     clear c0 c1 f0 f1
     clear hk0 hk2 hk3 hk4 hk5 E
     go_loopg [5, 7] d.size (fun g s5 s7 wr => ∃ (kk k2 q2 : Nat) (dk : Array Int), s5 = .int .i64 kk ∧ s7 = .int .i64 k2 ∧ 1 ≤ k2 ∧ k + k2 ≤ d.size ∧ d.size - (k + k2) ≤ g ∧ wr = putRow encI (Sort.ahead w q2) blk off dk ∧ CompInv d (k + k2) kk dk)
     case atStart => exact ⟨k, 1, q + 1 + q', d, rfl, rfl, Nat.le_refl _, by omega, by omega, (putRow_self encI (Sort.ahead w (q + 1 + q')) blk off d (holds_ahead encI w (q + 1 + q') blk off d HH.out)).symm, CompInv.start A.out (keeps_neg (by omega) (by rw [B.out.1, B.out.2]))⟩
     case round =>
      obtain ⟨kk, k2, q2, dk, rfl, rfl, h1, hle, hg2, hwr, hI⟩ := hrel
      have hkk := hI.lt
      have hds := hI.size
      have hHk : Holds encI wr blk off dk := by rw [hwr]; exact holds_putRow encI _ blk off d dk (holds_ahead encI w q2 blk off d HH.out) hds
      have hA2 : wr.cell? a = some (.func (.func 104) #[] #[]) := by rw [hwr, cell?_putRow_other encI _ blk off dk a (.inl hab)]; simpa using HA.out
      have W2 : Aside (wr = putRow encI (Sort.ahead w q2) blk off dk) := hwr
      have I2 : Aside (CompInv d (k + k2) kk dk) := hI
      clear hwr
      by_cases hlt2 : k + k2 < d.size
      ·obtain ⟨cm, _⟩ := hHk (k + k2) (by omega)
       obtain ⟨cp, _⟩ := hHk (k + k2 - 1) (by omega)
       obtain ⟨ck, fk⟩ := hHk kk (by omega)
       rw [hI.high (k + k2) (by omega), show off + (k + k2) = off + k + k2 by omega] at cm
       rw [hI.high (k + k2 - 1) (by omega), show off + (k + k2 - 1) = off + k + (k2 - 1) by omega] at cp
       clear hHk hI
       have hu' := BD.out (k + k2) hlt2
       have hv' := BD.out (k + k2 - 1) (by omega)
       generalize hu : d[k + k2]! = u at cm hu'
       generalize hv : d[k + k2 - 1]! = v at cp hv'
       generalize dk[kk]! = old at ck
       have C : Aside (d[k + k2]! = u ∧ d[k + k2 - 1]! = v) := ⟨hu, hv⟩
       clear hu hv
       have E2 : Aside (Calls Tryz.prog 161 #[.int .i64 u, .int .i64 v, .pointer (some a)] wr.drew fun e w' => e = .returned (.bool (decide (u = v))) ∧ ∃ q, w' = wr.drew.drewN q) := heq.out u v hu' hv' _ (by simpa using hA2)
       clear hu' hv' hA2
       have hk0 : (0 : Int) ≤ (k2 : Int) := Int.natCast_nonneg _
       have hk2 : (k2 : Int) < ((d.size - k : Nat) : Int) := by omega
       have hk3 : IntKind.i64.wrap ((k2 : Int) - 1) = ((k2 - 1 : Nat) : Int) := Ot _ _ (by omega) (by omega) (by omega)
       have hk4 : (0 : Int) ≤ ((k2 - 1 : Nat) : Int) := Int.natCast_nonneg _
       have hk5 : ((k2 - 1 : Nat) : Int) < ((d.size - k : Nat) : Int) := by omega
       by_cases huv : u = v
       ·subst huv
        go_wp2_with fail
        go_region_held3 (fun w' => w'.cell? ⟨blk, off + k + k2, none⟩ = some (encI u) ∧ w'.cell? ⟨blk, off + k + (k2 - 1), none⟩ = some (encI u)) (go_keep) (first | (go_at_call 161; refine E2.out.mono ?_; rintro e w' ⟨rfl, q', rfl⟩))
        go_wp2
        go_roundg (d.size - (k + (k2 + 1)))
        case measure => omega
        case rel => exact ⟨kk, k2 + 1, q2 + (1 + q'), dk, rfl, by go_num, by omega, by omega, Nat.le_refl _, by rw [W2.out]; exact putRow_drewN encI w q2 (1 + q') blk off dk, I2.out.skip (keeps_neg (by omega) (by rw [C.out.1, C.out.2]))⟩
       ·go_wp2_with fail
        go_region_held3 (fun w' => w'.cell? ⟨blk, off + k + k2, none⟩ = some (encI u) ∧ w'.cell? ⟨blk, off + k + (k2 - 1), none⟩ = some (encI v)) (go_keep) (first | (go_at_call 161; refine E2.out.mono ?_; rintro e w' ⟨rfl, q', rfl⟩))
        go_wp2
        go_roundg (d.size - (k + (k2 + 1)))
        case measure => omega
        case rel => exact ⟨kk + 1, k2 + 1, q2 + (1 + q'), dk.setIfInBounds kk u, by go_num, by go_num, by omega, by omega, Nat.le_refl _, LN (by omega) (by rw [W2.out]; exact putRow_drewN encI w q2 (1 + q') blk off dk) u, by have := I2.out.keep hlt2 (keeps_pos (by rw [C.out.1, C.out.2]; exact huv)); rwa [C.out.1] at this⟩
      ·have hend : k + k2 = d.size := by omega
       have hcl : ∀ ty, (Builtin.clear_ #[51] ty #[.slice (some ⟨blk, off + kk, none⟩) (d.size - kk) (cap - kk)]).run Tryz.prog wr = .ok (.tuple #[]) (wr.setCells blk (off + kk) (List.replicate (d.size - kk) (encI 0))) :=
        fun ty => Lib.run_clear_slice wr _ _ ty _ t51 v3 rfl rfl blk (off + kk) _ _ (by omega) (fun j hj => by rw [show off + kk + j = off + (kk + j) by omega, (hHk (kk + j) (by omega)).1]; rfl) (fun j hj => by rw [show off + kk + j = off + (kk + j) by omega]; exact (hHk (kk + j) (by omega)).2)
       clear hHk hI
       go_wp2
       go_ret
       have hI := I2.out
       rw [hend] at hI
       refine ⟨by rw [hI.len]; rfl, q2, ?_⟩
       rw [hI.len, ← hI.done 0, ← putRow_setCells encI _ blk off _ dk kk (by simp; omega), ← W2.out, List.map_replicate]
    ·go_wp2_with fail
     go_region_held3 (fun w' => w'.cell? ⟨blk, off + k, none⟩ = some (encI x) ∧ w'.cell? ⟨blk, off + (k - 1), none⟩ = some (encI y)) (go_keep) (first | (go_at_call 161; refine (E.out (q + 1)).mono ?_; rintro e w' ⟨rfl, q', rfl⟩))
     go_wp2
     go_roundg (d.size - (k + 1))
     case measure => omega
     case rel =>
      refine ⟨k + 1, q + 1 + q', by omega, by omega, Nat.le_refl _, by go_num, rfl, fun j hj => ?_⟩
      by_cases e : j = k
      ·subst e
       exact keeps_pos (by rw [B.out.1, B.out.2]; exact hdup)
      ·exact A.out j (by omega)
   ·have : k = d.size := by omega
    subst this
    have HH : Aside (Holds encI w blk off d) := hH
    clear hH
    go_wp2
    go_ret
    obtain ⟨e1, e2⟩ := HS.out q hall
    exact ⟨by rw [e1]; rfl, q, e2⟩
theorem Ls (p : Option Addr) (cap : Nat) (a : Addr) (w : World) :
  Calls Tryz.prog 160 #[.slice p 0 cap, .func (.func 161) #[] #[.pointer (some a)]] w fun e w' => e = .returned (.slice p 0 cap) ∧ w' = w := by
 have mixed : Tryz.prog.follows .mixedOrders = true := by kernel_rfl
 have t51 : Tryz.prog.underlying 51 = some (.slice 3) := by kernel_rfl
 have t3 : Tryz.prog.underlying 3 = some (.int .i64) := by kernel_rfl
 go_enter Tryz.func160, Tryz.ntmps160
 go_wp2
 go_ret
 exact ⟨rfl, rfl⟩
end Go.Proofs.YtnecojeemmnnaaaGreatDoor
namespace Go.Proofs.YtnecojeemmnnaaaGreatDoor
open Go Go.SX Go.SX.Cal Go.Proofs Go.RowKit Go.Lib Go.Sort
def sL (W : World) (a : Addr) (x : ByteArray) : Prop := ∀ (j : Nat) u, ((cK x).map (Value.int .u8))[j]? = some u → W.cell? (a.add j) = some u
theorem zH {P : Program} {W : World} {a : Addr} {x : ByteArray} (h : sL W a x) (c : Nat) : (Extern.Bytes.bytesOf (.slice (some a) x.size c)).run P W = .ok x W := by
 have hl : (cK x).length = x.size := by simp [cK]
 have := qp (P := P) W (cK x) a ByteArray.empty h
 rw [hl] at this
 show (Extern.Bytes.loadBytes a x.size ByteArray.empty).run P W = _
 rw [this, foldl_push_bytes]
 congr 1
 have : (cK x).map (fun n => UInt8.ofNat n.toNat) = x.data.toList := by
  unfold cK
  rw [List.map_map]
  conv => rhs; rw [← List.map_id x.data.toList]
  refine List.map_congr_left fun b _ => ?_
  simp
 apply ByteArray.ext
 simp [ByteArray.empty, ByteArray.emptyWithCapacity, this]
 rfl
set_option maxRecDepth 100000 in
theorem f97 (x y : ByteArray) (a b : Addr) (c1 c2 : Nat) (W : World) (h1 : sL W a x) (h2 : sL W b y) :
  Calls Tryz.prog 97 #[.slice (some a) x.size c1, .slice (some b) y.size c2] W fun e w' => e = .returned (.int .i64 (jC x y)) ∧ w' = W := by
 have g1 := zH (P := Tryz.prog) h1 c1
 have g2 := zH (P := Tryz.prog) h2 c2
 have hx : (Extern.BytealgCompare.compare #[.slice (some a) x.size c1, .slice (some b) y.size c2]).run Tryz.prog W = .ok (.int .i64 (jC x y)) W := by
  show Sem.run Tryz.prog (do pure (goInt (Extern.BytealgCompare.cmp (← Extern.Bytes.bytesOf (.slice (some a) x.size c1)) (← Extern.Bytes.bytesOf (.slice (some b) y.size c2))))) W = _
  simp only [Sem.run_bind, g1, g2, Sem.run_pure, Result.andThen]
  rw [cmp_eq]
  rfl
 clear g1 g2 h1 h2
 go_enter Tryz.func97, Tryz.ntmps97
 go_wp2
 rw [run_callFunc_extern Tryz.func152 (by kernel_rfl) (by kernel_rfl) (by kernel_rfl) (e := Extern.BytealgCompare.compare) (by kernel_rfl), hx]
 simp only [Result.andThen]
 rw [Oper.upon_value]
 go_wp2
 go_ret
 exact ⟨rfl, rfl⟩
def ED (w : World) (s : ByteArray) : World := w.drew.alloc (.cells (bytesRow s (grownCap w s.size 0 5)) 5 ((bytesRow s (grownCap w s.size 0 5)).size, (bytesRow s (grownCap w s.size 0 5)).size + 1))
theorem zG (w : World) (s : ByteArray) : ∃ o, ED w s = grow (w.drewN 1) #[o] := ⟨_, by unfold ED; rw [alloc_eq_grow]; rfl⟩
theorem IK (w : World) (s : ByteArray) : sL (ED w s) ⟨w.heap.size, 0, none⟩ s := by
 intro j u hu
 rw [List.getElem?_map, Option.map_eq_some_iff] at hu
 obtain ⟨n, hn, rfl⟩ := hu
 unfold cK at hn
 rw [List.getElem?_map, Option.map_eq_some_iff] at hn
 obtain ⟨b, hb, rfl⟩ := hn
 have hlt : j < s.data.size := by have := (List.getElem?_eq_some_iff.1 hb).1; simpa using this
 have hb' : s.data[j]? = some b := by simpa using hb
 rw [add_lit]
 refine (ly (du w.drew _)).trans ?_
 unfold bytesRow
 rw [Nat.zero_add, Array.getElem?_append_left (by simpa using hlt)]
 simp [hb']
theorem sL.cv {w : World} {a : Addr} {x : ByteArray} (h : sL w a x) (hb : a.block < w.heap.size) (ha : a.spot = none) (s : ByteArray) : sL (ED w s) a x := by
 intro j u hu
 obtain ⟨o, ho⟩ := zG w s
 rw [ho, cell?_grow _ _ _ (by rw [nu]; exact hb)]
 exact h j u hu
set_option maxRecDepth 100000 in
theorem f96 (x y : ByteArray) (W : World) :
  Calls Tryz.prog 96 #[.string x, .string y] W fun e w' => e = .returned (.int .i64 (jC x y)) ∧ ∃ q os, w' = grow (W.drewN q) os := by
 have hcv : ∀ w s, (convert 9 26 (.string s)).run Tryz.prog w = .ok (.slice (some ⟨w.heap.size, 0, none⟩) s.size (grownCap w s.size 0 5)) (ED w s) := fun w s => run_bytes_of_string (P := Tryz.prog) w 9 26 5 s Tryz.underlying9 Tryz.underlying26 Tryz.underlying5
 have h := f97 x y ⟨W.heap.size, 0, none⟩ ⟨(ED W x).heap.size, 0, none⟩ (grownCap W x.size 0 5) (grownCap (ED W x) y.size 0 5) (ED (ED W x) y) ((IK W x).cv (by unfold ED; simp) rfl y) (IK _ y)
 have hw : ∃ q os, ED (ED W x) y = grow (W.drewN q) os := by
  obtain ⟨o1, e1⟩ := zG W x
  obtain ⟨o2, e2⟩ := zG (ED W x) y
  rw [e2, e1]
  exact ⟨1 + 1, #[o1] ++ #[o2], by rw [← grow_grow]; rfl⟩
 have H : Aside (∃ q os, ED (ED W x) y = grow (W.drewN q) os) := hw
 clear hw
 go_enter Tryz.func96, Tryz.ntmps96
 go_wp2_with (go_at_call 97; refine h.mono ?_; rintro e w' ⟨rfl, rfl⟩)
 go_ret
 exact ⟨rfl, H.out⟩
end Go.Proofs.YtnecojeemmnnaaaGreatDoor
namespace Go.Proofs.YtnecojeemmnnaaaGreatDoor
open Go Go.SX Go.SX.Cal Go.Proofs Go.RowKit Go.Lib Go.Sort
abbrev sE : ByteArray → Value := Value.string
set_option maxRecDepth 100000 in
theorem Pg (x y : ByteArray) (a : Addr) (W : World) (ha : W.cell? a = some (.func (.func 96) #[] #[])) :
  Calls Tryz.prog 150 #[.string x, .string y, .pointer (some a)] W fun e w' => e = .returned (.bool (decide (x = y))) ∧ ∃ q os, w' = grow (W.drewN q) os := by
 have h := fun W => f96 x y W
 have hd : decide (jC x y = 0) = decide (x = y) := by
  rw [decide_eq_decide]
  exact ⟨rT, fun e => by subst e; exact ur _⟩
 go_enter Tryz.func150, Tryz.ntmps150
 go_wp2_with (go_at_call 96; refine (h _).mono ?_; rintro e w' ⟨rfl, q, os, rfl⟩)
 go_ret
 refine ⟨?_, q, os, rfl⟩
 first | rw [← hd]; rfl | simp [← hd]
theorem MS {w wr : World} {n blk off : Nat} {os : Array Obj} {dk : Array ByteArray} {i : Nat} (hb : blk < w.heap.size) (hi : i < dk.size) (hwr : wr = sortWorld sE w blk off n dk os) (x : ByteArray) :
  SW sE w blk off (dk.setIfInBounds i x) (wr.setCell ⟨blk, off + i, none⟩ (.string x)) := by
 subst hwr
 refine ⟨n, os, ?_⟩
 unfold sortWorld
 rw [← putRow_grow sE (Sort.ahead w n) os blk off dk hb, putRow_set sE _ blk off dk i x hi, putRow_grow sE (Sort.ahead w n) os blk off _ hb]
end Go.Proofs.YtnecojeemmnnaaaGreatDoor
namespace Go.Proofs.YtnecojeemmnnaaaGreatDoor
open Go Go.SX Go.SX.Cal Go.Proofs Go.RowKit Go.Lib Go.Sort
theorem Iu {w wr : World} {blk off : Nat} {dk : Array ByteArray} (h : SW sE w blk off dk wr) (a : Addr) (hab : a.block ≠ blk) (has : a.block < w.heap.size) : wr.cell? a = w.cell? a := by
 obtain ⟨n, os, rfl⟩ := h
 unfold sortWorld
 rw [cell?_grow _ _ _ (by rw [size_putRow]; exact has), cell?_putRow_other sE _ blk off dk a (.inl hab)]
 rfl
theorem MA {w wr : World} {blk off : Nat} {dk : Array ByteArray} (hb : blk < w.heap.size) (h : SW sE w blk off dk wr) (kk n : Nat) (hk : kk + n ≤ dk.size) (z : ByteArray) {dz : Array ByteArray} (hz : ∀ W : World, (putRow sE W blk off dk).setCells blk (off + kk) ((List.replicate n z).map sE) = putRow sE W blk off dz) :
  SW sE w blk off dz (wr.setCells blk (off + kk) (List.replicate n (sE z))) := by
 obtain ⟨m, os, rfl⟩ := h
 refine ⟨m, os, ?_⟩
 unfold sortWorld
 rw [← putRow_grow sE (Sort.ahead w m) os blk off dk hb, ← List.map_replicate, hz, putRow_grow sE (Sort.ahead w m) os blk off _ hb]
theorem N0 (x y : Int) (e : x = y) (h1 : -9223372036854775808 ≤ y) (h2 : y < 9223372036854775808) : IntKind.i64.wrap x = y := by
 subst e; simp [IntKind.wrap, IntKind.bits, IntKind.signed]; omega
set_option maxHeartbeats 4000000 in
set_option maxRecDepth 1000000 in
theorem PK (blk off cap : Nat) (d : Array ByteArray) (w : World) (a : Addr) (ha : w.cell? a = some (.func (.func 96) #[] #[])) (hab : a.block ≠ blk) (has : a.block < w.heap.size) (hblk : blk < w.heap.size)
  (hH : Holds sE w blk off d) (hsz : d.size ≤ 9223372036854775807) (hcap : d.size ≤ cap) :
  Calls Tryz.prog 149 #[.slice (some ⟨blk, off, none⟩) d.size cap, .func (.func 150) #[] #[.pointer (some a)]] w fun e w' => e = .returned (.slice (some ⟨blk, off, none⟩) (compactUpTo d d.size).length cap) ∧ SW sE w blk off (compactUpTo d d.size ++ List.replicate (d.size - (compactUpTo d d.size).length) ByteArray.empty).toArray w' := by
 have mixed : Tryz.prog.follows .mixedOrders = true := by kernel_rfl
 have t82 : Tryz.prog.underlying 82 = some (.slice 9) := by kernel_rfl
 have t9 : Tryz.prog.underlying 9 = some .string := by kernel_rfl
 have v9 : ∀ w, (zeroValue 9).run Tryz.prog w = .ok (Value.string ByteArray.empty) w := fun w => by kernel_rfl
 have same : ∀ W, SW sE w blk off d W → (∀ j, j < d.size → keeps d j = true) → (compactUpTo d d.size).length = d.size ∧ SW sE w blk off (compactUpTo d d.size ++ List.replicate (d.size - (compactUpTo d d.size).length) ByteArray.empty).toArray W := by
  intro W hW hall
  have e : compactUpTo d d.size = d.toList := by rw [compactUpTo_all d _ hall, range_map_get]
  rw [e]
  refine ⟨by simp, ?_⟩
  simp only [Array.length_toList, Nat.sub_self, List.replicate_zero, List.append_nil, Array.toArray_toList]
  exact hW
 have HS : Aside (∀ W, SW sE w blk off d W → (∀ j, j < d.size → keeps d j = true) → (compactUpTo d d.size).length = d.size ∧ SW sE w blk off (compactUpTo d d.size ++ List.replicate (d.size - (compactUpTo d d.size).length) ByteArray.empty).toArray W) := same
 have R : Aside (Row1 sE w blk off d) := ⟨fun _ => rfl, hH, hblk⟩
 have S0 : Aside (SW sE w blk off d w) := SW.start hH
 have heq : Aside (∀ x y, ∀ W : World, W.cell? a = some (.func (.func 96) #[] #[]) → Calls Tryz.prog 150 #[.string x, .string y, .pointer (some a)] W fun e w' => e = .returned (.bool (decide (x = y))) ∧ ∃ q os, w' = grow (W.drewN q) os) := fun x y W hW => Pg x y a W hW
 have HA : Aside (∀ dk wr, SW sE w blk off dk wr → ∀ n os, (grow (wr.drewN n) os).cell? a = some (.func (.func 96) #[] #[])) := fun dk wr h n os => (Iu (h.grown n os) a hab has).trans ha
 clear same ha hH
 by_cases h2 : d.size < 2
 ·go_enter Tryz.func149, Tryz.ntmps149
  go_wp2
  go_ret
  obtain ⟨e1, e2⟩ := HS.out w S0.out (fun j hj => keeps_lt_one d j (by omega))
  exact ⟨by rw [e1]; rfl, e2⟩
 ·go_enter Tryz.func149, Tryz.ntmps149
  go_wp2
  go_loopg [5] d.size (fun g s5 wr => ∃ k : Nat, 1 ≤ k ∧ k ≤ d.size ∧ d.size - k ≤ g ∧ s5 = .int .i64 k ∧ Aside (SW sE w blk off d wr) ∧ Aside (∀ j, j < k → keeps d j = true))
  case atStart => exact ⟨1, Nat.le_refl _, by omega, by omega, rfl, S0, keeps_lt_one d⟩
  case round =>
   obtain ⟨k, hk1, hk, hg, rfl, S1, A⟩ := hrel
   by_cases hlt : k < d.size
   ·have c1 := S1.out.cl R.out rfl k hlt
    have c0 := S1.out.cl R.out rfl (k - 1) (by omega)
    generalize hxe : d[k]! = x at c1
    generalize hye : d[k - 1]! = y at c0
    have B : Aside (d[k]! = x ∧ d[k - 1]! = y) := ⟨hxe, hye⟩
    clear hxe hye
    have E : ∀ n os, Calls Tryz.prog 150 #[.string x, .string y, .pointer (some a)] (grow (wr.drewN n) os) fun e w' => e = .returned (.bool (decide (x = y))) ∧ ∃ q os', w' = grow ((grow (wr.drewN n) os).drewN q) os' := fun n os => heq.out x y _ (HA.out _ _ S1.out n os)
    have hk0 : (0 : Int) ≤ (k : Int) := Int.natCast_nonneg _
    have hk2 : (k : Int) < (d.size : Int) := by omega
    have hk3 : IntKind.i64.wrap ((k : Int) - 1) = ((k - 1 : Nat) : Int) := N0 _ _ (by omega) (by omega) (by omega)
    have hk4 : (0 : Int) ≤ ((k - 1 : Nat) : Int) := Int.natCast_nonneg _
    have hk5 : ((k - 1 : Nat) : Int) < (d.size : Int) := by omega
    by_cases hdup : x = y
    ·subst hdup
     go_wp2_with fail
     go_quiet_grown (first | (go_at_call 150; refine Calls.grown_of (E _ _)))
     have S2 : Aside (SW sE w blk off d (grow (wr.drewN nq) osq)) := S1.out.grown nq osq
     clear c1 c0 E S1
     generalize grow (wr.drewN nq) osq = w2 at S2 ⊢
     clear nq osq
     clear hk0 hk2 hk3 hk4 hk5
     go_wp2
     go_loopg [5, 7] d.size (fun g s5 s7 wr => ∃ (kk k2 : Nat) (dk : Array ByteArray), s5 = .int .i64 kk ∧ s7 = .int .i64 k2 ∧ 1 ≤ k2 ∧ k + k2 ≤ d.size ∧ d.size - (k + k2) ≤ g ∧ Aside (SW sE w blk off dk wr) ∧ Aside (CompInv d (k + k2) kk dk))
     case atStart => exact ⟨k, 1, d, rfl, rfl, Nat.le_refl _, by omega, by omega, S2, CompInv.start A.out (keeps_neg (by omega) (by rw [B.out.1, B.out.2]))⟩
     case round =>
      clear S2
      obtain ⟨kk, k2, dk, rfl, rfl, h1, hle, hg2, S3, I2⟩ := hrel
      have hkk := I2.out.lt
      have hds := I2.out.size
      by_cases hlt2 : k + k2 < d.size
      ·have cm := S3.out.cl R.out hds (k + k2) (by omega)
       have cp := S3.out.cl R.out hds (k + k2 - 1) (by omega)
       rw [I2.out.high (k + k2) (by omega), show off + (k + k2) = off + k + k2 by omega] at cm
       rw [I2.out.high (k + k2 - 1) (by omega), show off + (k + k2 - 1) = off + k + (k2 - 1) by omega] at cp
       generalize hu : d[k + k2]! = u at cm
       generalize hv : d[k + k2 - 1]! = v at cp
       have C : Aside (d[k + k2]! = u ∧ d[k + k2 - 1]! = v) := ⟨hu, hv⟩
       clear hu hv
       have E : ∀ n os, Calls Tryz.prog 150 #[.string u, .string v, .pointer (some a)] (grow (wr.drewN n) os) fun e w' => e = .returned (.bool (decide (u = v))) ∧ ∃ q os', w' = grow ((grow (wr.drewN n) os).drewN q) os' := fun n os => heq.out u v _ (HA.out _ _ S3.out n os)
       have hk0 : (0 : Int) ≤ (k2 : Int) := Int.natCast_nonneg _
       have hk2 : (k2 : Int) < ((d.size - k : Nat) : Int) := by omega
       have hk3 : IntKind.i64.wrap ((k2 : Int) - 1) = ((k2 - 1 : Nat) : Int) := N0 _ _ (by omega) (by omega) (by omega)
       have hk4 : (0 : Int) ≤ ((k2 - 1 : Nat) : Int) := Int.natCast_nonneg _
       have hk5 : ((k2 - 1 : Nat) : Int) < ((d.size - k : Nat) : Int) := by omega
       by_cases huv : u = v
       ·subst huv
        go_wp2_with fail
        go_quiet_grown (first | (go_at_call 150; refine Calls.grown_of (E _ _)))
        have S4 : Aside (SW sE w blk off dk (grow (wr.drewN nq) osq)) := S3.out.grown nq osq
        clear cm cp E S3
        generalize grow (wr.drewN nq) osq = w2 at S4 ⊢
        clear nq osq
        go_wp2
        go_roundg (d.size - (k + (k2 + 1)))
        case measure => omega
        case rel => exact ⟨kk, k2 + 1, dk, rfl, by go_num, by omega, by omega, Nat.le_refl _, S4, I2.out.skip (keeps_neg (by omega) (by rw [C.out.1, C.out.2]))⟩
       ·go_wp2_with fail
        go_quiet_grown (first | (go_at_call 150; refine Calls.grown_of (E _ _)))
        have S4 : Aside (SW sE w blk off dk (grow (wr.drewN nq) osq)) := S3.out.grown nq osq
        clear cm cp E S3
        generalize grow (wr.drewN nq) osq = w2 at S4 ⊢
        clear nq osq
        have cm := S4.out.c1 R.out hds (k + k2) (by omega)
        rw [I2.out.high (k + k2) (by omega), show off + (k + k2) = off + k + k2 by omega, C.out.1] at cm
        have ck := S4.out.c1 R.out hds kk (by omega)
        have fk := S4.out.f1 R.out hds kk (by omega)
        generalize dk[kk]! = old at ck
        go_wp2
        go_roundg (d.size - (k + (k2 + 1)))
        case measure => omega
        case rel =>
         obtain ⟨n, os, hw2⟩ := S4.out
         exact ⟨kk + 1, k2 + 1, dk.setIfInBounds kk u, by go_num, by go_num, by omega, by omega, Nat.le_refl _, MS hblk (by omega) hw2 u, by have := I2.out.keep hlt2 (keeps_pos (by rw [C.out.1, C.out.2]; exact huv)); rwa [C.out.1] at this⟩
      ·have hend : k + k2 = d.size := by omega
       have hcl : ∀ ty, (Builtin.clear_ #[82] ty #[.slice (some ⟨blk, off + kk, none⟩) (d.size - kk) (cap - kk)]).run Tryz.prog wr = .ok (.tuple #[]) (wr.setCells blk (off + kk) (List.replicate (d.size - kk) (sE ByteArray.empty))) :=
        fun ty => Lib.run_clear_slice wr _ _ ty _ t82 v9 rfl rfl blk (off + kk) _ _ (by omega) (fun j hj => by rw [show off + kk + j = off + (kk + j) by omega, S3.out.c1 R.out hds (kk + j) (by omega)]; rfl) (fun j hj => by rw [show off + kk + j = off + (kk + j) by omega]; exact S3.out.f1 R.out hds (kk + j) (by omega))
       go_wp2
       go_ret
       have hI := I2.out
       rw [hend] at hI
       refine ⟨by rw [hI.len]; rfl, ?_⟩
       rw [hI.len]
       refine MA hblk S3.out kk (d.size - kk) (by omega) ByteArray.empty (fun W => ?_)
       rw [← hI.done ByteArray.empty, ← putRow_setCells sE _ blk off _ dk kk (by simp; omega)]
    ·go_wp2_with fail
     go_quiet_grown (first | (go_at_call 150; refine Calls.grown_of (E _ _)))
     have S2 : Aside (SW sE w blk off d (grow (wr.drewN nq) osq)) := S1.out.grown nq osq
     clear c1 c0 E S1
     generalize grow (wr.drewN nq) osq = w2 at S2 ⊢
     clear nq osq
     go_wp2
     go_roundg (d.size - (k + 1))
     case measure => omega
     case rel =>
      refine ⟨k + 1, by omega, by omega, Nat.le_refl _, by go_num, S2, fun j hj => ?_⟩
      by_cases e : j = k
      ·subst e
       exact keeps_pos (by rw [B.out.1, B.out.2]; exact hdup)
      ·exact A.out j (by omega)
   ·have : k = d.size := by omega
    subst this
    go_wp2
    go_ret
    obtain ⟨e1, e2⟩ := HS.out _ S1.out A.out
    exact ⟨by rw [e1]; rfl, e2⟩
end Go.Proofs.YtnecojeemmnnaaaGreatDoor
namespace Go.Proofs.YtnecojeemmnnaaaGreatDoor
open Go Go.SX Go.SX.Cal Go.Sort Go.Lib Go.RowKit Go.Shelf Go.Proofs
def nmAtU (P : Program) (f : FuncId) : String := ((P.funcs[f]?).map (fun x => x.name)).getD default
theorem bearsAtU {P : Program} {f : FuncId} {B : Func} (h1 : (nmAtU P f == "runtime.NumGoroutine") = false) (h2 : P.funcs[f]? = some { B with name := nmAtU P f }) : Bears P f B := ⟨_, h1, h2⟩
def rsortFi : Ren where
  f := fun n => if n = 6 then 159 else if n = 15 then 187 else if n = 14 then 188 else if n = 28 then 211 else if n = 29 then 155 else if n = 20 then 212 else if n = 21 then 213 else if n = 22 then 214 else if n = 23 then 215 else if n = 24 then 216 else if n = 25 then 217 else if n = 26 then 218 else if n = 27 then 219 else if n = 46 then 233 else if n = 47 then 229 else if n = 48 then 230 else if n = 49 then 234 else if n = 50 then 235 else if n = 57 then 240 else n
  t := fun n => if n = 22 then 51 else if n = 24 then 3 else if n = 25 then 103 else if n = 3 then 3 else if n = 39 then 180 else if n = 0 then 0 else if n = 53 then 223 else if n = 55 then 142 else if n = 4 then 4 else if n = 46 then 217 else if n = 45 then 216 else if n = 50 then 178 else if n = 5 then 5 else if n = 9 then 9 else if n = 66 then 240 else if n = 70 then 134 else if n = 76 then 248 else if n = 77 then 249 else n
  g := fun n => n
set_option maxRecDepth 100000 in
theorem lsortFi : SlLaysF.n6 Tryz.prog rsortFi := by constructor <;> intros <;> first | kernel_rfl | exact bearsAtU (by kernel_rfl) (by kernel_rfl)
def rsortFs : Ren where
  f := fun n => if n = 6 then 148 else if n = 15 then 187 else if n = 14 then 186 else if n = 28 then 211 else if n = 29 then 155 else if n = 20 then 203 else if n = 21 then 204 else if n = 22 then 205 else if n = 23 then 206 else if n = 24 then 207 else if n = 25 then 208 else if n = 26 then 209 else if n = 27 then 210 else if n = 46 then 228 else if n = 47 then 229 else if n = 48 then 230 else if n = 49 then 231 else if n = 50 then 232 else if n = 57 then 239 else n
  t := fun n => if n = 22 then 82 else if n = 24 then 9 else if n = 25 then 104 else if n = 3 then 3 else if n = 39 then 180 else if n = 0 then 0 else if n = 53 then 223 else if n = 55 then 142 else if n = 4 then 4 else if n = 46 then 217 else if n = 45 then 216 else if n = 50 then 178 else if n = 5 then 5 else if n = 9 then 9 else if n = 66 then 240 else if n = 70 then 134 else if n = 76 then 248 else if n = 77 then 249 else n
  g := fun n => n
set_option maxRecDepth 100000 in
theorem lsortFs : SlLaysF.n6 Tryz.prog rsortFs := by constructor <;> intros <;> first | kernel_rfl | exact bearsAtU (by kernel_rfl) (by kernel_rfl)
def rcloneI : Ren where
  f := fun n => if n = 15 then 158 else n
  t := fun n => if n = 22 then 51 else if n = 3 then 3 else if n = 4 then 4 else n
  g := fun n => n
set_option maxRecDepth 100000 in
theorem lcloneI : Lays2.n15 Tryz.prog rcloneI := by constructor <;> intros <;> first | kernel_rfl | exact bearsAtU (by kernel_rfl) (by kernel_rfl)
def rcloneS : Ren where
  f := fun n => if n = 16 then 147 else n
  t := fun n => if n = 24 then 82 else if n = 9 then 9 else if n = 4 then 4 else n
  g := fun n => n
set_option maxRecDepth 100000 in
theorem lcloneS : Lays2.n16 Tryz.prog rcloneS := by constructor <;> intros <;> first | kernel_rfl | exact bearsAtU (by kernel_rfl) (by kernel_rfl)
set_option maxRecDepth 100000 in
set_option maxRecDepth 100000 in
set_option maxRecDepth 100000 in
set_option maxRecDepth 100000 in
theorem NT : Nj eI (Value.int .i64) := ⟨fun l => rfl, fun x => rfl⟩
theorem NX : Nj eS Value.string := ⟨fun l => rfl, fun x => rfl⟩
abbrev Bd : Type := { n : Int // -2000000000000000000 ≤ n ∧ n ≤ 2000000000000000000 }
instance : Inhabited Bd := ⟨⟨0, by omega⟩⟩
abbrev OM : Bd → Value := fun x => .int .i64 x.1
def Mc (x y : Bd) : Int := x.1 - y.1
theorem Ov (x y : Bd) : ltOf Mc x y = decide (x.val < y.val) := by
 show decide (x.val - y.val < 0) = _
 rw [decide_eq_decide]; omega
theorem My : SWO (ltOf Mc) where
 irrefl x := by rw [Ov, decide_eq_false_iff_not]; omega
 trans x y z h1 h2 := by rw [Ov, decide_eq_true_iff] at *; omega
 ntrans x y z h1 h2 := by rw [Ov, decide_eq_false_iff_not] at *; omega
theorem LJ (x y : Bd) (h1 : ltOf Mc x y = false) (h2 : ltOf Mc y x = false) : x = y := by
 rw [Ov, decide_eq_false_iff_not] at *; exact Subtype.ext (by omega)
theorem Fj : ∀ (l : List Int), (∀ x ∈ l, -2000000000000000000 ≤ x ∧ x ≤ 2000000000000000000) → ∃ q : List Bd, q.map Subtype.val = l
 | [], _ => ⟨[], rfl⟩
 | x :: l, h => by
  obtain ⟨q, hq⟩ := Fj l (fun y hy => h y (List.mem_cons_of_mem _ hy))
  exact ⟨⟨x, h x (List.mem_cons_self ..)⟩ :: q, by simp [hq]⟩
theorem G4 (w : World) (b : Nat) (d : Array Bd) : putRow OM w b 0 d = putRow (Value.int .i64) w b 0 (d.map Subtype.val) := by
 unfold putRow
 refine mapBlock_congr _ _ _ _ fun c _ _ _ => ?_
 apply Array.ext_getElem?
 intro k
 simp only [putCells, Array.getElem?_mapIdx, Array.size_map]
 cases c[k]? with
 | none => rfl
 | some y =>
  simp only [Option.map_some]
  by_cases hk : 0 ≤ k ∧ k < 0 + d.size
  ·rw [if_pos hk, if_pos hk]
   have hk2 : k < d.size := by omega
   simp [hk2]
  ·rw [if_neg hk, if_neg hk]
theorem Hn (q : List Bd) : (q.mergeSort fun x y => !(ltOf Mc) y x).map Subtype.val = (q.map Subtype.val).mergeSort fun x y => decide (x ≤ y) := by
 refine List.map_mergeSort fun a _ b _ => ?_
 rw [Ov]
 by_cases h : a.1 ≤ b.1
 ·rw [decide_eq_true h, decide_eq_false (by omega)]; rfl
 ·rw [decide_eq_false h, decide_eq_true (by omega)]; rfl
def jQ (p1 : List Int) : Option (Unit × List Int) :=
 cr (∀ x ∈ p1, -2000000000000000000 ≤ x ∧ x ≤ 2000000000000000000) <| cr (p1.length ≤ 4294967296) <| some ((), p1.mergeSort fun x y => decide (x ≤ y))
theorem I6 (W : World) (blk off size : Nat) : CmpReads Tryz.prog 104 #[] OM Mc blk off size W := fun m os dk hs x y =>
 (f104 x.1 y.1 x.2 y.2 _).mono fun _ _ ⟨he, hw⟩ => ⟨he, 0, by rw [hw]; rfl⟩
theorem sF (p1 : List Int) : CM Tryz.prog 159 [.one (.sl 0 1 0 p1.length), .one (.pv (.fn 104 []))] [.arr 1 (eI.els p1)] (jQ p1) (fun _ => .tp []) (fun r => [.arr 1 (eI.els r.2)]) := by
 intro r h
 unfold jQ at h
 obtain ⟨g1, h⟩ := dB h
 obtain ⟨g2, h⟩ := dB h
 obtain rfl := Option.some.inj h
 refine EX NT (by simp) (fun p cap w => AnyF.slices_SortFunc_none { lsortFi with } p cap _ w) fun b cap w hl hlt => ?_
 obtain ⟨q, hq⟩ := Fj p1 g1
 have hql : q.length = p1.length := by rw [← hq]; simp
 have hH : Holds OM w b 0 q.toArray := by
  intro j hj
  have hj1 : j < p1.toArray.size := by simpa [hql] using hj
  obtain ⟨a1, a2⟩ := hl j hj1
  refine ⟨?_, a2⟩
  rw [a1]
  have hj2 : j < q.length := by simpa using hj
  subst hq
  simp [hj2]
 have := Any.slices_SortFunc_total lsortFi OM (fun _ => rfl) Mc My 104 #[] b 0 cap q.toArray w (enters_of Tryz.func104 (by kernel_rfl) rfl) (I6 w b 0 _).lays hH hlt (by simp [hql]; omega) LJ
 rw [show q.toArray.size = p1.length by simp [hql]] at this
 refine this.mono ?_
 rintro e w' ⟨rfl, n, os, rfl⟩
 have hms := Hn q
 rw [hq] at hms
 refine ⟨rfl, n, os, ?_⟩
 unfold sortWorld
 rw [G4]
 congr 2
 rw [← hms]; simp
def iG (p1 : List Int) : Option (List Int) :=
 cr (∀ x ∈ p1, -2000000000000000000 ≤ x ∧ x ≤ 2000000000000000000) <| cr (p1.length ≤ 4294967296) <| some (compact p1)
theorem qI (p1 : List Int) : CM Tryz.prog 160 [.one (.sl 0 1 0 p1.length), .one (.fn 161 [.pv (.rp [[.fn 104 []]] 0 0)])] [.arr 1 (eI.els p1)] (iG p1) (fun r => vl eI r) (fun _ => [.dead]) := by
 intro r h
 unfold iG at h
 obtain ⟨g1, h⟩ := dB h
 obtain ⟨g2, h⟩ := dB h
 obtain rfl := Option.some.inj h
 refine yQ NT 0 (fun p cap a w => Ls p cap a w) fun b cap w a ha hab has hl hlt hcap => ?_
 have hsz : p1.toArray.size = p1.length := by simp
 have hbd : ∀ j, j < p1.toArray.size → -2000000000000000000 ≤ p1.toArray[j]! ∧ p1.toArray[j]! ≤ 2000000000000000000 := by
  intro j hj
  rw [getElem!_pos _ j hj]
  exact g1 _ (by simp)
 have := Pb b 0 cap p1.toArray w a ha hab hbd hl (by omega) (by omega)
 rw [hsz] at this
 refine this.mono ?_
 rintro e w' ⟨rfl, q, rfl⟩
 exact ⟨rfl, q, #[], by rw [grow_empty]; rfl⟩
theorem NI (x y : ByteArray) : ltOf jC x y = decide (jC x y < 0) := rfl
theorem MR : SWO (ltOf jC) where
 irrefl x := by rw [NI, ur]; rfl
 trans x y z h1 h2 := by rw [NI, decide_eq_true_iff] at *; exact oL h1 h2
 ntrans x y z h1 h2 := by
  rw [NI, decide_eq_false_iff_not] at *
  intro h
  by_cases e : jC y z = 0
  ·exact h1 (by rw [rT e]; exact h)
  ·have := lZ y z
   exact h1 (oL h (show jC z y < 0 by omega))
theorem M0 (x y : ByteArray) (h1 : ltOf jC x y = false) (h2 : ltOf jC y x = false) : x = y := by
 rw [NI, decide_eq_false_iff_not] at *
 have := lZ x y
 exact rT (by omega)
def B7 (x y : ByteArray) : Bool := decide (jC x y ≤ 0)
theorem MU : (fun x y => !(ltOf jC) y x) = B7 := by
 funext x y
 have := lZ x y
 unfold B7
 rw [NI]
 by_cases h : jC x y ≤ 0
 ·rw [decide_eq_true h, decide_eq_false (by omega)]; rfl
 ·rw [decide_eq_false h, decide_eq_true (by omega)]; rfl
def jM (p1 : List ByteArray) : Option (Unit × List ByteArray) := cr (p1.length ≤ 4294967296) <| some ((), p1.mergeSort B7)
theorem Hj (W : World) (blk off size : Nat) : CmpLays1 Tryz.prog 96 #[] Value.string jC blk off size W := fun m os dk hs x y => f96 x y _
theorem sP (p1 : List ByteArray) : CM Tryz.prog 148 [.one (.sl 0 1 0 p1.length), .one (.pv (.fn 96 []))] [.arr 1 (eS.els p1)] (jM p1) (fun _ => .tp []) (fun r => [.arr 1 (eS.els r.2)]) := by
 intro r h
 unfold jM at h
 obtain ⟨g2, h⟩ := dB h
 obtain rfl := Option.some.inj h
 refine EX NX (by simp) (fun p cap w => AnyF.slices_SortFunc_none { lsortFs with } p cap _ w) fun b cap w hl hlt => ?_
 have := Any.slices_SortFunc_total lsortFs Value.string (fun _ => rfl) jC MR 96 #[] b 0 cap p1.toArray w (enters_of Tryz.func96 (by kernel_rfl) rfl) (Hj w b 0 _) hl hlt (by simp; omega) M0
 rw [show p1.toArray.size = p1.length by simp, MU] at this
 refine this.mono ?_
 rintro e w' ⟨rfl, n, os, rfl⟩
 exact ⟨rfl, n, os, rfl⟩
def iN (p1 : List ByteArray) : Option (List ByteArray) := cr (p1.length ≤ 4294967296) <| some (compact p1)
set_option maxRecDepth 100000 in
theorem Lj (p : Option Addr) (cap : Nat) (a : Addr) (w : World) :
  Calls Tryz.prog 149 #[.slice p 0 cap, .func (.func 150) #[] #[.pointer (some a)]] w fun e w' => e = .returned (.slice p 0 cap) ∧ w' = w := by
 have mixed : Tryz.prog.follows .mixedOrders = true := by kernel_rfl
 have t82 : Tryz.prog.underlying 82 = some (.slice 9) := by kernel_rfl
 go_enter Tryz.func149, Tryz.ntmps149
 go_wp2
 go_ret
 exact ⟨rfl, rfl⟩
theorem qJ (p1 : List ByteArray) : CM Tryz.prog 149 [.one (.sl 0 1 0 p1.length), .one (.fn 150 [.pv (.rp [[.fn 96 []]] 0 0)])] [.arr 1 (eS.els p1)] (iN p1) (fun r => vl eS r) (fun _ => [.dead]) := by
 intro r h
 unfold iN at h
 obtain ⟨g2, h⟩ := dB h
 obtain rfl := Option.some.inj h
 refine yQ NX ByteArray.empty (fun p cap a w => Lj p cap a w) fun b cap w a ha hab has hl hlt hcap => ?_
 have := PK b 0 cap p1.toArray w a ha hab has hlt hl (by simp; omega) (by simpa using hcap)
 rw [show p1.toArray.size = p1.length by simp] at this
 refine this.mono ?_
 rintro e w' ⟨rfl, n, os, rfl⟩
 exact ⟨rfl, n, os, rfl⟩
def mh (p1 : List Int) : Option (List Int) := cr (p1 = []) <| some []
def mi (p1 : List ByteArray) : Option (List ByteArray) := cr (p1 = []) <| some []
theorem tr (p1 : List Int) : CT Tryz.prog 158 [vl eI p1] (mh p1) (fun r => vl eI r) := by
 intro r h
 unfold mh at h
 obtain ⟨g1, h⟩ := dB h
 subst g1
 obtain rfl := Option.some.inj h
 refine Az (fun w => (Any.slices_Clone_int_nil lcloneI 0 0 w).mono ?_) fun a cap w => (Any.slices_Clone_int_zero lcloneI a cap w).mono ?_
 ·rintro e w' ⟨rfl, rfl⟩
  exact ⟨_, rfl, .inl rfl, ⟨rfl, rfl, rfl, Nat.le_refl _, fun _ _ => rfl⟩⟩
 ·rintro e w' ⟨v, rfl, ho, hn, hb⟩
  refine ⟨_, rfl, ?_, ⟨hb.os, hb.tape, hb.output, hb.size, fun b hlt => hb.block b hlt⟩⟩
  rcases ho.2 with ⟨rfl, _⟩ | ⟨g, c2, cur, rfl, _⟩
  ·exact absurd rfl hn
  ·exact .inr ⟨_, _, rfl⟩
theorem tn (p1 : List ByteArray) : CT Tryz.prog 147 [vl eS p1] (mi p1) (fun r => vl eS r) := by
 intro r h
 unfold mi at h
 obtain ⟨g1, h⟩ := dB h
 subst g1
 obtain rfl := Option.some.inj h
 refine Az (fun w => (Any.slices_Clone_string_nil lcloneS 0 0 w).mono ?_) fun a cap w => (Any.slices_Clone_string_zero lcloneS a cap w).mono ?_
 ·rintro e w' ⟨rfl, rfl⟩
  exact ⟨_, rfl, .inl rfl, ⟨rfl, rfl, rfl, Nat.le_refl _, fun _ _ => rfl⟩⟩
 ·rintro e w' ⟨v, rfl, ho, hn, hb⟩
  refine ⟨_, rfl, ?_, ⟨hb.os, hb.tape, hb.output, hb.size, fun b hlt => hb.block b hlt⟩⟩
  rcases ho.2 with ⟨rfl, _⟩ | ⟨g, c2, cur, rfl, _⟩
  ·exact absurd rfl hn
  ·exact .inr ⟨_, _, rfl⟩
def kH (p1 : List Int) : Option Unit := cr (p1 = []) <| some ()
def kD (p1 : List ByteArray) : Option Unit := cr (p1 = []) <| some ()
theorem rC (p1 : List Int) : CT Tryz.prog 159 [vl eI p1, .one (.pv (.fn 104 []))] (kH p1) (fun _ => .tp []) := by
 intro r h
 unfold kH at h
 obtain ⟨g1, h⟩ := dB h
 subst g1
 exact De fun p cap w => AnyF.slices_SortFunc_none { lsortFi with } p cap _ w
theorem rm (p1 : List ByteArray) : CT Tryz.prog 148 [vl eS p1, .one (.pv (.fn 96 []))] (kD p1) (fun _ => .tp []) := by
 intro r h
 unfold kD at h
 obtain ⟨g1, h⟩ := dB h
 subst g1
 exact De fun p cap w => AnyF.slices_SortFunc_none { lsortFs with } p cap _ w
def jB (p1 : List Int) : Option (List Int) := cr (p1 = []) <| some []
def jD (p1 : List ByteArray) : Option (List ByteArray) := cr (p1 = []) <| some []
theorem pP (p1 : List Int) : CT Tryz.prog 160 [vl eI p1, .one (.fn 161 [.pv (.rp [[.fn 104 []]] 0 0)])] (jB p1) (fun r => vl eI r) := by
 intro r h
 unfold jB at h
 obtain ⟨g1, h⟩ := dB h
 subst g1
 obtain rfl := Option.some.inj h
 exact yl fun p cap a w => Ls p cap a w
theorem pW (p1 : List ByteArray) : CT Tryz.prog 149 [vl eS p1, .one (.fn 150 [.pv (.rp [[.fn 96 []]] 0 0)])] (jD p1) (fun r => vl eS r) := by
 intro r h
 unfold jD at h
 obtain ⟨g1, h⟩ := dB h
 subst g1
 obtain rfl := Option.some.inj h
 exact yl fun p cap a w => Lj p cap a w
end Go.Proofs.YtnecojeemmnnaaaGreatDoor
namespace Go.Proofs.YtnecojeemmnnaaaGreatDoor
open Go.SX Go
set_option maxRecDepth 100000
set_option maxHeartbeats 8000000
def oZ (x1 : Bool) : Option Bool := some x1
def qr (p1 : ae) : Option Bool := aq (p1.kind != 6) (oZ (p1.kind != 7)) (oZ false)
theorem wQ (p1 : ae) : CT Tryz.prog 143 [.ag [ci p1.kind, ci p1.scale, cl aI p1.fields]] (qr p1) vb :=
  iS 11 [] Tryz.f143 fun r => (uQ (kS Tryz.f143 [1,0] 1) fun K2 hK2 => have hJ1 : ∀ (x1 : Bool), oZ x1 = some r → K2.p [(2, vb x1)] [] := fun x1 h => hK2 h (uR .ret xF); (uC (uJ (hJ1 (p1.kind != 7))) (uJ (hJ1 false))))
def fo (x1 : Bool) : Option Bool := some x1
def pN (p1 : Int) : Option Bool := aq (decide (p1 < (97 : Int))) (aq (decide (p1 < (48 : Int))) (fo (p1 != 95)) (aq (decide ((57 : Int) < p1)) (fo (p1 != 95)) (fo false))) (aq (decide ((122 : Int) < p1)) (aq (decide (p1 < (48 : Int))) (fo (p1 != 95)) (aq (decide ((57 : Int) < p1)) (fo (p1 != 95)) (fo false))) (fo false))
theorem zg (p1 : Int) : CT Tryz.prog 200 [vk .i32 p1] (pN p1) vb :=
  iS 21 [] Tryz.f200 fun r => (uQ (kS Tryz.f200 [1,0] 1) fun K2 hK2 => have hJ1 : ∀ (x1 : Bool), fo x1 = some r → K2.p [(2, vb x1)] [] := fun x1 h => hK2 h (uR .ret xF); (uC (uC (uJ (hJ1 (p1 != 95))) (uC (uJ (hJ1 (p1 != 95))) (uJ (hJ1 false)))) (uC (uC (uJ (hJ1 (p1 != 95))) (uC (uJ (hJ1 (p1 != 95))) (uJ (hJ1 false)))) (uJ (hJ1 false)))))
def i5 : Option Int := some (-1 : Int)
def bt (p1 : ByteArray) (p2 : Bool) : Nat → Nat → Option Int
 | 0, _ => none
 | k1 + 1, z1 => aq (decide (z1 < p1.size)) (aw (pN (Int.ofNat (Utf8.decode p1 z1).1)) fun r1 => aq (r1 == p2) (some (Int.ofNat z1)) ((bt p1 p2 k1) (z1 + (Utf8.decode p1 z1).2))) (i5)
def fZ (p1 : ByteArray) (p2 : Bool) : Option Int := bt p1 p2 aK 0
theorem mG (p1 : ByteArray) (p2 : Bool) : CT Tryz.prog 238 [vs p1, .one (.pv (.fn 200 [])), vb p2] (fZ p1 p2) vi :=
  iS 21 [] Tryz.f238 fun r => (uQ (kS Tryz.f238 [1,0] 1) fun K2 hK2 => have hJ1 : ∀ (_ : Unit), i5 = some r → K2.p [] [] := fun _ h => hK2 h (uR .ret xF); (PU p1 (uO (cd Tryz.f238 [1,0,1,0,0]) (kS Tryz.f238 [1,0,1,0] 1) fun R1 b1 => have hL1 : ∀ (k1 z1 : Nat), bt p1 p2 k1 z1 = some r → (R1 k1).p [(1, .one (.pv (.fn 200 []))), (2, vb p2), (10, .one (.pt 0 0 0 0))] [.raw (.stringIter p1 z1)] := by intro k1; induction k1 with | zero => intro z1 h; exact iE (bt.eq_1 ..) h | succ k1 ih1 => intro z1 h; exact b1 h (uU (bt.eq_2 ..) (Qs 0 (fun b5 => (uT (uP (zg _) fun r1 _ => (uC (uR .ret (xN (xN xF))) (uJ (ih1 (z1 + (Utf8.decode p1 z1).2))))))) (fun b5 => (uF (uR (.exit 0) (xM (uJ (hJ1 ()))))))))
 uE (hL1 aK 0))))
def fY (p1 : ByteArray) : Option Int := aw (fZ p1 true) fun r1 => some r1
theorem mt (p1 : ByteArray) : CT Tryz.prog 226 [vs p1, .one (.pv (.fn 200 []))] (fY p1) vi :=
  iS 8 [] Tryz.f226 fun r => (uP (mG _ _) fun r1 _ => (uR .ret xF))
def eT (p1 : ByteArray) : Option Bool := aw (fY p1) fun r1 => some (decide ((0 : Int) ≤ r1))
theorem lC (p1 : ByteArray) : CT Tryz.prog 201 [vs p1, .one (.pv (.fn 200 []))] (eT p1) vb :=
  iS 9 [] Tryz.f201 fun r => (uP (mt _) fun r1 _ => (uR .ret xF))
def lc (p1 : ByteArray) (x1 : Bool) : Option Bool := aq x1 (some false) (aw (eT p1) fun r1 => some (!r1))
def sS (p1 : ByteArray) : Option Bool := aq (p1.toList == (ByteArray.mk #[]).toList) (lc p1 true) (aq (decide ((24 : Int) < (p1.size : Int))) (lc p1 true) (cr (0 ≤ (0 : Int) ∧ (0 : Int) < (p1.size : Int)) <| aw (some (decide (((p1.data.toList.getD (0 : Int).toNat 0).toNat : Int) < (97 : Int)))) fun y1 => aq y1 (lc p1 true) (cr (0 ≤ (0 : Int) ∧ (0 : Int) < (p1.size : Int)) <| aw (some (decide ((122 : Int) < ((p1.data.toList.getD (0 : Int).toNat 0).toNat : Int)))) fun y2 => lc p1 y2)))
theorem BX (p1 : ByteArray) : CT Tryz.prog 183 [vs p1] (sS p1) vb :=
  iS 25 [] Tryz.f183 fun r => (uQ (kS Tryz.f183 [1,0,0] 2) fun K3 hK3 => have hJ1 : ∀ (x1 : Bool), lc p1 x1 = some r → K3.p [(0, vs p1), (20, vb x1)] [] := fun x1 h => hK3 h (uC (uR .ret xF) (uP (lC _) fun r1 _ => (uR .ret xF))); (uC (uJ (hJ1 true)) (uC (uJ (hJ1 true)) (uG (uY 14 vb fun y1 => (uC (uJ (hJ1 true)) (uG (uY 19 vb fun y2 => (uJ (hJ1 y2))))))))))
def qn (p1 : aV) : Option Bool := aw (sS p1.name) fun r1 => some (!r1)
theorem xz (p1 : aV) : CT Tryz.prog 182 [.ag [ci p1.id, uK p1.name, cb p1.need, ci p1.type.kind, ci p1.type.scale, cl aI p1.type.fields]] (qn p1) vb :=
  iS 7 [] Tryz.f182 fun r => (uP (BX _) fun r1 _ => (uR .ret xF))
def dv : Option Int := some (-1 : Int)
def ak (p1 : (List aV)) : Nat → Int → Option Int
 | 0, _ => none
 | k1 + 1, x1 => aq (decide (x1 < (p1.length : Int))) (aw (at? p1 x1) fun e1 => aw (qn e1) fun r1 => aq r1 (some x1) ((ak p1 k1) (IntKind.i64.wrap (x1 + 1)))) (dv)
def bY (p1 : (List aV)) : Option Int := ak p1 aK (0 : Int)
theorem iq (p1 : (List aV)) : CT Tryz.prog 199 [vl aI p1, .one (.pv (.fn 182 []))] (bY p1) vi :=
  iS 19 [] Tryz.f199 fun r => (uQ (kS Tryz.f199 [1,0] 1) fun K2 hK2 => have hJ1 : ∀ (_ : Unit), dv = some r → K2.p [] [] := fun _ h => hK2 h (uR .ret xF); (uN aI p1 (uO (cd Tryz.f199 [1,0,1,0,0]) (kS Tryz.f199 [1,0,1,0] 1) fun R1 b1 => have hL1 : ∀ (k1 : Nat) (x1 : Int), ak p1 k1 x1 = some r → (R1 k1).p [(0, vl aI p1), (1, .one (.pv (.fn 182 []))), (7, vi (p1.length : Int)), (8, vi x1)] [] := by intro k1; induction k1 with | zero => intro x1 h; exact iE (ak.eq_1 ..) h | succ k1 ih1 => intro x1 h; exact b1 h (uU (ak.eq_2 ..) (uC (uL aI fun e1 a10 => (uP (xz _) fun r1 _ => (uC (uR .ret (xN (xN xF))) (uJ (ih1 (IntKind.i64.wrap (x1 + 1))))))) (uR (.exit 0) (xM (uJ (hJ1 ()))))))
 uE (hL1 aK (0 : Int)))))
def bq (p1 : (List aV)) : Option Bool := aw (bY p1) fun r1 => some (decide ((0 : Int) ≤ r1))
theorem gP (p1 : (List aV)) : CT Tryz.prog 181 [vl aI p1, .one (.pv (.fn 182 []))] (bq p1) vb :=
  iS 9 [] Tryz.f181 fun r => (uP (iq _) fun r1 _ => (uR .ret xF))
def qf (p1 p2 : aV) : Option (Bool × aV) := some ((p1.name.toList == p2.name.toList), p2)
theorem xC (p1 p2 : aV) : CM Tryz.prog 184 [.ag [ci p1.id, uK p1.name, cb p1.need, ci p1.type.kind, ci p1.type.scale, cl aI p1.type.fields], .one (.pt 0 0 0 0)] [.box [ci p2.id, uK p2.name, cb p2.need, ci p2.type.kind, ci p2.type.scale, cl aI p2.type.fields]] (qf p1 p2) (fun r => vb r.1) (fun r => [.box [ci r.2.id, uK r.2.name, cb r.2.need, ci r.2.type.kind, ci r.2.type.scale, cl aI r.2.type.fields]]) :=
  nc 1 9 [] Tryz.f184 fun r => (uR .ret iW)
def bO (z7 : Int) (z8 : ByteArray) (z9 : Bool) (z10 z11 : Int) (z12 : List aV) : Option (Int × aV) := some ((-1 : Int), (rG.mk z7 z8 z9 (ae.mk z10 z11 z12)))
def af (p1 : (List aV)) : Nat → Int → ByteArray → Bool → Int → Int → List aV → Int → Option (Int × aV)
 | 0, _, _, _, _, _, _, _ => none
 | k1 + 1, z1, z2, z3, z4, z5, z6, x1 => aq (decide (x1 < (p1.length : Int))) (aw (at? p1 x1) fun e1 => aw (qf e1 (rG.mk z1 z2 z3 (ae.mk z4 z5 z6))) fun r1 => aq r1.1 (some (x1, r1.2)) ((af p1 k1) r1.2.id r1.2.name r1.2.need r1.2.type.kind r1.2.type.scale r1.2.type.fields (IntKind.i64.wrap (x1 + 1)))) (bO z1 z2 z3 z4 z5 z6)
def bX (p1 : (List aV)) (p2 : aV) : Option (Int × aV) := af p1 aK p2.id p2.name p2.need p2.type.kind p2.type.scale p2.type.fields (0 : Int)
theorem il (p1 : (List aV)) (p2 : aV) : CM Tryz.prog 199 [vl aI p1, .one (.fn 184 [.pt 0 0 0 0])] [.box [ci p2.id, uK p2.name, cb p2.need, ci p2.type.kind, ci p2.type.scale, cl aI p2.type.fields]] (bX p1 p2) (fun r => vi r.1) (fun r => [.box [ci r.2.id, uK r.2.name, cb r.2.need, ci r.2.type.kind, ci r.2.type.scale, cl aI r.2.type.fields]]) :=
  nc 1 19 [] Tryz.f199 fun r => (uQ (kS Tryz.f199 [1,0] 1) fun K2 hK2 => have hJ1 : ∀ (z7 : Int) (z8 : ByteArray) (z9 : Bool) (z10 z11 : Int) (z12 : List aV), bO z7 z8 z9 z10 z11 z12 = some r → K2.p [] [.box [ci z7, uK z8, cb z9, ci z10, ci z11, cl aI z12]] := fun z7 z8 z9 z10 z11 z12 h => hK2 h (uR .ret iW); (uN aI p1 (uO (cd Tryz.f199 [1,0,1,0,0]) (kS Tryz.f199 [1,0,1,0] 1) fun R1 b1 => have hL1 : ∀ (k1 : Nat) (z1 : Int) (z2 : ByteArray) (z3 : Bool) (z4 z5 : Int) (z6 : List aV) (x1 : Int), af p1 k1 z1 z2 z3 z4 z5 z6 x1 = some r → (R1 k1).p [(0, vl aI p1), (1, .one (.fn 184 [.pt 0 0 0 0])), (7, vi (p1.length : Int)), (8, vi x1)] [.box [ci z1, uK z2, cb z3, ci z4, ci z5, cl aI z6]] := by intro k1; induction k1 with | zero => intro z1 z2 z3 z4 z5 z6 x1 h; exact iE (af.eq_1 ..) h | succ k1 ih1 => intro z1 z2 z3 z4 z5 z6 x1 h; exact b1 h (uU (af.eq_2 ..) (uC (uL aI fun e1 a10 => (km true [0] (xC _ _) fun r1 _ => (uC (uR .ret (xN (xN iW))) (uJ (ih1 r1.2.id r1.2.name r1.2.need r1.2.type.kind r1.2.type.scale r1.2.type.fields (IntKind.i64.wrap (x1 + 1))))))) (uR (.exit 0) (xM (uJ (hJ1 z1 z2 z3 z4 z5 z6))))))
 uE (hL1 aK p2.id p2.name p2.need p2.type.kind p2.type.scale p2.type.fields (0 : Int)))))
def br (p1 : (List aV)) (p2 : aV) : Option (Bool × aV) := aw (bX p1 p2) fun r1 => some ((decide ((0 : Int) ≤ r1.1)), r1.2)
theorem gV (p1 : (List aV)) (p2 : aV) : CM Tryz.prog 181 [vl aI p1, .one (.fn 184 [.pt 0 0 0 0])] [.box [ci p2.id, uK p2.name, cb p2.need, ci p2.type.kind, ci p2.type.scale, cl aI p2.type.fields]] (br p1 p2) (fun r => vb r.1) (fun r => [.box [ci r.2.id, uK r.2.name, cb r.2.need, ci r.2.type.kind, ci r.2.type.scale, cl aI r.2.type.fields]]) :=
  nc 1 9 [] Tryz.f181 fun r => (km true [0] (il _ _) fun r1 _ => (uR .ret iW))
def m5 (x1 : Bool) : Option Int := aq x1 (some (1 : Int)) (some (0 : Int))
def tk : Option Int := some (0 : Int)
def dP (p1 : ae) : Nat → Int → Option Int
 | 0, _ => none
 | k1 + 1, x2 => aq (decide (x2 < (p1.fields.length : Int))) (aw (at? p1.fields x2) fun e2 => cr (0 ≤ (0 : Int) ∧ (0 : Int) ≤ x2 ∧ x2 ≤ (p1.fields.length : Int)) <| aw (br ((p1.fields.drop (0 : Int).toNat).take (x2.toNat - (0 : Int).toNat)) e2) fun r2 => aq r2.1 (some (5 : Int)) ((dP p1 k1) (IntKind.i64.wrap (x2 + 1)))) (tk)
def pO (p1 : ae) : Option Int := aq (p1.kind == 6) (aq ((p1.fields.length : Int) != 1) (m5 true) (aw (at? p1.fields (0 : Int)) fun e1 => m5 (!(e1.name.toList == (ByteArray.mk #[]).toList)))) (aq (p1.kind != 7) (aq (decide ((0 : Int) < (p1.fields.length : Int))) (some (1 : Int)) (some (0 : Int))) (aq ((p1.fields.length : Int) == 0) (some (1 : Int)) (aw (bq p1.fields) fun r1 => aq r1 (some (4 : Int)) (dP p1 aK (0 : Int)))))
theorem zb (p1 : ae) : CT Tryz.prog 144 [.ag [ci p1.kind, ci p1.scale, cl aI p1.fields]] (pO p1) vi :=
  iS 52 [4] Tryz.f144 fun r => (uC (uQ (kS Tryz.f144 [1,0,0,1,0,0,0] 4) fun K6 hK6 => have hJ1 : ∀ (x1 : Bool), m5 x1 = some r → K6.p [(20, vb x1)] [] := fun x1 h => hK6 h (uC (uR .ret xF) (uR .ret xF)); (uN aI p1.fields (uC (uJ (hJ1 true)) (uL aI fun e1 a8 => (uJ (hJ1 (!(e1.name.toList == (ByteArray.mk #[]).toList)))))))) (uC (uN aI p1.fields (uC (uR .ret xF) (uR .ret xF))) (uN aI p1.fields (uC (uR .ret xF) (uP (gP _) fun r1 _ => (uC (uR .ret xF) (uQ (kS Tryz.f144 [1,1,1,0] 1) fun K27 hK27 => have hJ2 : ∀ (_ : Unit), tk = some r → K27.p [] [] := fun _ h => hK27 h (uR .ret xF); (uN aI p1.fields (uO (cd Tryz.f144 [1,1,1,0,1,0,0]) (kS Tryz.f144 [1,1,1,0,1,0] 1) fun R1 b1 => have hL1 : ∀ (k1 : Nat) (x2 : Int), dP p1 k1 x2 = some r → (R1 k1).p [(1, .one (.pv (.rp [[pi p1.kind, pi p1.scale, .ro (aI.els p1.fields)]] 0 0))), (38, vl aI p1.fields), (39, vi (p1.fields.length : Int)), (40, vi x2)] [] := by intro k1; induction k1 with | zero => intro x2 h; exact iE (dP.eq_1 ..) h | succ k1 ih1 => intro x2 h; exact b1 h (uU (dP.eq_2 ..) (uC (uL aI fun e2 a34 => (uX aI (km true [0] (gV _ _) fun r2 _ => (uC (uR .ret (xN (xN xF))) (uJ (ih1 (IntKind.i64.wrap (x2 + 1)))))))) (uR (.exit 1) (xM (uJ (hJ2 ()))))))
 uE (hL1 aK (0 : Int)))))))))))
def nZ (z3 : Int) : Option (Int × cC) := some ((0 : Int), (cC.mk z3))
def cf (q_value_checker_check : ae → Int → cC → Option (Int × cC)) (p1 : ae) (p2 : Int) : Nat → Int → Int → Option (Int × cC)
 | 0, _, _ => none
 | k1 + 1, z2, x4 => aq (decide (x4 < (p1.fields.length : Int))) (aw (at? p1.fields x4) fun e1 => aw (q_value_checker_check e1.type (IntKind.i64.wrap (p2 + 1)) (cC.mk z2)) fun r4 => aq (r4.1 != 0) (some (r4.1, r4.2)) ((cf q_value_checker_check p1 p2 k1) r4.2.leaves (IntKind.i64.wrap (x4 + 1)))) (nZ z2)
def dH (q_value_checker_check : ae → Int → cC → Option (Int × cC)) (p1 : ae) (p2 z1 : Int) (x3 : Bool) : Option (Int × cC) := aq x3 (some ((1 : Int), (cC.mk z1))) (aw (pO p1) fun r3 => aq (r3 != 0) (some (r3, (cC.mk z1))) (cf q_value_checker_check p1 p2 aK z1 (0 : Int)))
def ja (q_value_checker_check : ae → Int → cC → Option (Int × cC)) (p1 : ae) (p2 z1 : Int) (x2 : Bool) : Option (Int × cC) := aq x2 (some ((3 : Int), (cC.mk z1))) (aq (p1.scale != 0) (aq (p1.kind != 3) (dH q_value_checker_check p1 p2 z1 true) (aq (decide (p1.scale < (0 : Int))) (dH q_value_checker_check p1 p2 z1 true) (dH q_value_checker_check p1 p2 z1 (decide ((12 : Int) < p1.scale))))) (dH q_value_checker_check p1 p2 z1 false))
def eE (q_value_checker_check : ae → Int → cC → Option (Int × cC)) (p1 : ae) (p2 z1 : Int) : Option (Int × cC) := aq (decide (p1.kind < (1 : Int))) (ja q_value_checker_check p1 p2 z1 true) (ja q_value_checker_check p1 p2 z1 (decide ((7 : Int) < p1.kind)))
def eJ (q_value_checker_check : ae → Int → cC → Option (Int × cC)) (p1 : ae) (p2 : Int) (p3 : cC) (x1 : Bool) : Option (Int × cC) := aq x1 (some ((7 : Int), p3)) (aw (qr p1) fun r2 => aq r2 (eE q_value_checker_check p1 p2 (IntKind.i64.wrap (p3.leaves + 1))) (eE q_value_checker_check p1 p2 p3.leaves))
def aY : Nat → ae → Int → cC → Option (Int × cC)
 | 0, _, _, _ => none
 | k0 + 1, p1, p2, p3 => aq (decide ((4 : Int) < p2)) (eJ (aY k0) p1 p2 p3 true) (aw (qr p1) fun r1 => aq r1 (eJ (aY k0) p1 p2 p3 (p3.leaves == 40)) (eJ (aY k0) p1 p2 p3 false))
abbrev ei (p1 : ae) : List PV := [pi p1.kind, pi p1.scale, .ro (aI.els p1.fields)]
theorem ol : ∀ (k0 : Nat) (p1 : ae) (p2 : Int) (p3 : cC), CM Tryz.prog 89 [.one (.pt 0 0 0 0), .ag [ci p1.kind, ci p1.scale, cl aI p1.fields], vi p2] [.box [ci p3.leaves]] (aY k0 p1 p2 p3) (fun r => vi r.1) (fun r => [.box [ci r.2.leaves]])
  | 0, _, _, _ => KF (aY.eq_1 ..)
  | k0 + 1, p1, p2, p3 => nc 1 83 [9] Tryz.f89 fun r => (uU (aY.eq_2 ..) (uQ (kS Tryz.f89 [1,0,0] 2) fun K3 hK3 => have hJ1 : ∀ (x1 : Bool), eJ (aY k0) p1 p2 p3 x1 = some r → K3.p [(0, .one (.pt 0 0 0 0)), (2, vi p2), (4, .one (.pv (.rp [(ei p1)] 0 0))), (23, vb x1)] [.box [ci p3.leaves]] := fun x1 h => hK3 h (uC (uR .ret iW) (uQ (kS Tryz.f89 [1,1,0] 1) fun K9 hK9 => have hJ2 : ∀ (z1 : Int), eE (aY k0) p1 p2 z1 = some r → K9.p [(0, .one (.pt 0 0 0 0)), (2, vi p2), (4, .one (.pv (.rp [(ei p1)] 0 0)))] [.box [ci z1]] := fun z1 h => hK9 h (uQ (kS Tryz.f89 [1,1,1,0,0,0] 3) fun K14 hK14 => have hJ3 : ∀ (x2 : Bool), ja (aY k0) p1 p2 z1 x2 = some r → K14.p [(0, .one (.pt 0 0 0 0)), (2, vi p2), (4, .one (.pv (.rp [(ei p1)] 0 0))), (33, vb x2)] [.box [ci z1]] := fun x2 h => hK14 h (uC (uR .ret iW) (uQ (kS Tryz.f89 [1,1,1,0,0,1,1,0] 3) fun K18 hK18 => have hJ4 : ∀ (x3 : Bool), dH (aY k0) p1 p2 z1 x3 = some r → K18.p [(0, .one (.pt 0 0 0 0)), (2, vi p2), (4, .one (.pv (.rp [(ei p1)] 0 0))), (42, vb x3)] [.box [ci z1]] := fun x3 h => hK18 h (uC (uR .ret iW) (uP (zb _) fun r3 _ => (uC (uR .ret iW) (uQ (kS Tryz.f89 [1,1,1,1,1,0] 1) fun K30 hK30 => have hJ5 : ∀ (z3 : Int), nZ z3 = some r → K30.p [] [.box [ci z3]] := fun z3 h => hK30 h (uR .ret iW); (uN aI p1.fields (uO (cd Tryz.f89 [1,1,1,1,1,0,1,0,0]) (kS Tryz.f89 [1,1,1,1,1,0,1,0] 1) fun R1 b1 => have hL1 : ∀ (k1 : Nat) (z2 x4 : Int), cf (aY k0) p1 p2 k1 z2 x4 = some r → (R1 k1).p [(0, .one (.pt 0 0 0 0)), (2, vi p2), (67, vl aI p1.fields), (68, vi (p1.fields.length : Int)), (69, vi x4)] [.box [ci z2]] := by intro k1; induction k1 with | zero => intro z2 x4 h; exact iE (cf.eq_1 ..) h | succ k1 ih1 => intro z2 x4 h; exact b1 h (uU (cf.eq_2 ..) (uC (uL aI fun e1 a37 => (km true [0] (ol k0 _ _ _) fun r4 _ => (uC (uR .ret (xN (xN iW))) (uJ (ih1 r4.2.leaves (IntKind.i64.wrap (x4 + 1))))))) (uR (.exit 1) (xM (uJ (hJ5 z2))))))
 uE (hL1 aK z1 (0 : Int)))))))); (uC (uC (uJ (hJ4 true)) (uC (uJ (hJ4 true)) (uJ (hJ4 (decide ((12 : Int) < p1.scale)))))) (uJ (hJ4 false))))); (uC (uJ (hJ3 true)) (uJ (hJ3 (decide ((7 : Int) < p1.kind)))))); (uP (wQ _) fun r2 _ => (uC (uJ (hJ2 (IntKind.i64.wrap (p3.leaves + 1)))) (uJ (hJ2 p3.leaves)))))); (uC (uJ (hJ1 true)) (uP (wQ _) fun r1 _ => (uC (uJ (hJ1 (p3.leaves == 40))) (uJ (hJ1 false)))))))
def kO (p1 : ae) : Option Int := aw (aY aK p1 (1 : Int) (cC.mk (0 : Int))) fun r1 => some r1.1
theorem qN (p1 : ae) : CT Tryz.prog 40 [.ag [ci p1.kind, ci p1.scale, cl aI p1.fields]] (kO p1) vi :=
  iS 9 [5] Tryz.f40 fun r => (km true [0] (ol aK _ _ _) fun r1 _ => (uR .ret xF))
def kz (x1 : Bool) : Option Int := aq x1 (some (2 : Int)) (some (0 : Int))
def kR (p1 : ae) : Option Int := aw (kO p1) fun r1 => aq (r1 != 0) (some r1) (aq (p1.kind == 6) (kz true) (kz (p1.kind == 7)))
theorem rg (p1 : ae) : CT Tryz.prog 16 [.ag [ci p1.kind, ci p1.scale, cl aI p1.fields]] (kR p1) vi :=
  iS 17 [] Tryz.f16 fun r => (uP (qN _) fun r1 _ => (uC (uR .ret xF) (uQ (kS Tryz.f16 [1,1,0,0] 2) fun K9 hK9 => have hJ1 : ∀ (x1 : Bool), kz x1 = some r → K9.p [(16, vb x1)] [] := fun x1 h => hK9 h (uC (uR .ret xF) (uR .ret xF)); (uC (uJ (hJ1 true)) (uJ (hJ1 (p1.kind == 7)))))))
def mZ (x1 : Bool) : Option Bool := some x1
def jI (p1 p2 p3 : Int) : Option Bool := aq (decide (p2 ≤ p1)) (mZ (decide (p1 ≤ p3))) (mZ false)
theorem lL (p1 p2 p3 : Int) : CT Tryz.prog 176 [vi p1, vi p2, vi p3] (jI p1 p2 p3) vb :=
  iS 15 [] Tryz.f176 fun r => (uQ (kS Tryz.f176 [1,0] 1) fun K2 hK2 => have hJ1 : ∀ (x1 : Bool), mZ x1 = some r → K2.p [(6, vb x1)] [] := fun x1 h => hK2 h (uR .ret xF); (uC (uJ (hJ1 (decide (p1 ≤ p3)))) (uJ (hJ1 false))))
def oQ (rec1 : Nat → Option Bool) (p1 : ByteArray) (z1 : Nat) (x2 : Bool) : Option Bool := aq x2 (some false) (rec1 (z1 + (Utf8.decode p1 z1).2))
def rB : Option Bool := some true
def ib (p1 : ByteArray) : Nat → Nat → Option Bool
 | 0, _ => none
 | k1 + 1, z1 => aq (decide (z1 < p1.size)) (aq (decide (Int.ofNat (Utf8.decode p1 z1).1 < (32 : Int))) (oQ (ib p1 k1) p1 z1 true) (oQ (ib p1 k1) p1 z1 (Int.ofNat (Utf8.decode p1 z1).1 == 127))) (rB)
def o6 (p1 : ByteArray) (x1 : Bool) : Option Bool := aq x1 (some false) (ib p1 aK 0)
def sG (p1 : ByteArray) : Option Bool := aq (decide ((256 : Int) < (p1.size : Int))) (o6 p1 true) (aw (utf8_ValidString p1) fun r1 => o6 p1 (!r1))
theorem A8 (p1 : ByteArray) : CT Tryz.prog 185 [vs p1] (sG p1) vb :=
  iS 24 [] Tryz.f185 fun r => (uQ (kS Tryz.f185 [1,0,0] 2) fun K3 hK3 => have hJ1 : ∀ (x1 : Bool), o6 p1 x1 = some r → K3.p [(0, vs p1), (12, vb x1)] [] := fun x1 h => hK3 h (uC (uR .ret xF) (uQ (kS Tryz.f185 [1,1,0] 1) fun K8 hK8 => have hJ3 : ∀ (_ : Unit), rB = some r → K8.p [] [] := fun _ h => hK8 h (uR .ret xF); (PU p1 (uO (cd Tryz.f185 [1,1,0,1,0,0]) (kS Tryz.f185 [1,1,0,1,0] 1) fun R1 b1 => have hL1 : ∀ (k1 z1 : Nat), ib p1 k1 z1 = some r → (R1 k1).p [(14, .one (.pt 0 0 0 0))] [.raw (.stringIter p1 z1)] := by intro k1; induction k1 with | zero => intro z1 h; exact iE (ib.eq_1 ..) h | succ k1 ih1 => intro z1 h; exact b1 h (uU (ib.eq_2 ..) (Qs 0 (fun b11 => (uT (uQ (kS Tryz.f185 [1,1,0,1,0,0,1,1,0,1,0] 2) fun K14 hK14 => have hJ2 : ∀ (x2 : Bool), oQ (ib p1 k1) p1 z1 x2 = some r → K14.p [(14, .one (.pt 0 0 0 0)), (23, vb x2)] [.raw (.stringIter p1 (z1 + (Utf8.decode p1 z1).2))] := fun x2 h => hK14 h (uC (uR .ret (xN (xN xF))) (uJ (ih1 (z1 + (Utf8.decode p1 z1).2)))); (uC (uJ (hJ2 true)) (uJ (hJ2 (Int.ofNat (Utf8.decode p1 z1).1 == 127))))))) (fun b11 => (uF (uR (.exit 0) (xM (uJ (hJ3 ()))))))))
 uE (hL1 aK 0))))); (uC (uJ (hJ1 true)) (uP (qw _) fun r1 _ => (uJ (hJ1 (!r1))))))
def lr (x2 : Bool) : Option Bool := some x2
def kb (x3 : Bool) : Option Bool := some x3
def ka (x4 : Bool) : Option Bool := some x4
def j9 (x5 : Bool) : Option Bool := some x5
def lQ (x6 : Bool) : Option Bool := some x6
def j8 (x7 : Bool) : Option Bool := some x7
def lx (x8 : Bool) : Option Bool := some x8
def lM (x9 : Bool) : Option Bool := some x9
def lw (p1 : aa) (x1 : Bool) : Option Bool := aq (p1.kind == 0) (aq x1 (aq (p1.s.toList == (ByteArray.mk #[]).toList) (lr ((p1.items.length : Int) == 0)) (lr false)) (lr false)) (aq (p1.kind == 1) (aw (jI p1.n (0 : Int) (1 : Int)) fun r1 => aq r1 (aq (p1.scale == 0) (aq (p1.s.toList == (ByteArray.mk #[]).toList) (kb ((p1.items.length : Int) == 0)) (kb false)) (kb false)) (kb false)) (aq (p1.kind == 2) (aw (jI p1.n (-999999999999999999 : Int) (999999999999999999 : Int)) fun r2 => aq r2 (aq (p1.scale == 0) (aq (p1.s.toList == (ByteArray.mk #[]).toList) (ka ((p1.items.length : Int) == 0)) (ka false)) (ka false)) (ka false)) (aq (p1.kind == 3) (aw (jI p1.n (-999999999999999999 : Int) (999999999999999999 : Int)) fun r3 => aq r3 (aw (jI p1.scale (0 : Int) (12 : Int)) fun r4 => aq r4 (aq (p1.s.toList == (ByteArray.mk #[]).toList) (j9 ((p1.items.length : Int) == 0)) (j9 false)) (j9 false)) (j9 false)) (aq (p1.kind == 4) (aq x1 (aw (sG p1.s) fun r5 => aq r5 (lQ ((p1.items.length : Int) == 0)) (lQ false)) (lQ false)) (aq (p1.kind == 5) (aw (jI p1.n (-62135596800 : Int) (253402300799 : Int)) fun r6 => aq r6 (aq (p1.scale == 0) (aq (p1.s.toList == (ByteArray.mk #[]).toList) (j8 ((p1.items.length : Int) == 0)) (j8 false)) (j8 false)) (j8 false)) (aq (p1.kind == 6) (aq x1 (aq (p1.s.toList == (ByteArray.mk #[]).toList) (lx (decide ((p1.items.length : Int) ≤ (64 : Int)))) (lx false)) (lx false)) (aq (p1.kind == 7) (aq x1 (aq (p1.s.toList == (ByteArray.mk #[]).toList) (lM (decide ((0 : Int) < (p1.items.length : Int)))) (lM false)) (lM false)) (some false))))))))
def qZ (p1 : aa) : Option Bool := aq (p1.n == 0) (lw p1 (p1.scale == 0)) (lw p1 false)
theorem Ao (p1 : aa) : CT Tryz.prog 145 [.ag [ci p1.kind, ci p1.n, ci p1.scale, uK p1.s, cl ap p1.items]] (qZ p1) vb :=
  iS 154 [] Tryz.f145 fun r => (uQ (kS Tryz.f145 [1,0] 1) fun K2 hK2 => have hJ1 : ∀ (x1 : Bool), lw p1 x1 = some r → K2.p [(1, .one (.pv (.rp [[pi p1.kind, pi p1.n, pi p1.scale, .s (.string p1.s), .ro (ap.els p1.items)]] 0 0))), (3, vb x1)] [] := fun x1 h => hK2 h (uC (uQ (kS Tryz.f145 [1,1,0,1,0,1,0,0] 3) fun K8 hK8 => have hJ2 : ∀ (x2 : Bool), lr x2 = some r → K8.p [(2, vb x2)] [] := fun x2 h => hK8 h (uR .ret xF); (uC (uC (uN ap p1.items (uJ (hJ2 ((p1.items.length : Int) == 0)))) (uJ (hJ2 false))) (uJ (hJ2 false)))) (uC (uQ (kS Tryz.f145 [1,1,0,1,0,1,1,1,0,0] 3) fun K13 hK13 => have hJ3 : ∀ (x3 : Bool), kb x3 = some r → K13.p [(2, vb x3)] [] := fun x3 h => hK13 h (uR .ret xF); (uP (lL _ _ _) fun r1 _ => (uC (uC (uC (uN ap p1.items (uJ (hJ3 ((p1.items.length : Int) == 0)))) (uJ (hJ3 false))) (uJ (hJ3 false))) (uJ (hJ3 false))))) (uC (uQ (kS Tryz.f145 [1,1,0,1,0,1,1,1,1,1,0,0] 3) fun K20 hK20 => have hJ4 : ∀ (x4 : Bool), ka x4 = some r → K20.p [(2, vb x4)] [] := fun x4 h => hK20 h (uR .ret xF); (uP (lL _ _ _) fun r2 _ => (uC (uC (uC (uN ap p1.items (uJ (hJ4 ((p1.items.length : Int) == 0)))) (uJ (hJ4 false))) (uJ (hJ4 false))) (uJ (hJ4 false))))) (uC (uQ (kS Tryz.f145 [1,1,0,1,0,1,1,1,1,1,1,1,0,0] 3) fun K27 hK27 => have hJ5 : ∀ (x5 : Bool), j9 x5 = some r → K27.p [(2, vb x5)] [] := fun x5 h => hK27 h (uR .ret xF); (uP (lL _ _ _) fun r3 _ => (uC (uP (lL _ _ _) fun r4 _ => (uC (uC (uN ap p1.items (uJ (hJ5 ((p1.items.length : Int) == 0)))) (uJ (hJ5 false))) (uJ (hJ5 false)))) (uJ (hJ5 false))))) (uC (uQ (kS Tryz.f145 [1,1,0,1,0,1,1,1,1,1,1,1,1,1,0,0] 3) fun K35 hK35 => have hJ6 : ∀ (x6 : Bool), lQ x6 = some r → K35.p [(2, vb x6)] [] := fun x6 h => hK35 h (uR .ret xF); (uC (uP (A8 _) fun r5 _ => (uC (uN ap p1.items (uJ (hJ6 ((p1.items.length : Int) == 0)))) (uJ (hJ6 false)))) (uJ (hJ6 false)))) (uC (uQ (kS Tryz.f145 [1,1,0,1,0,1,1,1,1,1,1,1,1,1,1,1,0,0] 3) fun K41 hK41 => have hJ7 : ∀ (x7 : Bool), j8 x7 = some r → K41.p [(2, vb x7)] [] := fun x7 h => hK41 h (uR .ret xF); (uP (lL _ _ _) fun r6 _ => (uC (uC (uC (uN ap p1.items (uJ (hJ7 ((p1.items.length : Int) == 0)))) (uJ (hJ7 false))) (uJ (hJ7 false))) (uJ (hJ7 false))))) (uC (uQ (kS Tryz.f145 [1,1,0,1,0,1,1,1,1,1,1,1,1,1,1,1,1,1,0,0] 3) fun K48 hK48 => have hJ8 : ∀ (x8 : Bool), lx x8 = some r → K48.p [(2, vb x8)] [] := fun x8 h => hK48 h (uR .ret xF); (uC (uC (uN ap p1.items (uJ (hJ8 (decide ((p1.items.length : Int) ≤ (64 : Int)))))) (uJ (hJ8 false))) (uJ (hJ8 false)))) (uC (uQ (kS Tryz.f145 [1,1,0,1,0,1,1,1,1,1,1,1,1,1,1,1,1,1,1,1,0,0] 3) fun K53 hK53 => have hJ9 : ∀ (x9 : Bool), lM x9 = some r → K53.p [(2, vb x9)] [] := fun x9 h => hK53 h (uR .ret xF); (uC (uC (uN ap p1.items (uJ (hJ9 (decide ((0 : Int) < (p1.items.length : Int)))))) (uJ (hJ9 false))) (uJ (hJ9 false)))) (uR .ret xF))))))))); (uC (uJ (hJ1 (p1.scale == 0))) (uJ (hJ1 false))))
def bQ (z2 : Int) : Option (Int × Int) := some ((-1 : Int), z2)
def aG (q_value_sound_1_s : aa → Int → Int → Option (Bool × Int)) (p1 : (List aa)) (p2 : Int) : Nat → Int → Int → Option (Int × Int)
 | 0, _, _ => none
 | k1 + 1, z1, x1 => aq (decide (x1 < (p1.length : Int))) (aw (at? p1 x1) fun e1 => aw (q_value_sound_1_s e1 p2 z1) fun r1 => aq r1.1 (some (x1, r1.2)) ((aG q_value_sound_1_s p1 p2 k1) r1.2 (IntKind.i64.wrap (x1 + 1)))) (bQ z1)
def kh (q_slices_ContainsFunc_api_Value_api_Value_of_value_sound_1 : (List aa) → Int → Int → Option (Bool × Int)) (p1 : aa) (p2 z1 : Int) (x1 : Bool) : Option (Bool × Int) := aq x1 (some (false, z1)) (aw (q_slices_ContainsFunc_api_Value_api_Value_of_value_sound_1 p1.items p2 z1) fun r2 => some ((!r2.1), r2.2))
def lA (q_slices_ContainsFunc_api_Value_api_Value_of_value_sound_1 : (List aa) → Int → Int → Option (Bool × Int)) (p1 : aa) (p2 z1 : Int) : Option (Bool × Int) := aq (decide ((4 : Int) < p2)) (kh q_slices_ContainsFunc_api_Value_api_Value_of_value_sound_1 p1 p2 z1 true) (aq (decide ((256 : Int) < z1)) (kh q_slices_ContainsFunc_api_Value_api_Value_of_value_sound_1 p1 p2 z1 true) (aw (qZ p1) fun r1 => kh q_slices_ContainsFunc_api_Value_api_Value_of_value_sound_1 p1 p2 z1 (!r1)))
mutual
def aA : Nat → (List aa) → Int → Int → Option (Bool × Int)
 | 0, _, _, _ => none
 | k0 + 1, p1, p2, p3 => aw ((ba k0) p1 p2 p3) fun r1 => some ((decide ((0 : Int) ≤ r1.1)), r1.2)
def ba : Nat → (List aa) → Int → Int → Option (Int × Int)
 | 0, _, _, _ => none
 | k0 + 1, p1, p2, p3 => aG (iR k0) p1 p2 aK p3 (0 : Int)
def kv : Nat → aa → Int → Int → Option (Bool × Int)
 | 0, _, _, _ => none
 | k0 + 1, p1, p2, p3 => aq (p1.kind != 0) (lA (aA k0) p1 p2 (IntKind.i64.wrap (p3 + 1))) (lA (aA k0) p1 p2 p3)
def iR : Nat → aa → Int → Int → Option (Bool × Int)
 | 0, _, _, _ => none
 | k0 + 1, p1, p2, p3 => aw ((kv k0) p1 (IntKind.i64.wrap (p2 + 1)) p3) fun r1 => some ((!r1.1), r1.2)
end
mutual
theorem gY : ∀ (k0 : Nat) (p1 : (List aa)) (p2 p3 : Int), CM Tryz.prog 60 [vl ap p1, .one (.fn 146 [.pv (.rp [[pi p2]] 0 0), .pt 0 0 0 0])] [.box [.pt 1 0 0 0], .box [ci p3]] (aA k0 p1 p2 p3) (fun r => vb r.1) (fun r => [.box [.pt 1 0 0 0], .box [ci r.2]])
  | 0, _, _, _ => KF (aA.eq_1 ..)
  | k0 + 1, p1, p2, p3 => nc 2 9 [] Tryz.f60 fun r => (uU (aA.eq_2 ..) (km true [0,1] (iD k0 _ _ _) fun r1 _ => (uR .ret iW)))
theorem iD : ∀ (k0 : Nat) (p1 : (List aa)) (p2 p3 : Int), CM Tryz.prog 126 [vl ap p1, .one (.fn 146 [.pv (.rp [[pi p2]] 0 0), .pt 0 0 0 0])] [.box [.pt 1 0 0 0], .box [ci p3]] (ba k0 p1 p2 p3) (fun r => vi r.1) (fun r => [.box [.pt 1 0 0 0], .box [ci r.2]])
  | 0, _, _, _ => KF (ba.eq_1 ..)
  | k0 + 1, p1, p2, p3 => nc 2 19 [] Tryz.f126 fun r => (uU (ba.eq_2 ..) (uQ (kS Tryz.f126 [1,0] 1) fun K2 hK2 => have hJ1 : ∀ (z2 : Int), bQ z2 = some r → K2.p [] [.box [.pt 1 0 0 0], .box [ci z2]] := fun z2 h => hK2 h (uR .ret iW); (uN ap p1 (uO (cd Tryz.f126 [1,0,1,0,0]) (kS Tryz.f126 [1,0,1,0] 1) fun R1 b1 => have hL1 : ∀ (k1 : Nat) (z1 x1 : Int), aG (iR k0) p1 p2 k1 z1 x1 = some r → (R1 k1).p [(0, vl ap p1), (1, .one (.fn 146 [.pv (.rp [[pi p2]] 0 0), .pt 0 0 0 0])), (7, vi (p1.length : Int)), (8, vi x1)] [.box [.pt 1 0 0 0], .box [ci z1]] := by intro k1; induction k1 with | zero => intro z1 x1 h; exact iE (aG.eq_1 ..) h | succ k1 ih1 => intro z1 x1 h; exact b1 h (uU (aG.eq_2 ..) (uC (uL ap fun e1 a10 => (km true [0,1] (xc k0 _ _ _) fun r1 _ => (uC (uR .ret (xN (xN iW))) (uJ (ih1 r1.2 (IntKind.i64.wrap (x1 + 1))))))) (uR (.exit 0) (xM (uJ (hJ1 z1))))))
 uE (hL1 aK p3 (0 : Int))))))
theorem vy : ∀ (k0 : Nat) (p1 : aa) (p2 p3 : Int), CM Tryz.prog 90 [.ag [ci p1.kind, ci p1.n, ci p1.scale, uK p1.s, cl ap p1.items], vi p2, .one (.pt 0 0 0 0)] [.box [ci p3]] (kv k0 p1 p2 p3) (fun r => vb r.1) (fun r => [.box [ci r.2]])
  | 0, _, _, _ => KF (kv.eq_1 ..)
  | k0 + 1, p1, p2, p3 => nc 1 33 [5] Tryz.f90 fun r => (uU (kv.eq_2 ..) (uQ (kS Tryz.f90 [1,0] 1) fun K2 hK2 => have hJ1 : ∀ (z1 : Int), lA (aA k0) p1 p2 z1 = some r → K2.p [(3, .one (.pv (.rp [[pi p1.kind, pi p1.n, pi p1.scale, .s (.string p1.s), .ro (ap.els p1.items)]] 0 0))), (4, .one (.pv (.rp [[pi p2]] 0 0))), (5, .one (.pt 1 0 0 0))] [.box [ci z1], .box [.pt 0 0 0 0]] := fun z1 h => hK2 h (uQ (kS Tryz.f90 [1,1,0,0] 2) fun K6 hK6 => have hJ2 : ∀ (x1 : Bool), kh (aA k0) p1 p2 z1 x1 = some r → K6.p [(3, .one (.pv (.rp [[pi p1.kind, pi p1.n, pi p1.scale, .s (.string p1.s), .ro (ap.els p1.items)]] 0 0))), (4, .one (.pv (.rp [[pi p2]] 0 0))), (5, .one (.pt 1 0 0 0)), (27, vb x1)] [.box [ci z1], .box [.pt 0 0 0 0]] := fun x1 h => hK6 h (uC (uR .ret iW) (km true [1,0] (gY k0 _ _ _) fun r2 _ => (uR .ret iW))); (uC (uJ (hJ2 true)) (uC (uJ (hJ2 true)) (uP (Ao _) fun r1 _ => (uJ (hJ2 (!r1))))))); (uC (uJ (hJ1 (IntKind.i64.wrap (p3 + 1)))) (uJ (hJ1 p3)))))
theorem xc : ∀ (k0 : Nat) (p1 : aa) (p2 p3 : Int), CM Tryz.prog 146 [.ag [ci p1.kind, ci p1.n, ci p1.scale, uK p1.s, cl ap p1.items], .one (.pv (.rp [[pi p2]] 0 0)), .one (.pt 0 0 0 0)] [.box [.pt 1 0 0 0], .box [ci p3]] (iR k0 p1 p2 p3) (fun r => vb r.1) (fun r => [.box [.pt 1 0 0 0], .box [ci r.2]])
  | 0, _, _, _ => KF (iR.eq_1 ..)
  | k0 + 1, p1, p2, p3 => nc 2 11 [] Tryz.f146 fun r => (uU (iR.eq_2 ..) (km true [1] (vy k0 _ _ _) fun r1 _ => (uR .ret iW)))
end
def qX (p1 : aa) : Option Bool := aw (kv aK p1 (1 : Int) (0 : Int)) fun r1 => some r1.1
theorem Ah (p1 : aa) : CT Tryz.prog 41 [.ag [ci p1.kind, ci p1.n, ci p1.scale, uK p1.s, cl ap p1.items]] (qX p1) vb :=
  iS 6 [3] Tryz.f41 fun r => (km true [0] (vy aK _ _ _) fun r1 _ => (uR .ret xF))
def bm : Option Bool := some true
def ah (q_value_of_2 : aV → aa → Option Bool) (p1 : (List aV)) (p2 : (List aa)) : Nat → Int → Option Bool
 | 0, _ => none
 | k1 + 1, x1 => aq (decide (x1 < (p1.length : Int))) (aw (at? p1 x1) fun e1 => aw (at? p2 x1) fun e2 => aw (q_value_of_2 e1 e2) fun r1 => aq (!r1) (some false) ((ah q_value_of_2 p1 p2 k1) (IntKind.i64.wrap (x1 + 1)))) (bm)
def cc : Option Int := some (-1 : Int)
def aC (q_value_of_1_s : aa → Int → Int → (List aV) → Option Bool) (p1 : (List aa)) (p2 p3 : Int) (p4 : (List aV)) : Nat → Int → Option Int
 | 0, _ => none
 | k1 + 1, x1 => aq (decide (x1 < (p1.length : Int))) (aw (at? p1 x1) fun e1 => aw (q_value_of_1_s e1 p2 p3 p4) fun r1 => aq r1 (some x1) ((aC q_value_of_1_s p1 p2 p3 p4 k1) (IntKind.i64.wrap (x1 + 1)))) (cc)
mutual
def bb : Nat → (List aa) → Int → Int → (List aV) → Option Bool
 | 0, _, _, _, _ => none
 | k0 + 1, p1, p2, p3, p4 => aw ((bk k0) p1 p2 p3 p4) fun r1 => some (decide ((0 : Int) ≤ r1))
def aB : Nat → (List aV) → (List aa) → Option Bool
 | 0, _, _ => none
 | k0 + 1, p1, p2 => aq ((p1.length : Int) != (p2.length : Int)) (some false) (ah (ni k0) p1 p2 aK (0 : Int))
def bk : Nat → (List aa) → Int → Int → (List aV) → Option Int
 | 0, _, _, _, _ => none
 | k0 + 1, p1, p2, p3, p4 => aC (kF k0) p1 p2 p3 p4 aK (0 : Int)
def oc : Nat → ae → aa → Option Bool
 | 0, _, _ => none
 | k0 + 1, p1, p2 => aq (p2.kind == 0) (some true) (aq (p2.kind != p1.kind) (some false) (aq (p2.kind == 3) (some (p2.scale == p1.scale)) (aq (p2.kind == 6) (aw ((bb k0) p2.items p1.kind p1.scale p1.fields) fun r1 => some (!r1)) (aq (p2.kind == 7) (aw ((aB k0) p1.fields p2.items) fun r2 => some r2) (some true)))))
def kF : Nat → aa → Int → Int → (List aV) → Option Bool
 | 0, _, _, _, _ => none
 | k0 + 1, p1, p2, p3, p4 => aw (at? p4 (0 : Int)) fun e1 => aw ((oc k0) e1.type p1) fun r1 => some (!r1)
def ni : Nat → aV → aa → Option Bool
 | 0, _, _ => none
 | k0 + 1, p1, p2 => aw ((oc k0) p1.type p2) fun r1 => some r1
end
mutual
theorem iC : ∀ (k0 : Nat) (p1 : (List aa)) (p2 p3 : Int) (p4 : (List aV)), CT Tryz.prog 60 [vl ap p1, .one (.fn 91 [.pv (.rp [[pi p2, pi p3, .ro (aI.els p4)]] 0 0)])] (bb k0 p1 p2 p3 p4) vb
  | 0, _, _, _, _ => HL (bb.eq_1 ..)
  | k0 + 1, p1, p2, p3, p4 => iS 9 [] Tryz.f60 fun r => (uU (bb.eq_2 ..) (uP (i8 k0 _ _ _ _) fun r1 _ => (uR .ret xF)))
theorem eL : ∀ (k0 : Nat) (p1 : (List aV)) (p2 : (List aa)), CT Tryz.prog 92 [vl aI p1, vl ap p2, .one (.pv (.fn 93 []))] (aB k0 p1 p2) vb
  | 0, _, _ => HL (aB.eq_1 ..)
  | k0 + 1, p1, p2 => iS 32 [8, 9] Tryz.f92 fun r => (uU (aB.eq_2 ..) (uN aI p1 (uN ap p2 (uC (uR .ret xF) (uQ (kS Tryz.f92 [1,1,0] 1) fun K6 hK6 => have hJ1 : ∀ (_ : Unit), bm = some r → K6.p [] [] := fun _ h => hK6 h (uR .ret xF); (uN aI p1 (uO (cd Tryz.f92 [1,1,0,1,0,0]) (kS Tryz.f92 [1,1,0,1,0] 1) fun R1 b1 => have hL1 : ∀ (k1 : Nat) (x1 : Int), ah (ni k0) p1 p2 k1 x1 = some r → (R1 k1).p [(1, vl ap p2), (2, .one (.pv (.fn 93 []))), (15, vl aI p1), (16, vi (p1.length : Int)), (17, vi x1)] [] := by intro k1; induction k1 with | zero => intro x1 h; exact iE (ah.eq_1 ..) h | succ k1 ih1 => intro x1 h; exact b1 h (uU (ah.eq_2 ..) (uC (uL aI fun e1 a13 => (uL ap fun e2 a15 => (uP (BO k0 _ _) fun r1 _ => (uC (uR .ret (xN (xN xF))) (uJ (ih1 (IntKind.i64.wrap (x1 + 1)))))))) (uR (.exit 0) (xM (uJ (hJ1 ()))))))
 uE (hL1 aK (0 : Int)))))))))
theorem i8 : ∀ (k0 : Nat) (p1 : (List aa)) (p2 p3 : Int) (p4 : (List aV)), CT Tryz.prog 126 [vl ap p1, .one (.fn 91 [.pv (.rp [[pi p2, pi p3, .ro (aI.els p4)]] 0 0)])] (bk k0 p1 p2 p3 p4) vi
  | 0, _, _, _, _ => HL (bk.eq_1 ..)
  | k0 + 1, p1, p2, p3, p4 => iS 19 [] Tryz.f126 fun r => (uU (bk.eq_2 ..) (uQ (kS Tryz.f126 [1,0] 1) fun K2 hK2 => have hJ1 : ∀ (_ : Unit), cc = some r → K2.p [] [] := fun _ h => hK2 h (uR .ret xF); (uN ap p1 (uO (cd Tryz.f126 [1,0,1,0,0]) (kS Tryz.f126 [1,0,1,0] 1) fun R1 b1 => have hL1 : ∀ (k1 : Nat) (x1 : Int), aC (kF k0) p1 p2 p3 p4 k1 x1 = some r → (R1 k1).p [(0, vl ap p1), (1, .one (.fn 91 [.pv (.rp [[pi p2, pi p3, .ro (aI.els p4)]] 0 0)])), (7, vi (p1.length : Int)), (8, vi x1)] [] := by intro k1; induction k1 with | zero => intro x1 h; exact iE (aC.eq_1 ..) h | succ k1 ih1 => intro x1 h; exact b1 h (uU (aC.eq_2 ..) (uC (uL ap fun e1 a10 => (uP (zt k0 _ _ _ _) fun r1 _ => (uC (uR .ret (xN (xN xF))) (uJ (ih1 (IntKind.i64.wrap (x1 + 1))))))) (uR (.exit 0) (xM (uJ (hJ1 ()))))))
 uE (hL1 aK (0 : Int))))))
theorem vO : ∀ (k0 : Nat) (p1 : ae) (p2 : aa), CT Tryz.prog 42 [.ag [ci p1.kind, ci p1.scale, cl aI p1.fields], .ag [ci p2.kind, ci p2.n, ci p2.scale, uK p2.s, cl ap p2.items]] (oc k0 p1 p2) vb
  | 0, _, _ => HL (oc.eq_1 ..)
  | k0 + 1, p1, p2 => iS 42 [] Tryz.f42 fun r => (uU (oc.eq_2 ..) (uC (uR .ret xF) (uC (uR .ret xF) (uC (uR .ret xF) (uC (uP (iC k0 _ _ _ _) fun r1 _ => (uR .ret xF)) (uC (uP (eL k0 _ _) fun r2 _ => (uR .ret xF)) (uR .ret xF)))))))
theorem zt : ∀ (k0 : Nat) (p1 : aa) (p2 p3 : Int) (p4 : (List aV)), CT Tryz.prog 91 [.ag [ci p1.kind, ci p1.n, ci p1.scale, uK p1.s, cl ap p1.items], .one (.pv (.rp [[pi p2, pi p3, .ro (aI.els p4)]] 0 0))] (kF k0 p1 p2 p3 p4) vb
  | 0, _, _, _, _ => HL (kF.eq_1 ..)
  | k0 + 1, p1, p2, p3, p4 => iS 12 [] Tryz.f91 fun r => (uU (kF.eq_2 ..) (yf 6 (uL aI fun e1 a3 => (uP (vO k0 _ _) fun r1 _ => (uR .ret xF)))))
theorem BO : ∀ (k0 : Nat) (p1 : aV) (p2 : aa), CT Tryz.prog 93 [.ag [ci p1.id, uK p1.name, cb p1.need, ci p1.type.kind, ci p1.type.scale, cl aI p1.type.fields], .ag [ci p2.kind, ci p2.n, ci p2.scale, uK p2.s, cl ap p2.items]] (ni k0 p1 p2) vb
  | 0, _, _ => HL (ni.eq_1 ..)
  | k0 + 1, p1, p2 => iS 9 [] Tryz.f93 fun r => (uU (ni.eq_2 ..) (uP (vO k0 _ _) fun r1 _ => (uR .ret xF)))
end
def oa (p1 : ae) (x1 : Int) : Option aV := aw (at? p1.fields x1) fun e1 => some e1
def qY (p1 : ae) (p2 : Int) : Option aV := aq (p1.kind == 6) (oa p1 (0 : Int)) (oa p1 p2)
theorem Al (p1 : ae) (p2 : Int) : CT Tryz.prog 94 [.ag [ci p1.kind, ci p1.scale, cl aI p1.fields], vi p2] (qY p1 p2) (fun r => .ag [ci r.id, uK r.name, cb r.need, ci r.type.kind, ci r.type.scale, cl aI r.type.fields]) :=
  iS 13 [4] Tryz.f94 fun r => (uQ (kS Tryz.f94 [1,0] 1) fun K2 hK2 => have hJ1 : ∀ (x1 : Int), oa p1 x1 = some r → K2.p [(1, vi x1), (2, .one (.pv (.rp [[pi p1.kind, pi p1.scale, .ro (aI.els p1.fields)]] 0 0))), (4, .one (.pt 0 0 0 0))] [.box [ci (0 : Int), uK ByteArray.empty, cb false, ci (0 : Int), ci (0 : Int), .pv (.s (.slice none 0 0))]] := fun x1 h => hK2 h (uL aI fun e1 a6 => (uR .ret xF)); (uC (uJ (hJ1 (0 : Int))) (uJ (hJ1 p2))))
def lF (rec1 : Int → Option Bool) (x1 : Int) (x2 : Bool) : Option Bool := aq x2 (some true) (rec1 (IntKind.i64.wrap (x1 + 1)))
def qh : Option Bool := some false
def el (q_value_lacks : ae → aa → Option Bool) (p1 : ae) (p2 : aa) : Nat → Int → Option Bool
 | 0, _ => none
 | k1 + 1, x1 => aq (decide (x1 < (p2.items.length : Int))) (aw (at? p2.items x1) fun e1 => aw (qY p1 x1) fun r1 => aq (e1.kind == 0) (aq r1.need (lF (el q_value_lacks p1 p2 k1) x1 true) (aw (q_value_lacks r1.type e1) fun r2 => lF (el q_value_lacks p1 p2 k1) x1 r2)) (aw (q_value_lacks r1.type e1) fun r3 => lF (el q_value_lacks p1 p2 k1) x1 r3)) (qh)
def iz : Nat → ae → aa → Option Bool
 | 0, _, _ => none
 | k0 + 1, p1, p2 => el (iz k0) p1 p2 aK (0 : Int)
theorem ry : ∀ (k0 : Nat) (p1 : ae) (p2 : aa), CT Tryz.prog 43 [.ag [ci p1.kind, ci p1.scale, cl aI p1.fields], .ag [ci p2.kind, ci p2.n, ci p2.scale, uK p2.s, cl ap p2.items]] (iz k0 p1 p2) vb
  | 0, _, _ => HL (iz.eq_1 ..)
  | k0 + 1, p1, p2 => iS 33 [6, 7] Tryz.f43 fun r => (uU (iz.eq_2 ..) (uQ (kS Tryz.f43 [1,0] 1) fun K2 hK2 => have hJ2 : ∀ (_ : Unit), qh = some r → K2.p [] [] := fun _ h => hK2 h (uR .ret xF); (uN ap p2.items (uO (cd Tryz.f43 [1,0,1,0,0]) (kS Tryz.f43 [1,0,1,0] 1) fun R1 b1 => have hL1 : ∀ (k1 : Nat) (x1 : Int), el (iz k0) p1 p2 k1 x1 = some r → (R1 k1).p [(2, .one (.pv (.rp [[pi p1.kind, pi p1.scale, .ro (aI.els p1.fields)]] 0 0))), (9, vl ap p2.items), (10, vi (p2.items.length : Int)), (11, vi x1)] [] := by intro k1; induction k1 with | zero => intro x1 h; exact iE (el.eq_1 ..) h | succ k1 ih1 => intro x1 h; exact b1 h (uU (el.eq_2 ..) (uC (uL ap fun e1 a9 => (uP (Al _ _) fun r1 _ => (uQ (kS Tryz.f43 [1,0,1,0,0,1,1,0,0,1,1,0] 3) fun K12 hK12 => have hJ1 : ∀ (x2 : Bool), lF (el (iz k0) p1 p2 k1) x1 x2 = some r → K12.p [(2, .one (.pv (.rp [[pi p1.kind, pi p1.scale, .ro (aI.els p1.fields)]] 0 0))), (9, vl ap p2.items), (10, vi (p2.items.length : Int)), (11, vi x1), (31, vb x2)] [.dead, .dead] := fun x2 h => hK12 h (uC (uR .ret (xN (xN xF))) (uJ (ih1 (IntKind.i64.wrap (x1 + 1))))); (uC (uC (uJ (hJ1 true)) (uP (ry k0 _ _) fun r2 _ => (uJ (hJ1 r2)))) (uP (ry k0 _ _) fun r3 _ => (uJ (hJ1 r3))))))) (uR (.exit 0) (xM (uJ (hJ2 ()))))))
 uE (hL1 aK (0 : Int))))))
def kt (p1 : ae) (p2 : aa) : Option Int := aw (kO p1) fun r1 => aq (r1 != 0) (some r1) (aw (qX p2) fun r2 => aq (!r2) (some (1 : Int)) (aw (oc aK p1 p2) fun r3 => aq (!r3) (some (2 : Int)) (aw (iz aK p1 p2) fun r4 => aq r4 (some (9 : Int)) (some (0 : Int)))))
theorem vB (p1 : ae) (p2 : aa) : CT Tryz.prog 17 [.ag [ci p1.kind, ci p1.scale, cl aI p1.fields], .ag [ci p2.kind, ci p2.n, ci p2.scale, uK p2.s, cl ap p2.items]] (kt p1 p2) vi :=
  iS 24 [] Tryz.f17 fun r => (uP (qN _) fun r1 _ => (uC (uR .ret xF) (uP (Ah _) fun r2 _ => (uC (uR .ret xF) (uP (vO aK _ _) fun r3 _ => (uC (uR .ret xF) (uP (ry aK _ _) fun r4 _ => (uC (uR .ret xF) (uR .ret xF)))))))))
def ju (p1 : (List ByteArray)) : Option (List ByteArray) := cr (p1 ≠ []) <| cr (([] : List ByteArray).length + p1.length ≤ 4294967296) <| some (([] : List ByteArray) ++ p1)
theorem pE (p1 : (List ByteArray)) : CX Tryz.prog 147 [vl eS p1] [] [] (ju p1) (fun r => .one (.sl 0 1 0 r.length)) (fun r => [.arr 1 (eS.els r)]) :=
  yv 0 1 8 [5] Tryz.f147 fun r => (GO eS (uF (kl eS 0 p1 (uR .ret iW))))
def ri (p1 p2 : (List Int)) : Option Int := some (JJ p1 p2)
theorem yr (p1 p2 : (List Int)) : CT Tryz.prog 97 [vl (eK .u8) p1, vl (eK .u8) p2] (ri p1 p2) vi :=
  iS 8 [] Tryz.f97 fun r => (Qx p1 p2 152 Tryz.f152 (uR .ret xF))
def lD (p1 p2 : ByteArray) : Option Int := aw (ri (cK p1) (cK p2)) fun r1 => some r1
theorem se (p1 p2 : ByteArray) : CT Tryz.prog 96 [vs p1, vs p2] (lD p1 p2) vi :=
  iS 10 [] Tryz.f96 fun r => (P7 p1 (P7 p2 (uP (yr _ _) fun r1 _ => (uR .ret xF))))
def aW (x3 : Int) (x4 : Bool) : Option (Int × Bool) := some (x3, x4)
def bF (p1 : (List ByteArray)) (p2 : ByteArray) (x3 : Int) : Option (Int × Bool) := aq (decide (x3 < (p1.length : Int))) (aw (at? p1 x3) fun e2 => aw (lD e2 p2) fun r2 => aW x3 (r2 == 0)) (aW x3 false)
def am (p1 : (List ByteArray)) (p2 : ByteArray) : Nat → Int → Int → Option (Int × Bool)
 | 0, _, _ => none
 | k1 + 1, x1, x2 => aq (decide (x1 < x2)) (aw (some ((IntKind.u64.wrap (IntKind.i64.wrap (x1 + x2))).fdiv (2 ^ (min (1 : Int).toNat (IntKind.u64).bits)))) fun y1 => aw (at? p1 (IntKind.i64.wrap y1)) fun e1 => aw (lD e1 p2) fun r1 => aq (decide (r1 < (0 : Int))) ((am p1 p2 k1) (IntKind.i64.wrap ((IntKind.i64.wrap y1) + (1 : Int))) x2) ((am p1 p2 k1) x1 (IntKind.i64.wrap y1))) (bF p1 p2 x1)
def bc (p1 : (List ByteArray)) (p2 : ByteArray) : Option (Int × Bool) := am p1 p2 aK (0 : Int) (p1.length : Int)
theorem cD (p1 : (List ByteArray)) (p2 : ByteArray) : CT Tryz.prog 151 [vl eS p1, vs p2, .one (.pv (.fn 96 []))] (bc p1 p2) (fun r => .tp [vi r.1, vb r.2]) :=
  iS 49 [] Tryz.f151 fun r => (uN eS p1 (uQ (kS Tryz.f151 [1,1,1,0] 1) fun K4 hK4 => have hJ1 : ∀ (x3 : Int), bF p1 p2 x3 = some r → K4.p [(0, vl eS p1), (1, vs p2), (2, .one (.pv (.fn 96 []))), (8, vi (p1.length : Int)), (9, vi x3)] [] := fun x3 h => hK4 h (uQ (kS Tryz.f151 [1,1,1,1,0] 1) fun K14 hK14 => have hJ2 : ∀ (x4 : Bool), aW x3 x4 = some r → K14.p [(6, vi x3), (7, vb x4)] [] := fun x4 h => hK14 h (uR .ret xF); (uC (uL eS fun e2 a16 => (uP (se _ _) fun r2 _ => (uJ (hJ2 (r2 == 0))))) (uJ (hJ2 false)))); (uO (cd Tryz.f151 [1,1,1,0,0,0]) (kS Tryz.f151 [1,1,1,0,0] 1) fun R1 b1 => have hL1 : ∀ (k1 : Nat) (x1 x2 : Int), am p1 p2 k1 x1 x2 = some r → (R1 k1).p [(0, vl eS p1), (1, vs p2), (2, .one (.pv (.fn 96 []))), (8, vi (p1.length : Int)), (9, vi x1), (10, vi x2)] [] := by intro k1; induction k1 with | zero => intro x1 x2 h; exact iE (am.eq_1 ..) h | succ k1 ih1 => intro x1 x2 h; exact b1 h (uU (am.eq_2 ..) (uC (uY 22 (vk .u64) fun y1 => (uL eS fun e1 a11 => (uP (se _ _) fun r1 _ => (uC (uJ (ih1 (IntKind.i64.wrap ((IntKind.i64.wrap y1) + (1 : Int))) x2)) (uJ (ih1 x1 (IntKind.i64.wrap y1))))))) (uR (.exit 0) (xM (uJ (hJ1 x1))))))
 uE (hL1 aK (0 : Int) (p1.length : Int)))))
def dw (r4 : (List ByteArray)) (l2 : List Int) : Option ((List ByteArray) × (List Int)) := some (r4, l2)
def aN (p1 r4 : (List ByteArray)) : Nat → List Int → Int → Option ((List ByteArray) × (List Int))
 | 0, _, _ => none
 | k1 + 1, l1, x1 => aq (decide (x1 < (p1.length : Int))) (aw (at? p1 x1) fun e1 => aw (bc r4 e1) fun r5 => cr (l1.length + 1 ≤ 4294967296) <| (aN p1 r4 k1) (l1 ++ [r5.1]) (IntKind.i64.wrap (x1 + 1))) (dw r4 l1)
def ga (r7 : (List ByteArray)) (l4 : List Int) : Option ((List ByteArray) × (List Int)) := some (r7, l4)
def bG (p1 r7 : (List ByteArray)) : Nat → List Int → Int → Option ((List ByteArray) × (List Int))
 | 0, _, _ => none
 | k2 + 1, l3, x2 => aq (decide (x2 < (p1.length : Int))) (aw (at? p1 x2) fun e2 => aw (bc r7 e2) fun r8 => cr (l3.length + 1 ≤ 4294967296) <| (bG p1 r7 k2) (l3 ++ [r8.1]) (IntKind.i64.wrap (x2 + 1))) (ga r7 l3)
def cz (p1 : (List ByteArray)) : Option ((List ByteArray) × (List Int)) := aq (decide (0 < p1.length)) (aw (ju p1) fun r1 => aw (jM r1) fun r3 => cr (r3.2.length = r1.length) <| aw (iN r3.2) fun r4 => aN p1 r4 aK [] (0 : Int)) (aw (mi p1) fun r2 => aw (kD r2) fun r6 => aw (jD r2) fun r7 => bG p1 r7 aK [] (0 : Int))
theorem kE (p1 : (List ByteArray)) : CT Tryz.prog 95 [vl eS p1, .one (.pv (.fn 96 []))] (cz p1) (fun r => .tp [vl eS r.1, vl eI r.2]) :=
  iS 38 [] Tryz.f95 fun r => (uI (fun b3 => (we true [] (pE _) fun r1 _ => (km true [0] (sP _) fun r3 _ => (PF 0 (km true [0] (qJ _) fun r4 _ => (uQ (kS Tryz.f95 [1,1,1,1,0] 1) fun K11 hK11 => have hJ1 : ∀ (l2 : List Int), dw r4 l2 = some r → K11.p [(4, vl eS r4), (5, .one (.sl 1 1 0 l2.length))] [.dead, .arr 1 (eI.els l2)] := fun l2 h => hK11 h (ou eI l2 1 [5] (uR .ret xF)); (uN eS p1 (pq (.li 5 1) (uO (cd Tryz.f95 [1,1,1,1,0,1,0,0]) (kS Tryz.f95 [1,1,1,1,0,1,0] 1) fun R1 b1 => have hL1 : ∀ (k1 : Nat) (l1 : List Int) (x1 : Int), aN p1 r4 k1 l1 x1 = some r → (R1 k1).p [(3, .one (.pv (.rp [[.fn 96 []]] 0 0))), (4, vl eS r4), (5, .one (.sl 1 1 0 l1.length)), (18, vl eS p1), (19, vi (p1.length : Int)), (20, vi x1)] [.dead, .arr 1 (eI.els l1)] := by intro k1; induction k1 with | zero => intro l1 x1 h; exact iE (aN.eq_1 ..) h | succ k1 ih1 => intro l1 x1 h; exact b1 h (uU (aN.eq_2 ..) (uC (uL eS fun e1 a18 => (uP (cD _ _) fun r5 _ => (kl eI 1 [r5.1] (uJ (ih1 (l1 ++ [r5.1]) (IntKind.i64.wrap (x1 + 1))))))) (uR (.exit 0) (xM (uJ (hJ1 l1))))))
 uE (hL1 aK [] (0 : Int))))))))))) (fun b3 => (uP (tn _) fun r2 _ => (uP (rm _) fun r6 _ => (uP (pW _) fun r7 _ => (uQ (kS Tryz.f95 [1,1,1,1,0] 1) fun K27 hK27 => have hJ2 : ∀ (l4 : List Int), ga r7 l4 = some r → K27.p [(4, vl eS r7), (5, .one (.sl 0 1 0 l4.length))] [.arr 1 (eI.els l4)] := fun l4 h => hK27 h (ou eI l4 0 [5] (uR .ret xF)); (uN eS p1 (pq (.li 5 1) (uO (cd Tryz.f95 [1,1,1,1,0,1,0,0]) (kS Tryz.f95 [1,1,1,1,0,1,0] 1) fun R2 b2 => have hL2 : ∀ (k2 : Nat) (l3 : List Int) (x2 : Int), bG p1 r7 k2 l3 x2 = some r → (R2 k2).p [(3, .one (.pv (.rp [[.fn 96 []]] 0 0))), (4, vl eS r7), (5, .one (.sl 0 1 0 l3.length)), (18, vl eS p1), (19, vi (p1.length : Int)), (20, vi x2)] [.arr 1 (eI.els l3)] := by intro k2; induction k2 with | zero => intro l3 x2 h; exact iE (bG.eq_1 ..) h | succ k2 ih2 => intro l3 x2 h; exact b2 h (uU (bG.eq_2 ..) (uC (uL eS fun e2 a34 => (uP (cD _ _) fun r8 _ => (kl eI 0 [r8.1] (uJ (ih2 (l3 ++ [r8.1]) (IntKind.i64.wrap (x2 + 1))))))) (uR (.exit 0) (xM (uJ (hJ2 l3))))))
 uE (hL2 aK [] (0 : Int)))))))))))
def nn (l2 : List Int) (x2 : Int) : Option (List Int) := cr (l2.length + 1 ≤ 4294967296) <| some (l2 ++ [(IntKind.u8.wrap x2)])
def fy : Nat → List Int → Int → Option (List Int)
 | 0, _, _ => none
 | k1 + 1, l1, x1 => aq (decide ((128 : Int) ≤ x1)) (aw (some (IntKind.u8.wrap (BitVec.ofInt (IntKind.u8).bits (IntKind.u8.wrap x1) ||| BitVec.ofInt (IntKind.u8).bits (128 : Int)).toNat)) fun y1 => cr (l1.length + 1 ≤ 4294967296) <| (fy k1) (l1 ++ [y1]) (x1.fdiv (2 ^ (min (7 : Int).toNat (IntKind.u64).bits)))) (nn l1 x1)
def mR (p1 : Int) : Option (List Int) := fy aK [] p1
theorem qM (p1 : Int) : CX Tryz.prog 98 [.one (.pv (.s (.slice none 0 0))), vk .u64 p1] [] [] (mR p1) (fun r => .one (.sl 0 1 0 r.length)) (fun r => [.arr 1 ((eK .u8).els r)]) :=
  yv 0 1 20 [] Tryz.f98 fun r => (uQ (kS Tryz.f98 [1,0] 1) fun K2 hK2 => have hJ1 : ∀ (l2 : List Int) (x2 : Int), nn l2 x2 = some r → K2.p [(0, .one (.sl 0 1 0 l2.length)), (1, vk .u64 x2)] [.arr 1 ((eK .u8).els l2)] := fun l2 x2 h => hK2 h (kl (eK .u8) 0 [(IntKind.u8.wrap x2)] (uR .ret iW)); (pq (.li 0 1) (uO (cd Tryz.f98 [1,0,0,0]) (kS Tryz.f98 [1,0,0] 1) fun R1 b1 => have hL1 : ∀ (k1 : Nat) (l1 : List Int) (x1 : Int), fy k1 l1 x1 = some r → (R1 k1).p [(0, .one (.sl 0 1 0 l1.length)), (1, vk .u64 x1)] [.arr 1 ((eK .u8).els l1)] := by intro k1; induction k1 with | zero => intro l1 x1 h; exact iE (fy.eq_1 ..) h | succ k1 ih1 => intro l1 x1 h; exact b1 h (uU (fy.eq_2 ..) (uC (uY 12 (vk .u8) fun y1 => (kl (eK .u8) 0 [y1] (uJ (ih1 (l1 ++ [y1]) (x1.fdiv (2 ^ (min (7 : Int).toNat (IntKind.u64).bits))))))) (uR (.exit 0) (xM (uJ (hJ1 l1 x1))))))
 uE (hL1 aK [] p1))))
def j3 (x3 : Int) : Option Int := some x3
def hU (rec1 : Int → Option Int) (x1 : Int) (x2 : Bool) : Option Int := aq x2 (rec1 (IntKind.i64.wrap (x1 + 1))) (j3 x1)
def dq (p1 p2 : ByteArray) : Nat → Int → Option Int
 | 0, _ => none
 | k1 + 1, x1 => aq (decide (x1 < (p1.size : Int))) (aq (decide (x1 < (p2.size : Int))) (cr (0 ≤ x1 ∧ x1 < (p1.size : Int)) <| cr (0 ≤ x1 ∧ x1 < (p2.size : Int)) <| aw (some (((p1.data.toList.getD x1.toNat 0).toNat : Int) == ((p2.data.toList.getD x1.toNat 0).toNat : Int))) fun y1 => hU (dq p1 p2 k1) x1 y1) (hU (dq p1 p2 k1) x1 false)) (hU (dq p1 p2 k1) x1 false)
def rI (p1 p2 : ByteArray) : Option Int := dq p1 p2 aK (0 : Int)
theorem yq (p1 p2 : ByteArray) : CT Tryz.prog 153 [vs p1, vs p2] (rI p1 p2) vi :=
  iS 28 [] Tryz.f153 fun r => (uQ (kS Tryz.f153 [1,1,0] 1) fun K3 hK3 => have hJ2 : ∀ (x3 : Int), j3 x3 = some r → K3.p [(5, vi x3)] [] := fun x3 h => hK3 h (uR .ret xF); (uO (cd Tryz.f153 [1,1,0,0,0]) (kS Tryz.f153 [1,1,0,0] 1) fun R1 b1 => have hL1 : ∀ (k1 : Nat) (x1 : Int), dq p1 p2 k1 x1 = some r → (R1 k1).p [(0, vs p1), (1, vs p2), (5, vi x1)] [] := by intro k1; induction k1 with | zero => intro x1 h; exact iE (dq.eq_1 ..) h | succ k1 ih1 => intro x1 h; exact b1 h (uU (dq.eq_2 ..) (uQ (kS Tryz.f153 [1,1,0,0,0,0,0] 2) fun K5 hK5 => have hJ1 : ∀ (x2 : Bool), hU (dq p1 p2 k1) x1 x2 = some r → K5.p [(0, vs p1), (1, vs p2), (5, vi x1), (24, vb x2)] [] := fun x2 h => hK5 h (uC (uJ (ih1 (IntKind.i64.wrap (x1 + 1)))) (uR (.exit 0) (xM (uJ (hJ2 x1))))); (yf 17 (uC (uC (uG (uG (uY 23 vb fun y1 => (uJ (hJ1 y1))))) (uJ (hJ1 false))) (uJ (hJ1 false))))))
 uE (hL1 aK (0 : Int))))
def lN (l2 : List Int) (x2 : Int) : Option (Unit × (List Int)) := cr (l2.length + 1 ≤ 4294967296) <| some ((), (l2 ++ [(IntKind.u8.wrap x2)]))
def en : Nat → List Int → Int → Option (Unit × (List Int))
 | 0, _, _ => none
 | k1 + 1, l1, x1 => aq (decide ((128 : Int) ≤ x1)) (aw (some (IntKind.u8.wrap (BitVec.ofInt (IntKind.u8).bits (IntKind.u8.wrap x1) ||| BitVec.ofInt (IntKind.u8).bits (128 : Int)).toNat)) fun y1 => cr (l1.length + 1 ≤ 4294967296) <| (en k1) (l1 ++ [y1]) (x1.fdiv (2 ^ (min (7 : Int).toNat (IntKind.u64).bits)))) (lN l1 x1)
def fb (p1 : Int) (p2 : (List Int)) : Option (Unit × (List Int)) := en aK p2 p1
theorem gz (p1 : Int) (p2 : (List Int)) : CX Tryz.prog 98 [.one (.sl 0 1 0 p2.length), vk .u64 p1] [.arr 1 ((eK .u8).els p2)] [0] (fb p1 p2) (fun r => .one (.sl 0 1 0 r.2.length)) (fun r => [.arr 1 ((eK .u8).els r.2)]) :=
  yv 1 1 20 [] Tryz.f98 fun r => (uQ (kS Tryz.f98 [1,0] 1) fun K2 hK2 => have hJ1 : ∀ (l2 : List Int) (x2 : Int), lN l2 x2 = some r → K2.p [(0, .one (.sl 0 1 0 l2.length)), (1, vk .u64 x2)] [.arr 1 ((eK .u8).els l2)] := fun l2 x2 h => hK2 h (kl (eK .u8) 0 [(IntKind.u8.wrap x2)] (uR .ret iW)); (uO (cd Tryz.f98 [1,0,0,0]) (kS Tryz.f98 [1,0,0] 1) fun R1 b1 => have hL1 : ∀ (k1 : Nat) (l1 : List Int) (x1 : Int), en k1 l1 x1 = some r → (R1 k1).p [(0, .one (.sl 0 1 0 l1.length)), (1, vk .u64 x1)] [.arr 1 ((eK .u8).els l1)] := by intro k1; induction k1 with | zero => intro l1 x1 h; exact iE (en.eq_1 ..) h | succ k1 ih1 => intro l1 x1 h; exact b1 h (uU (en.eq_2 ..) (uC (uY 12 (vk .u8) fun y1 => (kl (eK .u8) 0 [y1] (uJ (ih1 (l1 ++ [y1]) (x1.fdiv (2 ^ (min (7 : Int).toNat (IntKind.u64).bits))))))) (uR (.exit 0) (xM (uJ (hJ1 l1 x1))))))
 uE (hL1 aK p2 p1)))
def ng (l2 : List Int) : Option (List Int) := some l2
def em (p1 : (List ByteArray)) : Nat → List Int → ByteArray → Int → Option (List Int)
 | 0, _, _, _ => none
 | k1 + 1, l1, x1, x2 => aq (decide (x2 < (p1.length : Int))) (aw (at? p1 x2) fun e1 => aw (rI x1 e1) fun r1 => aw (fb (IntKind.u64.wrap r1) l1) fun r2 => aw (fb (IntKind.u64.wrap (IntKind.i64.wrap ((e1.size : Int) - r1))) r2.2) fun r3 => cr (0 ≤ r1 ∧ r1 ≤ (e1.size : Int) ∧ (e1.size : Int) ≤ (e1.size : Int)) <| cr (r3.2.length + (cK (e1.extract r1.toNat (e1.size : Int).toNat)).length ≤ 4294967296) <| (em p1 k1) (r3.2 ++ (cK (e1.extract r1.toNat (e1.size : Int).toNat))) e1 (IntKind.i64.wrap (x2 + 1))) (ng l1)
def mT (p1 : (List ByteArray)) : Option (List Int) := em p1 aK [] (ByteArray.mk #[]) (0 : Int)
theorem qP (p1 : (List ByteArray)) : CT Tryz.prog 99 [vl eS p1] (mT p1) (fun r => vl (eK .u8) r) :=
  iS 35 [] Tryz.f99 fun r => (uQ (kS Tryz.f99 [1,1,1,0] 1) fun K4 hK4 => have hJ1 : ∀ (l2 : List Int), ng l2 = some r → K4.p [(3, .one (.sl 0 1 0 l2.length))] [.arr 1 ((eK .u8).els l2)] := fun l2 h => hK4 h (ou (eK .u8) l2 0 [2] (uR .ret xF)); (uN eS p1 (pq (.li 3 1) (uO (cd Tryz.f99 [1,1,1,0,1,0,0]) (kS Tryz.f99 [1,1,1,0,1,0] 1) fun R1 b1 => have hL1 : ∀ (k1 : Nat) (l1 : List Int) (x1 : ByteArray) (x2 : Int), em p1 k1 l1 x1 x2 = some r → (R1 k1).p [(3, .one (.sl 0 1 0 l1.length)), (4, vs x1), (8, vl eS p1), (9, vi (p1.length : Int)), (10, vi x2)] [.arr 1 ((eK .u8).els l1)] := by intro k1; induction k1 with | zero => intro l1 x1 x2 h; exact iE (em.eq_1 ..) h | succ k1 ih1 => intro l1 x1 x2 h; exact b1 h (uU (em.eq_2 ..) (uC (uL eS fun e1 a11 => (uP (yq _ _) fun r1 _ => (we true [0] (gz _ _) fun r2 _ => (we true [0] (gz _ _) fun r3 _ => (uG (OO 0 (e1.extract r1.toNat (e1.size : Int).toNat) (uJ (ih1 (r3.2 ++ (cK (e1.extract r1.toNat (e1.size : Int).toNat))) e1 (IntKind.i64.wrap (x2 + 1)))))))))) (uR (.exit 0) (xM (uJ (hJ1 l1))))))
 uE (hL1 aK [] (ByteArray.mk #[]) (0 : Int))))))
def om (x3 : Int) : Option Int := some x3
def cZ (p1 : (List Int)) : Nat → Int → Int → Option Int
 | 0, _, _ => none
 | k1 + 1, x1, x2 => aq (decide (x2 < (p1.length : Int))) (aw (at? p1 x2) fun e2 => (cZ p1 k1) (if e2 < x1 then e2 else x1) (IntKind.i64.wrap (x2 + 1))) (om x1)
def m8 (p1 : (List Int)) : Option Int := aq (decide ((p1.length : Int) < (1 : Int))) (none) (aw (at? p1 (0 : Int)) fun e1 => cZ p1 aK e1 (1 : Int))
theorem tT (p1 : (List Int)) : CT Tryz.prog 154 [vl eI p1] (m8 p1) vi :=
  iS 25 [] Tryz.f154 fun r => (uN eI p1 (uC Qe (uL eI fun e1 a6 => (uQ (kS Tryz.f154 [1,1,1,0] 1) fun K7 hK7 => have hJ1 : ∀ (x3 : Int), om x3 = some r → K7.p [(3, vi x3)] [] := fun x3 h => hK7 h (uR .ret xF); (uO (cd Tryz.f154 [1,1,1,0,1,0,0]) (kS Tryz.f154 [1,1,1,0,1,0] 1) fun R1 b1 => have hL1 : ∀ (k1 : Nat) (x1 x2 : Int), cZ p1 k1 x1 x2 = some r → (R1 k1).p [(0, vl eI p1), (3, vi x1), (4, vi x2)] [] := by intro k1; induction k1 with | zero => intro x1 x2 h; exact iE (cZ.eq_1 ..) h | succ k1 ih1 => intro x1 x2 h; exact b1 h (uU (cZ.eq_2 ..) (uN eI p1 (uC (uL eI fun e2 a13 => (uJ (ih1 (if e2 < x1 then e2 else x1) (IntKind.i64.wrap (x2 + 1))))) (uR (.exit 0) (xM (uJ (hJ1 x1)))))))
 uE (hL1 aK e1 (1 : Int)))))))
def oo (x3 : Int) : Option Int := some x3
def da (p1 : (List Int)) : Nat → Int → Int → Option Int
 | 0, _, _ => none
 | k1 + 1, x1, x2 => aq (decide (x2 < (p1.length : Int))) (aw (at? p1 x2) fun e2 => (da p1 k1) (if e2 > x1 then e2 else x1) (IntKind.i64.wrap (x2 + 1))) (oo x1)
def nh (p1 : (List Int)) : Option Int := aq (decide ((p1.length : Int) < (1 : Int))) (none) (aw (at? p1 (0 : Int)) fun e1 => da p1 aK e1 (1 : Int))
theorem tB (p1 : (List Int)) : CT Tryz.prog 156 [vl eI p1] (nh p1) vi :=
  iS 25 [] Tryz.f156 fun r => (uN eI p1 (uC Qe (uL eI fun e1 a6 => (uQ (kS Tryz.f156 [1,1,1,0] 1) fun K7 hK7 => have hJ1 : ∀ (x3 : Int), oo x3 = some r → K7.p [(3, vi x3)] [] := fun x3 h => hK7 h (uR .ret xF); (uO (cd Tryz.f156 [1,1,1,0,1,0,0]) (kS Tryz.f156 [1,1,1,0,1,0] 1) fun R1 b1 => have hL1 : ∀ (k1 : Nat) (x1 x2 : Int), da p1 k1 x1 x2 = some r → (R1 k1).p [(0, vl eI p1), (3, vi x1), (4, vi x2)] [] := by intro k1; induction k1 with | zero => intro x1 x2 h; exact iE (da.eq_1 ..) h | succ k1 ih1 => intro x1 x2 h; exact b1 h (uU (da.eq_2 ..) (uN eI p1 (uC (uL eI fun e2 a13 => (uJ (ih1 (if e2 > x1 then e2 else x1) (IntKind.i64.wrap (x2 + 1))))) (uR (.exit 0) (xM (uJ (hJ1 x1)))))))
 uE (hL1 aK e1 (1 : Int)))))))
def jr (x5 x6 : Int) : Option Int := cr (0 ≤ (IntKind.u8.wrap x5) ∧ (IntKind.u8.wrap x5) < ((ByteArray.mk #[0, 1, 2, 2, 3, 3, 3, 3, 4, 4, 4, 4, 4, 4, 4, 4, 5, 5, 5, 5, 5, 5, 5, 5, 5, 5, 5, 5, 5, 5, 5, 5, 6, 6, 6, 6, 6, 6, 6, 6, 6, 6, 6, 6, 6, 6, 6, 6, 6, 6, 6, 6, 6, 6, 6, 6, 6, 6, 6, 6, 6, 6, 6, 6, 7, 7, 7, 7, 7, 7, 7, 7, 7, 7, 7, 7, 7, 7, 7, 7, 7, 7, 7, 7, 7, 7, 7, 7, 7, 7, 7, 7, 7, 7, 7, 7, 7, 7, 7, 7, 7, 7, 7, 7, 7, 7, 7, 7, 7, 7, 7, 7, 7, 7, 7, 7, 7, 7, 7, 7, 7, 7, 7, 7, 7, 7, 7, 7, 8, 8, 8, 8, 8, 8, 8, 8, 8, 8, 8, 8, 8, 8, 8, 8, 8, 8, 8, 8, 8, 8, 8, 8, 8, 8, 8, 8, 8, 8, 8, 8, 8, 8, 8, 8, 8, 8, 8, 8, 8, 8, 8, 8, 8, 8, 8, 8, 8, 8, 8, 8, 8, 8, 8, 8, 8, 8, 8, 8, 8, 8, 8, 8, 8, 8, 8, 8, 8, 8, 8, 8, 8, 8, 8, 8, 8, 8, 8, 8, 8, 8, 8, 8, 8, 8, 8, 8, 8, 8, 8, 8, 8, 8, 8, 8, 8, 8, 8, 8, 8, 8, 8, 8, 8, 8, 8, 8, 8, 8, 8, 8, 8, 8, 8, 8, 8, 8, 8, 8, 8, 8, 8, 8, 8, 8, 8, 8]).size : Int)) <| aw (some (((ByteArray.mk #[0, 1, 2, 2, 3, 3, 3, 3, 4, 4, 4, 4, 4, 4, 4, 4, 5, 5, 5, 5, 5, 5, 5, 5, 5, 5, 5, 5, 5, 5, 5, 5, 6, 6, 6, 6, 6, 6, 6, 6, 6, 6, 6, 6, 6, 6, 6, 6, 6, 6, 6, 6, 6, 6, 6, 6, 6, 6, 6, 6, 6, 6, 6, 6, 7, 7, 7, 7, 7, 7, 7, 7, 7, 7, 7, 7, 7, 7, 7, 7, 7, 7, 7, 7, 7, 7, 7, 7, 7, 7, 7, 7, 7, 7, 7, 7, 7, 7, 7, 7, 7, 7, 7, 7, 7, 7, 7, 7, 7, 7, 7, 7, 7, 7, 7, 7, 7, 7, 7, 7, 7, 7, 7, 7, 7, 7, 7, 7, 8, 8, 8, 8, 8, 8, 8, 8, 8, 8, 8, 8, 8, 8, 8, 8, 8, 8, 8, 8, 8, 8, 8, 8, 8, 8, 8, 8, 8, 8, 8, 8, 8, 8, 8, 8, 8, 8, 8, 8, 8, 8, 8, 8, 8, 8, 8, 8, 8, 8, 8, 8, 8, 8, 8, 8, 8, 8, 8, 8, 8, 8, 8, 8, 8, 8, 8, 8, 8, 8, 8, 8, 8, 8, 8, 8, 8, 8, 8, 8, 8, 8, 8, 8, 8, 8, 8, 8, 8, 8, 8, 8, 8, 8, 8, 8, 8, 8, 8, 8, 8, 8, 8, 8, 8, 8, 8, 8, 8, 8, 8, 8, 8, 8, 8, 8, 8, 8, 8, 8, 8, 8, 8, 8, 8, 8, 8, 8]).data.toList.getD (IntKind.u8.wrap x5).toNat 0).toNat : Int)) fun y1 => some (IntKind.i64.wrap (x6 + (IntKind.i64.wrap y1)))
def jp (x3 x4 : Int) : Option Int := aq (decide ((256 : Int) ≤ x3)) (jr (x3.fdiv (2 ^ (min (8 : Int).toNat (IntKind.u64).bits))) (IntKind.i64.wrap (x4 + 8))) (jr x3 x4)
def jv (x1 x2 : Int) : Option Int := aq (decide ((65536 : Int) ≤ x1)) (jp (x1.fdiv (2 ^ (min (16 : Int).toNat (IntKind.u64).bits))) (IntKind.i64.wrap (x2 + 16))) (jp x1 x2)
def mQ (p1 : Int) : Option Int := aq (decide ((4294967296 : Int) ≤ p1)) (jv (p1.fdiv (2 ^ (min (32 : Int).toNat (IntKind.u64).bits))) (32 : Int)) (jv p1 (0 : Int))
theorem wv (p1 : Int) : CT Tryz.prog 155 [vk .u64 p1] (mQ p1) vi :=
  iS 25 [] Tryz.f155 fun r => (uQ (kS Tryz.f155 [1,0] 1) fun K2 hK2 => have hJ1 : ∀ (x1 x2 : Int), jv x1 x2 = some r → K2.p [(0, vk .u64 x1), (2, vi x2)] [] := fun x1 x2 h => hK2 h (uQ (kS Tryz.f155 [1,1,0] 1) fun K6 hK6 => have hJ2 : ∀ (x3 x4 : Int), jp x3 x4 = some r → K6.p [(0, vk .u64 x3), (2, vi x4)] [] := fun x3 x4 h => hK6 h (uQ (kS Tryz.f155 [1,1,1,0] 1) fun K10 hK10 => have hJ3 : ∀ (x5 x6 : Int), jr x5 x6 = some r → K10.p [(0, vk .u64 x5), (2, vi x6)] [] := fun x5 x6 h => hK10 h (Ns 22 (vk .u8) fun y1 => (uR .ret xF)); (uC (uJ (hJ3 (x3.fdiv (2 ^ (min (8 : Int).toNat (IntKind.u64).bits))) (IntKind.i64.wrap (x4 + 8)))) (uJ (hJ3 x3 x4)))); (uC (uJ (hJ2 (x1.fdiv (2 ^ (min (16 : Int).toNat (IntKind.u64).bits))) (IntKind.i64.wrap (x2 + 16)))) (uJ (hJ2 x1 x2)))); (uC (uJ (hJ1 (p1.fdiv (2 ^ (min (32 : Int).toNat (IntKind.u64).bits))) (32 : Int))) (uJ (hJ1 p1 (0 : Int)))))
def mP (p1 : Int) : Option (List Int) := aw (some (IntKind.u64.wrap ((IntKind.u64.wrap p1) * 2 ^ (min (1 : Int).toNat (IntKind.u64).bits)))) fun y1 => aw (some (IntKind.u64.wrap (p1.fdiv (2 ^ (min (63 : Int).toNat (IntKind.i64).bits))))) fun y2 => aw (some (IntKind.u64.wrap (BitVec.ofInt (IntKind.u64).bits y1 ^^^ BitVec.ofInt (IntKind.u64).bits y2).toNat)) fun y3 => aw (fb y3 []) fun r1 => some r1.2
theorem wB (p1 : Int) : CX Tryz.prog 107 [.one (.pv (.s (.slice none 0 0))), vi p1] [] [] (mP p1) (fun r => .one (.sl 0 1 0 r.length)) (fun r => [.arr 1 ((eK .u8).els r)]) :=
  yv 0 1 14 [] Tryz.f107 fun r => (uY 8 (vk .u64) fun y1 => (uY 11 (vk .u64) fun y2 => (uY 12 (vk .u64) fun y3 => (pq (.li 5 1) (we true [0] (gz _ _) fun r1 _ => (uR .ret iW))))))
def lH (rec2 : List Int → Int → Option (List Int)) (x2 : Int) (l3 : List Int) : Option (List Int) := rec2 l3 (IntKind.i64.wrap (x2 + 1))
def qo (rec1 : List Int → Int → Option (List Int)) (x1 : Int) (l4 : List Int) : Option (List Int) := rec1 l4 (IntKind.i64.wrap (x1 + 1))
def fe (rec1 : List Int → Int → Option (List Int)) (p1 x1 e1 : Int) : Nat → List Int → Int → Option (List Int)
 | 0, _, _ => none
 | k2 + 1, l2, x2 => aq (decide (x2 < p1)) (cr (0 ≤ x2) <| aw (some (IntKind.i64.wrap (BitVec.ofInt (IntKind.i64).bits (e1.fdiv (2 ^ (min x2.toNat (IntKind.i64).bits))) &&& BitVec.ofInt (IntKind.i64).bits (1 : Int)).toNat)) fun y2 => aq (y2 == 1) (aw (some (IntKind.i64.wrap ((IntKind.i64.wrap ((IntKind.i64.wrap (x1 * p1)) + x2)).tdiv (8 : Int)))) fun y3 => aw (at? l2 y3) fun e2 => aw (some ((IntKind.i64.wrap ((IntKind.i64.wrap (x1 * p1)) + x2)).tmod (8 : Int))) fun y4 => cr (0 ≤ y4) <| aw (some (IntKind.u8.wrap (BitVec.ofInt (IntKind.u8).bits e2 ||| BitVec.ofInt (IntKind.u8).bits (IntKind.u8.wrap ((1 : Int) * 2 ^ (min y4.toNat (IntKind.u8).bits)))).toNat)) fun y5 => lH (fe rec1 p1 x1 e1 k2) x2 (l2.set y3.toNat y5)) (lH (fe rec1 p1 x1 e1 k2) x2 l2)) (qo rec1 x1 l2)
def tu (l5 : List Int) : Option (List Int) := some l5
def dR (p1 : Int) (p2 : (List Int)) : Nat → List Int → Int → Option (List Int)
 | 0, _, _ => none
 | k1 + 1, l1, x1 => aq (decide (x1 < (p2.length : Int))) (aw (at? p2 x1) fun e1 => fe (dR p1 p2 k1) p1 x1 e1 aK l1 (0 : Int)) (tu l1)
def kr (p1 : Int) (p2 : (List Int)) : Option (List Int) := aw (some (IntKind.i64.wrap ((IntKind.i64.wrap ((p2.length : Int) * p1)) + (7 : Int)))) fun y1 => cr (0 ≤ (IntKind.i64.wrap (y1.tdiv (8 : Int))) ∧ (IntKind.i64.wrap (y1.tdiv (8 : Int))) ≤ (IntKind.i64.wrap (y1.tdiv (8 : Int))) ∧ (IntKind.i64.wrap (y1.tdiv (8 : Int))) ≤ 4294967296) <| dR p1 p2 aK (List.replicate (IntKind.i64.wrap (y1.tdiv (8 : Int))).toNat (0 : Int)) (0 : Int)
theorem vu (p1 : Int) (p2 : (List Int)) : CT Tryz.prog 68 [vi p1, vl eI p2] (kr p1 p2) (fun r => vl (eK .u8) r) :=
  iS 53 [] Tryz.f68 fun r => (uN eI p2 (uY 13 vi fun y1 => (No (eK .u8) (0 : Int) (uQ (kS Tryz.f68 [1,1,0] 1) fun K6 hK6 => have hJ3 : ∀ (l5 : List Int), tu l5 = some r → K6.p [(5, .one (.sl 0 1 0 l5.length))] [.arr 1 ((eK .u8).els l5)] := fun l5 h => hK6 h (ou (eK .u8) l5 0 [4] (uR .ret xF)); (uN eI p2 (Bt 0 (show (IntKind.i64.wrap (y1.tdiv (8 : Int))).toNat = (List.replicate (IntKind.i64.wrap (y1.tdiv (8 : Int))).toNat (0 : Int)).length by simp) (uO (cd Tryz.f68 [1,1,0,1,0,0]) (kS Tryz.f68 [1,1,0,1,0] 1) fun R1 b1 => have hL1 : ∀ (k1 : Nat) (l1 : List Int) (x1 : Int), dR p1 p2 k1 l1 x1 = some r → (R1 k1).p [(0, vi p1), (5, .one (.sl 0 1 0 l1.length)), (16, vl eI p2), (17, vi (p2.length : Int)), (18, vi x1)] [.arr 1 ((eK .u8).els l1)] := by intro k1; induction k1 with | zero => intro l1 x1 h; exact iE (dR.eq_1 ..) h | succ k1 ih1 => intro l1 x1 h; exact b1 h (uU (dR.eq_2 ..) (uC (uQ (kS Tryz.f68 [1,1,0,1,0,0,1,1,0] 1) fun K11 hK11 => have hJ2 : ∀ (l4 : List Int), qo (dR p1 p2 k1) x1 l4 = some r → K11.p [(0, vi p1), (5, .one (.sl 0 1 0 l4.length)), (16, vl eI p2), (17, vi (p2.length : Int)), (18, vi x1)] [.arr 1 ((eK .u8).els l4)] := fun l4 h => hK11 h (uJ (ih1 l4 (IntKind.i64.wrap (x1 + 1)))); (uL eI fun e1 a13 => (uO (cd Tryz.f68 [1,1,0,1,0,0,1,1,0,0,1,1,0,0]) (kS Tryz.f68 [1,1,0,1,0,0,1,1,0,0,1,1,0] 2) fun R2 b2 => have hL2 : ∀ (k2 : Nat) (l2 : List Int) (x2 : Int), fe (dR p1 p2 k1) p1 x1 e1 k2 l2 x2 = some r → (R2 k2).p [(0, vi p1), (5, .one (.sl 0 1 0 l2.length)), (6, vi x1), (7, vi e1), (16, vl eI p2), (17, vi (p2.length : Int)), (18, vi x1), (23, vi p1), (24, vi x2)] [.arr 1 ((eK .u8).els l2)] := by intro k2; induction k2 with | zero => intro l2 x2 h; exact iE (fe.eq_1 ..) h | succ k2 ih2 => intro l2 x2 h; exact b2 h (uU (fe.eq_2 ..) (uC (uQ (kS Tryz.f68 [1,1,0,1,0,0,1,1,0,0,1,1,0,0,1,1,0] 1) fun K18 hK18 => have hJ1 : ∀ (l3 : List Int), lH (fe (dR p1 p2 k1) p1 x1 e1 k2) x2 l3 = some r → K18.p [(0, vi p1), (5, .one (.sl 0 1 0 l3.length)), (6, vi x1), (7, vi e1), (16, vl eI p2), (17, vi (p2.length : Int)), (18, vi x1), (23, vi p1), (24, vi x2)] [.arr 1 ((eK .u8).els l3)] := fun l3 h => hK18 h (uJ (ih2 l3 (IntKind.i64.wrap (x2 + 1)))); (uG (uY 30 vi fun y2 => (uC (yf 16 (uY 38 vi fun y3 => (DR (eK .u8) 0 fun e2 a25 => (Fo (eK .u8) a25 (uY 46 vi fun y4 => (uG (uY 48 (vk .u8) fun y5 => (L6 (eK .u8) 0 a25 (JT (eK .u8) 0 a25 y5 (Bt 0 (show l2.length = (l2.set y3.toNat y5).length by simp) (uJ (hJ1 (l2.set y3.toNat y5))))))))))))) (uJ (hJ1 l2)))))) (uR (.exit 2) (xM (uJ (hJ2 l2))))))
 uE (hL2 aK l1 (0 : Int))))) (uR (.exit 0) (xM (uJ (hJ3 l1))))))
 uE (hL1 aK (List.replicate (IntKind.i64.wrap (y1.tdiv (8 : Int))).toNat (0 : Int)) (0 : Int)))))))))
def pF (r1 r3 : Int) (l2 : List Int) : Option (List Int) := aw (mP r1) fun r4 => cr (r4.length + 1 ≤ 4294967296) <| aw (kr r3 l2) fun r5 => cr ((r4 ++ [(IntKind.u8.wrap r3)]).length + r5.length ≤ 4294967296) <| some ((r4 ++ [(IntKind.u8.wrap r3)]) ++ r5)
def gL (p1 : (List Int)) (r1 r3 : Int) : Nat → List Int → Int → Option (List Int)
 | 0, _, _ => none
 | k1 + 1, l1, x1 => aq (decide (x1 < (p1.length : Int))) (aw (at? p1 x1) fun e1 => cr (l1.length + 1 ≤ 4294967296) <| (gL p1 r1 r3 k1) (l1 ++ [(IntKind.i64.wrap (e1 - r1))]) (IntKind.i64.wrap (x1 + 1))) (pF r1 r3 l1)
def me (p1 : (List Int)) : Option (List Int) := aq ((p1.length : Int) == 0) (some []) (aw (m8 p1) fun r1 => aw (nh p1) fun r2 => aw (mQ (IntKind.u64.wrap (IntKind.i64.wrap (r2 - r1)))) fun r3 => gL p1 r1 r3 aK [] (0 : Int))
theorem qC (p1 : (List Int)) : CT Tryz.prog 100 [vl eI p1] (me p1) (fun r => vl (eK .u8) r) :=
  iS 44 [] Tryz.f100 fun r => (uN eI p1 (uC (uR .ret xF) (uP (tT _) fun r1 _ => (uP (tB _) fun r2 _ => (uP (wv _) fun r3 _ => (uQ (kS Tryz.f100 [1,1,1,1,1,0] 1) fun K12 hK12 => have hJ1 : ∀ (l2 : List Int), pF r1 r3 l2 = some r → K12.p [(3, vi r1), (4, vi r3), (5, .one (.sl 0 1 0 l2.length))] [.arr 1 (eI.els l2)] := fun l2 h => hK12 h (we false [] (wB _) fun r4 _ => (kl (eK .u8) 1 [(IntKind.u8.wrap r3)] (ou eI l2 0 [41] (uP (vu _ _) fun r5 _ => (kl (eK .u8) 1 r5 (ou (eK .u8) ((r4 ++ [(IntKind.u8.wrap r3)]) ++ r5) 1 [2] (uR .ret xF))))))); (uN eI p1 (pq (.li 5 1) (uO (cd Tryz.f100 [1,1,1,1,1,0,1,0,0]) (kS Tryz.f100 [1,1,1,1,1,0,1,0] 1) fun R1 b1 => have hL1 : ∀ (k1 : Nat) (l1 : List Int) (x1 : Int), gL p1 r1 r3 k1 l1 x1 = some r → (R1 k1).p [(3, vi r1), (4, vi r3), (5, .one (.sl 0 1 0 l1.length)), (20, vl eI p1), (21, vi (p1.length : Int)), (22, vi x1)] [.arr 1 (eI.els l1)] := by intro k1; induction k1 with | zero => intro l1 x1 h; exact iE (gL.eq_1 ..) h | succ k1 ih1 => intro l1 x1 h; exact b1 h (uU (gL.eq_2 ..) (uC (uL eI fun e1 a19 => (kl eI 0 [(IntKind.i64.wrap (e1 - r1))] (uJ (ih1 (l1 ++ [(IntKind.i64.wrap (e1 - r1))]) (IntKind.i64.wrap (x1 + 1)))))) (uR (.exit 0) (xM (uJ (hJ1 l1))))))
 uE (hL1 aK [] (0 : Int)))))))))))
def pA (l2 : List Int) : Option (List Int) := some l2
def gG (p2 : (List ByteArray)) : Nat → List Int → Int → Option (List Int)
 | 0, _, _ => none
 | k1 + 1, l1, x1 => aq (decide (x1 < (p2.length : Int))) (aw (at? p2 x1) fun e1 => aw (fb (IntKind.u64.wrap (e1.size : Int)) l1) fun r6 => cr (r6.2.length + (cK e1).length ≤ 4294967296) <| (gG p2 k1) (r6.2 ++ (cK e1)) (IntKind.i64.wrap (x1 + 1))) (pA l1)
def pT (p1 : Int) (p2 : (List ByteArray)) : Option (List Int) := aq (p1 == 4) (aw (cz p2) fun r1 => aw (mR (IntKind.u64.wrap (r1.1.length : Int))) fun r2 => aw (mT r1.1) fun r3 => cr (r2.length + r3.length ≤ 4294967296) <| aw (me r1.2) fun r4 => cr ((r2 ++ r3).length + r4.length ≤ 4294967296) <| some ((r2 ++ r3) ++ r4)) (aq (p1 == 5) (aw (mT p2) fun r5 => some r5) (gG p2 aK [] (0 : Int)))
theorem zK (p1 : Int) (p2 : (List ByteArray)) : CT Tryz.prog 46 [vi p1, vl eS p2] (pT p1 p2) (fun r => vl (eK .u8) r) :=
  iS 48 [] Tryz.f46 fun r => (uC (uP (kE _) fun r1 _ => (uN eS r1.1 (we false [] (qM _) fun r2 _ => (uP (qP _) fun r3 _ => (kl (eK .u8) 0 r3 (uP (qC _) fun r4 _ => (kl (eK .u8) 0 r4 (ou (eK .u8) ((r2 ++ r3) ++ r4) 0 [4] (uR .ret xF))))))))) (uC (uP (qP _) fun r5 _ => (uR .ret xF)) (uQ (kS Tryz.f46 [1,1,1,0] 1) fun K20 hK20 => have hJ1 : ∀ (l2 : List Int), pA l2 = some r → K20.p [(5, .one (.sl 0 1 0 l2.length))] [.arr 1 ((eK .u8).els l2)] := fun l2 h => hK20 h (ou (eK .u8) l2 0 [4] (uR .ret xF)); (uN eS p2 (pq (.li 5 1) (uO (cd Tryz.f46 [1,1,1,0,1,0,0]) (kS Tryz.f46 [1,1,1,0,1,0] 1) fun R1 b1 => have hL1 : ∀ (k1 : Nat) (l1 : List Int) (x1 : Int), gG p2 k1 l1 x1 = some r → (R1 k1).p [(5, .one (.sl 0 1 0 l1.length)), (33, vl eS p2), (34, vi (p2.length : Int)), (35, vi x1)] [.arr 1 ((eK .u8).els l1)] := by intro k1; induction k1 with | zero => intro l1 x1 h; exact iE (gG.eq_1 ..) h | succ k1 ih1 => intro l1 x1 h; exact b1 h (uU (gG.eq_2 ..) (uC (uL eS fun e1 a27 => (we true [0] (gz _ _) fun r6 _ => (OO 0 e1 (uJ (ih1 (r6.2 ++ (cK e1)) (IntKind.i64.wrap (x1 + 1))))))) (uR (.exit 1) (xM (uJ (hJ1 l1))))))
 uE (hL1 aK [] (0 : Int))))))))
def iF (p1 : Int) (p2 : (List ByteArray)) : Option (List Int) := aw (pT p1 p2) fun r1 => some r1
theorem mf (p1 : Int) (p2 : (List ByteArray)) : CT Tryz.prog 45 [vi p1, .one (.pv (.rp [[.ro (eS.els p2)]] 0 0))] (iF p1 p2) (fun r => vl (eK .u8) r) :=
  iS 7 [] Tryz.f45 fun r => (uP (zK _ _) fun r1 _ => (uR .ret xF))
def dG (x2 : List Int) : Option (List Int) := some x2
def cj (p1 : (List ByteArray)) (x1 : List Int) : Option (List Int) := aw (at? [(0 : Int), (4 : Int), (5 : Int)] (2 : Int)) fun e3 => aw (iF e3 p1) fun r3 => cr ([(IntKind.u8.wrap e3)].length + r3.length ≤ 4294967296) <| cr (x1 ≠ []) <| aw (some (decide (((([(IntKind.u8.wrap e3)] ++ r3).length : Nat) : Int) < (x1.length : Int)))) fun y2 => aq y2 (dG ([(IntKind.u8.wrap e3)] ++ r3)) (dG x1)
def cE (p1 : (List ByteArray)) : Option (List Int) := aw (at? [(0 : Int), (4 : Int), (5 : Int)] (0 : Int)) fun e1 => aw (iF e1 p1) fun r1 => cr ([(IntKind.u8.wrap e1)].length + r1.length ≤ 4294967296) <| aw (at? [(0 : Int), (4 : Int), (5 : Int)] (1 : Int)) fun e2 => aw (iF e2 p1) fun r2 => cr ([(IntKind.u8.wrap e2)].length + r2.length ≤ 4294967296) <| cr (([(IntKind.u8.wrap e1)] ++ r1) ≠ []) <| aw (some (decide (((([(IntKind.u8.wrap e2)] ++ r2).length : Nat) : Int) < (([(IntKind.u8.wrap e1)] ++ r1).length : Int)))) fun y1 => aq y1 (cj p1 ([(IntKind.u8.wrap e2)] ++ r2)) (cj p1 ([(IntKind.u8.wrap e1)] ++ r1))
theorem kQ (p1 : (List ByteArray)) : CT Tryz.prog 44 [vl eI [(0 : Int), (4 : Int), (5 : Int)], .one (.fn 45 [.pv (.rp [[.ro (eS.els p1)]] 0 0)])] (cE p1) (fun r => vl (eK .u8) r) :=
  iS 34 [17] Tryz.f44 fun r => (uA (vi (3 : Int)) (OL 3 (uT (uL eI fun e1 a9 => (uP (mf _ _) fun r1 _ => (kl (eK .u8) 0 r1 (uT (uQ [.c (cd Tryz.f44 [1,1,0,1,0,0,1,1,1]), .r (cd Tryz.f44 [1,1,0,1,0,0]) 2, .b 0, .c (cd Tryz.f44 [1,1,1])] fun K16 hK16 => have hJ1 : ∀ (x1 : List Int), cj p1 x1 = some r → K16.p [(1, .one (.fn 45 [.pv (.rp [[.ro (eS.els p1)]] 0 0)])), (5, vl (eK .u8) x1), (9, vl eI [(0 : Int), (4 : Int), (5 : Int)]), (10, vi (3 : Int)), (11, vi (1 : Int))] [.dead] := fun x1 h => hK16 h (uT (uQ [.c (cd Tryz.f44 [1,1,0,1,0,0,1,1,1]), .r (cd Tryz.f44 [1,1,0,1,0,0]) 1, .b 0, .c (cd Tryz.f44 [1,1,1])] fun K28 hK28 => have hJ2 : ∀ (x2 : List Int), dG x2 = some r → K28.p [(1, .one (.fn 45 [.pv (.rp [[.ro (eS.els p1)]] 0 0)])), (5, vl (eK .u8) x2), (9, vl eI [(0 : Int), (4 : Int), (5 : Int)]), (10, vi (3 : Int)), (11, vi (2 : Int))] [.dead] := fun x2 h => hK28 h (uF (uR .ret xF)); (uL eI fun e3 a30 => (uP (mf _ _) fun r3 _ => (kl (eK .u8) 1 r3 (GO (eK .u8) (uF (uN (eK .u8) x1 (uY 29 vb fun y2 => (uC (rP (eK .u8) ([(IntKind.u8.wrap e3)] ++ r3) 1 [5] (uJ (hJ2 ([(IntKind.u8.wrap e3)] ++ r3)))) (uJ (hJ2 x1)))))))))))); (uL eI fun e2 a18 => (uP (mf _ _) fun r2 _ => (kl (eK .u8) 1 r2 (ou (eK .u8) ([(IntKind.u8.wrap e1)] ++ r1) 0 [5,22] (GO (eK .u8) (uF (uN (eK .u8) ([(IntKind.u8.wrap e1)] ++ r1) (uY 29 vb fun y1 => (uC (rP (eK .u8) ([(IntKind.u8.wrap e2)] ++ r2) 1 [5] (uJ (hJ1 ([(IntKind.u8.wrap e2)] ++ r2)))) (uJ (hJ1 ([(IntKind.u8.wrap e1)] ++ r1))))))))))))))))))))
def gp (p1 : Int) (p2 : (List Int)) : Option (Unit × (List Int)) := aw (some (IntKind.u64.wrap ((IntKind.u64.wrap p1) * 2 ^ (min (1 : Int).toNat (IntKind.u64).bits)))) fun y1 => aw (some (IntKind.u64.wrap (p1.fdiv (2 ^ (min (63 : Int).toNat (IntKind.i64).bits))))) fun y2 => aw (some (IntKind.u64.wrap (BitVec.ofInt (IntKind.u64).bits y1 ^^^ BitVec.ofInt (IntKind.u64).bits y2).toNat)) fun y3 => aw (fb y3 p2) fun r1 => some ((), r1.2)
theorem j1 (p1 : Int) (p2 : (List Int)) : CX Tryz.prog 107 [.one (.sl 0 1 0 p2.length), vi p1] [.arr 1 ((eK .u8).els p2)] [0] (gp p1 p2) (fun r => .one (.sl 0 1 0 r.2.length)) (fun r => [.arr 1 ((eK .u8).els r.2)]) :=
  yv 1 1 14 [] Tryz.f107 fun r => (uY 8 (vk .u64) fun y1 => (uY 11 (vk .u64) fun y2 => (uY 12 (vk .u64) fun y3 => (we true [0] (gz _ _) fun r1 _ => (uR .ret iW)))))
def nH (rec1 : List Int → Int → Option (List Int)) (p1 : (List Int)) (l1 : List Int) (x1 x4 : Int) : Option (List Int) := aw (fb (IntKind.u64.wrap (IntKind.i64.wrap (x4 - x1))) l1) fun r1 => aw (at? p1 x1) fun e3 => aw (gp e3 r1.2) fun r2 => rec1 r2.2 x4
def lT (rec1 : List Int → Int → Option (List Int)) (rec2 : Int → Option (List Int)) (p1 : (List Int)) (l1 : List Int) (x1 x2 : Int) (x3 : Bool) : Option (List Int) := aq x3 (rec2 (IntKind.i64.wrap (x2 + 1))) (nH rec1 p1 l1 x1 x2)
def fh (rec1 : List Int → Int → Option (List Int)) (p1 : (List Int)) (l1 : List Int) (x1 : Int) : Nat → Int → Option (List Int)
 | 0, _ => none
 | k2 + 1, x2 => aq (decide (x2 < (p1.length : Int))) (aw (at? p1 x2) fun e1 => aw (at? p1 x1) fun e2 => lT rec1 (fh rec1 p1 l1 x1 k2) p1 l1 x1 x2 (e1 == e2)) (lT rec1 (fh rec1 p1 l1 x1 k2) p1 l1 x1 x2 false)
def p8 (l2 : List Int) : Option (List Int) := some l2
def dM (p1 : (List Int)) : Nat → List Int → Int → Option (List Int)
 | 0, _, _ => none
 | k1 + 1, l1, x1 => aq (decide (x1 < (p1.length : Int))) (fh (dM p1 k1) p1 l1 x1 aK x1) (p8 l1)
def uf (p1 : (List Int)) : Option (List Int) := dM p1 aK [] (0 : Int)
theorem Au (p1 : (List Int)) : CT Tryz.prog 101 [vl eI p1] (uf p1) (fun r => vl (eK .u8) r) :=
  iS 41 [] Tryz.f101 fun r => (uQ (kS Tryz.f101 [1,1,0] 1) fun K3 hK3 => have hJ3 : ∀ (l2 : List Int), p8 l2 = some r → K3.p [(3, .one (.sl 0 1 0 l2.length))] [.arr 1 ((eK .u8).els l2)] := fun l2 h => hK3 h (ou (eK .u8) l2 0 [2] (uR .ret xF)); (pq (.li 3 1) (uO (cd Tryz.f101 [1,1,0,1,0,0]) (kS Tryz.f101 [1,1,0,1,0] 1) fun R1 b1 => have hL1 : ∀ (k1 : Nat) (l1 : List Int) (x1 : Int), dM p1 k1 l1 x1 = some r → (R1 k1).p [(0, vl eI p1), (3, .one (.sl 0 1 0 l1.length)), (4, vi x1)] [.arr 1 ((eK .u8).els l1)] := by intro k1; induction k1 with | zero => intro l1 x1 h; exact iE (dM.eq_1 ..) h | succ k1 ih1 => intro l1 x1 h; exact b1 h (uU (dM.eq_2 ..) (uN eI p1 (uC (uQ (kS Tryz.f101 [1,1,0,1,0,0,1,0,1,0] 2) fun K9 hK9 => have hJ2 : ∀ (x4 : Int), nH (dM p1 k1) p1 l1 x1 x4 = some r → K9.p [(0, vl eI p1), (3, .one (.sl 0 1 0 l1.length)), (4, vi x1), (5, vi x4)] [.arr 1 ((eK .u8).els l1)] := fun x4 h => hK9 h (Ph 10 0 [0,1] (Pe [0] (gz _ _) fun r1 _ => (uL eI fun e3 a18 => (we true [0] (j1 _ _) fun r2 _ => (uJ (ih1 r2.2 x4)))))); (uO (cd Tryz.f101 [1,1,0,1,0,0,1,0,1,0,0,0]) (kS Tryz.f101 [1,1,0,1,0,0,1,0,1,0,0] 1) fun R2 b2 => have hL2 : ∀ (k2 : Nat) (x2 : Int), fh (dM p1 k1) p1 l1 x1 k2 x2 = some r → (R2 k2).p [(0, vl eI p1), (3, .one (.sl 0 1 0 l1.length)), (4, vi x1), (5, vi x2)] [.arr 1 ((eK .u8).els l1)] := by intro k2; induction k2 with | zero => intro x2 h; exact iE (fh.eq_1 ..) h | succ k2 ih2 => intro x2 h; exact b2 h (uU (fh.eq_2 ..) (uQ (kS Tryz.f101 [1,1,0,1,0,0,1,0,1,0,0,0,0,0] 2) fun K11 hK11 => have hJ1 : ∀ (x3 : Bool), lT (dM p1 k1) (fh (dM p1 k1) p1 l1 x1 k2) p1 l1 x1 x2 x3 = some r → K11.p [(0, vl eI p1), (3, .one (.sl 0 1 0 l1.length)), (4, vi x1), (5, vi x2), (25, vb x3)] [.arr 1 ((eK .u8).els l1)] := fun x3 h => hK11 h (uC (uJ (ih2 (IntKind.i64.wrap (x2 + 1)))) (uR (.exit 2) (xM (uJ (hJ2 x2))))); (yf 13 (uN eI p1 (uC (uL eI fun e1 a13 => (uL eI fun e2 a14 => (uJ (hJ1 (e1 == e2))))) (uJ (hJ1 false)))))))
 uE (hL2 aK x1))) (uR (.exit 0) (xM (uJ (hJ3 l1)))))))
 uE (hL1 aK [] (0 : Int)))))
def lX (p1 : Int) (p2 p3 : (List Int)) : Option (Unit × (List Int)) := aq (p1 == 0) (aw (at? p2 (0 : Int)) fun e1 => aw (gp e1 p3) fun r1 => some ((), r1.2)) (aw (at? p2 p1) fun e2 => aw (at? p2 (IntKind.i64.wrap (p1 - 1))) fun e3 => aw (gp (IntKind.i64.wrap (e2 - e3)) p3) fun r2 => some ((), r2.2))
theorem v7 (p1 : Int) (p2 p3 : (List Int)) : CX Tryz.prog 157 [.one (.sl 0 1 0 p3.length), vi p1, .one (.pv (.rp [[.ro (eI.els p2)]] 0 0))] [.arr 1 ((eK .u8).els p3)] [0] (lX p1 p2 p3) (fun r => .one (.sl 0 1 0 r.2.length)) (fun r => [.arr 1 ((eK .u8).els r.2)]) :=
  yv 1 1 25 [] Tryz.f157 fun r => (uC (uL eI fun e1 a6 => (we true [0] (j1 _ _) fun r1 _ => (uR .ret iW))) (yf 11 (uL eI fun e2 a9 => (uL eI fun e3 a10 => (we true [0] (j1 _ _) fun r2 _ => (uR .ret iW))))))
def gq (l2 : List Int) : Option (List Int) := some l2
def bu (p1 p2 : (List Int)) : Nat → List Int → Int → Option (List Int)
 | 0, _, _ => none
 | k1 + 1, l1, x1 => aq (decide (x1 < (p1.length : Int))) (aw (lX x1 p2 l1) fun r1 => (bu p1 p2 k1) r1.2 (IntKind.i64.wrap (x1 + 1))) (gq l1)
def iu (p1 p2 : (List Int)) : Option (List Int) := bu p1 p2 aK [] (0 : Int)
theorem oi (p1 p2 : (List Int)) : CT Tryz.prog 105 [vl eI p1, .one (.fn 157 [.pv (.rp [[.ro (eI.els p2)]] 0 0)])] (iu p1 p2) (fun r => vl (eK .u8) r) :=
  iS 18 [] Tryz.f105 fun r => (uQ (kS Tryz.f105 [1,1,0] 1) fun K3 hK3 => have hJ1 : ∀ (l2 : List Int), gq l2 = some r → K3.p [(5, .one (.sl 0 1 0 l2.length))] [.arr 1 ((eK .u8).els l2)] := fun l2 h => hK3 h (ou (eK .u8) l2 0 [4] (uR .ret xF)); (uN eI p1 (pq (.li 5 1) (uO (cd Tryz.f105 [1,1,0,1,0,0]) (kS Tryz.f105 [1,1,0,1,0] 1) fun R1 b1 => have hL1 : ∀ (k1 : Nat) (l1 : List Int) (x1 : Int), bu p1 p2 k1 l1 x1 = some r → (R1 k1).p [(1, .one (.fn 157 [.pv (.rp [[.ro (eI.els p2)]] 0 0)])), (5, .one (.sl 0 1 0 l1.length)), (8, vi (p1.length : Int)), (9, vi x1)] [.arr 1 ((eK .u8).els l1)] := by intro k1; induction k1 with | zero => intro l1 x1 h; exact iE (bu.eq_1 ..) h | succ k1 ih1 => intro l1 x1 h; exact b1 h (uU (bu.eq_2 ..) (uC (we true [0] (v7 _ _ _) fun r1 _ => (uJ (ih1 r1.2 (IntKind.i64.wrap (x1 + 1))))) (uR (.exit 0) (xM (uJ (hJ1 l1))))))
 uE (hL1 aK [] (0 : Int))))))
def nO (p1 : (List Int)) : Option (List Int) := aw (iu p1 p1) fun r1 => some r1
theorem tJ (p1 : (List Int)) : CT Tryz.prog 102 [vl eI p1] (nO p1) (fun r => vl (eK .u8) r) :=
  iS 6 [] Tryz.f102 fun r => (uP (oi _ _) fun r1 _ => (uR .ret xF))
def lS (p1 : (List Int)) : Option (List Int) := cr (p1 ≠ []) <| cr (([] : List Int).length + p1.length ≤ 4294967296) <| some (([] : List Int) ++ p1)
theorem sq (p1 : (List Int)) : CX Tryz.prog 158 [vl eI p1] [] [] (lS p1) (fun r => .one (.sl 0 1 0 r.length)) (fun r => [.arr 1 (eI.els r)]) :=
  yv 0 1 8 [5] Tryz.f158 fun r => (GO eI (uF (kl eI 0 p1 (uR .ret iW))))
def ke (p1 p2 : Int) : Option Int := some (IntKind.i64.wrap (p1 - p2))
theorem qm (p1 p2 : Int) : CT Tryz.prog 104 [vi p1, vi p2] (ke p1 p2) vi :=
  iS 8 [] Tryz.f104 fun r => (uR .ret xF)
def bp (x3 : Int) (x4 : Bool) : Option (Int × Bool) := some (x3, x4)
def bN (p1 : (List Int)) (p2 x3 : Int) : Option (Int × Bool) := aq (decide (x3 < (p1.length : Int))) (aw (at? p1 x3) fun e2 => aw (ke e2 p2) fun r2 => bp x3 (r2 == 0)) (bp x3 false)
def ay (p1 : (List Int)) (p2 : Int) : Nat → Int → Int → Option (Int × Bool)
 | 0, _, _ => none
 | k1 + 1, x1, x2 => aq (decide (x1 < x2)) (aw (some ((IntKind.u64.wrap (IntKind.i64.wrap (x1 + x2))).fdiv (2 ^ (min (1 : Int).toNat (IntKind.u64).bits)))) fun y1 => aw (at? p1 (IntKind.i64.wrap y1)) fun e1 => aw (ke e1 p2) fun r1 => aq (decide (r1 < (0 : Int))) ((ay p1 p2 k1) (IntKind.i64.wrap ((IntKind.i64.wrap y1) + (1 : Int))) x2) ((ay p1 p2 k1) x1 (IntKind.i64.wrap y1))) (bN p1 p2 x1)
def bw (p1 : (List Int)) (p2 : Int) : Option (Int × Bool) := ay p1 p2 aK (0 : Int) (p1.length : Int)
theorem dt (p1 : (List Int)) (p2 : Int) : CT Tryz.prog 162 [vl eI p1, vi p2, .one (.pv (.fn 104 []))] (bw p1 p2) (fun r => .tp [vi r.1, vb r.2]) :=
  iS 49 [] Tryz.f162 fun r => (uN eI p1 (uQ (kS Tryz.f162 [1,1,1,0] 1) fun K4 hK4 => have hJ1 : ∀ (x3 : Int), bN p1 p2 x3 = some r → K4.p [(0, vl eI p1), (1, vi p2), (2, .one (.pv (.fn 104 []))), (8, vi (p1.length : Int)), (9, vi x3)] [] := fun x3 h => hK4 h (uQ (kS Tryz.f162 [1,1,1,1,0] 1) fun K14 hK14 => have hJ2 : ∀ (x4 : Bool), bp x3 x4 = some r → K14.p [(6, vi x3), (7, vb x4)] [] := fun x4 h => hK14 h (uR .ret xF); (uC (uL eI fun e2 a16 => (uP (qm _ _) fun r2 _ => (uJ (hJ2 (r2 == 0))))) (uJ (hJ2 false)))); (uO (cd Tryz.f162 [1,1,1,0,0,0]) (kS Tryz.f162 [1,1,1,0,0] 1) fun R1 b1 => have hL1 : ∀ (k1 : Nat) (x1 x2 : Int), ay p1 p2 k1 x1 x2 = some r → (R1 k1).p [(0, vl eI p1), (1, vi p2), (2, .one (.pv (.fn 104 []))), (8, vi (p1.length : Int)), (9, vi x1), (10, vi x2)] [] := by intro k1; induction k1 with | zero => intro x1 x2 h; exact iE (ay.eq_1 ..) h | succ k1 ih1 => intro x1 x2 h; exact b1 h (uU (ay.eq_2 ..) (uC (uY 22 (vk .u64) fun y1 => (uL eI fun e1 a11 => (uP (qm _ _) fun r1 _ => (uC (uJ (ih1 (IntKind.i64.wrap ((IntKind.i64.wrap y1) + (1 : Int))) x2)) (uJ (ih1 x1 (IntKind.i64.wrap y1))))))) (uR (.exit 0) (xM (uJ (hJ1 x1))))))
 uE (hL1 aK (0 : Int) (p1.length : Int)))))
def dK (r4 : (List Int)) (l2 : List Int) : Option ((List Int) × (List Int)) := some (r4, l2)
def aQ (p1 r4 : (List Int)) : Nat → List Int → Int → Option ((List Int) × (List Int))
 | 0, _, _ => none
 | k1 + 1, l1, x1 => aq (decide (x1 < (p1.length : Int))) (aw (at? p1 x1) fun e1 => aw (bw r4 e1) fun r5 => cr (l1.length + 1 ≤ 4294967296) <| (aQ p1 r4 k1) (l1 ++ [r5.1]) (IntKind.i64.wrap (x1 + 1))) (dK r4 l1)
def gj (r7 : (List Int)) (l4 : List Int) : Option ((List Int) × (List Int)) := some (r7, l4)
def bH (p1 r7 : (List Int)) : Nat → List Int → Int → Option ((List Int) × (List Int))
 | 0, _, _ => none
 | k2 + 1, l3, x2 => aq (decide (x2 < (p1.length : Int))) (aw (at? p1 x2) fun e2 => aw (bw r7 e2) fun r8 => cr (l3.length + 1 ≤ 4294967296) <| (bH p1 r7 k2) (l3 ++ [r8.1]) (IntKind.i64.wrap (x2 + 1))) (gj r7 l3)
def cF (p1 : (List Int)) : Option ((List Int) × (List Int)) := aq (decide (0 < p1.length)) (aw (lS p1) fun r1 => aw (jQ r1) fun r3 => cr (r3.2.length = r1.length) <| aw (iG r3.2) fun r4 => aQ p1 r4 aK [] (0 : Int)) (aw (mh p1) fun r2 => aw (kH r2) fun r6 => aw (jB r2) fun r7 => bH p1 r7 aK [] (0 : Int))
theorem kY (p1 : (List Int)) : CT Tryz.prog 103 [vl eI p1, .one (.pv (.fn 104 []))] (cF p1) (fun r => .tp [vl eI r.1, vl eI r.2]) :=
  iS 38 [] Tryz.f103 fun r => (uI (fun b3 => (we true [] (sq _) fun r1 _ => (km true [0] (sF _) fun r3 _ => (PF 0 (km true [0] (qI _) fun r4 _ => (uQ (kS Tryz.f103 [1,1,1,1,0] 1) fun K11 hK11 => have hJ1 : ∀ (l2 : List Int), dK r4 l2 = some r → K11.p [(4, vl eI r4), (5, .one (.sl 1 1 0 l2.length))] [.dead, .arr 1 (eI.els l2)] := fun l2 h => hK11 h (ou eI l2 1 [5] (uR .ret xF)); (uN eI p1 (pq (.li 5 1) (uO (cd Tryz.f103 [1,1,1,1,0,1,0,0]) (kS Tryz.f103 [1,1,1,1,0,1,0] 1) fun R1 b1 => have hL1 : ∀ (k1 : Nat) (l1 : List Int) (x1 : Int), aQ p1 r4 k1 l1 x1 = some r → (R1 k1).p [(3, .one (.pv (.rp [[.fn 104 []]] 0 0))), (4, vl eI r4), (5, .one (.sl 1 1 0 l1.length)), (18, vl eI p1), (19, vi (p1.length : Int)), (20, vi x1)] [.dead, .arr 1 (eI.els l1)] := by intro k1; induction k1 with | zero => intro l1 x1 h; exact iE (aQ.eq_1 ..) h | succ k1 ih1 => intro l1 x1 h; exact b1 h (uU (aQ.eq_2 ..) (uC (uL eI fun e1 a18 => (uP (dt _ _) fun r5 _ => (kl eI 1 [r5.1] (uJ (ih1 (l1 ++ [r5.1]) (IntKind.i64.wrap (x1 + 1))))))) (uR (.exit 0) (xM (uJ (hJ1 l1))))))
 uE (hL1 aK [] (0 : Int))))))))))) (fun b3 => (uP (tr _) fun r2 _ => (uP (rC _) fun r6 _ => (uP (pP _) fun r7 _ => (uQ (kS Tryz.f103 [1,1,1,1,0] 1) fun K27 hK27 => have hJ2 : ∀ (l4 : List Int), gj r7 l4 = some r → K27.p [(4, vl eI r7), (5, .one (.sl 0 1 0 l4.length))] [.arr 1 (eI.els l4)] := fun l4 h => hK27 h (ou eI l4 0 [5] (uR .ret xF)); (uN eI p1 (pq (.li 5 1) (uO (cd Tryz.f103 [1,1,1,1,0,1,0,0]) (kS Tryz.f103 [1,1,1,1,0,1,0] 1) fun R2 b2 => have hL2 : ∀ (k2 : Nat) (l3 : List Int) (x2 : Int), bH p1 r7 k2 l3 x2 = some r → (R2 k2).p [(3, .one (.pv (.rp [[.fn 104 []]] 0 0))), (4, vl eI r7), (5, .one (.sl 0 1 0 l3.length)), (18, vl eI p1), (19, vi (p1.length : Int)), (20, vi x2)] [.arr 1 (eI.els l3)] := by intro k2; induction k2 with | zero => intro l3 x2 h; exact iE (bH.eq_1 ..) h | succ k2 ih2 => intro l3 x2 h; exact b2 h (uU (bH.eq_2 ..) (uC (uL eI fun e2 a34 => (uP (dt _ _) fun r8 _ => (kl eI 0 [r8.1] (uJ (ih2 (l3 ++ [r8.1]) (IntKind.i64.wrap (x2 + 1))))))) (uR (.exit 0) (xM (uJ (hJ2 l3))))))
 uE (hL2 aK [] (0 : Int)))))))))))
def nm (p1 : Int) (p2 p3 : (List Int)) : Option (Unit × (List Int)) := aw (at? p2 p1) fun e1 => aw (gp e1 p3) fun r1 => some ((), r1.2)
theorem uc (p1 : Int) (p2 p3 : (List Int)) : CX Tryz.prog 106 [.one (.sl 0 1 0 p3.length), vi p1, .one (.pv (.rp [[.ro (eI.els p2)]] 0 0))] [.arr 1 ((eK .u8).els p3)] [0] (nm p1 p2 p3) (fun r => .one (.sl 0 1 0 r.2.length)) (fun r => [.arr 1 ((eK .u8).els r.2)]) :=
  yv 1 1 12 [] Tryz.f106 fun r => (uL eI fun e1 a3 => (we true [0] (j1 _ _) fun r1 _ => (uR .ret iW)))
def fx (l2 : List Int) : Option (List Int) := some l2
def bh (p1 p2 : (List Int)) : Nat → List Int → Int → Option (List Int)
 | 0, _, _ => none
 | k1 + 1, l1, x1 => aq (decide (x1 < (p1.length : Int))) (aw (nm x1 p2 l1) fun r1 => (bh p1 p2 k1) r1.2 (IntKind.i64.wrap (x1 + 1))) (fx l1)
def gM (p1 p2 : (List Int)) : Option (List Int) := bh p1 p2 aK [] (0 : Int)
theorem nB (p1 p2 : (List Int)) : CT Tryz.prog 105 [vl eI p1, .one (.fn 106 [.pv (.rp [[.ro (eI.els p2)]] 0 0)])] (gM p1 p2) (fun r => vl (eK .u8) r) :=
  iS 18 [] Tryz.f105 fun r => (uQ (kS Tryz.f105 [1,1,0] 1) fun K3 hK3 => have hJ1 : ∀ (l2 : List Int), fx l2 = some r → K3.p [(5, .one (.sl 0 1 0 l2.length))] [.arr 1 ((eK .u8).els l2)] := fun l2 h => hK3 h (ou (eK .u8) l2 0 [4] (uR .ret xF)); (uN eI p1 (pq (.li 5 1) (uO (cd Tryz.f105 [1,1,0,1,0,0]) (kS Tryz.f105 [1,1,0,1,0] 1) fun R1 b1 => have hL1 : ∀ (k1 : Nat) (l1 : List Int) (x1 : Int), bh p1 p2 k1 l1 x1 = some r → (R1 k1).p [(1, .one (.fn 106 [.pv (.rp [[.ro (eI.els p2)]] 0 0)])), (5, .one (.sl 0 1 0 l1.length)), (8, vi (p1.length : Int)), (9, vi x1)] [.arr 1 ((eK .u8).els l1)] := by intro k1; induction k1 with | zero => intro l1 x1 h; exact iE (bh.eq_1 ..) h | succ k1 ih1 => intro l1 x1 h; exact b1 h (uU (bh.eq_2 ..) (uC (we true [0] (uc _ _ _) fun r1 _ => (uJ (ih1 r1.2 (IntKind.i64.wrap (x1 + 1))))) (uR (.exit 0) (xM (uJ (hJ1 l1))))))
 uE (hL1 aK [] (0 : Int))))))
def nN (p1 : Int) (p2 : (List Int)) : Option (List Int) := aq (p1 == 1) (aw (uf p2) fun r1 => some r1) (aq (p1 == 2) (aw (nO p2) fun r2 => some r2) (aq (p1 == 3) (aw (me p2) fun r3 => some r3) (aq (p1 == 4) (aw (cF p2) fun r4 => aw (mR (IntKind.u64.wrap (r4.1.length : Int))) fun r5 => aw (nO r4.1) fun r6 => cr (r5.length + r6.length ≤ 4294967296) <| aw (me r4.2) fun r7 => cr ((r5 ++ r6).length + r7.length ≤ 4294967296) <| some ((r5 ++ r6) ++ r7)) (aw (gM p2 p2) fun r8 => some r8))))
theorem xP (p1 : Int) (p2 : (List Int)) : CT Tryz.prog 48 [vi p1, vl eI p2] (nN p1 p2) (fun r => vl (eK .u8) r) :=
  iS 42 [] Tryz.f48 fun r => (uC (uP (Au _) fun r1 _ => (uR .ret xF)) (uC (uP (tJ _) fun r2 _ => (uR .ret xF)) (uC (uP (qC _) fun r3 _ => (uR .ret xF)) (uC (uP (kY _) fun r4 _ => (uN eI r4.1 (we false [] (qM _) fun r5 _ => (uP (tJ _) fun r6 _ => (kl (eK .u8) 0 r6 (uP (qC _) fun r7 _ => (kl (eK .u8) 0 r7 (ou (eK .u8) ((r5 ++ r6) ++ r7) 0 [4] (uR .ret xF))))))))) (uP (nB _ _) fun r8 _ => (uR .ret xF))))))
def eV (p1 : Int) (p2 : (List Int)) : Option (List Int) := aw (nN p1 p2) fun r1 => some r1
theorem i4 (p1 : Int) (p2 : (List Int)) : CT Tryz.prog 47 [vi p1, .one (.pv (.rp [[.ro (eI.els p2)]] 0 0))] (eV p1 p2) (fun r => vl (eK .u8) r) :=
  iS 7 [] Tryz.f47 fun r => (uP (xP _ _) fun r1 _ => (uR .ret xF))
def dJ (x4 : List Int) : Option (List Int) := some x4
def cn (p1 : (List Int)) (x3 : List Int) : Option (List Int) := aw (at? [(0 : Int), (1 : Int), (2 : Int), (3 : Int), (4 : Int)] (4 : Int)) fun e5 => aw (eV e5 p1) fun r5 => cr ([(IntKind.u8.wrap e5)].length + r5.length ≤ 4294967296) <| cr (x3 ≠ []) <| aw (some (decide (((([(IntKind.u8.wrap e5)] ++ r5).length : Nat) : Int) < (x3.length : Int)))) fun y4 => aq y4 (dJ ([(IntKind.u8.wrap e5)] ++ r5)) (dJ x3)
def co (p1 : (List Int)) (x2 : List Int) : Option (List Int) := aw (at? [(0 : Int), (1 : Int), (2 : Int), (3 : Int), (4 : Int)] (3 : Int)) fun e4 => aw (eV e4 p1) fun r4 => cr ([(IntKind.u8.wrap e4)].length + r4.length ≤ 4294967296) <| cr (x2 ≠ []) <| aw (some (decide (((([(IntKind.u8.wrap e4)] ++ r4).length : Nat) : Int) < (x2.length : Int)))) fun y3 => aq y3 (cn p1 ([(IntKind.u8.wrap e4)] ++ r4)) (cn p1 x2)
def cg (p1 : (List Int)) (x1 : List Int) : Option (List Int) := aw (at? [(0 : Int), (1 : Int), (2 : Int), (3 : Int), (4 : Int)] (2 : Int)) fun e3 => aw (eV e3 p1) fun r3 => cr ([(IntKind.u8.wrap e3)].length + r3.length ≤ 4294967296) <| cr (x1 ≠ []) <| aw (some (decide (((([(IntKind.u8.wrap e3)] ++ r3).length : Nat) : Int) < (x1.length : Int)))) fun y2 => aq y2 (co p1 ([(IntKind.u8.wrap e3)] ++ r3)) (co p1 x1)
def cH (p1 : (List Int)) : Option (List Int) := aw (at? [(0 : Int), (1 : Int), (2 : Int), (3 : Int), (4 : Int)] (0 : Int)) fun e1 => aw (eV e1 p1) fun r1 => cr ([(IntKind.u8.wrap e1)].length + r1.length ≤ 4294967296) <| aw (at? [(0 : Int), (1 : Int), (2 : Int), (3 : Int), (4 : Int)] (1 : Int)) fun e2 => aw (eV e2 p1) fun r2 => cr ([(IntKind.u8.wrap e2)].length + r2.length ≤ 4294967296) <| cr (([(IntKind.u8.wrap e1)] ++ r1) ≠ []) <| aw (some (decide (((([(IntKind.u8.wrap e2)] ++ r2).length : Nat) : Int) < (([(IntKind.u8.wrap e1)] ++ r1).length : Int)))) fun y1 => aq y1 (cg p1 ([(IntKind.u8.wrap e2)] ++ r2)) (cg p1 ([(IntKind.u8.wrap e1)] ++ r1))
theorem kU (p1 : (List Int)) : CT Tryz.prog 44 [vl eI [(0 : Int), (1 : Int), (2 : Int), (3 : Int), (4 : Int)], .one (.fn 47 [.pv (.rp [[.ro (eI.els p1)]] 0 0)])] (cH p1) (fun r => vl (eK .u8) r) :=
  iS 34 [17] Tryz.f44 fun r => (uA (vi (5 : Int)) (OL 5 (uT (uL eI fun e1 a9 => (uP (i4 _ _) fun r1 _ => (kl (eK .u8) 0 r1 (uT (uQ [.c (cd Tryz.f44 [1,1,0,1,0,0,1,1,1]), .r (cd Tryz.f44 [1,1,0,1,0,0]) 4, .b 0, .c (cd Tryz.f44 [1,1,1])] fun K16 hK16 => have hJ1 : ∀ (x1 : List Int), cg p1 x1 = some r → K16.p [(1, .one (.fn 47 [.pv (.rp [[.ro (eI.els p1)]] 0 0)])), (5, vl (eK .u8) x1), (9, vl eI [(0 : Int), (1 : Int), (2 : Int), (3 : Int), (4 : Int)]), (10, vi (5 : Int)), (11, vi (1 : Int))] [.dead] := fun x1 h => hK16 h (uT (uQ [.c (cd Tryz.f44 [1,1,0,1,0,0,1,1,1]), .r (cd Tryz.f44 [1,1,0,1,0,0]) 3, .b 0, .c (cd Tryz.f44 [1,1,1])] fun K28 hK28 => have hJ2 : ∀ (x2 : List Int), co p1 x2 = some r → K28.p [(1, .one (.fn 47 [.pv (.rp [[.ro (eI.els p1)]] 0 0)])), (5, vl (eK .u8) x2), (9, vl eI [(0 : Int), (1 : Int), (2 : Int), (3 : Int), (4 : Int)]), (10, vi (5 : Int)), (11, vi (2 : Int))] [.dead] := fun x2 h => hK28 h (uT (uQ [.c (cd Tryz.f44 [1,1,0,1,0,0,1,1,1]), .r (cd Tryz.f44 [1,1,0,1,0,0]) 2, .b 0, .c (cd Tryz.f44 [1,1,1])] fun K40 hK40 => have hJ3 : ∀ (x3 : List Int), cn p1 x3 = some r → K40.p [(1, .one (.fn 47 [.pv (.rp [[.ro (eI.els p1)]] 0 0)])), (5, vl (eK .u8) x3), (9, vl eI [(0 : Int), (1 : Int), (2 : Int), (3 : Int), (4 : Int)]), (10, vi (5 : Int)), (11, vi (3 : Int))] [.dead] := fun x3 h => hK40 h (uT (uQ [.c (cd Tryz.f44 [1,1,0,1,0,0,1,1,1]), .r (cd Tryz.f44 [1,1,0,1,0,0]) 1, .b 0, .c (cd Tryz.f44 [1,1,1])] fun K52 hK52 => have hJ4 : ∀ (x4 : List Int), dJ x4 = some r → K52.p [(1, .one (.fn 47 [.pv (.rp [[.ro (eI.els p1)]] 0 0)])), (5, vl (eK .u8) x4), (9, vl eI [(0 : Int), (1 : Int), (2 : Int), (3 : Int), (4 : Int)]), (10, vi (5 : Int)), (11, vi (4 : Int))] [.dead] := fun x4 h => hK52 h (uF (uR .ret xF)); (uL eI fun e5 a54 => (uP (i4 _ _) fun r5 _ => (kl (eK .u8) 1 r5 (GO (eK .u8) (uF (uN (eK .u8) x3 (uY 29 vb fun y4 => (uC (rP (eK .u8) ([(IntKind.u8.wrap e5)] ++ r5) 1 [5] (uJ (hJ4 ([(IntKind.u8.wrap e5)] ++ r5)))) (uJ (hJ4 x3)))))))))))); (uL eI fun e4 a42 => (uP (i4 _ _) fun r4 _ => (kl (eK .u8) 1 r4 (GO (eK .u8) (uF (uN (eK .u8) x2 (uY 29 vb fun y3 => (uC (rP (eK .u8) ([(IntKind.u8.wrap e4)] ++ r4) 1 [5] (uJ (hJ3 ([(IntKind.u8.wrap e4)] ++ r4)))) (uJ (hJ3 x2)))))))))))); (uL eI fun e3 a30 => (uP (i4 _ _) fun r3 _ => (kl (eK .u8) 1 r3 (GO (eK .u8) (uF (uN (eK .u8) x1 (uY 29 vb fun y2 => (uC (rP (eK .u8) ([(IntKind.u8.wrap e3)] ++ r3) 1 [5] (uJ (hJ2 ([(IntKind.u8.wrap e3)] ++ r3)))) (uJ (hJ2 x1)))))))))))); (uL eI fun e2 a18 => (uP (i4 _ _) fun r2 _ => (kl (eK .u8) 1 r2 (ou (eK .u8) ([(IntKind.u8.wrap e1)] ++ r1) 0 [5,22] (GO (eK .u8) (uF (uN (eK .u8) ([(IntKind.u8.wrap e1)] ++ r1) (uY 29 vb fun y1 => (uC (rP (eK .u8) ([(IntKind.u8.wrap e2)] ++ r2) 1 [5] (uJ (hJ1 ([(IntKind.u8.wrap e2)] ++ r2)))) (uJ (hJ1 ([(IntKind.u8.wrap e1)] ++ r1))))))))))))))))))))
def ma (l2 : List ByteArray) : Option (List Int) := aw (cE l2) fun r1 => some r1
def fQ (p2 : (List aa)) : Nat → List ByteArray → Int → Option (List Int)
 | 0, _, _ => none
 | k1 + 1, l1, x1 => aq (decide (x1 < (p2.length : Int))) (aw (at? p2 x1) fun e1 => cr (l1.length + 1 ≤ 4294967296) <| (fQ p2 k1) (l1 ++ [e1.s]) (IntKind.i64.wrap (x1 + 1))) (ma l1)
def lW (l4 : List Int) : Option (List Int) := aw (cH l4) fun r2 => some r2
def fR (p2 : (List aa)) : Nat → List Int → Int → Option (List Int)
 | 0, _, _ => none
 | k2 + 1, l3, x2 => aq (decide (x2 < (p2.length : Int))) (aw (at? p2 x2) fun e2 => cr (l3.length + 1 ≤ 4294967296) <| (fR p2 k2) (l3 ++ [e2.n]) (IntKind.i64.wrap (x2 + 1))) (lW l3)
def mE (p1 : ae) (p2 : (List aa)) : Option (List Int) := aq (p1.kind == 4) (fQ p2 aK [] (0 : Int)) (fR p2 aK [] (0 : Int))
theorem th (p1 : ae) (p2 : (List aa)) : CT Tryz.prog 19 [.ag [ci p1.kind, ci p1.scale, cl aI p1.fields], vl ap p2] (mE p1 p2) (fun r => vl (eK .u8) r) :=
  iS 44 [5, 7, 8, 10] Tryz.f19 fun r => (uC (uQ (kS Tryz.f19 [1,0,1,0,1,0] 2) fun K6 hK6 => have hJ1 : ∀ (l2 : List ByteArray), ma l2 = some r → K6.p [(5, .one (.pt 0 0 0 0))] [.box [.sl 1 1 0 l2.length], .arr 1 (eS.els l2)] := fun l2 h => hK6 h (ou eS l2 1 [] (pq (.dd 1) (P6 0 [27] (PW (kQ _) fun r1 _ => (uR .ret xF))))); (uN ap p2 (pq (.lb 0 0 1) (uO (cd Tryz.f19 [1,0,1,0,1,0,1,0,0]) (kS Tryz.f19 [1,0,1,0,1,0,1,0] 1) fun R1 b1 => have hL1 : ∀ (k1 : Nat) (l1 : List ByteArray) (x1 : Int), fQ p2 k1 l1 x1 = some r → (R1 k1).p [(5, .one (.pt 0 0 0 0)), (14, vl ap p2), (15, vi (p2.length : Int)), (16, vi x1)] [.box [.sl 1 1 0 l1.length], .arr 1 (eS.els l1)] := by intro k1; induction k1 with | zero => intro l1 x1 h; exact iE (fQ.eq_1 ..) h | succ k1 ih1 => intro l1 x1 h; exact b1 h (uU (fQ.eq_2 ..) (uC (uL ap fun e1 a13 => (pq (.stl 0 0) (kl eS 1 [e1.s] (uJ (ih1 (l1 ++ [e1.s]) (IntKind.i64.wrap (x1 + 1))))))) (uR (.exit 0) (xM (uJ (hJ1 l1))))))
 uE (hL1 aK [] (0 : Int)))))) (uQ (kS Tryz.f19 [1,1,1,0] 1) fun K18 hK18 => have hJ2 : ∀ (l4 : List Int), lW l4 = some r → K18.p [(8, .one (.pt 0 0 0 0))] [.box [.sl 1 1 0 l4.length], .arr 1 (eI.els l4)] := fun l4 h => hK18 h (ou eI l4 1 [] (pq (.dd 1) (P6 0 [42] (PW (kU _) fun r2 _ => (uR .ret xF))))); (uN ap p2 (pq (.lb 0 0 1) (uO (cd Tryz.f19 [1,1,1,0,1,0,0]) (kS Tryz.f19 [1,1,1,0,1,0] 1) fun R2 b2 => have hL2 : ∀ (k2 : Nat) (l3 : List Int) (x2 : Int), fR p2 k2 l3 x2 = some r → (R2 k2).p [(8, .one (.pt 0 0 0 0)), (29, vl ap p2), (30, vi (p2.length : Int)), (31, vi x2)] [.box [.sl 1 1 0 l3.length], .arr 1 (eI.els l3)] := by intro k2; induction k2 with | zero => intro l3 x2 h; exact iE (fR.eq_1 ..) h | succ k2 ih2 => intro l3 x2 h; exact b2 h (uU (fR.eq_2 ..) (uC (uL ap fun e2 a25 => (pq (.stl 0 0) (kl eI 1 [e2.n] (uJ (ih2 (l3 ++ [e2.n]) (IntKind.i64.wrap (x2 + 1))))))) (uR (.exit 2) (xM (uJ (hJ2 l3))))))
 uE (hL2 aK [] (0 : Int)))))))
def jz (p1 : (List Int)) : Option (List Int) := cr (0 ≤ (0 : Int) ∧ (0 : Int) ≤ (p1.length : Int) ∧ (p1.length : Int) ≤ (p1.length : Int) ∧ (p1.length : Int) ≤ (p1.length : Int)) <| some ((p1.drop (0 : Int).toNat).take ((p1.length : Int).toNat - (0 : Int).toNat))
theorem sd (p1 : (List Int)) : CT Tryz.prog 18 [vl (eK .u8) p1] (jz p1) (fun r => vl (eK .u8) r) :=
  iS 9 [] Tryz.f18 fun r => (uN (eK .u8) p1 (uN (eK .u8) p1 (PO (eK .u8) (uR .ret xF))))
def oF (p1 : ae) (p2 : (List aa)) : Option ((List Int) × Int) := aw (mE p1 p2) fun r3 => aw (jz r3) fun r4 => some (r4, (0 : Int))
def fK (p1 : ae) (p2 : (List aa)) : Nat → Int → Option ((List Int) × Int)
 | 0, _ => none
 | k1 + 1, x1 => aq (decide (x1 < (p2.length : Int))) (aw (at? p2 x1) fun e1 => aw (kt p1 e1) fun r2 => aq (r2 != 0) (some ([], r2)) (aq (e1.kind == 0) (some ([], (9 : Int))) ((fK p1 p2 k1) (IntKind.i64.wrap (x1 + 1))))) (oF p1 p2)
def pa (p1 : ae) (p2 : (List aa)) : Option ((List Int) × Int) := aw (kR p1) fun r1 => aq (r1 != 0) (some ([], r1)) (fK p1 p2 aK (0 : Int))
theorem yo (p1 : ae) (p2 : (List aa)) : CT Tryz.prog 5 [.ag [ci p1.kind, ci p1.scale, cl aI p1.fields], vl ap p2] (pa p1 p2) (fun r => .tp [vl (eK .u8) r.1, vi r.2]) :=
  iS 35 [8] Tryz.f5 fun r => (uP (rg _) fun r1 _ => (uC (uR .ret xF) (uQ (kS Tryz.f5 [1,1,0] 1) fun K8 hK8 => have hJ1 : ∀ (_ : Unit), oF p1 p2 = some r → K8.p [(1, vl ap p2), (2, .one (.pv (.rp [[pi p1.kind, pi p1.scale, .ro (aI.els p1.fields)]] 0 0)))] [] := fun _ h => hK8 h (uP (th _ _) fun r3 _ => (uP (sd _) fun r4 _ => (uR .ret xF))); (uN ap p2 (uO (cd Tryz.f5 [1,1,0,1,0,0]) (kS Tryz.f5 [1,1,0,1,0] 1) fun R1 b1 => have hL1 : ∀ (k1 : Nat) (x1 : Int), fK p1 p2 k1 x1 = some r → (R1 k1).p [(1, vl ap p2), (2, .one (.pv (.rp [[pi p1.kind, pi p1.scale, .ro (aI.els p1.fields)]] 0 0))), (15, vl ap p2), (16, vi (p2.length : Int)), (17, vi x1)] [] := by intro k1; induction k1 with | zero => intro x1 h; exact iE (fK.eq_1 ..) h | succ k1 ih1 => intro x1 h; exact b1 h (uU (fK.eq_2 ..) (uC (uL ap fun e1 a15 => (uP (vB _ _) fun r2 _ => (uC (uR .ret (xN (xN xF))) (uC (uR .ret (xN (xN xF))) (uJ (ih1 (IntKind.i64.wrap (x1 + 1)))))))) (uR (.exit 0) (xM (uJ (hJ1 ()))))))
 uE (hL1 aK (0 : Int)))))))
def nL (x1 : Bool) : Option Bool := some x1
def lV (p1 : Int) : Option Bool := aq (p1 != 6) (nL (p1 != 7)) (nL false)
theorem qU (p1 : Int) : CT Tryz.prog 50 [vi p1] (lV p1) vb :=
  iS 9 [] Tryz.f50 fun r => (uQ (kS Tryz.f50 [1,0] 1) fun K2 hK2 => have hJ1 : ∀ (x1 : Bool), nL x1 = some r → K2.p [(2, vb x1)] [] := fun x1 h => hK2 h (uR .ret xF); (uC (uJ (hJ1 (p1 != 7))) (uJ (hJ1 false))))
def lB (x1 : Bool) : Option Bool := some x1
def fM (p1 p2 p3 : Int) : Option Bool := aq (decide (p2 ≤ p1)) (lB (decide (p1 ≤ p3))) (lB false)
theorem ij (p1 p2 p3 : Int) : CT Tryz.prog 132 [vi p1, vi p2, vi p3] (fM p1 p2 p3) vb :=
  iS 15 [] Tryz.f132 fun r => (uQ (kS Tryz.f132 [1,0] 1) fun K2 hK2 => have hJ1 : ∀ (x1 : Bool), lB x1 = some r → K2.p [(6, vb x1)] [] := fun x1 h => hK2 h (uR .ret xF); (uC (uJ (hJ1 (decide (p1 ≤ p3)))) (uJ (hJ1 false))))
def nY (rec1 : Int → Option Bool) (x2 : Int) (x5 : Bool) : Option Bool := aq x5 (some false) (rec1 (IntKind.i64.wrap (x2 + 1)))
def nF (rec1 : Int → Option Bool) (x2 : Int) (x3 x4 : Bool) : Option Bool := aq (!x3) (aq (x2 == 0) (nY rec1 x2 true) (nY rec1 x2 (!x4))) (nY rec1 x2 false)
def pQ (rec1 : Int → Option Bool) (p1 : ByteArray) (x2 : Int) (x3 : Bool) : Option Bool := cr (0 ≤ x2 ∧ x2 < (p1.size : Int)) <| aq (((p1.data.toList.getD x2.toNat 0).toNat : Int) == 95) (nF rec1 x2 x3 true) (cr (0 ≤ x2 ∧ x2 < (p1.size : Int)) <| aw (some (decide ((48 : Int) ≤ ((p1.data.toList.getD x2.toNat 0).toNat : Int)))) fun y3 => aq y3 (cr (0 ≤ x2 ∧ x2 < (p1.size : Int)) <| aw (some (decide (((p1.data.toList.getD x2.toNat 0).toNat : Int) ≤ (57 : Int)))) fun y4 => nF rec1 x2 x3 y4) (nF rec1 x2 x3 false))
def wm : Option Bool := some true
def de (p1 : ByteArray) : Nat → Int → Option Bool
 | 0, _ => none
 | k1 + 1, x2 => aq (decide (x2 < (p1.size : Int))) (cr (0 ≤ x2 ∧ x2 < (p1.size : Int)) <| aw (some (decide ((97 : Int) ≤ ((p1.data.toList.getD x2.toNat 0).toNat : Int)))) fun y1 => aq y1 (cr (0 ≤ x2 ∧ x2 < (p1.size : Int)) <| aw (some (decide (((p1.data.toList.getD x2.toNat 0).toNat : Int) ≤ (122 : Int)))) fun y2 => pQ (de p1 k1) p1 x2 y2) (pQ (de p1 k1) p1 x2 false)) (wm)
def pM (p1 : ByteArray) (x1 : Bool) : Option Bool := aq x1 (some false) (de p1 aK (0 : Int))
def u3 (p1 : ByteArray) : Option Bool := aq (decide ((p1.size : Int) < (1 : Int))) (pM p1 true) (pM p1 (decide ((24 : Int) < (p1.size : Int))))
theorem Co (p1 : ByteArray) : CT Tryz.prog 189 [vs p1] (u3 p1) vb :=
  iS 56 [] Tryz.f189 fun r => (uQ (kS Tryz.f189 [1,0,0] 2) fun K3 hK3 => have hJ1 : ∀ (x1 : Bool), pM p1 x1 = some r → K3.p [(0, vs p1), (13, vb x1)] [] := fun x1 h => hK3 h (uC (uR .ret xF) (uQ (kS Tryz.f189 [1,1,0] 1) fun K7 hK7 => have hJ5 : ∀ (_ : Unit), wm = some r → K7.p [] [] := fun _ h => hK7 h (uR .ret xF); (uO (cd Tryz.f189 [1,1,0,1,0,0]) (kS Tryz.f189 [1,1,0,1,0] 1) fun R1 b1 => have hL1 : ∀ (k1 : Nat) (x2 : Int), de p1 k1 x2 = some r → (R1 k1).p [(0, vs p1), (3, vi x2)] [] := by intro k1; induction k1 with | zero => intro x2 h; exact iE (de.eq_1 ..) h | succ k1 ih1 => intro x2 h; exact b1 h (uU (de.eq_2 ..) (uC (uQ (kS Tryz.f189 [1,1,0,1,0,0,1,0,0,0] 3) fun K13 hK13 => have hJ2 : ∀ (x3 : Bool), pQ (de p1 k1) p1 x2 x3 = some r → K13.p [(0, vs p1), (3, vi x2), (4, vb x3)] [] := fun x3 h => hK13 h (uQ (kS Tryz.f189 [1,1,0,1,0,0,1,0,0,1,0] 3) fun K19 hK19 => have hJ3 : ∀ (x4 : Bool), nF (de p1 k1) x2 x3 x4 = some r → K19.p [(0, vs p1), (3, vi x2), (4, vb x3), (5, vb x4)] [] := fun x4 h => hK19 h (uQ (kS Tryz.f189 [1,1,0,1,0,0,1,0,0,1,1,0] 3) fun K27 hK27 => have hJ4 : ∀ (x5 : Bool), nY (de p1 k1) x2 x5 = some r → K27.p [(0, vs p1), (3, vi x2), (55, vb x5)] [] := fun x5 h => hK27 h (uC (uR .ret (xN (xN xF))) (uJ (ih1 (IntKind.i64.wrap (x2 + 1))))); (uC (uC (uJ (hJ4 true)) (uJ (hJ4 (!x4)))) (uJ (hJ4 false)))); (uG (uC (uJ (hJ3 true)) (uG (uY 38 vb fun y3 => (uC (uG (uY 43 vb fun y4 => (uJ (hJ3 y4)))) (uJ (hJ3 false)))))))); (uG (uY 23 vb fun y1 => (uC (uG (uY 28 vb fun y2 => (uJ (hJ2 y2)))) (uJ (hJ2 false)))))) (uR (.exit 0) (xM (uJ (hJ5 ()))))))
 uE (hL1 aK (0 : Int))))); (uC (uJ (hJ1 true)) (uJ (hJ1 (decide ((24 : Int) < (p1.size : Int)))))))
def rj (rec2 : Int → Option Int) (x5 : Int) : Option Int := rec2 (IntKind.i64.wrap (x5 + 1))
def ez (rec2 : Int → Option Int) (p1 : ae) (x5 : Int) : Nat → Int → Option Int
 | 0, _ => none
 | k3 + 1, x6 => aq (decide (x6 < x5)) (aw (at? p1.fields x6) fun e3 => aw (at? p1.fields x5) fun e4 => aq (e3.name.toList == e4.name.toList) (some (5 : Int)) ((ez rec2 p1 x5 k3) (IntKind.i64.wrap (x6 + 1)))) (rj rec2 x5)
def vF : Option Int := some (0 : Int)
def dT (p1 : ae) : Nat → Int → Option Int
 | 0, _ => none
 | k2 + 1, x5 => aq (decide (x5 < (p1.fields.length : Int))) (ez (dT p1 k2) p1 x5 aK (0 : Int)) (vF)
def rH (p1 : ae) : Option Int := dT p1 aK (0 : Int)
def ff (p1 : ae) : Nat → Int → Option Int
 | 0, _ => none
 | k1 + 1, x4 => aq (decide (x4 < (p1.fields.length : Int))) (aw (at? p1.fields x4) fun e2 => aw (u3 e2.name) fun r5 => aq (!r5) (some (4 : Int)) ((ff p1 k1) (IntKind.i64.wrap (x4 + 1)))) (rH p1)
def jg (p1 : ae) (x3 : Bool) : Option Int := aq x3 (some (1 : Int)) (aq (p1.kind != 7) (some (0 : Int)) (ff p1 aK (0 : Int)))
def mw (p1 : ae) (x2 : Bool) : Option Int := aq x2 (some (1 : Int)) (aq (p1.kind == 7) (aq ((p1.fields.length : Int) == 0) (jg p1 true) (aw (lV p1.kind) fun r3 => aq r3 (jg p1 (decide ((0 : Int) < (p1.fields.length : Int)))) (jg p1 false))) (aw (lV p1.kind) fun r4 => aq r4 (jg p1 (decide ((0 : Int) < (p1.fields.length : Int)))) (jg p1 false)))
def jd (p1 : ae) (x1 : Bool) : Option Int := aq x1 (some (1 : Int)) (aq (p1.kind == 6) (aq ((p1.fields.length : Int) != 1) (mw p1 true) (aw (at? p1.fields (0 : Int)) fun e1 => mw p1 (!(e1.name.toList == (ByteArray.mk #[]).toList)))) (mw p1 false))
def sO (p1 : ae) : Option Int := aw (fM p1.kind (1 : Int) (7 : Int)) fun r1 => aq (!r1) (some (3 : Int)) (aq (p1.kind == 3) (aw (fM p1.scale (0 : Int) (12 : Int)) fun r2 => aq (!r2) (jd p1 true) (aq (p1.kind != 3) (jd p1 (p1.scale != 0)) (jd p1 false))) (aq (p1.kind != 3) (jd p1 (p1.scale != 0)) (jd p1 false)))
theorem BE (p1 : ae) : CT Tryz.prog 163 [.ag [ci p1.kind, ci p1.scale, cl aI p1.fields]] (sO p1) vi :=
  iS 109 [] Tryz.f163 fun r => (uP (ij _ _ _) fun r1 _ => (uC (uR .ret xF) (uQ (kS Tryz.f163 [1,1,0,0] 2) fun K8 hK8 => have hJ1 : ∀ (x1 : Bool), jd p1 x1 = some r → K8.p [(1, .one (.pv (.rp [(ei p1)] 0 0))), (28, vb x1)] [] := fun x1 h => hK8 h (uC (uR .ret xF) (uQ (kS Tryz.f163 [1,1,1,0,0] 2) fun K17 hK17 => have hJ2 : ∀ (x2 : Bool), mw p1 x2 = some r → K17.p [(1, .one (.pv (.rp [(ei p1)] 0 0))), (45, vb x2)] [] := fun x2 h => hK17 h (uC (uR .ret xF) (uQ (kS Tryz.f163 [1,1,1,1,0,0] 2) fun K24 hK24 => have hJ3 : ∀ (x3 : Bool), jg p1 x3 = some r → K24.p [(1, .one (.pv (.rp [(ei p1)] 0 0))), (65, vb x3)] [] := fun x3 h => hK24 h (uC (uR .ret xF) (uC (uR .ret xF) (uQ (kS Tryz.f163 [1,1,1,1,1,1,0] 1) fun K37 hK37 => have hJ4 : ∀ (_ : Unit), rH p1 = some r → K37.p [(1, .one (.pv (.rp [(ei p1)] 0 0)))] [] := fun _ h => hK37 h (uQ (kS Tryz.f163 [1,1,1,1,1,1,1,0] 1) fun K49 hK49 => have hJ6 : ∀ (_ : Unit), vF = some r → K49.p [] [] := fun _ h => hK49 h (uR .ret xF); (uN aI p1.fields (uO (cd Tryz.f163 [1,1,1,1,1,1,1,0,1,0,0]) (kS Tryz.f163 [1,1,1,1,1,1,1,0,1,0] 1) fun R2 b2 => have hL2 : ∀ (k2 : Nat) (x5 : Int), dT p1 k2 x5 = some r → (R2 k2).p [(1, .one (.pv (.rp [(ei p1)] 0 0))), (86, vi (p1.fields.length : Int)), (87, vi x5)] [] := by intro k2; induction k2 with | zero => intro x5 h; exact iE (dT.eq_1 ..) h | succ k2 ih2 => intro x5 h; exact b2 h (uU (dT.eq_2 ..) (uC (uQ (kS Tryz.f163 [1,1,1,1,1,1,1,0,1,0,0,1,1,0] 1) fun K54 hK54 => have hJ5 : ∀ (_ : Unit), rj (dT p1 k2) x5 = some r → K54.p [(1, .one (.pv (.rp [(ei p1)] 0 0))), (86, vi (p1.fields.length : Int)), (87, vi x5)] [] := fun _ h => hK54 h (uJ (ih2 (IntKind.i64.wrap (x5 + 1)))); (uO (cd Tryz.f163 [1,1,1,1,1,1,1,0,1,0,0,1,1,0,0,1,1,0,0]) (kS Tryz.f163 [1,1,1,1,1,1,1,0,1,0,0,1,1,0,0,1,1,0] 2) fun R3 b3 => have hL3 : ∀ (k3 : Nat) (x6 : Int), ez (dT p1 k2) p1 x5 k3 x6 = some r → (R3 k3).p [(1, .one (.pv (.rp [(ei p1)] 0 0))), (4, vi x5), (5, vi x6), (86, vi (p1.fields.length : Int)), (87, vi x5)] [] := by intro k3; induction k3 with | zero => intro x6 h; exact iE (ez.eq_1 ..) h | succ k3 ih3 => intro x6 h; exact b3 h (uU (ez.eq_2 ..) (uC (yf 12 (uL aI fun e3 a62 => (uL aI fun e4 a63 => (uC (uR .ret (xN (xN (xN (xN xF))))) (uJ (ih3 (IntKind.i64.wrap (x6 + 1)))))))) (uR (.exit 4) (xM (uJ (hJ5 ()))))))
 uE (hL3 aK (0 : Int)))) (uR (.exit 2) (xM (uJ (hJ6 ()))))))
 uE (hL2 aK (0 : Int))))); (uN aI p1.fields (uO (cd Tryz.f163 [1,1,1,1,1,1,0,1,0,0]) (kS Tryz.f163 [1,1,1,1,1,1,0,1,0] 1) fun R1 b1 => have hL1 : ∀ (k1 : Nat) (x4 : Int), ff p1 k1 x4 = some r → (R1 k1).p [(1, .one (.pv (.rp [(ei p1)] 0 0))), (71, vi (p1.fields.length : Int)), (72, vi x4)] [] := by intro k1; induction k1 with | zero => intro x4 h; exact iE (ff.eq_1 ..) h | succ k1 ih1 => intro x4 h; exact b1 h (uU (ff.eq_2 ..) (uC (uL aI fun e2 a45 => (uP (Co _) fun r5 _ => (uC (uR .ret (xN (xN xF))) (uJ (ih1 (IntKind.i64.wrap (x4 + 1))))))) (uR (.exit 0) (xM (uJ (hJ4 ()))))))
 uE (hL1 aK (0 : Int))))))); (uC (uN aI p1.fields (uC (uJ (hJ3 true)) (uP (qU _) fun r3 _ => (uC (uN aI p1.fields (uJ (hJ3 (decide ((0 : Int) < (p1.fields.length : Int)))))) (uJ (hJ3 false)))))) (uP (qU _) fun r4 _ => (uC (uN aI p1.fields (uJ (hJ3 (decide ((0 : Int) < (p1.fields.length : Int)))))) (uJ (hJ3 false))))))); (uC (uN aI p1.fields (uC (uJ (hJ2 true)) (uL aI fun e1 a20 => (uJ (hJ2 (!(e1.name.toList == (ByteArray.mk #[]).toList))))))) (uJ (hJ2 false))))); (uC (uP (ij _ _ _) fun r2 _ => (uC (uJ (hJ1 true)) (uC (uJ (hJ1 (p1.scale != 0))) (uJ (hJ1 false))))) (uC (uJ (hJ1 (p1.scale != 0))) (uJ (hJ1 false)))))))
def qV (z3 : Int) : Option (Int × Int) := some ((0 : Int), z3)
def eZ (q_ref1_checkType : ae → Int → Int → Option (Int × Int)) (p1 : ae) (p2 : Int) : Nat → Int → Int → Option (Int × Int)
 | 0, _, _ => none
 | k1 + 1, z2, x1 => aq (decide (x1 < (p1.fields.length : Int))) (aw (at? p1.fields x1) fun e1 => aw (q_ref1_checkType e1.type (IntKind.i64.wrap (p2 + 1)) z2) fun r3 => aq (r3.1 != 0) (some (r3.1, r3.2)) ((eZ q_ref1_checkType p1 p2 k1) r3.2 (IntKind.i64.wrap (x1 + 1)))) (qV z2)
def iM (q_ref1_checkType : ae → Int → Int → Option (Int × Int)) (p1 : ae) (p2 z1 : Int) : Option (Int × Int) := aw (sO p1) fun r2 => aq (r2 != 0) (some (r2, z1)) (eZ q_ref1_checkType p1 p2 aK z1 (0 : Int))
def dn : Nat → ae → Int → Int → Option (Int × Int)
 | 0, _, _, _ => none
 | k0 + 1, p1, p2, p3 => aq (decide ((4 : Int) < p2)) (some ((7 : Int), p3)) (aw (lV p1.kind) fun r1 => aq r1 (aq (p3 == 40) (some ((7 : Int), p3)) (iM (dn k0) p1 p2 (IntKind.i64.wrap (p3 + 1)))) (iM (dn k0) p1 p2 p3))
theorem rM : ∀ (k0 : Nat) (p1 : ae) (p2 p3 : Int), CM Tryz.prog 108 [.ag [ci p1.kind, ci p1.scale, cl aI p1.fields], vi p2, .one (.pt 0 0 0 0)] [.box [ci p3]] (dn k0 p1 p2 p3) (fun r => vi r.1) (fun r => [.box [ci r.2]])
  | 0, _, _, _ => KF (dn.eq_1 ..)
  | k0 + 1, p1, p2, p3 => nc 1 49 [] Tryz.f108 fun r => (uU (dn.eq_2 ..) (uC (uR .ret iW) (uQ (kS Tryz.f108 [1,1,0] 1) fun K6 hK6 => have hJ1 : ∀ (z1 : Int), iM (dn k0) p1 p2 z1 = some r → K6.p [(1, vi p2), (2, .one (.pt 0 0 0 0)), (3, .one (.pv (.rp [[pi p1.kind, pi p1.scale, .ro (aI.els p1.fields)]] 0 0)))] [.box [ci z1]] := fun z1 h => hK6 h (uP (BE _) fun r2 _ => (uC (uR .ret iW) (uQ (kS Tryz.f108 [1,1,1,1,0] 1) fun K20 hK20 => have hJ2 : ∀ (z3 : Int), qV z3 = some r → K20.p [] [.box [ci z3]] := fun z3 h => hK20 h (uR .ret iW); (uN aI p1.fields (uO (cd Tryz.f108 [1,1,1,1,0,1,0,0]) (kS Tryz.f108 [1,1,1,1,0,1,0] 1) fun R1 b1 => have hL1 : ∀ (k1 : Nat) (z2 x1 : Int), eZ (dn k0) p1 p2 k1 z2 x1 = some r → (R1 k1).p [(1, vi p2), (2, .one (.pt 0 0 0 0)), (3, .one (.pv (.rp [[pi p1.kind, pi p1.scale, .ro (aI.els p1.fields)]] 0 0))), (31, vi (p1.fields.length : Int)), (32, vi x1)] [.box [ci z2]] := by intro k1; induction k1 with | zero => intro z2 x1 h; exact iE (eZ.eq_1 ..) h | succ k1 ih1 => intro z2 x1 h; exact b1 h (uU (eZ.eq_2 ..) (uC (uL aI fun e1 a28 => (km true [0] (rM k0 _ _ _) fun r3 _ => (uC (uR .ret (xN (xN iW))) (uJ (ih1 r3.2 (IntKind.i64.wrap (x1 + 1))))))) (uR (.exit 0) (xM (uJ (hJ2 z2))))))
 uE (hL1 aK z1 (0 : Int))))))); (uP (qU _) fun r1 _ => (uC (uC (uR .ret (xN iW)) (uJ (hJ1 (IntKind.i64.wrap (p3 + 1))))) (uJ (hJ1 p3)))))))
def lE (p1 : ae) : Option Int := aw (dn aK p1 (1 : Int) (0 : Int)) fun r1 => some r1.1
theorem rO (p1 : ae) : CT Tryz.prog 49 [.ag [ci p1.kind, ci p1.scale, cl aI p1.fields]] (lE p1) vi :=
  iS 6 [3] Tryz.f49 fun r => (km true [0] (rM aK _ _ _) fun r1 _ => (uR .ret xF))
def mI (p1 : ae) : Option Int := aw (lE p1) fun r1 => aq (r1 != 0) (some r1) (aw (lV p1.kind) fun r2 => aq (!r2) (some (2 : Int)) (some (0 : Int)))
theorem tc (p1 : ae) : CT Tryz.prog 20 [.ag [ci p1.kind, ci p1.scale, cl aI p1.fields]] (mI p1) vi :=
  iS 13 [] Tryz.f20 fun r => (uP (rO _) fun r1 _ => (uC (uR .ret xF) (uP (qU _) fun r2 _ => (uC (uR .ret xF) (uR .ret xF)))))
def ky (rec1 : Int → Option Bool) (x2 : Int) (x3 : Bool) : Option Bool := aq x3 (some false) (rec1 (IntKind.i64.wrap (x2 + 1)))
def m6 : Option Bool := some true
def dF (p1 : ByteArray) : Nat → Int → Option Bool
 | 0, _ => none
 | k1 + 1, x2 => aq (decide (x2 < (p1.size : Int))) (cr (0 ≤ x2 ∧ x2 < (p1.size : Int)) <| aw (some (decide (((p1.data.toList.getD x2.toNat 0).toNat : Int) < (32 : Int)))) fun y1 => aq y1 (ky (dF p1 k1) x2 true) (cr (0 ≤ x2 ∧ x2 < (p1.size : Int)) <| ky (dF p1 k1) x2 (((p1.data.toList.getD x2.toNat 0).toNat : Int) == 127))) (m6)
def kJ (p1 : ByteArray) (x1 : Bool) : Option Bool := aq x1 (some false) (dF p1 aK (0 : Int))
def m0 (p1 : ByteArray) : Option Bool := aw (utf8_ValidString p1) fun r1 => aq (!r1) (kJ p1 true) (kJ p1 (decide ((256 : Int) < (p1.size : Int))))
theorem wR (p1 : ByteArray) : CT Tryz.prog 190 [vs p1] (m0 p1) vb :=
  iS 28 [] Tryz.f190 fun r => (uQ (kS Tryz.f190 [1,0,0] 2) fun K3 hK3 => have hJ1 : ∀ (x1 : Bool), kJ p1 x1 = some r → K3.p [(0, vs p1), (11, vb x1)] [] := fun x1 h => hK3 h (uC (uR .ret xF) (uQ (kS Tryz.f190 [1,1,0] 1) fun K8 hK8 => have hJ3 : ∀ (_ : Unit), m6 = some r → K8.p [] [] := fun _ h => hK8 h (uR .ret xF); (uO (cd Tryz.f190 [1,1,0,1,0,0]) (kS Tryz.f190 [1,1,0,1,0] 1) fun R1 b1 => have hL1 : ∀ (k1 : Nat) (x2 : Int), dF p1 k1 x2 = some r → (R1 k1).p [(0, vs p1), (3, vi x2)] [] := by intro k1; induction k1 with | zero => intro x2 h; exact iE (dF.eq_1 ..) h | succ k1 ih1 => intro x2 h; exact b1 h (uU (dF.eq_2 ..) (uC (uQ (kS Tryz.f190 [1,1,0,1,0,0,1,0,0,0] 3) fun K14 hK14 => have hJ2 : ∀ (x3 : Bool), ky (dF p1 k1) x2 x3 = some r → K14.p [(0, vs p1), (3, vi x2), (27, vb x3)] [] := fun x3 h => hK14 h (uC (uR .ret (xN (xN xF))) (uJ (ih1 (IntKind.i64.wrap (x2 + 1))))); (uG (uY 21 vb fun y1 => (uC (uJ (hJ2 true)) (uG (uJ (hJ2 (((p1.data.toList.getD x2.toNat 0).toNat : Int) == 127)))))))) (uR (.exit 0) (xM (uJ (hJ3 ()))))))
 uE (hL1 aK (0 : Int))))); (uP (qw _) fun r1 _ => (uC (uJ (hJ1 true)) (uJ (hJ1 (decide ((256 : Int) < (p1.size : Int))))))))
def mA (x2 : Bool) : Option Bool := some x2
def mm (x3 : Bool) : Option Bool := some x3
def my (x4 : Bool) : Option Bool := some x4
def mB (x5 : Bool) : Option Bool := some x5
def lf (x6 : Bool) : Option Bool := some x6
def ml (x7 : Bool) : Option Bool := some x7
def lj (x8 : Bool) : Option Bool := some x8
def ld (x9 : Bool) : Option Bool := some x9
def mJ (p1 : aa) (x1 : Bool) : Option Bool := aq (p1.kind == 0) (aq x1 (aq (p1.n == 0) (mA (p1.scale == 0)) (mA false)) (mA false)) (aq (p1.kind == 1) (aq x1 (aw (fM p1.n (0 : Int) (1 : Int)) fun r1 => aq r1 (mm (p1.scale == 0)) (mm false)) (mm false)) (aq (p1.kind == 2) (aq x1 (aw (fM p1.n (-999999999999999999 : Int) (999999999999999999 : Int)) fun r2 => aq r2 (my (p1.scale == 0)) (my false)) (my false)) (aq (p1.kind == 3) (aq x1 (aw (fM p1.n (-999999999999999999 : Int) (999999999999999999 : Int)) fun r3 => aq r3 (aw (fM p1.scale (0 : Int) (12 : Int)) fun r4 => mB r4) (mB false)) (mB false)) (aq (p1.kind == 4) (aq ((p1.items.length : Int) == 0) (aq (p1.n == 0) (aq (p1.scale == 0) (aw (m0 p1.s) fun r5 => lf r5) (lf false)) (lf false)) (lf false)) (aq (p1.kind == 5) (aq x1 (aw (fM p1.n (-62135596800 : Int) (253402300799 : Int)) fun r6 => aq r6 (ml (p1.scale == 0)) (ml false)) (ml false)) (aq (p1.kind == 6) (aq (p1.s.toList == (ByteArray.mk #[]).toList) (aq (p1.n == 0) (aq (p1.scale == 0) (lj (decide ((p1.items.length : Int) ≤ (64 : Int)))) (lj false)) (lj false)) (lj false)) (aq (p1.kind == 7) (aq (p1.s.toList == (ByteArray.mk #[]).toList) (aq (p1.n == 0) (aq (p1.scale == 0) (ld (decide ((0 : Int) < (p1.items.length : Int)))) (ld false)) (ld false)) (ld false)) (some false))))))))
def s4 (p1 : aa) : Option Bool := aq (p1.s.toList == (ByteArray.mk #[]).toList) (mJ p1 ((p1.items.length : Int) == 0)) (mJ p1 false)
theorem BZ (p1 : aa) : CT Tryz.prog 164 [.ag [ci p1.kind, ci p1.n, ci p1.scale, uK p1.s, cl ap p1.items]] (s4 p1) vb :=
  iS 143 [] Tryz.f164 fun r => (uQ (kS Tryz.f164 [1,0] 1) fun K2 hK2 => have hJ1 : ∀ (x1 : Bool), mJ p1 x1 = some r → K2.p [(1, .one (.pv (.rp [[pi p1.kind, pi p1.n, pi p1.scale, .s (.string p1.s), .ro (ap.els p1.items)]] 0 0))), (3, vb x1)] [] := fun x1 h => hK2 h (uC (uQ (kS Tryz.f164 [1,1,0,1,0,1,0,0] 3) fun K8 hK8 => have hJ2 : ∀ (x2 : Bool), mA x2 = some r → K8.p [(2, vb x2)] [] := fun x2 h => hK8 h (uR .ret xF); (uC (uC (uJ (hJ2 (p1.scale == 0))) (uJ (hJ2 false))) (uJ (hJ2 false)))) (uC (uQ (kS Tryz.f164 [1,1,0,1,0,1,1,1,0,0] 3) fun K13 hK13 => have hJ3 : ∀ (x3 : Bool), mm x3 = some r → K13.p [(2, vb x3)] [] := fun x3 h => hK13 h (uR .ret xF); (uC (uP (ij _ _ _) fun r1 _ => (uC (uJ (hJ3 (p1.scale == 0))) (uJ (hJ3 false)))) (uJ (hJ3 false)))) (uC (uQ (kS Tryz.f164 [1,1,0,1,0,1,1,1,1,1,0,0] 3) fun K19 hK19 => have hJ4 : ∀ (x4 : Bool), my x4 = some r → K19.p [(2, vb x4)] [] := fun x4 h => hK19 h (uR .ret xF); (uC (uP (ij _ _ _) fun r2 _ => (uC (uJ (hJ4 (p1.scale == 0))) (uJ (hJ4 false)))) (uJ (hJ4 false)))) (uC (uQ (kS Tryz.f164 [1,1,0,1,0,1,1,1,1,1,1,1,0,0] 3) fun K25 hK25 => have hJ5 : ∀ (x5 : Bool), mB x5 = some r → K25.p [(2, vb x5)] [] := fun x5 h => hK25 h (uR .ret xF); (uC (uP (ij _ _ _) fun r3 _ => (uC (uP (ij _ _ _) fun r4 _ => (uJ (hJ5 r4))) (uJ (hJ5 false)))) (uJ (hJ5 false)))) (uC (uQ (kS Tryz.f164 [1,1,0,1,0,1,1,1,1,1,1,1,1,1,0,0] 3) fun K32 hK32 => have hJ6 : ∀ (x6 : Bool), lf x6 = some r → K32.p [(2, vb x6)] [] := fun x6 h => hK32 h (uR .ret xF); (uN ap p1.items (uC (uC (uC (uP (wR _) fun r5 _ => (uJ (hJ6 r5))) (uJ (hJ6 false))) (uJ (hJ6 false))) (uJ (hJ6 false))))) (uC (uQ (kS Tryz.f164 [1,1,0,1,0,1,1,1,1,1,1,1,1,1,1,1,0,0] 3) fun K39 hK39 => have hJ7 : ∀ (x7 : Bool), ml x7 = some r → K39.p [(2, vb x7)] [] := fun x7 h => hK39 h (uR .ret xF); (uC (uP (ij _ _ _) fun r6 _ => (uC (uJ (hJ7 (p1.scale == 0))) (uJ (hJ7 false)))) (uJ (hJ7 false)))) (uC (uQ (kS Tryz.f164 [1,1,0,1,0,1,1,1,1,1,1,1,1,1,1,1,1,1,0,0] 3) fun K45 hK45 => have hJ8 : ∀ (x8 : Bool), lj x8 = some r → K45.p [(2, vb x8)] [] := fun x8 h => hK45 h (uR .ret xF); (uC (uC (uC (uN ap p1.items (uJ (hJ8 (decide ((p1.items.length : Int) ≤ (64 : Int)))))) (uJ (hJ8 false))) (uJ (hJ8 false))) (uJ (hJ8 false)))) (uC (uQ (kS Tryz.f164 [1,1,0,1,0,1,1,1,1,1,1,1,1,1,1,1,1,1,1,1,0,0] 3) fun K51 hK51 => have hJ9 : ∀ (x9 : Bool), ld x9 = some r → K51.p [(2, vb x9)] [] := fun x9 h => hK51 h (uR .ret xF); (uC (uC (uC (uN ap p1.items (uJ (hJ9 (decide ((0 : Int) < (p1.items.length : Int)))))) (uJ (hJ9 false))) (uJ (hJ9 false))) (uJ (hJ9 false)))) (uR .ret xF))))))))); (uC (uN ap p1.items (uJ (hJ1 ((p1.items.length : Int) == 0)))) (uJ (hJ1 false))))
def rt (z3 : Int) : Option (Bool × Int) := some (true, z3)
def jY (q_ref1_sound : aa → Int → Int → Option (Bool × Int)) (p1 : aa) (p2 : Int) : Nat → Int → Int → Option (Bool × Int)
 | 0, _, _ => none
 | k1 + 1, z2, x2 => aq (decide (x2 < (p1.items.length : Int))) (aw (at? p1.items x2) fun e1 => aw (q_ref1_sound e1 (IntKind.i64.wrap (p2 + 1)) z2) fun r2 => aq (!r2.1) (some (false, r2.2)) ((jY q_ref1_sound p1 p2 k1) r2.2 (IntKind.i64.wrap (x2 + 1)))) (rt z2)
def lh (q_ref1_sound : aa → Int → Int → Option (Bool × Int)) (p1 : aa) (p2 z1 : Int) (x1 : Bool) : Option (Bool × Int) := aq x1 (some (false, z1)) (jY q_ref1_sound p1 p2 aK z1 (0 : Int))
def mC (q_ref1_sound : aa → Int → Int → Option (Bool × Int)) (p1 : aa) (p2 z1 : Int) : Option (Bool × Int) := aq (decide ((4 : Int) < p2)) (lh q_ref1_sound p1 p2 z1 true) (aq (decide ((256 : Int) < z1)) (lh q_ref1_sound p1 p2 z1 true) (aw (s4 p1) fun r1 => lh q_ref1_sound p1 p2 z1 (!r1)))
def gZ : Nat → aa → Int → Int → Option (Bool × Int)
 | 0, _, _, _ => none
 | k0 + 1, p1, p2, p3 => aq (p1.kind != 0) (mC (gZ k0) p1 p2 (IntKind.i64.wrap (p3 + 1))) (mC (gZ k0) p1 p2 p3)
abbrev j4 (p1 : aa) : List PV := [pi p1.kind, pi p1.n, pi p1.scale, .s (.string p1.s), .ro (ap.els p1.items)]
theorem xa : ∀ (k0 : Nat) (p1 : aa) (p2 p3 : Int), CM Tryz.prog 109 [.ag [ci p1.kind, ci p1.n, ci p1.scale, uK p1.s, cl ap p1.items], vi p2, .one (.pt 0 0 0 0)] [.box [ci p3]] (gZ k0 p1 p2 p3) (fun r => vb r.1) (fun r => [.box [ci r.2]])
  | 0, _, _, _ => KF (gZ.eq_1 ..)
  | k0 + 1, p1, p2, p3 => nc 1 46 [] Tryz.f109 fun r => (uU (gZ.eq_2 ..) (uQ (kS Tryz.f109 [1,0] 1) fun K2 hK2 => have hJ1 : ∀ (z1 : Int), mC (gZ k0) p1 p2 z1 = some r → K2.p [(1, vi p2), (2, .one (.pt 0 0 0 0)), (3, .one (.pv (.rp [(j4 p1)] 0 0)))] [.box [ci z1]] := fun z1 h => hK2 h (uQ (kS Tryz.f109 [1,1,0,0] 2) fun K6 hK6 => have hJ2 : ∀ (x1 : Bool), lh (gZ k0) p1 p2 z1 x1 = some r → K6.p [(1, vi p2), (2, .one (.pt 0 0 0 0)), (3, .one (.pv (.rp [(j4 p1)] 0 0))), (28, vb x1)] [.box [ci z1]] := fun x1 h => hK6 h (uC (uR .ret iW) (uQ (kS Tryz.f109 [1,1,1,0] 1) fun K12 hK12 => have hJ3 : ∀ (z3 : Int), rt z3 = some r → K12.p [] [.box [ci z3]] := fun z3 h => hK12 h (uR .ret iW); (uN ap p1.items (uO (cd Tryz.f109 [1,1,1,0,1,0,0]) (kS Tryz.f109 [1,1,1,0,1,0] 1) fun R1 b1 => have hL1 : ∀ (k1 : Nat) (z2 x2 : Int), jY (gZ k0) p1 p2 k1 z2 x2 = some r → (R1 k1).p [(1, vi p2), (2, .one (.pt 0 0 0 0)), (3, .one (.pv (.rp [(j4 p1)] 0 0))), (31, vi (p1.items.length : Int)), (32, vi x2)] [.box [ci z2]] := by intro k1; induction k1 with | zero => intro z2 x2 h; exact iE (jY.eq_1 ..) h | succ k1 ih1 => intro z2 x2 h; exact b1 h (uU (jY.eq_2 ..) (uC (uL ap fun e1 a20 => (km true [0] (xa k0 _ _ _) fun r2 _ => (uC (uR .ret (xN (xN iW))) (uJ (ih1 r2.2 (IntKind.i64.wrap (x2 + 1))))))) (uR (.exit 0) (xM (uJ (hJ3 z2))))))
 uE (hL1 aK z1 (0 : Int)))))); (uC (uJ (hJ2 true)) (uC (uJ (hJ2 true)) (uP (BZ _) fun r1 _ => (uJ (hJ2 (!r1))))))); (uC (uJ (hJ1 (IntKind.i64.wrap (p3 + 1)))) (uJ (hJ1 p3)))))
def sH (p1 : aa) : Option Bool := aw (gZ aK p1 (1 : Int) (0 : Int)) fun r1 => some r1.1
theorem B1 (p1 : aa) : CT Tryz.prog 51 [.ag [ci p1.kind, ci p1.n, ci p1.scale, uK p1.s, cl ap p1.items]] (sH p1) vb :=
  iS 6 [3] Tryz.f51 fun r => (km true [0] (xa aK _ _ _) fun r1 _ => (uR .ret xF))
def sR (rec1 : Int → Option Bool) (q_ref1_of : ae → aa → Option Bool) (p1 : ae) (p2 : aa) (x3 x4 : Int) : Option Bool := aw (at? p1.fields x4) fun e1 => aw (at? p2.items x3) fun e2 => aw (q_ref1_of e1.type e2) fun r1 => aq (!r1) (some false) (rec1 (IntKind.i64.wrap (x3 + 1)))
def wc : Option Bool := some true
def gg (q_ref1_of : ae → aa → Option Bool) (p1 : ae) (p2 : aa) : Nat → Int → Option Bool
 | 0, _ => none
 | k1 + 1, x3 => aq (decide (x3 < (p2.items.length : Int))) (aq (p1.kind == 6) (sR (gg q_ref1_of p1 p2 k1) q_ref1_of p1 p2 x3 (0 : Int)) (sR (gg q_ref1_of p1 p2 k1) q_ref1_of p1 p2 x3 x3)) (wc)
def oH (q_ref1_of : ae → aa → Option Bool) (p1 : ae) (p2 : aa) (x2 : Bool) : Option Bool := aq x2 (some false) (gg q_ref1_of p1 p2 aK (0 : Int))
def sB (q_ref1_of : ae → aa → Option Bool) (p1 : ae) (p2 : aa) (x1 : Bool) : Option Bool := aq x1 (some false) (aq (p1.kind == 7) (oH q_ref1_of p1 p2 ((p2.items.length : Int) != (p1.fields.length : Int))) (oH q_ref1_of p1 p2 false))
def gO : Nat → ae → aa → Option Bool
 | 0, _, _ => none
 | k0 + 1, p1, p2 => aq (p2.kind == 0) (some true) (aq (p2.kind != p1.kind) (sB (gO k0) p1 p2 true) (sB (gO k0) p1 p2 (p2.scale != p1.scale)))
theorem AM : ∀ (k0 : Nat) (p1 : ae) (p2 : aa), CT Tryz.prog 52 [.ag [ci p1.kind, ci p1.scale, cl aI p1.fields], .ag [ci p2.kind, ci p2.n, ci p2.scale, uK p2.s, cl ap p2.items]] (gO k0 p1 p2) vb
  | 0, _, _ => HL (gO.eq_1 ..)
  | k0 + 1, p1, p2 => iS 58 [] Tryz.f52 fun r => (uU (gO.eq_2 ..) (uC (uR .ret xF) (uQ (kS Tryz.f52 [1,1,0,0] 2) fun K7 hK7 => have hJ1 : ∀ (x1 : Bool), sB (gO k0) p1 p2 x1 = some r → K7.p [(2, .one (.pv (.rp [(ei p1)] 0 0))), (3, .one (.pv (.rp [(j4 p2)] 0 0))), (21, vb x1)] [] := fun x1 h => hK7 h (uC (uR .ret xF) (uQ (kS Tryz.f52 [1,1,1,0,0] 2) fun K12 hK12 => have hJ2 : ∀ (x2 : Bool), oH (gO k0) p1 p2 x2 = some r → K12.p [(2, .one (.pv (.rp [(ei p1)] 0 0))), (3, .one (.pv (.rp [(j4 p2)] 0 0))), (33, vb x2)] [] := fun x2 h => hK12 h (uC (uR .ret xF) (uQ (kS Tryz.f52 [1,1,1,1,0] 1) fun K16 hK16 => have hJ4 : ∀ (_ : Unit), wc = some r → K16.p [] [] := fun _ h => hK16 h (uR .ret xF); (uN ap p2.items (uO (cd Tryz.f52 [1,1,1,1,0,1,0,0]) (kS Tryz.f52 [1,1,1,1,0,1,0] 1) fun R1 b1 => have hL1 : ∀ (k1 : Nat) (x3 : Int), gg (gO k0) p1 p2 k1 x3 = some r → (R1 k1).p [(2, .one (.pv (.rp [(ei p1)] 0 0))), (3, .one (.pv (.rp [(j4 p2)] 0 0))), (36, vi (p2.items.length : Int)), (37, vi x3)] [] := by intro k1; induction k1 with | zero => intro x3 h; exact iE (gg.eq_1 ..) h | succ k1 ih1 => intro x3 h; exact b1 h (uU (gg.eq_2 ..) (uC (uQ (kS Tryz.f52 [1,1,1,1,0,1,0,0,1,1,0,0,1,1,0] 3) fun K24 hK24 => have hJ3 : ∀ (x4 : Int), sR (gg (gO k0) p1 p2 k1) (gO k0) p1 p2 x3 x4 = some r → K24.p [(2, .one (.pv (.rp [(ei p1)] 0 0))), (3, .one (.pv (.rp [(j4 p2)] 0 0))), (5, vi x3), (6, vi x4), (36, vi (p2.items.length : Int)), (37, vi x3)] [] := fun x4 h => hK24 h (yf 11 (uL aI fun e1 a28 => (uL ap fun e2 a29 => (uP (AM k0 _ _) fun r1 _ => (uC (uR .ret (xN (xN xF))) (uJ (ih1 (IntKind.i64.wrap (x3 + 1))))))))); (uC (uJ (hJ3 (0 : Int))) (uJ (hJ3 x3)))) (uR (.exit 0) (xM (uJ (hJ4 ()))))))
 uE (hL1 aK (0 : Int)))))); (uC (uN ap p2.items (uN aI p1.fields (uJ (hJ2 ((p2.items.length : Int) != (p1.fields.length : Int)))))) (uJ (hJ2 false))))); (uC (uJ (hJ1 true)) (uJ (hJ1 (p2.scale != p1.scale)))))))
def kW (rec1 : Int → Option Bool) (x1 : Int) (x3 : Bool) : Option Bool := aq x3 (some true) (rec1 (IntKind.i64.wrap (x1 + 1)))
def kP (rec1 : Int → Option Bool) (q_ref1_missing : ae → aa → Option Bool) (p1 : ae) (p2 : aa) (x1 x2 : Int) : Option Bool := aw (at? p1.fields x2) fun e1 => aq e1.need (aw (at? p2.items x1) fun e2 => aq (e2.kind == 0) (kW rec1 x1 true) (aw (q_ref1_missing e1.type e2) fun r1 => kW rec1 x1 r1)) (aw (at? p2.items x1) fun e3 => aw (q_ref1_missing e1.type e3) fun r2 => kW rec1 x1 r2)
def pw : Option Bool := some false
def cO (q_ref1_missing : ae → aa → Option Bool) (p1 : ae) (p2 : aa) : Nat → Int → Option Bool
 | 0, _ => none
 | k1 + 1, x1 => aq (decide (x1 < (p2.items.length : Int))) (aq (p1.kind == 6) (kP (cO q_ref1_missing p1 p2 k1) q_ref1_missing p1 p2 x1 (0 : Int)) (kP (cO q_ref1_missing p1 p2 k1) q_ref1_missing p1 p2 x1 x1)) (pw)
def df : Nat → ae → aa → Option Bool
 | 0, _, _ => none
 | k0 + 1, p1, p2 => cO (df k0) p1 p2 aK (0 : Int)
theorem qx : ∀ (k0 : Nat) (p1 : ae) (p2 : aa), CT Tryz.prog 53 [.ag [ci p1.kind, ci p1.scale, cl aI p1.fields], .ag [ci p2.kind, ci p2.n, ci p2.scale, uK p2.s, cl ap p2.items]] (df k0 p1 p2) vb
  | 0, _, _ => HL (df.eq_1 ..)
  | k0 + 1, p1, p2 => iS 45 [7] Tryz.f53 fun r => (uU (df.eq_2 ..) (uQ (kS Tryz.f53 [1,0] 1) fun K2 hK2 => have hJ3 : ∀ (_ : Unit), pw = some r → K2.p [] [] := fun _ h => hK2 h (uR .ret xF); (uN ap p2.items (uO (cd Tryz.f53 [1,0,1,0,0]) (kS Tryz.f53 [1,0,1,0] 1) fun R1 b1 => have hL1 : ∀ (k1 : Nat) (x1 : Int), cO (df k0) p1 p2 k1 x1 = some r → (R1 k1).p [(2, .one (.pv (.rp [(ei p1)] 0 0))), (3, .one (.pv (.rp [(j4 p2)] 0 0))), (10, vi (p2.items.length : Int)), (11, vi x1)] [] := by intro k1; induction k1 with | zero => intro x1 h; exact iE (cO.eq_1 ..) h | succ k1 ih1 => intro x1 h; exact b1 h (uU (cO.eq_2 ..) (uC (uQ (kS Tryz.f53 [1,0,1,0,0,1,1,0,0,1,1,0] 3) fun K10 hK10 => have hJ1 : ∀ (x2 : Int), kP (cO (df k0) p1 p2 k1) (df k0) p1 p2 x1 x2 = some r → K10.p [(2, .one (.pv (.rp [(ei p1)] 0 0))), (3, .one (.pv (.rp [(j4 p2)] 0 0))), (5, vi x1), (6, vi x2), (10, vi (p2.items.length : Int)), (11, vi x1)] [] := fun x2 h => hK10 h (uL aI fun e1 a14 => (uQ (kS Tryz.f53 [1,0,1,0,0,1,1,0,0,1,1,1,1,0] 3) fun K15 hK15 => have hJ2 : ∀ (x3 : Bool), kW (cO (df k0) p1 p2 k1) x1 x3 = some r → K15.p [(2, .one (.pv (.rp [(ei p1)] 0 0))), (3, .one (.pv (.rp [(j4 p2)] 0 0))), (10, vi (p2.items.length : Int)), (11, vi x1), (43, vb x3)] [.dead] := fun x3 h => hK15 h (uC (uR .ret (xN (xN xF))) (uJ (ih1 (IntKind.i64.wrap (x1 + 1))))); (yf 19 (uC (uL ap fun e2 a17 => (uC (uJ (hJ2 true)) (uM ap a17 (uP (qx k0 _ _) fun r1 _ => (uJ (hJ2 r1)))))) (uL ap fun e3 a20 => (uP (qx k0 _ _) fun r2 _ => (uJ (hJ2 r2)))))))); (uC (uJ (hJ1 (0 : Int))) (uJ (hJ1 x1)))) (uR (.exit 0) (xM (uJ (hJ3 ()))))))
 uE (hL1 aK (0 : Int))))))
def oI (p1 : ae) (p2 : aa) : Option Int := aw (lE p1) fun r1 => aq (r1 != 0) (some r1) (aw (sH p2) fun r2 => aq (!r2) (some (1 : Int)) (aw (gO aK p1 p2) fun r3 => aq (!r3) (some (2 : Int)) (aw (df aK p1 p2) fun r4 => aq r4 (some (9 : Int)) (some (0 : Int)))))
theorem wE (p1 : ae) (p2 : aa) : CT Tryz.prog 21 [.ag [ci p1.kind, ci p1.scale, cl aI p1.fields], .ag [ci p2.kind, ci p2.n, ci p2.scale, uK p2.s, cl ap p2.items]] (oI p1 p2) vi :=
  iS 21 [] Tryz.f21 fun r => (uP (rO _) fun r1 _ => (uC (uR .ret xF) (uP (B1 _) fun r2 _ => (uC (uR .ret xF) (uP (AM aK _ _) fun r3 _ => (uC (uR .ret xF) (uP (qx aK _ _) fun r4 _ => (uC (uR .ret xF) (uR .ret xF)))))))))
def qt (l2 : List Int) (x2 : Int) : Option (List Int) := cr (l2.length + 1 ≤ 4294967296) <| some (l2 ++ [(IntKind.u8.wrap x2)])
def jy : Nat → List Int → Int → Option (List Int)
 | 0, _, _ => none
 | k1 + 1, l1, x1 => aq (decide ((128 : Int) ≤ x1)) (aw (some (IntKind.u8.wrap ((IntKind.u8.wrap (x1.tmod (128 : Int))) + (128 : Int)))) fun y1 => cr (l1.length + 1 ≤ 4294967296) <| (jy k1) (l1 ++ [y1]) (IntKind.u64.wrap (x1.tdiv (128 : Int)))) (qt l1 x1)
def jj (p1 : Int) : Option (List Int) := jy aK [] p1
theorem je (p1 : Int) : CX Tryz.prog 110 [vk .u64 p1] [] [] (jj p1) (fun r => .one (.sl 0 1 0 r.length)) (fun r => [.arr 1 ((eK .u8).els r)]) :=
  yv 0 1 20 [] Tryz.f110 fun r => (uQ (kS Tryz.f110 [1,1,0] 1) fun K3 hK3 => have hJ1 : ∀ (l2 : List Int) (x2 : Int), qt l2 x2 = some r → K3.p [(0, vk .u64 x2), (3, .one (.sl 0 1 0 l2.length))] [.arr 1 ((eK .u8).els l2)] := fun l2 x2 h => hK3 h (kl (eK .u8) 0 [(IntKind.u8.wrap x2)] (uR .ret iW)); (pq (.li 3 1) (uO (cd Tryz.f110 [1,1,0,0,0]) (kS Tryz.f110 [1,1,0,0] 1) fun R1 b1 => have hL1 : ∀ (k1 : Nat) (l1 : List Int) (x1 : Int), jy k1 l1 x1 = some r → (R1 k1).p [(0, vk .u64 x1), (3, .one (.sl 0 1 0 l1.length))] [.arr 1 ((eK .u8).els l1)] := by intro k1; induction k1 with | zero => intro l1 x1 h; exact iE (jy.eq_1 ..) h | succ k1 ih1 => intro l1 x1 h; exact b1 h (uU (jy.eq_2 ..) (uC (uY 10 (vk .u8) fun y1 => (kl (eK .u8) 0 [y1] (uJ (ih1 (l1 ++ [y1]) (IntKind.u64.wrap (x1.tdiv (128 : Int))))))) (uR (.exit 0) (xM (uJ (hJ1 l1 x1))))))
 uE (hL1 aK [] p1))))
def iX (x3 : Int) : Option Int := some x3
def eQ (rec1 : Int → Option Int) (x1 : Int) (x2 : Bool) : Option Int := aq x2 (rec1 (IntKind.i64.wrap (x1 + 1))) (iX x1)
def ce (p1 p2 : ByteArray) : Nat → Int → Option Int
 | 0, _ => none
 | k1 + 1, x1 => aq (decide (x1 < (p1.size : Int))) (aq (decide (x1 < (p2.size : Int))) (cr (0 ≤ x1 ∧ x1 < (p1.size : Int)) <| cr (0 ≤ x1 ∧ x1 < (p2.size : Int)) <| aw (some (((p1.data.toList.getD x1.toNat 0).toNat : Int) == ((p2.data.toList.getD x1.toNat 0).toNat : Int))) fun y1 => eQ (ce p1 p2 k1) x1 y1) (eQ (ce p1 p2 k1) x1 false)) (eQ (ce p1 p2 k1) x1 false)
def oJ (p1 p2 : ByteArray) : Option Int := ce p1 p2 aK (0 : Int)
theorem vV (p1 p2 : ByteArray) : CT Tryz.prog 165 [vs p1, vs p2] (oJ p1 p2) vi :=
  iS 28 [] Tryz.f165 fun r => (uQ (kS Tryz.f165 [1,1,0] 1) fun K3 hK3 => have hJ2 : ∀ (x3 : Int), iX x3 = some r → K3.p [(5, vi x3)] [] := fun x3 h => hK3 h (uR .ret xF); (uO (cd Tryz.f165 [1,1,0,0,0]) (kS Tryz.f165 [1,1,0,0] 1) fun R1 b1 => have hL1 : ∀ (k1 : Nat) (x1 : Int), ce p1 p2 k1 x1 = some r → (R1 k1).p [(0, vs p1), (1, vs p2), (5, vi x1)] [] := by intro k1; induction k1 with | zero => intro x1 h; exact iE (ce.eq_1 ..) h | succ k1 ih1 => intro x1 h; exact b1 h (uU (ce.eq_2 ..) (uQ (kS Tryz.f165 [1,1,0,0,0,0,0] 2) fun K5 hK5 => have hJ1 : ∀ (x2 : Bool), eQ (ce p1 p2 k1) x1 x2 = some r → K5.p [(0, vs p1), (1, vs p2), (5, vi x1), (24, vb x2)] [] := fun x2 h => hK5 h (uC (uJ (ih1 (IntKind.i64.wrap (x1 + 1)))) (uR (.exit 0) (xM (uJ (hJ2 x1))))); (yf 17 (uC (uC (uG (uG (uY 23 vb fun y1 => (uJ (hJ1 y1))))) (uJ (hJ1 false))) (uJ (hJ1 false))))))
 uE (hL1 aK (0 : Int))))
def oz (l2 : List Int) : Option (List Int) := some l2
def fJ (p1 : (List ByteArray)) : Nat → List Int → ByteArray → Int → Option (List Int)
 | 0, _, _, _ => none
 | k1 + 1, l1, x1, x2 => aq (decide (x2 < (p1.length : Int))) (aw (at? p1 x2) fun e1 => aw (oJ x1 e1) fun r1 => aw (jj (IntKind.u64.wrap r1)) fun r2 => cr (l1.length + r2.length ≤ 4294967296) <| aw (jj (IntKind.u64.wrap (IntKind.i64.wrap ((e1.size : Int) - r1)))) fun r3 => cr ((l1 ++ r2).length + r3.length ≤ 4294967296) <| cr (0 ≤ r1 ∧ r1 ≤ (e1.size : Int) ∧ (e1.size : Int) ≤ (e1.size : Int)) <| cr (((l1 ++ r2) ++ r3).length + (cK (e1.extract r1.toNat (e1.size : Int).toNat)).length ≤ 4294967296) <| (fJ p1 k1) (((l1 ++ r2) ++ r3) ++ (cK (e1.extract r1.toNat (e1.size : Int).toNat))) e1 (IntKind.i64.wrap (x2 + 1))) (oz l1)
def pc (p1 : (List ByteArray)) : Option (List Int) := fJ p1 aK [] (ByteArray.mk #[]) (0 : Int)
theorem tj (p1 : (List ByteArray)) : CT Tryz.prog 111 [vl eS p1] (pc p1) (fun r => vl (eK .u8) r) :=
  iS 38 [] Tryz.f111 fun r => (uQ (kS Tryz.f111 [1,1,1,0] 1) fun K4 hK4 => have hJ1 : ∀ (l2 : List Int), oz l2 = some r → K4.p [(3, .one (.sl 0 1 0 l2.length))] [.arr 1 ((eK .u8).els l2)] := fun l2 h => hK4 h (ou (eK .u8) l2 0 [2] (uR .ret xF)); (uN eS p1 (pq (.li 3 1) (uO (cd Tryz.f111 [1,1,1,0,1,0,0]) (kS Tryz.f111 [1,1,1,0,1,0] 1) fun R1 b1 => have hL1 : ∀ (k1 : Nat) (l1 : List Int) (x1 : ByteArray) (x2 : Int), fJ p1 k1 l1 x1 x2 = some r → (R1 k1).p [(3, .one (.sl 0 1 0 l1.length)), (4, vs x1), (8, vl eS p1), (9, vi (p1.length : Int)), (10, vi x2)] [.arr 1 ((eK .u8).els l1)] := by intro k1; induction k1 with | zero => intro l1 x1 x2 h; exact iE (fJ.eq_1 ..) h | succ k1 ih1 => intro l1 x1 x2 h; exact b1 h (uU (fJ.eq_2 ..) (uC (uL eS fun e1 a11 => (uP (vV _ _) fun r1 _ => (we true [] (je _) fun r2 _ => (ou (eK .u8) r2 1 [20] (kl (eK .u8) 0 r2 (we true [] (je _) fun r3 _ => (ou (eK .u8) r3 2 [28] (kl (eK .u8) 0 r3 (uG (OO 0 (e1.extract r1.toNat (e1.size : Int).toNat) (uJ (ih1 (((l1 ++ r2) ++ r3) ++ (cK (e1.extract r1.toNat (e1.size : Int).toNat))) e1 (IntKind.i64.wrap (x2 + 1)))))))))))))) (uR (.exit 0) (xM (uJ (hJ1 l1))))))
 uE (hL1 aK [] (ByteArray.mk #[]) (0 : Int))))))
def i0 (rec1 : List ByteArray → Int → Option (List ByteArray)) (x1 : Int) (l3 : List ByteArray) : Option (List ByteArray) := rec1 l3 (IntKind.i64.wrap (x1 + 1))
def eU (rec1 : List ByteArray → Int → Option (List ByteArray)) (x1 : Int) (e1 : ByteArray) (x4 : Int) (l2 : List ByteArray) : Option (List ByteArray) := aw (at? l2 x4) fun e4 => i0 rec1 x1 (l2.set x4.toNat e1)
def iY (rec1 : List ByteArray → Int → Option (List ByteArray)) (l1 : List ByteArray) (x1 : Int) (e1 : ByteArray) (x4 : Int) (x5 : Bool) : Option (List ByteArray) := aq x5 (i0 rec1 x1 l1) (cr (l1.length + 1 ≤ 4294967296) <| aq (decide ((IntKind.i64.wrap (x4 + 1)) < (((l1 ++ [(ByteArray.mk #[])]).length : Nat) : Int))) (cr (0 ≤ (IntKind.i64.wrap (x4 + 1)) ∧ (IntKind.i64.wrap (x4 + 1)) ≤ (((l1 ++ [(ByteArray.mk #[])]).length : Nat) : Int)) <| aq (decide (x4 < (((l1 ++ [(ByteArray.mk #[])]).length : Nat) : Int))) (cr (0 ≤ x4 ∧ x4 ≤ (((l1 ++ [(ByteArray.mk #[])]).length : Nat) : Int)) <| eU rec1 x1 e1 x4 (qK (l1 ++ [(ByteArray.mk #[])]) (0 + (IntKind.i64.wrap (x4 + 1)).toNat) ((((l1 ++ [(ByteArray.mk #[])]).drop (0 + x4.toNat)).take ((l1 ++ [(ByteArray.mk #[])]).length - x4.toNat)).take (min (((l1 ++ [(ByteArray.mk #[])]).drop (0 + x4.toNat)).take ((l1 ++ [(ByteArray.mk #[])]).length - x4.toNat)).length ((l1 ++ [(ByteArray.mk #[])]).length - (IntKind.i64.wrap (x4 + 1)).toNat))))) (cr (0 ≤ x4 ∧ x4 ≤ (((l1 ++ [(ByteArray.mk #[])]).length : Nat) : Int)) <| eU rec1 x1 e1 x4 (qK (l1 ++ [(ByteArray.mk #[])]) (0 + (IntKind.i64.wrap (x4 + 1)).toNat) (([] : List ByteArray).take (min ([] : List ByteArray).length ((l1 ++ [(ByteArray.mk #[])]).length - (IntKind.i64.wrap (x4 + 1)).toNat)))))) (cr (0 ≤ (IntKind.i64.wrap (x4 + 1)) ∧ (IntKind.i64.wrap (x4 + 1)) ≤ (((l1 ++ [(ByteArray.mk #[])]).length : Nat) : Int)) <| aq (decide (x4 < (((l1 ++ [(ByteArray.mk #[])]).length : Nat) : Int))) (cr (0 ≤ x4 ∧ x4 ≤ (((l1 ++ [(ByteArray.mk #[])]).length : Nat) : Int)) <| eU rec1 x1 e1 x4 (l1 ++ [(ByteArray.mk #[])])) (cr (0 ≤ x4 ∧ x4 ≤ (((l1 ++ [(ByteArray.mk #[])]).length : Nat) : Int)) <| eU rec1 x1 e1 x4 (l1 ++ [(ByteArray.mk #[])]))))
def iZ (rec1 : List ByteArray → Int → Option (List ByteArray)) (l1 : List ByteArray) (x1 : Int) (e1 : ByteArray) (x4 : Int) : Option (List ByteArray) := aq (decide (x4 < ((l1.length : Nat) : Int))) (aw (at? l1 x4) fun e3 => iY rec1 l1 x1 e1 x4 (e3.toList == e1.toList)) (iY rec1 l1 x1 e1 x4 false)
def i6 (rec1 : List ByteArray → Int → Option (List ByteArray)) (rec2 : Int → Option (List ByteArray)) (l1 : List ByteArray) (x1 : Int) (e1 : ByteArray) (x2 : Int) (x3 : Bool) : Option (List ByteArray) := aq x3 (rec2 (IntKind.i64.wrap (x2 + 1))) (iZ rec1 l1 x1 e1 x2)
def cB (rec1 : List ByteArray → Int → Option (List ByteArray)) (l1 : List ByteArray) (x1 : Int) (e1 : ByteArray) : Nat → Int → Option (List ByteArray)
 | 0, _ => none
 | k2 + 1, x2 => aq (decide (x2 < ((l1.length : Nat) : Int))) (aw (at? l1 x2) fun e2 => i6 rec1 (cB rec1 l1 x1 e1 k2) l1 x1 e1 x2 (Op.bytesLess e2.toList e1.toList)) (i6 rec1 (cB rec1 l1 x1 e1 k2) l1 x1 e1 x2 false)
def pK (l4 : List ByteArray) : Option (List ByteArray) := some l4
def aZ (p1 : (List ByteArray)) : Nat → List ByteArray → Int → Option (List ByteArray)
 | 0, _, _ => none
 | k1 + 1, l1, x1 => aq (decide (x1 < (p1.length : Int))) (aw (at? p1 x1) fun e1 => cB (aZ p1 k1) l1 x1 e1 aK (0 : Int)) (pK l1)
def md (p1 : (List ByteArray)) : Option (List ByteArray) := aZ p1 aK [] (0 : Int)
theorem vY (p1 : (List ByteArray)) : CT Tryz.prog 112 [vl eS p1] (md p1) (vl eS) :=
  iS 56 [] Tryz.f112 fun r => (uQ (kS Tryz.f112 [1,1,0] 1) fun K3 hK3 => have hJ6 : ∀ (l4 : List ByteArray), pK l4 = some r → K3.p [(3, .one (.sl 0 1 0 l4.length))] [.arr 1 (eS.els l4)] := fun l4 h => hK3 h (ou eS l4 0 [2] (uR .ret xF)); (uN eS p1 (pq (.li 3 1) (uO (cd Tryz.f112 [1,1,0,1,0,0]) (kS Tryz.f112 [1,1,0,1,0] 1) fun R1 b1 => have hL1 : ∀ (k1 : Nat) (l1 : List ByteArray) (x1 : Int), aZ p1 k1 l1 x1 = some r → (R1 k1).p [(3, .one (.sl 0 1 0 l1.length)), (7, vl eS p1), (8, vi (p1.length : Int)), (9, vi x1)] [.arr 1 (eS.els l1)] := by intro k1; induction k1 with | zero => intro l1 x1 h; exact iE (aZ.eq_1 ..) h | succ k1 ih1 => intro l1 x1 h; exact b1 h (uU (aZ.eq_2 ..) (uC (uQ (kS Tryz.f112 [1,1,0,1,0,0,1,1,0] 1) fun K8 hK8 => have hJ5 : ∀ (l3 : List ByteArray), i0 (aZ p1 k1) x1 l3 = some r → K8.p [(3, .one (.sl 0 1 0 l3.length)), (7, vl eS p1), (8, vi (p1.length : Int)), (9, vi x1)] [.arr 1 (eS.els l3)] := fun l3 h => hK8 h (uJ (ih1 l3 (IntKind.i64.wrap (x1 + 1)))); (uL eS fun e1 a10 => (uQ (kS Tryz.f112 [1,1,0,1,0,0,1,1,0,0,1,1,0] 2) fun K12 hK12 => have hJ2 : ∀ (x4 : Int), iZ (aZ p1 k1) l1 x1 e1 x4 = some r → K12.p [(3, .one (.sl 0 1 0 l1.length)), (5, vs e1), (6, vi x4), (7, vl eS p1), (8, vi (p1.length : Int)), (9, vi x1)] [.arr 1 (eS.els l1)] := fun x4 h => hK12 h (uQ (kS Tryz.f112 [1,1,0,1,0,0,1,1,0,0,1,1,1,0,0] 3) fun K19 hK19 => have hJ3 : ∀ (x5 : Bool), iY (aZ p1 k1) l1 x1 e1 x4 x5 = some r → K19.p [(3, .one (.sl 0 1 0 l1.length)), (5, vs e1), (6, vi x4), (7, vl eS p1), (8, vi (p1.length : Int)), (9, vi x1), (38, vb x5)] [.arr 1 (eS.els l1)] := fun x5 h => hK19 h (uC (uJ (hJ5 l1)) (kl eS 0 ([(ByteArray.mk #[])]) (uQ (kS Tryz.f112 [1,1,0,1,0,0,1,1,0,0,1,1,1,1,1,0] 2) fun K25 hK25 => have hJ4 : ∀ (l2 : List ByteArray), eU (aZ p1 k1) x1 e1 x4 l2 = some r → K25.p [(3, .one (.sl 0 1 0 l2.length)), (5, vs e1), (6, vi x4), (7, vl eS p1), (8, vi (p1.length : Int)), (9, vi x1)] [.arr 1 (eS.els l2)] := fun l2 h => hK25 h (DR eS 0 fun e4 a38 => (JT eS 0 a38 e1 (Hr [45,48] (Bt 0 (show l2.length = (l2.set x4.toNat e1).length by simp) (uJ (hJ5 (l2.set x4.toNat e1))))))); (yf 7 (uI (fun b27 => (Ni 0 1 0 b27 (uI (fun b30 => (Ni 0 1 0 b30 (Qr eS 0 (l1 ++ [(ByteArray.mk #[])]) (l1 ++ [(ByteArray.mk #[])]) (0 + (IntKind.i64.wrap (x4 + 1)).toNat) ((l1 ++ [(ByteArray.mk #[])]).length - (IntKind.i64.wrap (x4 + 1)).toNat) (0 + x4.toNat) ((l1 ++ [(ByteArray.mk #[])]).length - x4.toNat) (by have := of_decide_eq_true b27; omega) (by have := of_decide_eq_true b30; omega) (Hr [45,48] (Bt 0 (show (l1 ++ [(ByteArray.mk #[])]).length = (qK (l1 ++ [(ByteArray.mk #[])]) (0 + (IntKind.i64.wrap (x4 + 1)).toNat) ((((l1 ++ [(ByteArray.mk #[])]).drop (0 + x4.toNat)).take ((l1 ++ [(ByteArray.mk #[])]).length - x4.toNat)).take (min (((l1 ++ [(ByteArray.mk #[])]).drop (0 + x4.toNat)).take ((l1 ++ [(ByteArray.mk #[])]).length - x4.toNat)).length ((l1 ++ [(ByteArray.mk #[])]).length - (IntKind.i64.wrap (x4 + 1)).toNat)))).length by simp [q8]) (uJ (hJ4 (qK (l1 ++ [(ByteArray.mk #[])]) (0 + (IntKind.i64.wrap (x4 + 1)).toNat) ((((l1 ++ [(ByteArray.mk #[])]).drop (0 + x4.toNat)).take ((l1 ++ [(ByteArray.mk #[])]).length - x4.toNat)).take (min (((l1 ++ [(ByteArray.mk #[])]).drop (0 + x4.toNat)).take ((l1 ++ [(ByteArray.mk #[])]).length - x4.toNat)).length ((l1 ++ [(ByteArray.mk #[])]).length - (IntKind.i64.wrap (x4 + 1)).toNat))))))))))) (fun b30 => (Nq b30 (Qh eS 0 (l1 ++ [(ByteArray.mk #[])]) ([] : List ByteArray) (0 + (IntKind.i64.wrap (x4 + 1)).toNat) ((l1 ++ [(ByteArray.mk #[])]).length - (IntKind.i64.wrap (x4 + 1)).toNat) (by have := of_decide_eq_true b27; omega) (Hr [45,48] (Bt 0 (show (l1 ++ [(ByteArray.mk #[])]).length = (qK (l1 ++ [(ByteArray.mk #[])]) (0 + (IntKind.i64.wrap (x4 + 1)).toNat) (([] : List ByteArray).take (min ([] : List ByteArray).length ((l1 ++ [(ByteArray.mk #[])]).length - (IntKind.i64.wrap (x4 + 1)).toNat)))).length by simp [q8]) (uJ (hJ4 (qK (l1 ++ [(ByteArray.mk #[])]) (0 + (IntKind.i64.wrap (x4 + 1)).toNat) (([] : List ByteArray).take (min ([] : List ByteArray).length ((l1 ++ [(ByteArray.mk #[])]).length - (IntKind.i64.wrap (x4 + 1)).toNat)))))))))))))) (fun b27 => (Nq b27 (uI (fun b35 => (Ni 0 1 0 b35 (PR eS (l1 ++ [(ByteArray.mk #[])]) (0 + x4.toNat) ((l1 ++ [(ByteArray.mk #[])]).length - x4.toNat) (by have := of_decide_eq_true b35; omega) (uJ (hJ4 (l1 ++ [(ByteArray.mk #[])])))))) (fun b35 => (Nq b35 (Qn eS ([] : List ByteArray) (uJ (hJ4 (l1 ++ [(ByteArray.mk #[])])))))))))))))); (uC (DR eS 0 fun e3 a21 => (Fo eS a21 (uJ (hJ3 (e3.toList == e1.toList))))) (uJ (hJ3 false)))); (uO (cd Tryz.f112 [1,1,0,1,0,0,1,1,0,0,1,1,0,0,0]) (kS Tryz.f112 [1,1,0,1,0,0,1,1,0,0,1,1,0,0] 1) fun R2 b2 => have hL2 : ∀ (k2 : Nat) (x2 : Int), cB (aZ p1 k1) l1 x1 e1 k2 x2 = some r → (R2 k2).p [(3, .one (.sl 0 1 0 l1.length)), (5, vs e1), (6, vi x2), (7, vl eS p1), (8, vi (p1.length : Int)), (9, vi x1)] [.arr 1 (eS.els l1)] := by intro k2; induction k2 with | zero => intro x2 h; exact iE (cB.eq_1 ..) h | succ k2 ih2 => intro x2 h; exact b2 h (uU (cB.eq_2 ..) (uQ (kS Tryz.f112 [1,1,0,1,0,0,1,1,0,0,1,1,0,0,0,0,0] 2) fun K14 hK14 => have hJ1 : ∀ (x3 : Bool), i6 (aZ p1 k1) (cB (aZ p1 k1) l1 x1 e1 k2) l1 x1 e1 x2 x3 = some r → K14.p [(3, .one (.sl 0 1 0 l1.length)), (5, vs e1), (6, vi x2), (7, vl eS p1), (8, vi (p1.length : Int)), (9, vi x1), (24, vb x3)] [.arr 1 (eS.els l1)] := fun x3 h => hK14 h (uC (uJ (ih2 (IntKind.i64.wrap (x2 + 1)))) (uR (.exit 2) (xM (uJ (hJ2 x2))))); (uC (DR eS 0 fun e2 a16 => (Fo eS a16 (uJ (hJ1 (Op.bytesLess e2.toList e1.toList))))) (uJ (hJ1 false)))))
 uE (hL2 aK (0 : Int)))))) (uR (.exit 0) (xM (uJ (hJ6 l1))))))
 uE (hL1 aK [] (0 : Int))))))
def pR (rec1 : Int → Option Bool) (x1 : Int) (x2 : Bool) : Option Bool := aq x2 (some false) (rec1 (IntKind.i64.wrap (x1 + 1)))
def wU : Option Bool := some true
def eC (p1 : Int) (p2 : (List Int)) : Nat → Int → Option Bool
 | 0, _ => none
 | k1 + 1, x1 => aq (decide (x1 < (p2.length : Int))) (aw (at? p2 x1) fun e1 => aq (decide (e1 < (0 : Int))) (pR (eC p1 p2 k1) x1 true) (cr (0 ≤ p1) <| aw (some (IntKind.i64.wrap ((1 : Int) * 2 ^ (min p1.toNat (IntKind.i64).bits)))) fun y1 => pR (eC p1 p2 k1) x1 (decide (y1 ≤ e1)))) (wU)
def rL (p1 : Int) (p2 : (List Int)) : Option Bool := eC p1 p2 aK (0 : Int)
theorem Cz (p1 : Int) (p2 : (List Int)) : CT Tryz.prog 166 [vi p1, vl eI p2] (rL p1 p2) vb :=
  iS 22 [] Tryz.f166 fun r => (uQ (kS Tryz.f166 [1,0] 1) fun K2 hK2 => have hJ2 : ∀ (_ : Unit), wU = some r → K2.p [] [] := fun _ h => hK2 h (uR .ret xF); (uN eI p2 (uO (cd Tryz.f166 [1,0,1,0,0]) (kS Tryz.f166 [1,0,1,0] 1) fun R1 b1 => have hL1 : ∀ (k1 : Nat) (x1 : Int), eC p1 p2 k1 x1 = some r → (R1 k1).p [(0, vi p1), (7, vl eI p2), (8, vi (p2.length : Int)), (9, vi x1)] [] := by intro k1; induction k1 with | zero => intro x1 h; exact iE (eC.eq_1 ..) h | succ k1 ih1 => intro x1 h; exact b1 h (uU (eC.eq_2 ..) (uC (uL eI fun e1 a9 => (uQ (kS Tryz.f166 [1,0,1,0,0,1,1,0,0,1,0] 3) fun K10 hK10 => have hJ1 : ∀ (x2 : Bool), pR (eC p1 p2 k1) x1 x2 = some r → K10.p [(0, vi p1), (7, vl eI p2), (8, vi (p2.length : Int)), (9, vi x1), (20, vb x2)] [] := fun x2 h => hK10 h (uC (uR .ret (xN (xN xF))) (uJ (ih1 (IntKind.i64.wrap (x1 + 1))))); (uC (uJ (hJ1 true)) (Ns 18 vi fun y1 => (uJ (hJ1 (decide (y1 ≤ e1)))))))) (uR (.exit 0) (xM (uJ (hJ2 ()))))))
 uE (hL1 aK (0 : Int)))))
def lI (p1 : Int) : Option (List Int) := aq (decide (p1 < (0 : Int))) (aw (some (IntKind.u64.wrap (IntKind.i64.wrap ((IntKind.i64.wrap ((-2 : Int) * p1)) - (1 : Int))))) fun y1 => aw (jj y1) fun r1 => some r1) (aw (jj (IntKind.u64.wrap (IntKind.i64.wrap ((2 : Int) * p1)))) fun r2 => some r2)
theorem oY (p1 : Int) : CX Tryz.prog 114 [vi p1] [] [] (lI p1) (fun r => .one (.sl 0 1 0 r.length)) (fun r => [.arr 1 ((eK .u8).els r)]) :=
  yv 0 1 14 [] Tryz.f114 fun r => (uC (uY 8 (vk .u64) fun y1 => (we true [] (je _) fun r1 _ => (uR .ret iW))) (we true [] (je _) fun r2 _ => (uR .ret iW)))
def sx (rec1 : List Bool → Int → Option (List Bool)) (x1 : Int) (l3 : List Bool) : Option (List Bool) := rec1 l3 (IntKind.i64.wrap (x1 + 1))
def jP (rec1 : List Bool → Int → Option (List Bool)) (p1 x1 : Int) : Nat → List Bool → Int → Int → Option (List Bool)
 | 0, _, _, _ => none
 | k2 + 1, l2, x2, x3 => aq (decide (x3 < p1)) (cr (l2.length + 1 ≤ 4294967296) <| (jP rec1 p1 x1 k2) (l2 ++ [((x2.tmod (2 : Int)) == 1)]) (IntKind.i64.wrap (x2.tdiv (2 : Int))) (IntKind.i64.wrap (x3 + 1))) (sx rec1 x1 l2)
def wM (l4 : List Bool) : Option (List Bool) := some l4
def fq (p1 : Int) (p2 : (List Int)) : Nat → List Bool → Int → Option (List Bool)
 | 0, _, _ => none
 | k1 + 1, l1, x1 => aq (decide (x1 < (p2.length : Int))) (aw (at? p2 x1) fun e1 => jP (fq p1 p2 k1) p1 x1 aK l1 e1 (0 : Int)) (wM l1)
def xO (p1 : Int) (p2 : (List Int)) : Option (List Bool) := fq p1 p2 aK [] (0 : Int)
theorem CE (p1 : Int) (p2 : (List Int)) : CT Tryz.prog 191 [vi p1, vl eI p2] (xO p1 p2) (vl eB) :=
  iS 30 [] Tryz.f191 fun r => (uQ (kS Tryz.f191 [1,1,0] 1) fun K3 hK3 => have hJ2 : ∀ (l4 : List Bool), wM l4 = some r → K3.p [(5, .one (.sl 0 1 0 l4.length))] [.arr 1 (eB.els l4)] := fun l4 h => hK3 h (ou eB l4 0 [4] (uR .ret xF)); (uN eI p2 (pq (.li 5 1) (uO (cd Tryz.f191 [1,1,0,1,0,0]) (kS Tryz.f191 [1,1,0,1,0] 1) fun R1 b1 => have hL1 : ∀ (k1 : Nat) (l1 : List Bool) (x1 : Int), fq p1 p2 k1 l1 x1 = some r → (R1 k1).p [(0, vi p1), (5, .one (.sl 0 1 0 l1.length)), (9, vl eI p2), (10, vi (p2.length : Int)), (11, vi x1)] [.arr 1 (eB.els l1)] := by intro k1; induction k1 with | zero => intro l1 x1 h; exact iE (fq.eq_1 ..) h | succ k1 ih1 => intro l1 x1 h; exact b1 h (uU (fq.eq_2 ..) (uC (uQ (kS Tryz.f191 [1,1,0,1,0,0,1,1,0] 1) fun K8 hK8 => have hJ1 : ∀ (l3 : List Bool), sx (fq p1 p2 k1) x1 l3 = some r → K8.p [(0, vi p1), (5, .one (.sl 0 1 0 l3.length)), (9, vl eI p2), (10, vi (p2.length : Int)), (11, vi x1)] [.arr 1 (eB.els l3)] := fun l3 h => hK8 h (uJ (ih1 l3 (IntKind.i64.wrap (x1 + 1)))); (uL eI fun e1 a10 => (uO (cd Tryz.f191 [1,1,0,1,0,0,1,1,0,0,1,1,0,0]) (kS Tryz.f191 [1,1,0,1,0,0,1,1,0,0,1,1,0] 2) fun R2 b2 => have hL2 : ∀ (k2 : Nat) (l2 : List Bool) (x2 x3 : Int), jP (fq p1 p2 k1) p1 x1 k2 l2 x2 x3 = some r → (R2 k2).p [(0, vi p1), (5, .one (.sl 0 1 0 l2.length)), (7, vi x2), (8, vi x3), (9, vl eI p2), (10, vi (p2.length : Int)), (11, vi x1)] [.arr 1 (eB.els l2)] := by intro k2; induction k2 with | zero => intro l2 x2 x3 h; exact iE (jP.eq_1 ..) h | succ k2 ih2 => intro l2 x2 x3 h; exact b2 h (uU (jP.eq_2 ..) (uC (kl eB 0 [((x2.tmod (2 : Int)) == 1)] (uJ (ih2 (l2 ++ [((x2.tmod (2 : Int)) == 1)]) (IntKind.i64.wrap (x2.tdiv (2 : Int))) (IntKind.i64.wrap (x3 + 1))))) (uR (.exit 2) (xM (uJ (hJ1 l2))))))
 uE (hL2 aK l1 e1 (0 : Int))))) (uR (.exit 0) (xM (uJ (hJ2 l1))))))
 uE (hL1 aK [] (0 : Int))))))
def pV (rec1 : List Int → Int → Option (List Int)) (x1 : Int) (l2 : List Int) : Option (List Int) := rec1 l2 (IntKind.i64.wrap (x1 + 1))
def w6 (l3 : List Int) : Option (List Int) := some l3
def ic (r1 : (List Bool)) : Nat → List Int → Int → Option (List Int)
 | 0, _, _ => none
 | k1 + 1, l1, x1 => aq (decide (x1 < (r1.length : Int))) (aw (at? r1 x1) fun e1 => aq e1 (aw (at? l1 (IntKind.i64.wrap (x1.tdiv (8 : Int)))) fun e2 => cr (0 ≤ (x1.tmod (8 : Int))) <| aw (some (IntKind.u8.wrap ((1 : Int) * 2 ^ (min (x1.tmod (8 : Int)).toNat (IntKind.u8).bits)))) fun y2 => pV (ic r1 k1) x1 (l1.set (IntKind.i64.wrap (x1.tdiv (8 : Int))).toNat (IntKind.u8.wrap (e2 + y2)))) (pV (ic r1 k1) x1 l1)) (w6 l1)
def sa (p1 : Int) (p2 : (List Int)) : Option (List Int) := aw (xO p1 p2) fun r1 => aw (some (IntKind.i64.wrap ((IntKind.i64.wrap ((r1.length : Int) + (7 : Int))).tdiv (8 : Int)))) fun y1 => cr (0 ≤ y1 ∧ y1 ≤ y1 ∧ y1 ≤ 4294967296) <| ic r1 aK (List.replicate y1.toNat (0 : Int)) (0 : Int)
theorem C9 (p1 : Int) (p2 : (List Int)) : CT Tryz.prog 167 [vi p1, vl eI p2] (sa p1 p2) (fun r => vl (eK .u8) r) :=
  iS 37 [] Tryz.f167 fun r => (uP (CE _ _) fun r1 _ => (uN eB r1 (uY 14 vi fun y1 => (No (eK .u8) (0 : Int) (uQ (kS Tryz.f167 [1,1,1,0] 1) fun K8 hK8 => have hJ2 : ∀ (l3 : List Int), w6 l3 = some r → K8.p [(6, .one (.sl 0 1 0 l3.length))] [.arr 1 ((eK .u8).els l3)] := fun l3 h => hK8 h (ou (eK .u8) l3 0 [4] (uR .ret xF)); (uN eB r1 (Bt 0 (show y1.toNat = (List.replicate y1.toNat (0 : Int)).length by simp) (uO (cd Tryz.f167 [1,1,1,0,1,0,0]) (kS Tryz.f167 [1,1,1,0,1,0] 1) fun R1 b1 => have hL1 : ∀ (k1 : Nat) (l1 : List Int) (x1 : Int), ic r1 k1 l1 x1 = some r → (R1 k1).p [(5, vl eB r1), (6, .one (.sl 0 1 0 l1.length)), (17, vi (r1.length : Int)), (18, vi x1)] [.arr 1 ((eK .u8).els l1)] := by intro k1; induction k1 with | zero => intro l1 x1 h; exact iE (ic.eq_1 ..) h | succ k1 ih1 => intro l1 x1 h; exact b1 h (uU (ic.eq_2 ..) (uC (uQ (kS Tryz.f167 [1,1,1,0,1,0,0,1,1,0] 1) fun K13 hK13 => have hJ1 : ∀ (l2 : List Int), pV (ic r1 k1) x1 l2 = some r → K13.p [(5, vl eB r1), (6, .one (.sl 0 1 0 l2.length)), (17, vi (r1.length : Int)), (18, vi x1)] [.arr 1 ((eK .u8).els l2)] := fun l2 h => hK13 h (uJ (ih1 l2 (IntKind.i64.wrap (x1 + 1)))); (uL eB fun e1 a16 => (uC (yf 8 (DR (eK .u8) 0 fun e2 a18 => (Fo (eK .u8) a18 (Ns 32 (vk .u8) fun y2 => (L6 (eK .u8) 0 a18 (JT (eK .u8) 0 a18 (IntKind.u8.wrap (e2 + y2)) (Bt 0 (show l1.length = (l1.set (IntKind.i64.wrap (x1.tdiv (8 : Int))).toNat (IntKind.u8.wrap (e2 + y2))).length by simp) (uJ (hJ1 (l1.set (IntKind.i64.wrap (x1.tdiv (8 : Int))).toNat (IntKind.u8.wrap (e2 + y2)))))))))))) (uJ (hJ1 l1))))) (uR (.exit 0) (xM (uJ (hJ2 l1))))))
 uE (hL1 aK (List.replicate y1.toNat (0 : Int)) (0 : Int))))))))))
def o9 (rec1 : Int → Int → Option (List Int)) (x2 x3 : Int) : Option (List Int) := rec1 x3 (IntKind.i64.wrap (x2 + 1))
def rn (x4 : Int) (l2 : List Int) (x7 : Int) : Option (List Int) := aw (lI x4) fun r2 => cr (r2.length + 1 ≤ 4294967296) <| aw (sa x7 l2) fun r3 => cr ((r2 ++ [(IntKind.u8.wrap x7)]).length + r3.length ≤ 4294967296) <| some ((r2 ++ [(IntKind.u8.wrap x7)]) ++ r3)
def jf (x4 : Int) (l2 : List Int) : Nat → Int → Option (List Int)
 | 0, _ => none
 | k3 + 1, x6 => aw (rL x6 l2) fun r1 => aq (!r1) ((jf x4 l2 k3) (IntKind.i64.wrap (x6 + 1))) (rn x4 l2 x6)
def o8 (x4 : Int) (l2 : List Int) : Option (List Int) := jf x4 l2 aK (0 : Int)
def jh (p1 : (List Int)) (x4 : Int) : Nat → List Int → Int → Option (List Int)
 | 0, _, _ => none
 | k2 + 1, l1, x5 => aq (decide (x5 < (p1.length : Int))) (aw (at? p1 x5) fun e3 => cr (l1.length + 1 ≤ 4294967296) <| (jh p1 x4 k2) (l1 ++ [(IntKind.i64.wrap (e3 - x4))]) (IntKind.i64.wrap (x5 + 1))) (o8 x4 l1)
def oW (p1 : (List Int)) (x4 : Int) : Option (List Int) := jh p1 x4 aK [] (0 : Int)
def gd (p1 : (List Int)) : Nat → Int → Int → Option (List Int)
 | 0, _, _ => none
 | k1 + 1, x1, x2 => aq (decide (x2 < (p1.length : Int))) (aw (at? p1 x2) fun e2 => aq (decide (e2 < x1)) (o9 (gd p1 k1) x2 e2) (o9 (gd p1 k1) x2 x1)) (oW p1 x1)
def oB (p1 : (List Int)) : Option (List Int) := aq ((p1.length : Int) == 0) (some []) (aw (at? p1 (0 : Int)) fun e1 => gd p1 aK e1 (0 : Int))
theorem s8 (p1 : (List Int)) : CT Tryz.prog 113 [vl eI p1] (oB p1) (fun r => vl (eK .u8) r) :=
  iS 56 [] Tryz.f113 fun r => (uN eI p1 (uC (uR .ret xF) (uL eI fun e1 a7 => (uQ (kS Tryz.f113 [1,1,1,0] 1) fun K8 hK8 => have hJ2 : ∀ (x4 : Int), oW p1 x4 = some r → K8.p [(0, vl eI p1), (3, vi x4)] [] := fun x4 h => hK8 h (uQ (kS Tryz.f113 [1,1,1,1,1,0] 1) fun K19 hK19 => have hJ3 : ∀ (l2 : List Int), o8 x4 l2 = some r → K19.p [(3, vi x4), (6, .one (.sl 0 1 0 l2.length))] [.arr 1 (eI.els l2)] := fun l2 h => hK19 h (uQ (kS Tryz.f113 [1,1,1,1,1,1,1,0] 1) fun K29 hK29 => have hJ4 : ∀ (x7 : Int), rn x4 l2 x7 = some r → K29.p [(3, vi x4), (6, vl eI l2), (9, vi x7)] [.dead] := fun x7 h => hK29 h (we true [] (oY _) fun r2 _ => (kl (eK .u8) 1 [(IntKind.u8.wrap x7)] (uP (C9 _ _) fun r3 _ => (kl (eK .u8) 1 r3 (ou (eK .u8) ((r2 ++ [(IntKind.u8.wrap x7)]) ++ r3) 1 [2] (uR .ret xF)))))); (ou eI l2 0 [6] (uO (cd Tryz.f113 [1,1,1,1,1,1,1,0,0,0]) (kS Tryz.f113 [1,1,1,1,1,1,1,0,0] 1) fun R3 b3 => have hL3 : ∀ (k3 : Nat) (x6 : Int), jf x4 l2 k3 x6 = some r → (R3 k3).p [(3, vi x4), (6, vl eI l2), (9, vi x6)] [.dead] := by intro k3; induction k3 with | zero => intro x6 h; exact iE (jf.eq_1 ..) h | succ k3 ih3 => intro x6 h; exact b3 h (uU (jf.eq_2 ..) (uP (Cz _ _) fun r1 _ => (uC (uJ (ih3 (IntKind.i64.wrap (x6 + 1)))) (uR (.exit 4) (xM (uJ (hJ4 x6)))))))
 uE (hL3 aK (0 : Int))))); (uN eI p1 (pq (.li 6 1) (uO (cd Tryz.f113 [1,1,1,1,1,0,1,0,0]) (kS Tryz.f113 [1,1,1,1,1,0,1,0] 1) fun R2 b2 => have hL2 : ∀ (k2 : Nat) (l1 : List Int) (x5 : Int), jh p1 x4 k2 l1 x5 = some r → (R2 k2).p [(3, vi x4), (6, .one (.sl 0 1 0 l1.length)), (27, vl eI p1), (28, vi (p1.length : Int)), (29, vi x5)] [.arr 1 (eI.els l1)] := by intro k2; induction k2 with | zero => intro l1 x5 h; exact iE (jh.eq_1 ..) h | succ k2 ih2 => intro l1 x5 h; exact b2 h (uU (jh.eq_2 ..) (uC (uL eI fun e3 a26 => (kl eI 0 [(IntKind.i64.wrap (e3 - x4))] (uJ (ih2 (l1 ++ [(IntKind.i64.wrap (e3 - x4))]) (IntKind.i64.wrap (x5 + 1)))))) (uR (.exit 2) (xM (uJ (hJ3 l1))))))
 uE (hL2 aK [] (0 : Int)))))); (uN eI p1 (uO (cd Tryz.f113 [1,1,1,0,1,0,0]) (kS Tryz.f113 [1,1,1,0,1,0] 1) fun R1 b1 => have hL1 : ∀ (k1 : Nat) (x1 x2 : Int), gd p1 k1 x1 x2 = some r → (R1 k1).p [(0, vl eI p1), (3, vi x1), (16, vl eI p1), (17, vi (p1.length : Int)), (18, vi x2)] [] := by intro k1; induction k1 with | zero => intro x1 x2 h; exact iE (gd.eq_1 ..) h | succ k1 ih1 => intro x1 x2 h; exact b1 h (uU (gd.eq_2 ..) (uC (uQ (kS Tryz.f113 [1,1,1,0,1,0,0,1,1,0] 1) fun K13 hK13 => have hJ1 : ∀ (x3 : Int), o9 (gd p1 k1) x2 x3 = some r → K13.p [(0, vl eI p1), (3, vi x3), (16, vl eI p1), (17, vi (p1.length : Int)), (18, vi x2)] [] := fun x3 h => hK13 h (uJ (ih1 x3 (IntKind.i64.wrap (x2 + 1)))); (uL eI fun e2 a15 => (uC (uJ (hJ1 e2)) (uJ (hJ1 x1))))) (uR (.exit 0) (xM (uJ (hJ2 x1))))))
 uE (hL1 aK e1 (0 : Int))))))))
def rF (l2 : List Int) : Option (List Int) := some l2
def ji (p2 : (List ByteArray)) : Nat → List Int → Int → Option (List Int)
 | 0, _, _ => none
 | k1 + 1, l1, x1 => aq (decide (x1 < (p2.length : Int))) (aw (at? p2 x1) fun e1 => aw (jj (IntKind.u64.wrap (e1.size : Int))) fun r1 => cr (l1.length + r1.length ≤ 4294967296) <| cr ((l1 ++ r1).length + (cK e1).length ≤ 4294967296) <| (ji p2 k1) ((l1 ++ r1) ++ (cK e1)) (IntKind.i64.wrap (x1 + 1))) (rF l1)
def oR (rec3 : List Int → Int → Option (List Int)) (x3 : Int) (l5 : List Int) : Option (List Int) := rec3 l5 (IntKind.i64.wrap (x3 + 1))
def oP (rec2 : List Int → Int → Option (List Int)) (x2 : Int) (l6 : List Int) : Option (List Int) := rec2 l6 (IntKind.i64.wrap (x2 + 1))
def gc (rec2 : List Int → Int → Option (List Int)) (r3 : (List ByteArray)) (x2 : Int) (e2 : ByteArray) : Nat → List Int → Int → Option (List Int)
 | 0, _, _ => none
 | k3 + 1, l4, x3 => aq (decide (x3 < (r3.length : Int))) (aw (at? r3 x3) fun e3 => aq (e3.toList == e2.toList) (cr (l4.length + 1 ≤ 4294967296) <| oR (gc rec2 r3 x2 e2 k3) x3 (l4 ++ [x3])) (oR (gc rec2 r3 x2 e2 k3) x3 l4)) (oP rec2 x2 l4)
def oV (r3 : (List ByteArray)) (l7 : List Int) : Option (List Int) := aw (jj (IntKind.u64.wrap (r3.length : Int))) fun r4 => aw (pc r3) fun r5 => cr (r4.length + r5.length ≤ 4294967296) <| aw (oB l7) fun r6 => cr ((r4 ++ r5).length + r6.length ≤ 4294967296) <| some ((r4 ++ r5) ++ r6)
def ew (p2 r3 : (List ByteArray)) : Nat → List Int → Int → Option (List Int)
 | 0, _, _ => none
 | k2 + 1, l3, x2 => aq (decide (x2 < (p2.length : Int))) (aw (at? p2 x2) fun e2 => gc (ew p2 r3 k2) r3 x2 e2 aK l3 (0 : Int)) (oV r3 l3)
def kC (p1 : Int) (p2 : (List ByteArray)) : Option (List Int) := aq (p1 == 0) (ji p2 aK [] (0 : Int)) (aq (p1 == 5) (aw (pc p2) fun r2 => some r2) (aw (md p2) fun r3 => ew p2 r3 aK [] (0 : Int)))
theorem lU (p1 : Int) (p2 : (List ByteArray)) : CT Tryz.prog 54 [vi p1, vl eS p2] (kC p1 p2) (fun r => vl (eK .u8) r) :=
  iS 73 [] Tryz.f54 fun r => (uC (uQ (kS Tryz.f54 [1,1,0,1,0,1,0,0] 3) fun K7 hK7 => have hJ1 : ∀ (l2 : List Int), rF l2 = some r → K7.p [(5, .one (.sl 0 1 0 l2.length))] [.arr 1 ((eK .u8).els l2)] := fun l2 h => hK7 h (ou (eK .u8) l2 0 [4] (uR .ret xF)); (uN eS p2 (pq (.li 5 1) (uO (cd Tryz.f54 [1,1,0,1,0,1,0,0,1,0,0]) (kS Tryz.f54 [1,1,0,1,0,1,0,0,1,0] 1) fun R1 b1 => have hL1 : ∀ (k1 : Nat) (l1 : List Int) (x1 : Int), ji p2 k1 l1 x1 = some r → (R1 k1).p [(5, .one (.sl 0 1 0 l1.length)), (16, vl eS p2), (17, vi (p2.length : Int)), (18, vi x1)] [.arr 1 ((eK .u8).els l1)] := by intro k1; induction k1 with | zero => intro l1 x1 h; exact iE (ji.eq_1 ..) h | succ k1 ih1 => intro l1 x1 h; exact b1 h (uU (ji.eq_2 ..) (uC (uL eS fun e1 a14 => (we true [] (je _) fun r1 _ => (ou (eK .u8) r1 1 [26] (kl (eK .u8) 0 r1 (OO 0 e1 (uJ (ih1 ((l1 ++ r1) ++ (cK e1)) (IntKind.i64.wrap (x1 + 1))))))))) (uR (.exit 1) (xM (uJ (hJ1 l1))))))
 uE (hL1 aK [] (0 : Int)))))) (uC (uP (tj _) fun r2 _ => (uR .ret xF)) (uP (vY _) fun r3 _ => (uQ (kS Tryz.f54 [1,1,1,1,1,0] 1) fun K27 hK27 => have hJ4 : ∀ (l7 : List Int), oV r3 l7 = some r → K27.p [(8, vl eS r3), (9, .one (.sl 0 1 0 l7.length))] [.arr 1 (eI.els l7)] := fun l7 h => hK27 h (uN eS r3 (we true [] (je _) fun r4 _ => (uP (tj _) fun r5 _ => (kl (eK .u8) 1 r5 (ou eI l7 0 [70] (uP (s8 _) fun r6 _ => (kl (eK .u8) 1 r6 (ou (eK .u8) ((r4 ++ r5) ++ r6) 1 [4] (uR .ret xF))))))))); (uN eS p2 (pq (.li 9 1) (uO (cd Tryz.f54 [1,1,1,1,1,0,1,0,0]) (kS Tryz.f54 [1,1,1,1,1,0,1,0] 1) fun R2 b2 => have hL2 : ∀ (k2 : Nat) (l3 : List Int) (x2 : Int), ew p2 r3 k2 l3 x2 = some r → (R2 k2).p [(8, vl eS r3), (9, .one (.sl 0 1 0 l3.length)), (39, vl eS p2), (40, vi (p2.length : Int)), (41, vi x2)] [.arr 1 (eI.els l3)] := by intro k2; induction k2 with | zero => intro l3 x2 h; exact iE (ew.eq_1 ..) h | succ k2 ih2 => intro l3 x2 h; exact b2 h (uU (ew.eq_2 ..) (uC (uQ (kS Tryz.f54 [1,1,1,1,1,0,1,0,0,1,1,0] 1) fun K32 hK32 => have hJ3 : ∀ (l6 : List Int), oP (ew p2 r3 k2) x2 l6 = some r → K32.p [(8, vl eS r3), (9, .one (.sl 0 1 0 l6.length)), (39, vl eS p2), (40, vi (p2.length : Int)), (41, vi x2)] [.arr 1 (eI.els l6)] := fun l6 h => hK32 h (uJ (ih2 l6 (IntKind.i64.wrap (x2 + 1)))); (uL eS fun e2 a34 => (uN eS r3 (uO (cd Tryz.f54 [1,1,1,1,1,0,1,0,0,1,1,0,0,1,1,0,0]) (kS Tryz.f54 [1,1,1,1,1,0,1,0,0,1,1,0,0,1,1,0] 2) fun R3 b3 => have hL3 : ∀ (k3 : Nat) (l4 : List Int) (x3 : Int), gc (ew p2 r3 k2) r3 x2 e2 k3 l4 x3 = some r → (R3 k3).p [(8, vl eS r3), (9, .one (.sl 0 1 0 l4.length)), (11, vs e2), (39, vl eS p2), (40, vi (p2.length : Int)), (41, vi x2), (46, vi (r3.length : Int)), (47, vi x3)] [.arr 1 (eI.els l4)] := by intro k3; induction k3 with | zero => intro l4 x3 h; exact iE (gc.eq_1 ..) h | succ k3 ih3 => intro l4 x3 h; exact b3 h (uU (gc.eq_2 ..) (uC (uQ (kS Tryz.f54 [1,1,1,1,1,0,1,0,0,1,1,0,0,1,1,0,0,1,1,0] 1) fun K39 hK39 => have hJ2 : ∀ (l5 : List Int), oR (gc (ew p2 r3 k2) r3 x2 e2 k3) x3 l5 = some r → K39.p [(8, vl eS r3), (9, .one (.sl 0 1 0 l5.length)), (11, vs e2), (39, vl eS p2), (40, vi (p2.length : Int)), (41, vi x2), (46, vi (r3.length : Int)), (47, vi x3)] [.arr 1 (eI.els l5)] := fun l5 h => hK39 h (uJ (ih3 l5 (IntKind.i64.wrap (x3 + 1)))); (uL eS fun e3 a42 => (uC (kl eI 0 [x3] (uJ (hJ2 (l4 ++ [x3])))) (uJ (hJ2 l4))))) (uR (.exit 5) (xM (uJ (hJ3 l4))))))
 uE (hL3 aK l3 (0 : Int)))))) (uR (.exit 3) (xM (uJ (hJ4 l3))))))
 uE (hL2 aK [] (0 : Int)))))))))
def jx (rec1 : List Int → Int → Option (List Int)) (x1 : Int) (l3 : List Int) : Option (List Int) := rec1 l3 (IntKind.i64.wrap (x1 + 1))
def fv (rec1 : List Int → Int → Option (List Int)) (x1 e1 x4 : Int) (l2 : List Int) : Option (List Int) := aw (at? l2 x4) fun e4 => jx rec1 x1 (l2.set x4.toNat e1)
def jn (rec1 : List Int → Int → Option (List Int)) (l1 : List Int) (x1 e1 x4 : Int) (x5 : Bool) : Option (List Int) := aq x5 (jx rec1 x1 l1) (cr (l1.length + 1 ≤ 4294967296) <| aq (decide ((IntKind.i64.wrap (x4 + 1)) < (((l1 ++ [(0 : Int)]).length : Nat) : Int))) (cr (0 ≤ (IntKind.i64.wrap (x4 + 1)) ∧ (IntKind.i64.wrap (x4 + 1)) ≤ (((l1 ++ [(0 : Int)]).length : Nat) : Int)) <| aq (decide (x4 < (((l1 ++ [(0 : Int)]).length : Nat) : Int))) (cr (0 ≤ x4 ∧ x4 ≤ (((l1 ++ [(0 : Int)]).length : Nat) : Int)) <| fv rec1 x1 e1 x4 (qK (l1 ++ [(0 : Int)]) (0 + (IntKind.i64.wrap (x4 + 1)).toNat) ((((l1 ++ [(0 : Int)]).drop (0 + x4.toNat)).take ((l1 ++ [(0 : Int)]).length - x4.toNat)).take (min (((l1 ++ [(0 : Int)]).drop (0 + x4.toNat)).take ((l1 ++ [(0 : Int)]).length - x4.toNat)).length ((l1 ++ [(0 : Int)]).length - (IntKind.i64.wrap (x4 + 1)).toNat))))) (cr (0 ≤ x4 ∧ x4 ≤ (((l1 ++ [(0 : Int)]).length : Nat) : Int)) <| fv rec1 x1 e1 x4 (qK (l1 ++ [(0 : Int)]) (0 + (IntKind.i64.wrap (x4 + 1)).toNat) (([] : List Int).take (min ([] : List Int).length ((l1 ++ [(0 : Int)]).length - (IntKind.i64.wrap (x4 + 1)).toNat)))))) (cr (0 ≤ (IntKind.i64.wrap (x4 + 1)) ∧ (IntKind.i64.wrap (x4 + 1)) ≤ (((l1 ++ [(0 : Int)]).length : Nat) : Int)) <| aq (decide (x4 < (((l1 ++ [(0 : Int)]).length : Nat) : Int))) (cr (0 ≤ x4 ∧ x4 ≤ (((l1 ++ [(0 : Int)]).length : Nat) : Int)) <| fv rec1 x1 e1 x4 (l1 ++ [(0 : Int)])) (cr (0 ≤ x4 ∧ x4 ≤ (((l1 ++ [(0 : Int)]).length : Nat) : Int)) <| fv rec1 x1 e1 x4 (l1 ++ [(0 : Int)]))))
def jm (rec1 : List Int → Int → Option (List Int)) (l1 : List Int) (x1 e1 x4 : Int) : Option (List Int) := aq (decide (x4 < ((l1.length : Nat) : Int))) (aw (at? l1 x4) fun e3 => jn rec1 l1 x1 e1 x4 (e3 == e1)) (jn rec1 l1 x1 e1 x4 false)
def jo (rec1 : List Int → Int → Option (List Int)) (rec2 : Int → Option (List Int)) (l1 : List Int) (x1 e1 x2 : Int) (x3 : Bool) : Option (List Int) := aq x3 (rec2 (IntKind.i64.wrap (x2 + 1))) (jm rec1 l1 x1 e1 x2)
def cU (rec1 : List Int → Int → Option (List Int)) (l1 : List Int) (x1 e1 : Int) : Nat → Int → Option (List Int)
 | 0, _ => none
 | k2 + 1, x2 => aq (decide (x2 < ((l1.length : Nat) : Int))) (aw (at? l1 x2) fun e2 => jo rec1 (cU rec1 l1 x1 e1 k2) l1 x1 e1 x2 (decide (e2 < e1))) (jo rec1 (cU rec1 l1 x1 e1 k2) l1 x1 e1 x2 false)
def qy (l4 : List Int) : Option (List Int) := some l4
def bi (p1 : (List Int)) : Nat → List Int → Int → Option (List Int)
 | 0, _, _ => none
 | k1 + 1, l1, x1 => aq (decide (x1 < (p1.length : Int))) (aw (at? p1 x1) fun e1 => cU (bi p1 k1) l1 x1 e1 aK (0 : Int)) (qy l1)
def m4 (p1 : (List Int)) : Option (List Int) := bi p1 aK [] (0 : Int)
theorem wy (p1 : (List Int)) : CT Tryz.prog 115 [vl eI p1] (m4 p1) (vl eI) :=
  iS 56 [] Tryz.f115 fun r => (uQ (kS Tryz.f115 [1,1,0] 1) fun K3 hK3 => have hJ6 : ∀ (l4 : List Int), qy l4 = some r → K3.p [(3, .one (.sl 0 1 0 l4.length))] [.arr 1 (eI.els l4)] := fun l4 h => hK3 h (ou eI l4 0 [2] (uR .ret xF)); (uN eI p1 (pq (.li 3 1) (uO (cd Tryz.f115 [1,1,0,1,0,0]) (kS Tryz.f115 [1,1,0,1,0] 1) fun R1 b1 => have hL1 : ∀ (k1 : Nat) (l1 : List Int) (x1 : Int), bi p1 k1 l1 x1 = some r → (R1 k1).p [(3, .one (.sl 0 1 0 l1.length)), (7, vl eI p1), (8, vi (p1.length : Int)), (9, vi x1)] [.arr 1 (eI.els l1)] := by intro k1; induction k1 with | zero => intro l1 x1 h; exact iE (bi.eq_1 ..) h | succ k1 ih1 => intro l1 x1 h; exact b1 h (uU (bi.eq_2 ..) (uC (uQ (kS Tryz.f115 [1,1,0,1,0,0,1,1,0] 1) fun K8 hK8 => have hJ5 : ∀ (l3 : List Int), jx (bi p1 k1) x1 l3 = some r → K8.p [(3, .one (.sl 0 1 0 l3.length)), (7, vl eI p1), (8, vi (p1.length : Int)), (9, vi x1)] [.arr 1 (eI.els l3)] := fun l3 h => hK8 h (uJ (ih1 l3 (IntKind.i64.wrap (x1 + 1)))); (uL eI fun e1 a10 => (uQ (kS Tryz.f115 [1,1,0,1,0,0,1,1,0,0,1,1,0] 2) fun K12 hK12 => have hJ2 : ∀ (x4 : Int), jm (bi p1 k1) l1 x1 e1 x4 = some r → K12.p [(3, .one (.sl 0 1 0 l1.length)), (5, vi e1), (6, vi x4), (7, vl eI p1), (8, vi (p1.length : Int)), (9, vi x1)] [.arr 1 (eI.els l1)] := fun x4 h => hK12 h (uQ (kS Tryz.f115 [1,1,0,1,0,0,1,1,0,0,1,1,1,0,0] 3) fun K19 hK19 => have hJ3 : ∀ (x5 : Bool), jn (bi p1 k1) l1 x1 e1 x4 x5 = some r → K19.p [(3, .one (.sl 0 1 0 l1.length)), (5, vi e1), (6, vi x4), (7, vl eI p1), (8, vi (p1.length : Int)), (9, vi x1), (38, vb x5)] [.arr 1 (eI.els l1)] := fun x5 h => hK19 h (uC (uJ (hJ5 l1)) (kl eI 0 [(0 : Int)] (uQ (kS Tryz.f115 [1,1,0,1,0,0,1,1,0,0,1,1,1,1,1,0] 2) fun K25 hK25 => have hJ4 : ∀ (l2 : List Int), fv (bi p1 k1) x1 e1 x4 l2 = some r → K25.p [(3, .one (.sl 0 1 0 l2.length)), (5, vi e1), (6, vi x4), (7, vl eI p1), (8, vi (p1.length : Int)), (9, vi x1)] [.arr 1 (eI.els l2)] := fun l2 h => hK25 h (DR eI 0 fun e4 a38 => (JT eI 0 a38 e1 (Hr [45,48] (Bt 0 (show l2.length = (l2.set x4.toNat e1).length by simp) (uJ (hJ5 (l2.set x4.toNat e1))))))); (yf 7 (uI (fun b27 => (Ni 0 1 0 b27 (uI (fun b30 => (Ni 0 1 0 b30 (Qr eI 0 (l1 ++ [(0 : Int)]) (l1 ++ [(0 : Int)]) (0 + (IntKind.i64.wrap (x4 + 1)).toNat) ((l1 ++ [(0 : Int)]).length - (IntKind.i64.wrap (x4 + 1)).toNat) (0 + x4.toNat) ((l1 ++ [(0 : Int)]).length - x4.toNat) (by have := of_decide_eq_true b27; omega) (by have := of_decide_eq_true b30; omega) (Hr [45,48] (Bt 0 (show (l1 ++ [(0 : Int)]).length = (qK (l1 ++ [(0 : Int)]) (0 + (IntKind.i64.wrap (x4 + 1)).toNat) ((((l1 ++ [(0 : Int)]).drop (0 + x4.toNat)).take ((l1 ++ [(0 : Int)]).length - x4.toNat)).take (min (((l1 ++ [(0 : Int)]).drop (0 + x4.toNat)).take ((l1 ++ [(0 : Int)]).length - x4.toNat)).length ((l1 ++ [(0 : Int)]).length - (IntKind.i64.wrap (x4 + 1)).toNat)))).length by simp [q8]) (uJ (hJ4 (qK (l1 ++ [(0 : Int)]) (0 + (IntKind.i64.wrap (x4 + 1)).toNat) ((((l1 ++ [(0 : Int)]).drop (0 + x4.toNat)).take ((l1 ++ [(0 : Int)]).length - x4.toNat)).take (min (((l1 ++ [(0 : Int)]).drop (0 + x4.toNat)).take ((l1 ++ [(0 : Int)]).length - x4.toNat)).length ((l1 ++ [(0 : Int)]).length - (IntKind.i64.wrap (x4 + 1)).toNat))))))))))) (fun b30 => (Nq b30 (Qh eI 0 (l1 ++ [(0 : Int)]) ([] : List Int) (0 + (IntKind.i64.wrap (x4 + 1)).toNat) ((l1 ++ [(0 : Int)]).length - (IntKind.i64.wrap (x4 + 1)).toNat) (by have := of_decide_eq_true b27; omega) (Hr [45,48] (Bt 0 (show (l1 ++ [(0 : Int)]).length = (qK (l1 ++ [(0 : Int)]) (0 + (IntKind.i64.wrap (x4 + 1)).toNat) (([] : List Int).take (min ([] : List Int).length ((l1 ++ [(0 : Int)]).length - (IntKind.i64.wrap (x4 + 1)).toNat)))).length by simp [q8]) (uJ (hJ4 (qK (l1 ++ [(0 : Int)]) (0 + (IntKind.i64.wrap (x4 + 1)).toNat) (([] : List Int).take (min ([] : List Int).length ((l1 ++ [(0 : Int)]).length - (IntKind.i64.wrap (x4 + 1)).toNat)))))))))))))) (fun b27 => (Nq b27 (uI (fun b35 => (Ni 0 1 0 b35 (PR eI (l1 ++ [(0 : Int)]) (0 + x4.toNat) ((l1 ++ [(0 : Int)]).length - x4.toNat) (by have := of_decide_eq_true b35; omega) (uJ (hJ4 (l1 ++ [(0 : Int)])))))) (fun b35 => (Nq b35 (Qn eI ([] : List Int) (uJ (hJ4 (l1 ++ [(0 : Int)])))))))))))))); (uC (DR eI 0 fun e3 a21 => (Fo eI a21 (uJ (hJ3 (e3 == e1))))) (uJ (hJ3 false)))); (uO (cd Tryz.f115 [1,1,0,1,0,0,1,1,0,0,1,1,0,0,0]) (kS Tryz.f115 [1,1,0,1,0,0,1,1,0,0,1,1,0,0] 1) fun R2 b2 => have hL2 : ∀ (k2 : Nat) (x2 : Int), cU (bi p1 k1) l1 x1 e1 k2 x2 = some r → (R2 k2).p [(3, .one (.sl 0 1 0 l1.length)), (5, vi e1), (6, vi x2), (7, vl eI p1), (8, vi (p1.length : Int)), (9, vi x1)] [.arr 1 (eI.els l1)] := by intro k2; induction k2 with | zero => intro x2 h; exact iE (cU.eq_1 ..) h | succ k2 ih2 => intro x2 h; exact b2 h (uU (cU.eq_2 ..) (uQ (kS Tryz.f115 [1,1,0,1,0,0,1,1,0,0,1,1,0,0,0,0,0] 2) fun K14 hK14 => have hJ1 : ∀ (x3 : Bool), jo (bi p1 k1) (cU (bi p1 k1) l1 x1 e1 k2) l1 x1 e1 x2 x3 = some r → K14.p [(3, .one (.sl 0 1 0 l1.length)), (5, vi e1), (6, vi x2), (7, vl eI p1), (8, vi (p1.length : Int)), (9, vi x1), (24, vb x3)] [.arr 1 (eI.els l1)] := fun x3 h => hK14 h (uC (uJ (ih2 (IntKind.i64.wrap (x2 + 1)))) (uR (.exit 2) (xM (uJ (hJ2 x2))))); (uC (DR eI 0 fun e2 a16 => (Fo eI a16 (uJ (hJ1 (decide (e2 < e1)))))) (uJ (hJ1 false)))))
 uE (hL2 aK (0 : Int)))))) (uR (.exit 0) (xM (uJ (hJ6 l1))))))
 uE (hL1 aK [] (0 : Int))))))
def sk : Option Int := some (-1 : Int)
def fT (p1 : (List Int)) (p2 : Int) : Nat → Int → Option Int
 | 0, _ => none
 | k1 + 1, x1 => aq (decide (x1 < (p1.length : Int))) (aw (at? p1 x1) fun e1 => aq (e1 == p2) (some x1) ((fT p1 p2 k1) (IntKind.i64.wrap (x1 + 1)))) (sk)
def rD (p1 : (List Int)) (p2 : Int) : Option Int := fT p1 p2 aK (0 : Int)
theorem yp (p1 : (List Int)) (p2 : Int) : CT Tryz.prog 116 [vl eI p1, vi p2] (rD p1 p2) vi :=
  iS 19 [] Tryz.f116 fun r => (uQ (kS Tryz.f116 [1,0] 1) fun K2 hK2 => have hJ1 : ∀ (_ : Unit), sk = some r → K2.p [] [] := fun _ h => hK2 h (uR .ret xF); (uN eI p1 (uO (cd Tryz.f116 [1,0,1,0,0]) (kS Tryz.f116 [1,0,1,0] 1) fun R1 b1 => have hL1 : ∀ (k1 : Nat) (x1 : Int), fT p1 p2 k1 x1 = some r → (R1 k1).p [(0, vl eI p1), (1, vi p2), (7, vi (p1.length : Int)), (8, vi x1)] [] := by intro k1; induction k1 with | zero => intro x1 h; exact iE (fT.eq_1 ..) h | succ k1 ih1 => intro x1 h; exact b1 h (uU (fT.eq_2 ..) (uC (uL eI fun e1 a10 => (uC (uR .ret (xN (xN xF))) (uJ (ih1 (IntKind.i64.wrap (x1 + 1)))))) (uR (.exit 0) (xM (uJ (hJ1 ()))))))
 uE (hL1 aK (0 : Int)))))
def fm (x9 : List Int) : Option (List Int) := some x9
def gH (p2 : (List Int)) : Nat → List Int → Int → Option (List Int)
 | 0, _, _ => none
 | k1 + 1, l1, x1 => aq (decide (x1 < (p2.length : Int))) (aw (at? p2 x1) fun e1 => aw (lI e1) fun r1 => cr (l1.length + r1.length ≤ 4294967296) <| (gH p2 k1) (l1 ++ r1) (IntKind.i64.wrap (x1 + 1))) (fm l1)
def mK (rec2 : List Int → Int → Option (List Int)) (p2 : (List Int)) (l2 : List Int) (x2 x5 : Int) : Option (List Int) := aw (jj (IntKind.u64.wrap (IntKind.i64.wrap (x5 - x2)))) fun r2 => cr (l2.length + r2.length ≤ 4294967296) <| aw (at? p2 x2) fun e4 => aw (lI e4) fun r3 => cr ((l2 ++ r2).length + r3.length ≤ 4294967296) <| rec2 ((l2 ++ r2) ++ r3) x5
def kZ (rec2 : List Int → Int → Option (List Int)) (rec3 : Int → Option (List Int)) (p2 : (List Int)) (l2 : List Int) (x2 x3 : Int) (x4 : Bool) : Option (List Int) := aq x4 (rec3 (IntKind.i64.wrap (x3 + 1))) (mK rec2 p2 l2 x2 x3)
def er (rec2 : List Int → Int → Option (List Int)) (p2 : (List Int)) (l2 : List Int) (x2 : Int) : Nat → Int → Option (List Int)
 | 0, _ => none
 | k3 + 1, x3 => aq (decide (x3 < (p2.length : Int))) (aw (at? p2 x3) fun e2 => aw (at? p2 x2) fun e3 => kZ rec2 (er rec2 p2 l2 x2 k3) p2 l2 x2 x3 (e2 == e3)) (kZ rec2 (er rec2 p2 l2 x2 k3) p2 l2 x2 x3 false)
def dg (p2 : (List Int)) : Nat → List Int → Int → Option (List Int)
 | 0, _, _ => none
 | k2 + 1, l2, x2 => aq (decide (x2 < (p2.length : Int))) (er (dg p2 k2) p2 l2 x2 aK x2) (fm l2)
def gF (p2 : (List Int)) : Nat → List Int → Int → Int → Option (List Int)
 | 0, _, _, _ => none
 | k4 + 1, l3, x6, x7 => aq (decide (x7 < (p2.length : Int))) (aw (at? p2 x7) fun e5 => aw (lI (IntKind.i64.wrap (e5 - x6))) fun r4 => cr (l3.length + r4.length ≤ 4294967296) <| (gF p2 k4) (l3 ++ r4) e5 (IntKind.i64.wrap (x7 + 1))) (fm l3)
def mL (q_ref2_numbers : Int → (List Int) → Option (List Int)) (r6 : (List Int)) (l5 : List Int) : Option (List Int) := aw (jj (IntKind.u64.wrap (r6.length : Int))) fun r8 => aw (q_ref2_numbers (2 : Int) r6) fun r9 => cr (r8.length + r9.length ≤ 4294967296) <| aw (oB l5) fun r10 => cr ((r8 ++ r9).length + r10.length ≤ 4294967296) <| fm ((r8 ++ r9) ++ r10)
def gI (q_ref2_numbers : Int → (List Int) → Option (List Int)) (p2 r6 : (List Int)) : Nat → List Int → Int → Option (List Int)
 | 0, _, _ => none
 | k5 + 1, l4, x8 => aq (decide (x8 < (p2.length : Int))) (aw (at? p2 x8) fun e6 => aw (rD r6 e6) fun r7 => cr (l4.length + 1 ≤ 4294967296) <| (gI q_ref2_numbers p2 r6 k5) (l4 ++ [r7]) (IntKind.i64.wrap (x8 + 1))) (mL q_ref2_numbers r6 l4)
def cS : Nat → Int → (List Int) → Option (List Int)
 | 0, _, _ => none
 | k0 + 1, p1, p2 => aq (p1 == 0) (gH p2 aK [] (0 : Int)) (aq (p1 == 1) (dg p2 aK [] (0 : Int)) (aq (p1 == 2) (gF p2 aK [] (0 : Int) (0 : Int)) (aq (p1 == 3) (aw (oB p2) fun r5 => some r5) (aw (m4 p2) fun r6 => gI (cS k0) p2 r6 aK [] (0 : Int)))))
theorem jq : ∀ (k0 : Nat) (p1 : Int) (p2 : (List Int)), CT Tryz.prog 55 [vi p1, vl eI p2] (cS k0 p1 p2) (fun r => vl (eK .u8) r)
  | 0, _, _ => HL (cS.eq_1 ..)
  | k0 + 1, p1, p2 => iS 117 [] Tryz.f55 fun r => (uU (cS.eq_2 ..) (uQ (kS Tryz.f55 [1,1,0] 1) fun K3 hK3 => have hJ4 : ∀ (x9 : List Int), fm x9 = some r → K3.p [(5, vl (eK .u8) x9)] [] := fun x9 h => hK3 h (uR .ret xF); (uC (uN eI p2 (pq (.li 5 1) (uO (cd Tryz.f55 [1,1,0,1,0,1,0,1,0,0]) (kS Tryz.f55 [1,1,0,1,0,1,0,1,0] 2) fun R1 b1 => have hL1 : ∀ (k1 : Nat) (l1 : List Int) (x1 : Int), gH p2 k1 l1 x1 = some r → (R1 k1).p [(5, .one (.sl 0 1 0 l1.length)), (46, vl eI p2), (47, vi (p2.length : Int)), (48, vi x1)] [.arr 1 ((eK .u8).els l1)] := by intro k1; induction k1 with | zero => intro l1 x1 h; exact iE (gH.eq_1 ..) h | succ k1 ih1 => intro l1 x1 h; exact b1 h (uU (gH.eq_2 ..) (uC (uL eI fun e1 a13 => (we true [] (oY _) fun r1 _ => (ou (eK .u8) r1 1 [54] (kl (eK .u8) 0 r1 (uJ (ih1 (l1 ++ r1) (IntKind.i64.wrap (x1 + 1)))))))) (uR (.exit 3) (xM (rP (eK .u8) l1 0 [5] (uJ (hJ4 l1)))))))
 uE (hL1 aK [] (0 : Int))))) (uC (pq (.li 5 1) (uO (cd Tryz.f55 [1,1,0,1,0,1,1,1,0,1,0,0]) (kS Tryz.f55 [1,1,0,1,0,1,1,1,0,1,0] 2) fun R2 b2 => have hL2 : ∀ (k2 : Nat) (l2 : List Int) (x2 : Int), dg p2 k2 l2 x2 = some r → (R2 k2).p [(1, vl eI p2), (5, .one (.sl 0 1 0 l2.length)), (8, vi x2)] [.arr 1 ((eK .u8).els l2)] := by intro k2; induction k2 with | zero => intro l2 x2 h; exact iE (dg.eq_1 ..) h | succ k2 ih2 => intro l2 x2 h; exact b2 h (uU (dg.eq_2 ..) (uN eI p2 (uC (uQ (kS Tryz.f55 [1,1,0,1,0,1,1,1,0,1,0,0,1,0,1,0] 2) fun K23 hK23 => have hJ2 : ∀ (x5 : Int), mK (dg p2 k2) p2 l2 x2 x5 = some r → K23.p [(1, vl eI p2), (5, .one (.sl 0 1 0 l2.length)), (8, vi x2), (9, vi x5)] [.arr 1 ((eK .u8).els l2)] := fun x5 h => hK23 h (we true [] (je _) fun r2 _ => (ou (eK .u8) r2 1 [86] (kl (eK .u8) 0 r2 (uL eI fun e4 a34 => (we true [] (oY _) fun r3 _ => (ou (eK .u8) r3 2 [93] (kl (eK .u8) 0 r3 (uJ (ih2 ((l2 ++ r2) ++ r3) x5))))))))); (uO (cd Tryz.f55 [1,1,0,1,0,1,1,1,0,1,0,0,1,0,1,0,0,0]) (kS Tryz.f55 [1,1,0,1,0,1,1,1,0,1,0,0,1,0,1,0,0] 1) fun R3 b3 => have hL3 : ∀ (k3 : Nat) (x3 : Int), er (dg p2 k2) p2 l2 x2 k3 x3 = some r → (R3 k3).p [(1, vl eI p2), (5, .one (.sl 0 1 0 l2.length)), (8, vi x2), (9, vi x3)] [.arr 1 ((eK .u8).els l2)] := by intro k3; induction k3 with | zero => intro x3 h; exact iE (er.eq_1 ..) h | succ k3 ih3 => intro x3 h; exact b3 h (uU (er.eq_2 ..) (uQ (kS Tryz.f55 [1,1,0,1,0,1,1,1,0,1,0,0,1,0,1,0,0,0,0,0] 2) fun K25 hK25 => have hJ1 : ∀ (x4 : Bool), kZ (dg p2 k2) (er (dg p2 k2) p2 l2 x2 k3) p2 l2 x2 x3 x4 = some r → K25.p [(1, vl eI p2), (5, .one (.sl 0 1 0 l2.length)), (8, vi x2), (9, vi x3), (78, vb x4)] [.arr 1 ((eK .u8).els l2)] := fun x4 h => hK25 h (uC (uJ (ih3 (IntKind.i64.wrap (x3 + 1)))) (uR (.exit 7) (xM (uJ (hJ2 x3))))); (yf 13 (uN eI p2 (uC (uL eI fun e2 a27 => (uL eI fun e3 a28 => (uJ (hJ1 (e2 == e3))))) (uJ (hJ1 false)))))))
 uE (hL3 aK x2))) (uR (.exit 5) (xM (rP (eK .u8) l2 0 [5] (uJ (hJ4 l2))))))))
 uE (hL2 aK [] (0 : Int)))) (uC (uN eI p2 (pq (.li 5 1) (uO (cd Tryz.f55 [1,1,0,1,0,1,1,1,1,1,0,1,1,0,0]) (kS Tryz.f55 [1,1,0,1,0,1,1,1,1,1,0,1,1,0] 2) fun R4 b4 => have hL4 : ∀ (k4 : Nat) (l3 : List Int) (x6 x7 : Int), gF p2 k4 l3 x6 x7 = some r → (R4 k4).p [(5, .one (.sl 0 1 0 l3.length)), (10, vi x6), (98, vl eI p2), (99, vi (p2.length : Int)), (100, vi x7)] [.arr 1 ((eK .u8).els l3)] := by intro k4; induction k4 with | zero => intro l3 x6 x7 h; exact iE (gF.eq_1 ..) h | succ k4 ih4 => intro l3 x6 x7 h; exact b4 h (uU (gF.eq_2 ..) (uC (uL eI fun e5 a46 => (we true [] (oY _) fun r4 _ => (ou (eK .u8) r4 1 [108] (kl (eK .u8) 0 r4 (uJ (ih4 (l3 ++ r4) e5 (IntKind.i64.wrap (x7 + 1)))))))) (uR (.exit 9) (xM (rP (eK .u8) l3 0 [5] (uJ (hJ4 l3)))))))
 uE (hL4 aK [] (0 : Int) (0 : Int))))) (uC (uP (s8 _) fun r5 _ => (uR .ret (xN xF))) (uP (wy _) fun r6 _ => (uQ (kS Tryz.f55 [1,1,0,1,0,1,1,1,1,1,1,1,1,1,1,0] 2) fun K57 hK57 => have hJ3 : ∀ (l5 : List Int), mL (cS k0) r6 l5 = some r → K57.p [(13, vl eI r6), (14, .one (.sl 0 1 0 l5.length))] [.arr 1 (eI.els l5)] := fun l5 h => hK57 h (uN eI r6 (we true [] (je _) fun r8 _ => (uP (jq k0 _ _) fun r9 _ => (kl (eK .u8) 1 r9 (ou eI l5 0 [41] (uP (s8 _) fun r10 _ => (kl (eK .u8) 1 r10 (rP (eK .u8) ((r8 ++ r9) ++ r10) 1 [5] (uJ (hJ4 ((r8 ++ r9) ++ r10))))))))))); (uN eI p2 (pq (.li 14 1) (uO (cd Tryz.f55 [1,1,0,1,0,1,1,1,1,1,1,1,1,1,1,0,1,0,0]) (kS Tryz.f55 [1,1,0,1,0,1,1,1,1,1,1,1,1,1,1,0,1,0] 1) fun R5 b5 => have hL5 : ∀ (k5 : Nat) (l4 : List Int) (x8 : Int), gI (cS k0) p2 r6 k5 l4 x8 = some r → (R5 k5).p [(13, vl eI r6), (14, .one (.sl 0 1 0 l4.length)), (20, vl eI p2), (21, vi (p2.length : Int)), (22, vi x8)] [.arr 1 (eI.els l4)] := by intro k5; induction k5 with | zero => intro l4 x8 h; exact iE (gI.eq_1 ..) h | succ k5 ih5 => intro l4 x8 h; exact b5 h (uU (gI.eq_2 ..) (uC (uL eI fun e6 a64 => (uP (yp _ _) fun r7 _ => (kl eI 0 [r7] (uJ (ih5 (l4 ++ [r7]) (IntKind.i64.wrap (x8 + 1))))))) (uR (.exit 1) (xM (uJ (hJ3 l4))))))
 uE (hL5 aK [] (0 : Int)))))))))))))
end Go.Proofs.YtnecojeemmnnaaaGreatDoor
